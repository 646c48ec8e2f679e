/- Part of the proof: locks: one more, the program's and the document's. -/
import Derived.Test.YtjfgklgcbogejaaGreatSirD
set_option linter.unusedSimpArgs false
set_option linter.unusedVariables false
set_option maxRecDepth 100000
namespace Go.Pvm.S
open Go.Pvm Go.Proofs
theorem yaf {n : Nat} (h : n < 4294967295) : (n + 1) * 32 ≤ 140737488355328 := by omega
theorem z37 (l : List Lk) (x : Lk) (hl : l.length < 1073741824) (hs : Srt l) : ∃ b : Bool,yo Cω 177 [.psl false (l.map Lk.e),.agg [.int .i64 x.t,.int .i64 x.k,.float .f64 x.q.toNat,.int .i64 x.p],.func 115 []] = some (.tuple [.int .i64 (z4k l x : Nat),.bool b]) := by
 obtain ⟨p1,p2⟩ := zi6 hs x
 exact ⟨_,z7t l x hl (z4k l x) p1 p2⟩
theorem zyi (l : List Lk) (x : Lk) (hl : l.length < 1000000) (hg : Good l) (hx : okL x = true) : Cω 148 [whole 0 4,.agg x.e] [.made true 4 (l.map Lk.e)] = some (whole 1 4,[.dead,.made true 4 ((zfr l x).map Lk.e)]) := by
 have ev := z6x Cω Lω x.t x.k x.q.toNat x.p (l.map Lk.e)
 have hc := z48 l x (by omega)
 have hd := z3n l x (by omega)
 simp only [Lk.e] at hc
 rw [hc] at ev
 simp only [zw,ze,ya,yk,yl,zu,zt,zf,zq,zx,zy,za,zh,zl,z8,yn,zi,zd,zm,z6,zg,zk,zj,zp,yh,zr,yi,ym,yf,yg,yb,zn,ye,zo,yd,yc,yp,zb,z7,yj] at ev
 unfold zfr
 by_cases h : (l.any fun a => covL a x) = true
 ·rw [if_pos h] at ev ⊢
  exact cw ev
 ·rw [if_neg h,hd] at ev
  rw [if_neg h]
  have hfl := List.length_filter_le (fun a => !covL x a) l
  have hfs : Srt (l.filter fun a => !covL x a) := hg.srt.filter _
  have htot : ∀ a ∈ l.filter (fun a => !covL x a),zb7 x a < 0 ∨ zb7 a x < 0 := fun a ha => z1k hg.ok hx h a (List.mem_filter.1 ha).1
  obtain ⟨bb,hb⟩ := z37 (l.filter fun a => !covL x a) x (by omega) hfs
  obtain ⟨p1,_⟩ := zi6 hfs x
  have hins := z3c hfs htot
  have hm : ∀ (m : List Lk) (p : Nat),(m.map Lk.e).take p ++ ([[.int .i64 x.t,.int .i64 x.k,.float .f64 x.q.toNat,.int .i64 x.p]] : List (List PV)) ++ (m.map Lk.e).drop p = (m.take p ++ x :: m.drop p).map Lk.e := fun m p => by
   rw [List.map_append,List.map_cons,List.map_take,List.map_drop,List.append_assoc]; rfl
  have r1 : ((l.filter fun a => !covL x a).length + ([[.int .i64 x.t,.int .i64 x.k,.float .f64 x.q.toNat,.int .i64 x.p]] : List (List PV)).length) * 32 ≤ 140737488355328 := yaf (by omega)
  have r2 : (l.length + ([[.int .i64 x.t,.int .i64 x.k,.float .f64 x.q.toNat,.int .i64 x.p]] : List (List PV)).length) * 32 ≤ 140737488355328 := yaf (by omega)
  unfold zl1 at ev
  by_cases ha : (l.any fun a => covL x a) = true
  ·rw [if_pos ha] at ev
   simp only [zw,ze,ya,yk,yl,zu,zt,zf,zq,zx,zy,za,zh,zl,z8,yn,zi,zd,zm,z6,zg,zk,zj,zp,yh,zr,yi,ym,yf,yg,yb,zn,ye,zo,yd,yc,yp,zb,z7,yj,List.drop_zero] at ev
   rw [List.take_append_of_le_length (by rw [List.length_map]; exact Nat.le_refl _),List.take_of_length_le (by rw [List.length_map]; exact Nat.le_refl _),hb] at ev
   simp only [zw,ze,ya,yk,yl,zu,zt,zf,zq,zx,zy,za,zh,zl,z8,yn,zi,zd,zm,z6,zg,zk,zj,zp,yh,zr,yi,ym,yf,yg,yb,zn,ye,zo,yd,yc,yp,zb,z7,yj,Int.toNat_natCast] at ev
   rw [if_pos ⟨trivial,by rw [List.length_append,List.length_map]; omega,nn _,p1⟩,if_pos r1,hm,hins] at ev
   exact cw ev
  ·rw [if_neg ha] at ev
   have hf : l.filter (fun a => !covL x a) = l := List.filter_eq_self.2 fun a hm => by
    have h' : l.any (fun a => covL x a) = false := by simpa using ha
    have := List.any_eq_false.1 h' a hm
    simpa using this
   rw [hf] at hb p1 hins ⊢
   simp only [zw,ze,ya,yk,yl,zu,zt,zf,zq,zx,zy,za,zh,zl,z8,yn,zi,zd,zm,z6,zg,zk,zj,zp,yh,zr,yi,ym,yf,yg,yb,zn,ye,zo,yd,yc,yp,zb,z7,yj] at ev
   rw [hb] at ev
   simp only [zw,ze,ya,yk,yl,zu,zt,zf,zq,zx,zy,za,zh,zl,z8,yn,zi,zd,zm,z6,zg,zk,zj,zp,yh,zr,yi,ym,yf,yg,yb,zn,ye,zo,yd,yc,yp,zb,z7,yj,Int.toNat_natCast,List.length_map] at ev
   rw [if_pos ⟨nn _,p1⟩,if_pos r2,hm,hins] at ev
   exact cw ev
theorem jb {α S : Type} (g : Nat → α → S → S) (a : α) (l : List α) (i : Nat) (s : S) : y5 g (a :: l) i s = y5 g l (i + 1) (g i a s) := rfl
end Go.Pvm.S
