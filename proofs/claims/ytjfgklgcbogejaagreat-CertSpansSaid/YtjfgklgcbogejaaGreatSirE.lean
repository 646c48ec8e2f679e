/- Part of the proof: locks: one more, the program's and the document's. -/
import Derived.Test.YtjfgklgcbogejaaGreatSirD
set_option linter.unusedSimpArgs false
set_option linter.unusedVariables false
set_option maxRecDepth 100000
namespace Go.Pvm.S
open Go.Pvm Go.Proofs
theorem z7i {n : Nat} (h : n < 4294967295) : (n + 1) * 32 ≤ 140737488355328 := by omega
theorem z10 (l : List Lk) (x : Lk) (hl : l.length < 1073741824) (hs : Srt l) : ∃ b : Bool,yn Cω 177 [.psl false (l.map Lk.e),.agg [.int .i64 x.t,.int .i64 x.k,.float .f64 x.q.toNat,.int .i64 x.p],.func 115 []] = some (.tuple [.int .i64 (z2c l x : Nat),.bool b]) := by
 obtain ⟨p1,p2⟩ := zig hs x
 exact ⟨_,z4y l x hl (z2c l x) p1 p2⟩
theorem zwm (l : List Lk) (x : Lk) (hl : l.length < 1000000) (hg : Good l) (hx : okL x = true) : Cω 148 [whole 0 4,.agg x.e] [.made true 4 (l.map Lk.e)] = some (whole 1 4,[.dead,.made true 4 ((zfa l x).map Lk.e)]) := by
 have ev := z38 Cω Lω x.t x.k x.q.toNat x.p (l.map Lk.e)
 have hc := z2r l x (by omega)
 have hd := z1j l x (by omega)
 simp only [Lk.e] at hc
 rw [hc] at ev
 simp only [zw,ze,z8,yj,yk,zu,zt,zf,zq,zx,zy,za,zh,zl,z7,ym,zi,zd,zm,zz,zg,zk,zj,zp,yg,zr,yh,yl,ye,yf,ya,zn,yd,zo,yc,yb,yp,zb,z6,yi] at ev
 unfold zfa
 by_cases h : (l.any fun a => covL a x) = true
 ·rw [if_pos h] at ev ⊢
  exact cw ev
 ·rw [if_neg h,hd] at ev
  rw [if_neg h]
  have hfl := List.length_filter_le (fun a => !covL x a) l
  have hfs : Srt (l.filter fun a => !covL x a) := hg.srt.filter _
  have htot : ∀ a ∈ l.filter (fun a => !covL x a),zbu x a < 0 ∨ zbu a x < 0 := fun a ha => zzi hg.ok hx h a (List.mem_filter.1 ha).1
  obtain ⟨bb,hb⟩ := z10 (l.filter fun a => !covL x a) x (by omega) hfs
  obtain ⟨p1,_⟩ := zig hfs x
  have hins := z07 hfs htot
  have hm : ∀ (m : List Lk) (p : Nat),(m.map Lk.e).take p ++ ([[.int .i64 x.t,.int .i64 x.k,.float .f64 x.q.toNat,.int .i64 x.p]] : List (List PV)) ++ (m.map Lk.e).drop p = (m.take p ++ x :: m.drop p).map Lk.e := fun m p => by
   rw [List.map_append,List.map_cons,List.map_take,List.map_drop,List.append_assoc]; rfl
  have r1 : ((l.filter fun a => !covL x a).length + ([[.int .i64 x.t,.int .i64 x.k,.float .f64 x.q.toNat,.int .i64 x.p]] : List (List PV)).length) * 32 ≤ 140737488355328 := z7i (by omega)
  have r2 : (l.length + ([[.int .i64 x.t,.int .i64 x.k,.float .f64 x.q.toNat,.int .i64 x.p]] : List (List PV)).length) * 32 ≤ 140737488355328 := z7i (by omega)
  unfold zk5 at ev
  by_cases ha : (l.any fun a => covL x a) = true
  ·rw [if_pos ha] at ev
   simp only [zw,ze,z8,yj,yk,zu,zt,zf,zq,zx,zy,za,zh,zl,z7,ym,zi,zd,zm,zz,zg,zk,zj,zp,yg,zr,yh,yl,ye,yf,ya,zn,yd,zo,yc,yb,yp,zb,z6,yi,List.drop_zero] at ev
   rw [List.take_append_of_le_length (by rw [List.length_map]; exact Nat.le_refl _),List.take_of_length_le (by rw [List.length_map]; exact Nat.le_refl _),hb] at ev
   simp only [zw,ze,z8,yj,yk,zu,zt,zf,zq,zx,zy,za,zh,zl,z7,ym,zi,zd,zm,zz,zg,zk,zj,zp,yg,zr,yh,yl,ye,yf,ya,zn,yd,zo,yc,yb,yp,zb,z6,yi,Int.toNat_natCast] at ev
   rw [if_pos ⟨trivial,by rw [List.length_append,List.length_map]; omega,nn _,p1⟩,if_pos r1,hm,hins] at ev
   exact cw ev
  ·rw [if_neg ha] at ev
   have hf : l.filter (fun a => !covL x a) = l := List.filter_eq_self.2 fun a hm => by
    have h' : l.any (fun a => covL x a) = false := by simpa using ha
    have := List.any_eq_false.1 h' a hm
    simpa using this
   rw [hf] at hb p1 hins ⊢
   simp only [zw,ze,z8,yj,yk,zu,zt,zf,zq,zx,zy,za,zh,zl,z7,ym,zi,zd,zm,zz,zg,zk,zj,zp,yg,zr,yh,yl,ye,yf,ya,zn,yd,zo,yc,yb,yp,zb,z6,yi] at ev
   rw [hb] at ev
   simp only [zw,ze,z8,yj,yk,zu,zt,zf,zq,zx,zy,za,zh,zl,z7,ym,zi,zd,zm,zz,zg,zk,zj,zp,yg,zr,yh,yl,ye,yf,ya,zn,yd,zo,yc,yb,yp,zb,z6,yi,Int.toNat_natCast,List.length_map] at ev
   rw [if_pos ⟨nn _,p1⟩,if_pos r2,hm,hins] at ev
   exact cw ev
theorem jf {α S : Type} (g : Nat → α → S → S) (a : α) (l : List α) (i : Nat) (s : S) : xb g (a :: l) i s = xb g l (i + 1) (g i a s) := rfl
end Go.Pvm.S
