/- Part of the proof: locks: put, and nobody is crowded any more: the program's and the document's. -/
import Derived.Test.YtjfgklgcbogejaaGreatSirF
set_option linter.unusedSimpArgs false
set_option linter.unusedVariables false
set_option maxRecDepth 100000
namespace Go.Pvm.S
open Go.Pvm Go.Proofs
theorem ziy (x : Lk) (ht : 1 ≤ x.t ∧ x.t ≤ 2147483647) : ∀ (n : Nat) (l : List Lk),z19 l x.t < n → Good l → l.length + n ≤ 1000 →
  Lω 100 zgp 1 zf8 [.dead,.made true 4 (l.map Lk.e),.box true 78 [.int .i64 x.t,.int .i64 x.k,.float .f64 x.q.toNat,.int .i64 x.p]] =
  some (.ret,mkS 41 [(4,whole 1 4)],[.dead,.made true 4 ((lockR n l x.t).map Lk.e)])
 | 0,l,h,_,_ => absurd h (Nat.not_lt_zero _)
 | n + 1,l,h,hg,hl => by
   refine lw ?_
   have ev := zxl Cω Lω (l.map Lk.e) x.t x.k x.q.toNat x.p
   rw [zta l x.t (by omega),z1u l x.t (by omega)] at ev
   simp only [zw,ze,z8,yj,yk,zu,zt,zf,zq,zx,zy,za,zh,zl,z7,ym,zi,zd,zm,zz,zg,zk,zj,zp,yg,zr,yh,yl,ye,yf,ya,zn,yd,zo,yc,yb,yp,zb,z6,yi,List.length_map] at ev
   unfold lockR
   cases hc : crw l x.t with
   | some j =>
     rw [hc] at ev
     obtain ⟨h1,h2⟩ := zk8 hc
     have hp : Cω 148 [whole 0 4,.agg [.int .i64 x.t,.int .i64 2,.float .f64 0,.int .i64 (j : Nat)]] [.made true 4 (l.map Lk.e)] = _ := zwm l (pgL x.t j) (by omega) hg (zpx ht h1)
     simp only [decide_eq_true (show ((j : Nat) : Int) ≥ 0 from nn j),if_true,hp,zw,ze,z8,yj,yk,zu,zt,zf,zq,zx,zy,za,zh,zl,z7,ym,zi,zd,zm,zz,zg,zk,zj,zp,yg,zr,yh,yl,ye,yf,ya,zn,yd,zo,yc,yb,yp,zb,z6,yi] at ev
     have hlen := zps l (pgL x.t j)
     have ih := ziy x ht n (zfa l (pgL x.t j)) (by have := zpz hg h1 h2; omega) (hg.put (zpx ht h1)) (by omega)
     exact ev.trans ih
   | none =>
     rw [hc] at ev
     have hp : Cω 148 [whole 0 4,.agg [.int .i64 x.t,.int .i64 3,.float .f64 0,.int .i64 0]] [.made true 4 (l.map Lk.e)] = _ := zwm l (tbL x.t) (by omega) hg (ztz ht)
     simp only [hp,zw,ze,z8,yj,yk,zu,zt,zf,zq,zx,zy,za,zh,zl,z7,ym,zi,zd,zm,zz,zg,zk,zj,zp,yg,zr,yh,yl,ye,yf,ya,zn,yd,zo,yc,yb,yp,zb,z6,yi] at ev
     rw [if_neg (by decide)] at ev
     have hd : decide ((((l.filter fun a => a.t == x.t && (a.k == 2)).length : Nat) : Int) > 4) = decide (zof l x.t > 4) := by
      unfold zof
      rw [decide_eq_decide]; omega
     rw [hd] at ev
     by_cases h4 : zof l x.t > 4
     ·rw [if_pos (decide_eq_true h4)] at ev
      simp only [if_pos (Or.inl h4 : zof l x.t > 4 ∨ l.length > 64)]
      exact ev
     ·rw [if_neg (by rw [decide_eq_true_eq]; exact h4)] at ev
      by_cases h6 : l.length > 64
      ·rw [if_pos (by rw [decide_eq_true_eq]; omega)] at ev
       simp only [if_pos (Or.inr h6 : zof l x.t > 4 ∨ l.length > 64)]
       exact ev
      ·rw [if_neg (by rw [decide_eq_true_eq]; omega)] at ev
       simp only [if_neg (by rintro (h | h) <;> contradiction : ¬ (zof l x.t > 4 ∨ l.length > 64))]
       exact ev
theorem zt3 (l : List Lk) (t : Int) : z19 l t ≤ 8 := by
 have := List.length_filter_le (fun j => decide (zln l t j > 3)) (List.range 8)
 rw [List.length_range] at this
 exact this
def lockL (l : List Lk) (x : Lk) : List Lk := lockR 9 (zfa l x) x.t
theorem z0h (l : List Lk) (x : Lk) (hl : l.length ≤ 900) (hg : Good l) (hx : okL x = true) (ht : 1 ≤ x.t ∧ x.t ≤ 2147483647) : Cω 100 [whole 0 4,.agg x.e] [.made true 4 (l.map Lk.e)] = some (whole 1 4,[.dead,.made true 4 ((lockL l x).map Lk.e)]) := by
 have ev := z4r Cω Lω x.t x.k x.q.toNat x.p (l.map Lk.e)
 have hp := zwm l x (by omega) hg hx
 simp only [Lk.e] at hp
 have hlen := zps l x
 have lp := ziy x ht 9 (zfa l x) (by have := zt3 (zfa l x) x.t; omega) (hg.put hx) (by omega)
 rw [show Cω 148 [whole 0 4,.agg [.int .i64 x.t,.int .i64 x.k,.float .f64 x.q.toNat,.int .i64 x.p]] [.made true 4 (l.map Lk.e)] = _ from zwm l x (by omega) hg hx] at ev
 simp only [zw,ze,z8,yj,yk,zu,zt,zf,zq,zx,zy,za,zh,zl,z7,ym,zi,zd,zm,zz,zg,zk,zj,zp,yg,zr,yh,yl,ye,yf,ya,zn,yd,zo,yc,yb,yp,zb,z6,yi] at ev
 rw [lp] at ev
 simp only [zw,ze,z8,yj,yk,zu,zt,zf,zq,zx,zy,za,zh,zl,z7,ym,zi,zd,zm,zz,zg,zk,zj,zp,yg,zr,yh,yl,ye,yf,ya,zn,yd,zo,yc,yb,yp,zb,z6,yi,y3,yz,ne_eq,not_false_eq_true,Nat.reduceLT,Nat.reduceEqDiff] at ev
 exact cw ev
theorem z5i {l : List Lk} (hg : Good l) {t : Int} : ∃ a ∈ zfa l (tbL t),a.t = t ∧ a.k = 3 := by
 unfold zfa
 split
 ·rename_i h
  obtain ⟨b,hb,hc⟩ := List.any_eq_true.1 h
  have hbt : b.t = t := zvo hc
  refine ⟨b,hb,hbt,?_⟩
  unfold covL at hc
  rw [if_neg (by rw [bne_iff_ne]; exact fun e => e hbt)] at hc
  by_cases k3 : b.k = 3
  ·exact k3
  ·rw [if_neg (by rw [beq_iff_eq]; exact k3)] at hc
   by_cases k2 : (b.k == 2) = true
   ·rw [if_pos k2] at hc
    have e1 : (tbL t).k = 3 := rfl
    rw [e1] at hc
    simp at hc
   ·rw [if_neg k2,decide_eq_true_eq] at hc
    rw [hc]; rfl
 ·exact ⟨tbL t,insB_mem.2 (.inl rfl),rfl,rfl⟩
theorem Good.lockR {t : Int} (ht : 1 ≤ t ∧ t ≤ 2147483647) : ∀ (n : Nat) {l : List Lk},Good l → Good (lockR n l t)
 | 0,l,hg => hg
 | n + 1,l,hg => by
   unfold S.lockR
   cases hc : crw l t with
   | some j => exact Good.lockR ht n (hg.put (zpx ht (zk8 hc).1))
   | none =>
     simp only
     split
     ·exact hg.put (ztz ht)
     ·exact hg
theorem Good.lockL {l : List Lk} (hg : Good l) {x : Lk} (hx : okL x = true) (ht : 1 ≤ x.t ∧ x.t ≤ 2147483647) : Good (lockL l x) := Good.lockR ht 9 (hg.put hx)
end Go.Pvm.S
