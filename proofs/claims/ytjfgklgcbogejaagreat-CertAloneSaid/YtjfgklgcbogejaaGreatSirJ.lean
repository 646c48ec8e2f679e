/- Part of the proof: locks: a key more, and a range: the program's and the document's. -/
import Derived.Test.YtjfgklgcbogejaaGreatSirI
import Derived.Test.YtjfgklgcbogejaaGreatInn
set_option linter.unusedSimpArgs false
set_option linter.unusedVariables false
set_option maxRecDepth 100000
namespace Go.Pvm.S
open Go.Pvm Go.Proofs
def beg (l : List Lk) (t : Int) : List Lk × Int := if (zfh l && inn t) = true then (l,if oth l t ≥ 64 then 12 else 0) else ([],1)
theorem ztn (l : List Lk) (t : Int) (hl : l.length < 1000000) : Cω 99 [.psl false (l.map Lk.e),.int .i64 t] [] = some (.tuple [whole 0 4,.int .i64 (beg l t).2],[.made true 4 ((beg l t).1.map Lk.e)]) := by
 have ev := z6o Cω Lω (l.map Lk.e) t
 have ha := z19 l t (by omega)
 have ho := zu7 l t
 have hf : (l.filter fun a => a.t == t && true) = l.filter fun a => a.t == t := List.filter_congr fun a _ => by simp
 rw [hf] at ha
 rw [zj8 l (by omega),ha,qi l Lk.e_ok (by omega)] at ev
 simp only [zp,ze,zy,yi,yj,yg,zx,zf,ya,zq,zr,za,zh,zl,zw,ym,zi,zb,zm,zt,zg,zk,zj,yd,yf,ye,yk,yl,yb,yc,zz,zn,z8,zo,z7,z6,yo,zd,zu,yh,List.length_map] at ev
 have hw : IntKind.wrap .i64 (((l.length : Nat) : Int) - (((l.filter fun a => a.t == t).length : Nat) : Int)) = ((oth l t : Nat) : Int) := by
  rw [qt (by omega) (by omega)]; omega
 rw [hw] at ev
 unfold beg
 by_cases h1 : zfh l = true
 case neg =>
  have h1' : zfh l = false := by simpa using h1
  simp only [h1',Bool.false_and,Bool.false_eq_true,if_false] at ev ⊢
  rw [if_pos (by decide)] at ev
  exact cw ev
 simp only [h1,Bool.true_and,if_true] at ev ⊢
 rw [if_neg (by decide)] at ev
 by_cases h2 : inn t = true
 case neg =>
  rw [if_neg h2]
  rw [inn_iff] at h2
  by_cases h3 : t < 1
  ·rw [if_pos (decide_eq_true h3)] at ev
   exact cw ev
  ·rw [if_neg (by rw [decide_eq_true_eq]; exact h3),if_pos (by rw [decide_eq_true_eq]; omega)] at ev
   exact cw ev
 rw [if_pos h2]
 rw [inn_iff] at h2
 rw [if_neg (by rw [decide_eq_true_eq]; omega),if_neg (by rw [decide_eq_true_eq]; omega)] at ev
 by_cases h3 : oth l t ≥ 64
 ·rw [if_pos (by rw [decide_eq_true_eq]; omega)] at ev
  simp only [if_pos h3]
  exact cw ev
 ·rw [if_neg (by rw [decide_eq_true_eq]; omega)] at ev
  simp only [if_neg h3]
  exact cw ev
def kyL (t : Int) (q : Wd) : Lk := ⟨t,1,0,zqn q⟩
theorem zx7 (q : Wd) : zqn (zqn q) = zqn q := by
 apply BitVec.eq_of_toNat_eq
 rw [zgu,zgu,zx6]
theorem zue {t : Int} {q : Wd} (ht : 1 ≤ t ∧ t ≤ 2147483647) : okL (kyL t q) = true := by
 unfold okL kyL
 simp only [decide_eq_true (show 1 ≤ t from ht.1),decide_eq_true (show t ≤ 2147483647 from ht.2),Bool.true_and]
 rw [if_pos (by rfl),zx7]
 simp
theorem zq4 {l : List Lk} {t : Int} (h : (beg l t).2 = 0) : (beg l t).1 = l ∧ zfh l = true ∧ (1 ≤ t ∧ t ≤ 2147483647) ∧ oth l t < 64 := by
 unfold beg at h ⊢
 by_cases hb : (zfh l && inn t) = true
 ·rw [if_pos hb] at h ⊢
  rw [Bool.and_eq_true,inn_iff] at hb
  refine ⟨rfl,hb.1,hb.2,?_⟩
  by_cases h3 : oth l t ≥ 64
  ·simp only [if_pos h3] at h
   exact absurd h (by decide)
  ·omega
 ·rw [if_neg hb] at h
  exact absurd h (by decide)
def zem (l : List Lk) (t : Int) (q : Wd) : List Lk × Int := if (beg l t).2 = 0 then (lockL l (kyL t q),0) else beg l t
theorem z29 (l : List Lk) (t : Int) (q : Wd) (hl : l.length < 1000000) : yn Cω 38 [.psl false (l.map Lk.e),.int .i64 t,.float .f64 q.toNat] = some (.tuple [.psl false ((zem l t q).1.map Lk.e),.int .i64 (zem l t q).2]) := by
 have ev := z7b Cω Lω (l.map Lk.e) t q.toNat
 rw [ztn l t hl] at ev
 simp only [zp,ze,zy,yi,yj,yg,zx,zf,ya,zq,zr,za,zh,zl,zw,ym,zi,zb,zm,zt,zg,zk,zj,yd,yf,ye,yk,yl,yb,yc,zz,zn,z8,zo,z7,z6,yo,zd,zu,yh,zw0] at ev
 unfold zem
 by_cases h : (beg l t).2 = 0
 ·obtain ⟨h1,h2,h3,h4⟩ := zq4 h
  rw [if_neg (by rw [bne_iff_ne]; exact fun e => e h),h1] at ev
  obtain ⟨m1,m2⟩ := (wh l).1 h2
  have lk : Cω 100 [whole 0 4,.agg [.int .i64 t,.int .i64 1,.float .f64 (zqn q).toNat,.int .i64 0]] [.made true 4 (l.map Lk.e)] = _ := ztj l (kyL t q) (by omega) m2 (zue h3) h3
  rw [lk] at ev
  simp only [zp,ze,zy,yi,yj,yg,zx,zf,ya,zq,zr,za,zh,zl,zw,ym,zi,zb,zm,zt,zg,zk,zj,yd,yf,ye,yk,yl,yb,yc,zz,zn,z8,zo,z7,z6,yo,zd,zu,yh] at ev
  rw [if_pos h]
  exact pc ev rfl
 ·rw [if_pos (by rw [bne_iff_ne]; exact h)] at ev
  rw [if_neg h]
  exact pc ev rfl
def z2m : Nat → Nat → List Lk → Int → List Lk
 | 0,_,l,_ => l
 | n + 1,p,l,t => z2m n (p + 1) (lockL l (pgL t p)) t
theorem zt0 {t : Int} (ht : 1 ≤ t ∧ t ≤ 2147483647) : ∀ (n p : Nat) (l : List Lk),p + n ≤ 8 → l.length ≤ 64 → Good l → oth l t < 64 → (z2m n p l t).length ≤ 64 ∧ Good (z2m n p l t)
 | 0,p,l,_,h1,h2,_ => ⟨h1,h2⟩
 | n + 1,p,l,hp,h1,h2,h3 => by
   have hx := zji ht (show p < 8 by omega)
   have e := zmj l (pgL t p)
   exact zt0 ht n (p + 1) _ (by omega) (zhw hx ht h2 h3) (h2.lockL hx ht) (by have e' : oth (lockL l (pgL t p)) t = oth l t := e; omega)
theorem zu0 (t : Int) (ht : 1 ≤ t ∧ t ≤ 2147483647) (hi : Wd) : ∀ (n p : Nat) (l : List Lk),p + n = wg hi + 1 → l.length ≤ 64 → Good l → oth l t < 64 →
  Lω 40 zkt 0 (zj5 t hi.toNat (p : Nat)) [.made true 4 (l.map Lk.e)] = some (.exit 0,mkS 42 [(0,whole 0 4)],[.made true 4 ((z2m n p l t).map Lk.e)])
 | 0,p,l,hp,_,_,_ => by
   refine lw ?_
   rw [zut,zlz]
   simp only [zp,ze,zy,yi,yj,yg,zx,zf,ya,zq,zr,za,zh,zl,zw,ym,zi,zb,zm,zt,zg,zk,zj,yd,yf,ye,yk,yl,yb,yc,zz,zn,z8,zo,z7,z6,yo,zd,zu,yh]
   rw [if_neg (by rw [decide_eq_true_eq]; omega)]; rfl
 | n + 1,p,l,hp,h1,h2,h3 => by
   have hp8 := zp8 hi
   have hx := zji ht (show p < 8 by omega)
   have e : oth (lockL l (pgL t p)) t = oth l t := zmj l (pgL t p)
   have hd : decide (((p : Nat) : Int) ≤ ((wg hi : Nat) : Int)) = true := by rw [decide_eq_true_eq]; omega
   have hw : IntKind.wrap .i64 (((p : Nat) : Int) + 1) = ((p + 1 : Nat) : Int) := yq (by omega)
   have lk : Cω 100 [whole 0 4,.agg [.int .i64 t,.int .i64 2,.float .f64 0,.int .i64 (p : Nat)]] [.made true 4 (l.map Lk.e)] = _ := ztj l (pgL t p) (by omega) h2 hx ht
   have ih := zu0 t ht hi n (p + 1) (lockL l (pgL t p)) (by omega) (zhw hx ht h2 h3) (h2.lockL hx ht) (by omega)
   refine lw ?_
   rw [zut,zlz]
   simp only [zp,ze,zy,yi,yj,yg,zx,zf,ya,zq,zr,za,zh,zl,zw,ym,zi,zb,zm,zt,zg,zk,zj,yd,yf,ye,yk,yl,yb,yc,zz,zn,z8,zo,z7,z6,yo,zd,zu,yh,hd,if_true,lk,hw]
   exact ih
def zfe (l : List Lk) (t : Int) (lo hi : Wd) : List Lk × Int := if (beg l t).2 = 0 ∧ jb lo < jb hi then (z2m (wg hi + 1 - wg lo) (wg lo) l t,0) else beg l t
theorem zua {a b : Wd} (h : jb a < jb b) : wg a ≤ wg b := by
 unfold wg
 exact Nat.div_le_div_right (Nat.le_of_lt h)
theorem zwy (l : List Lk) (t : Int) (lo hi : Wd) (hl : l.length < 1000000) : yn Cω 40 [.psl false (l.map Lk.e),.int .i64 t,.float .f64 lo.toNat,.float .f64 hi.toNat] = some (.tuple [.psl false ((zfe l t lo hi).1.map Lk.e),.int .i64 (zfe l t lo hi).2]) := by
 have ev := z69 Cω Lω (l.map Lk.e) t lo.toNat hi.toNat
 rw [ztn l t hl] at ev
 simp only [zp,ze,zy,yi,yj,yg,zx,zf,ya,zq,zr,za,zh,zl,zw,ym,zi,zb,zm,zt,zg,zk,zj,yd,yf,ye,yk,yl,yb,yc,zz,zn,z8,zo,z7,z6,yo,zd,zu,yh,zl0,zlz] at ev
 unfold zfe
 by_cases h : (beg l t).2 = 0
 ·obtain ⟨h1,h2,h3,h4⟩ := zq4 h
  rw [if_neg (by rw [bne_iff_ne]; exact fun e => e h)] at ev
  by_cases hr : jb lo < jb hi
  ·have hc : znv (jb lo) (jb hi) = -1 := by unfold znv; rw [if_pos hr]
   rw [hc,if_neg (by decide),h1] at ev
   obtain ⟨m1,m2⟩ := (wh l).1 h2
   have hpl := zua hr
   rw [zu0 t h3 hi (wg hi + 1 - wg lo) (wg lo) l (by omega) m1 m2 h4] at ev
   simp only [zp,ze,zy,yi,yj,yg,zx,zf,ya,zq,zr,za,zh,zl,zw,ym,zi,zb,zm,zt,zg,zk,zj,yd,yf,ye,yk,yl,yb,yc,zz,zn,z8,zo,z7,z6,yo,zd,zu,yh,y1,yz,ne_eq,not_false_eq_true,Nat.reduceLT,Nat.reduceEqDiff,if_true] at ev
   rw [if_pos ⟨h,hr⟩]
   exact pc ev rfl
  ·have hc : znv (jb lo) (jb hi) ≥ 0 := by
    rcases zjw (jb lo) (jb hi) with ⟨h,e⟩ | ⟨h,e⟩ | ⟨h,e⟩
    ·exact absurd h hr
    ·rw [e]; decide
    ·rw [e]; decide
   rw [if_pos (decide_eq_true hc)] at ev
   rw [if_neg (fun h => hr h.2)]
   exact pc ev rfl
 ·rw [if_pos (by rw [bne_iff_ne]; exact h)] at ev
  rw [if_neg (fun h' => h h'.1)]
  exact pc ev rfl
end Go.Pvm.S
