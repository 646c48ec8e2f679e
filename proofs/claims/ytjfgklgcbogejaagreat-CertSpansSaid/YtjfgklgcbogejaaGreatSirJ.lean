/- Part of the proof: locks: a key more, and a range: the program's and the document's. -/
import Derived.Test.YtjfgklgcbogejaaGreatSirI
import Derived.Test.YtjfgklgcbogejaaGreatInn
set_option linter.unusedSimpArgs false
set_option linter.unusedVariables false
set_option maxRecDepth 100000
namespace Go.Pvm.S
open Go.Pvm Go.Proofs
def beg (l : List Lk) (t : Int) : List Lk × Int := if (zgk l && inn t) = true then (l,if oth l t ≥ 64 then 12 else 0) else ([],1)
theorem z0l (l : List Lk) (t : Int) (hl : l.length < 1000000) : Cω 99 [.psl false (l.map Lk.e),.int .i64 t] [] = some (.tuple [whole 0 4,.int .i64 (beg l t).2],[.made true 4 ((beg l t).1.map Lk.e)]) := by
 have ev := z6b Cω Lω (l.map Lk.e) t
 have ha := z1v l t (by omega)
 have ho := zux l t
 have hf : (l.filter fun a => a.t == t && true) = l.filter fun a => a.t == t := List.filter_congr fun a _ => by simp
 rw [hf] at ha
 rw [zj4 l (by omega),ha,qt l Lk.e_ok (by omega)] at ev
 simp only [zw,ze,z8,yj,yk,zu,zt,zf,zq,zx,zy,za,zh,zl,z7,ym,zi,zd,zm,zz,zg,zk,zj,zp,yg,zr,yh,yl,ye,yf,ya,zn,yd,zo,yc,yb,yp,zb,z6,yi,List.length_map] at ev
 have hw : IntKind.wrap .i64 (((l.length : Nat) : Int) - (((l.filter fun a => a.t == t).length : Nat) : Int)) = ((oth l t : Nat) : Int) := by
  rw [q8 (by omega) (by omega)]; omega
 rw [hw] at ev
 unfold beg
 by_cases h1 : zgk l = true
 case neg =>
  have h1' : zgk l = false := by simpa using h1
  simp only [h1',Bool.false_and,Bool.false_eq_true,if_false] at ev ⊢
  rw [if_pos (by decide)] at ev
  exact cw ev
 simp only [h1,Bool.true_and,if_true] at ev ⊢
 rw [if_neg (by decide)] at ev
 by_cases h2 : inn t = true
 case neg =>
  rw [if_neg h2]
  rw [inn_iff] at h2
  by_cases h3 : t < 1
  ·rw [if_pos (decide_eq_true h3)] at ev
   exact cw ev
  ·rw [if_neg (by rw [decide_eq_true_eq]; exact h3),if_pos (by rw [decide_eq_true_eq]; omega)] at ev
   exact cw ev
 rw [if_pos h2]
 rw [inn_iff] at h2
 rw [if_neg (by rw [decide_eq_true_eq]; omega),if_neg (by rw [decide_eq_true_eq]; omega)] at ev
 by_cases h3 : oth l t ≥ 64
 ·rw [if_pos (by rw [decide_eq_true_eq]; omega)] at ev
  simp only [if_pos h3]
  exact cw ev
 ·rw [if_neg (by rw [decide_eq_true_eq]; omega)] at ev
  simp only [if_neg h3]
  exact cw ev
def kyL (t : Int) (q : Wd) : Lk := ⟨t,1,0,zp9 q⟩
theorem zxv (q : Wd) : zp9 (zp9 q) = zp9 q := by
 apply BitVec.eq_of_toNat_eq
 rw [zgq,zgq,zxu]
theorem zt0 {t : Int} {q : Wd} (ht : 1 ≤ t ∧ t ≤ 2147483647) : okL (kyL t q) = true := by
 unfold okL kyL
 simp only [decide_eq_true (show 1 ≤ t from ht.1),decide_eq_true (show t ≤ 2147483647 from ht.2),Bool.true_and]
 rw [if_pos (by rfl),zxv]
 simp
theorem zz8 {l : List Lk} {t : Int} (h : (beg l t).2 = 0) : (beg l t).1 = l ∧ zgk l = true ∧ (1 ≤ t ∧ t ≤ 2147483647) ∧ oth l t < 64 := by
 unfold beg at h ⊢
 by_cases hb : (zgk l && inn t) = true
 ·rw [if_pos hb] at h ⊢
  rw [Bool.and_eq_true,inn_iff] at hb
  refine ⟨rfl,hb.1,hb.2,?_⟩
  by_cases h3 : oth l t ≥ 64
  ·simp only [if_pos h3] at h
   exact absurd h (by decide)
  ·omega
 ·rw [if_neg hb] at h
  exact absurd h (by decide)
def zel (l : List Lk) (t : Int) (q : Wd) : List Lk × Int := if (beg l t).2 = 0 then (lockL l (kyL t q),0) else beg l t
theorem z2q (l : List Lk) (t : Int) (q : Wd) (hl : l.length < 1000000) : yn Cω 38 [.psl false (l.map Lk.e),.int .i64 t,.float .f64 q.toNat] = some (.tuple [.psl false ((zel l t q).1.map Lk.e),.int .i64 (zel l t q).2]) := by
 have ev := z6w Cω Lω (l.map Lk.e) t q.toNat
 rw [z0l l t hl] at ev
 simp only [zw,ze,z8,yj,yk,zu,zt,zf,zq,zx,zy,za,zh,zl,z7,ym,zi,zd,zm,zz,zg,zk,zj,zp,yg,zr,yh,yl,ye,yf,ya,zn,yd,zo,yc,yb,yp,zb,z6,yi,zwn] at ev
 unfold zel
 by_cases h : (beg l t).2 = 0
 ·obtain ⟨h1,h2,h3,h4⟩ := zz8 h
  rw [if_neg (by rw [bne_iff_ne]; exact fun e => e h),h1] at ev
  obtain ⟨m1,m2⟩ := (zcd l).1 h2
  have lk : Cω 100 [whole 0 4,.agg [.int .i64 t,.int .i64 1,.float .f64 (zp9 q).toNat,.int .i64 0]] [.made true 4 (l.map Lk.e)] = _ := z0h l (kyL t q) (by omega) m2 (zt0 h3) h3
  rw [lk] at ev
  simp only [zw,ze,z8,yj,yk,zu,zt,zf,zq,zx,zy,za,zh,zl,z7,ym,zi,zd,zm,zz,zg,zk,zj,zp,yg,zr,yh,yl,ye,yf,ya,zn,yd,zo,yc,yb,yp,zb,z6,yi] at ev
  rw [if_pos h]
  exact pc ev rfl
 ·rw [if_pos (by rw [bne_iff_ne]; exact h)] at ev
  rw [if_neg h]
  exact pc ev rfl
end Go.Pvm.S
