/- Part of the proof: locks: ordered, alike, covered; which may be one by one: the program's and the document's. -/
import Derived.Test.YtjfgklgcbogejaaGreatCmpK
import Derived.Test.YtjfgklgcbogejaaGreatSirA
set_option linter.unusedSimpArgs false
set_option linter.unusedVariables false
set_option maxRecDepth 100000
namespace Go.Pvm.S
open Go.Pvm Go.Proofs
structure Lk where
 t : Int
 k : Int
 p : Int
 q : Wd
 deriving DecidableEq
def Lk.e (x : Lk) : List PV := [.int .i64 x.t,.int .i64 x.k,.float .f64 x.q.toNat,.int .i64 x.p]
theorem Lk.e_ok (x : Lk) : x.e.length = 4 ∧ x.e.all PV.plain = true ∧ PV.own.owns x.e = true := ⟨rfl,rfl,rfl⟩
theorem Lk.ext' {a b : Lk} : a = b ↔ a.t = b.t ∧ a.k = b.k ∧ a.p = b.p ∧ a.q = b.q := by
 obtain ⟨_,_,_,_⟩ := a
 obtain ⟨_,_,_,_⟩ := b
 simp
def zbt (a b : Lk) : Int := orI [ul a.t b.t,ul a.k b.k,ul a.p b.p,znv (jb a.q) (jb b.q)]
theorem zti (a b : Lk) : yn Cω 115 [.agg a.e,.agg b.e] = some (.int .i64 (zbt a b)) := by
 have ev := z40 Cω Lω a.t a.k a.q.toNat a.p b.t b.k b.q.toNat b.p
 have h := z7v [ul a.t b.t,ul a.k b.k,ul a.p b.p,znv (jb a.q) (jb b.q)] (by show (4 : Nat) < _; decide)
 simp only [List.map,ie] at h
 simp only [zw1,zl0,zp,ze,zy,yi,yj,yg,zx,zf,ya,zq,zr,za,zh,zl,zw,ym,zi,zb,zm,zt,zg,zk,zj,yd,yf,ye,yk,yl,yb,yc,zz,zn,z8,zo,z7,z6,yo,zd,zu,yh,h] at ev
 exact pc ev rfl
theorem zjw (a b : Nat) : (a < b ∧ znv a b = -1) ∨ (a = b ∧ znv a b = 0) ∨ (b < a ∧ znv a b = 1) := by
 unfold znv
 rcases Nat.lt_trichotomy a b with h | h | h
 ·exact .inl ⟨h,by rw [if_pos h]⟩
 ·exact .inr (.inl ⟨h,by rw [if_neg (by omega),if_neg (by omega)]⟩)
 ·exact .inr (.inr ⟨h,by rw [if_neg (by omega),if_pos h]⟩)
theorem zxn (a b : Lk) : zbt a b = if ul a.t b.t = 0 then (if ul a.k b.k = 0 then (if ul a.p b.p = 0 then znv (jb a.q) (jb b.q) else ul a.p b.p) else ul a.k b.k) else ul a.t b.t := by
 unfold zbt
 rw [zgm,zgm,zgm,zgm,z1b]
 have : (if znv (jb a.q) (jb b.q) = 0 then 0 else znv (jb a.q) (jb b.q)) = znv (jb a.q) (jb b.q) := by
  split
  ·rename_i h; exact h.symm
  ·rfl
 rw [this]
theorem zko {a b : Lk} : zbt a b < 0 ↔ a.t < b.t ∨ (a.t = b.t ∧ (a.k < b.k ∨ (a.k = b.k ∧ (a.p < b.p ∨ (a.p = b.p ∧ jb a.q < jb b.q))))) := by
 rw [zxn]
 rcases jt a.t b.t with ⟨h1,e1⟩ | ⟨h1,e1⟩ | ⟨h1,e1⟩
 ·rw [e1,if_neg (by decide)]; constructor <;> intro q <;> first | omega | decide
 ·rw [e1,if_pos rfl]
  rcases jt a.k b.k with ⟨h2,e2⟩ | ⟨h2,e2⟩ | ⟨h2,e2⟩
  ·rw [e2,if_neg (by decide)]; constructor <;> intro q <;> first | omega | decide
  ·rw [e2,if_pos rfl]
   rcases jt a.p b.p with ⟨h3,e3⟩ | ⟨h3,e3⟩ | ⟨h3,e3⟩
   ·rw [e3,if_neg (by decide)]; constructor <;> intro q <;> first | omega | decide
   ·rw [e3,if_pos rfl]
    rcases zjw (jb a.q) (jb b.q) with ⟨h4,e4⟩ | ⟨h4,e4⟩ | ⟨h4,e4⟩ <;> rw [e4] <;> constructor <;> intro q <;> first | omega | decide
   ·rw [e3,if_neg (by decide)]; constructor <;> intro q <;> first | omega | decide
  ·rw [e2,if_neg (by decide)]; constructor <;> intro q <;> first | omega | decide
 ·rw [e1,if_neg (by decide)]; constructor <;> intro q <;> first | omega | decide
theorem zkn (a b c : Lk) (h1 : zbt a b < 0) (h2 : zbt b c < 0) : zbt a c < 0 := by
 rw [zko] at *
 omega
theorem zxm (a b : Lk) : zbt a b < 0 ∨ zbt b a < 0 ∨ (a.t = b.t ∧ a.k = b.k ∧ a.p = b.p ∧ jb a.q = jb b.q) := by
 rw [zko,zko]
 omega
theorem z6d (a b : Wd) : ((((a.toNat : Nat) : Int)) == ((b.toNat : Nat) : Int)) = (a == b) := by
 by_cases h : a = b
 ·subst h; simp
 ·have : ¬ a.toNat = b.toNat := fun e => h (BitVec.eq_of_toNat_eq e)
  rw [beq_eq_false_iff_ne.2 h,beq_eq_false_iff_ne]
  omega
def z04 (a b : Lk) : Bool := a.t == b.t && (a.k == b.k && (a.p == b.p && a.q == b.q))
theorem zw6 (a b : Lk) : z04 a b = decide (a = b) := by
 unfold z04
 by_cases h : a = b
 ·subst h; simp
 ·rw [decide_eq_false h]
  rw [Lk.ext'] at h
  cases h1 : (a.t == b.t) <;> cases h2 : (a.k == b.k) <;> cases h3 : (a.p == b.p) <;> cases h4 : (a.q == b.q) <;> try rfl
  rw [beq_iff_eq] at h1 h2 h3 h4
  exact absurd ⟨h1,h2,h3,h4⟩ h
theorem zn7 (a b : Wd) : yn Cω 158 [.float .f64 a.toNat,.float .f64 b.toNat] = some (.bool (a == b)) := by
 have ev := z4i Cω Lω a.toNat b.toNat
 rw [z6d] at ev
 exact pc ev rfl
theorem z0u (a b : Lk) : yn Cω 130 [.agg a.e,.agg b.e] = some (.bool (decide (a = b))) := by
 have ev := z4z Cω Lω a.t a.k a.q.toNat a.p b.t b.k b.q.toNat b.p
 simp only [zn7,zp,ze,zy,yi,yj,yg,zx,zf,ya,zq,zr,za,zh,zl,zw,ym,zi,zb,zm,zt,zg,zk,zj,yd,yf,ye,yk,yl,yb,yc,zz,zn,z8,zo,z7,z6,yo,zd,zu,yh] at ev
 rw [← zw6]
 unfold z04
 refine pc (v := .bool _) (A := []) (ev.trans ?_) rfl
 cases (a.t == b.t) <;> cases (a.k == b.k) <;> cases (a.p == b.p) <;> rfl
def covL (a b : Lk) : Bool := if (a.t != b.t) = true then false else if (a.k == 3) = true then true else if (a.k == 2) = true then (b.k == 2 && b.p == a.p) || (b.k == 1 && ((wg b.q : Nat) : Int) == a.p) else decide (a = b)
theorem zgf (a b : Lk) : yn Cω 104 [.agg a.e,.agg b.e] = some (.bool (covL a b)) := by
 have ev := z44 Cω Lω a.t a.k a.q.toNat a.p b.t b.k b.q.toNat b.p
 have hs := z0u a b
 simp only [Lk.e] at hs
 simp only [hs,zlz,zp,ze,zy,yi,yj,yg,zx,zf,ya,zq,zr,za,zh,zl,zw,ym,zi,zb,zm,zt,zg,zk,zj,yd,yf,ye,yk,yl,yb,yc,zz,zn,z8,zo,z7,z6,yo,zd,zu,yh] at ev
 unfold covL
 refine pc (v := .bool _) (A := []) (ev.trans ?_) rfl
 cases (a.t != b.t) <;> cases (a.k == 3) <;> cases (a.k == 2) <;> cases (b.k == 2) <;> cases (b.p == a.p) <;> cases (b.k == 1) <;> rfl
def okL (x : Lk) : Bool := decide (1 ≤ x.t) && (decide (x.t ≤ 2147483647) && (if (x.k == 1) = true then x.p == 0 && x.q == zqn x.q else if (x.k == 2) = true then decide (x.p ≥ 0) && (decide (x.p < 8) && x.q == 0) else if (x.k == 3) = true then x.p == 0 && x.q == 0 else false))
theorem z27 (x : Lk) : yn Cω 114 [.agg x.e] = some (.bool (okL x)) := by
 have ev := z41 Cω Lω x.t x.k x.q.toNat x.p
 have h0 : yn Cω 158 [.float .f64 x.q.toNat,.float .f64 0] = some (.bool (x.q == 0)) := zn7 x.q 0
 simp only [zw0,zn7,h0,zp,ze,zy,yi,yj,yg,zx,zf,ya,zq,zr,za,zh,zl,zw,ym,zi,zb,zm,zt,zg,zk,zj,yd,yf,ye,yk,yl,yb,yc,zz,zn,z8,zo,z7,z6,yo,zd,zu,yh] at ev
 unfold okL
 refine pc (v := .bool _) (A := []) (ev.trans ?_) rfl
 by_cases h1 : x.t < 1
 ·rw [if_pos (decide_eq_true h1),decide_eq_false (by omega)]; rfl
 ·rw [if_neg (by rw [decide_eq_true_eq]; exact h1),decide_eq_true (show 1 ≤ x.t by omega),Bool.true_and]
  by_cases h2 : x.t > 2147483647
  ·rw [if_pos (decide_eq_true h2),decide_eq_false (by omega)]; rfl
  ·rw [if_neg (by rw [decide_eq_true_eq]; exact h2),decide_eq_true (show x.t ≤ 2147483647 by omega),Bool.true_and]
   cases (x.k == 1) <;> cases (x.k == 2) <;> cases (x.k == 3) <;> cases (x.p == 0) <;> cases decide (x.p ≥ 0) <;> cases decide (x.p < 8) <;> rfl
end Go.Pvm.S
