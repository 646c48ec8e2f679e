/- Part of the proof: locks: ordered, alike, covered; which may be one by one: the program's and the document's. -/
import Derived.Test.YtjfgklgcbogejaaGreatCmpK
import Derived.Test.YtjfgklgcbogejaaGreatSirA
set_option linter.unusedSimpArgs false
set_option linter.unusedVariables false
set_option maxRecDepth 100000
namespace Go.Pvm.S
open Go.Pvm Go.Proofs
structure Lk where
 t : Int
 k : Int
 p : Int
 q : Wd
 deriving DecidableEq
def Lk.e (x : Lk) : List PV := [.int .i64 x.t,.int .i64 x.k,.float .f64 x.q.toNat,.int .i64 x.p]
theorem Lk.e_ok (x : Lk) : x.e.length = 4 ∧ x.e.all PV.plain = true ∧ PV.own.owns x.e = true := ⟨rfl,rfl,rfl⟩
theorem Lk.ext' {a b : Lk} : a = b ↔ a.t = b.t ∧ a.k = b.k ∧ a.p = b.p ∧ a.q = b.q := by
 obtain ⟨_,_,_,_⟩ := a
 obtain ⟨_,_,_,_⟩ := b
 simp
def zbu (a b : Lk) : Int := orI [uo a.t b.t,uo a.k b.k,uo a.p b.p,zsa (qg a.q) (qg b.q)]
theorem zs6 (a b : Lk) : yn Cω 115 [.agg a.e,.agg b.e] = some (.int .i64 (zbu a b)) := by
 have ev := z4j Cω Lω a.t a.k a.q.toNat a.p b.t b.k b.q.toNat b.p
 have h := z7h [uo a.t b.t,uo a.k b.k,uo a.p b.p,zsa (qg a.q) (qg b.q)] (by show (4 : Nat) < _; decide)
 simp only [List.map,ie] at h
 simp only [zwo,ztb,zw,ze,z8,yj,yk,zu,zt,zf,zq,zx,zy,za,zh,zl,z7,ym,zi,zd,zm,zz,zg,zk,zj,zp,yg,zr,yh,yl,ye,yf,ya,zn,yd,zo,yc,yb,yp,zb,z6,yi,h] at ev
 exact pc ev rfl
theorem zr9 (a b : Nat) : (a < b ∧ zsa a b = -1) ∨ (a = b ∧ zsa a b = 0) ∨ (b < a ∧ zsa a b = 1) := by
 unfold zsa
 rcases Nat.lt_trichotomy a b with h | h | h
 ·exact .inl ⟨h,by rw [if_pos h]⟩
 ·exact .inr (.inl ⟨h,by rw [if_neg (by omega),if_neg (by omega)]⟩)
 ·exact .inr (.inr ⟨h,by rw [if_neg (by omega),if_pos h]⟩)
theorem zxa (a b : Lk) : zbu a b = if uo a.t b.t = 0 then (if uo a.k b.k = 0 then (if uo a.p b.p = 0 then zsa (qg a.q) (qg b.q) else uo a.p b.p) else uo a.k b.k) else uo a.t b.t := by
 unfold zbu
 rw [zgg,zgg,zgg,zgg,z0w]
 have : (if zsa (qg a.q) (qg b.q) = 0 then 0 else zsa (qg a.q) (qg b.q)) = zsa (qg a.q) (qg b.q) := by
  split
  ·rename_i h; exact h.symm
  ·rfl
 rw [this]
theorem zkj {a b : Lk} : zbu a b < 0 ↔ a.t < b.t ∨ (a.t = b.t ∧ (a.k < b.k ∨ (a.k = b.k ∧ (a.p < b.p ∨ (a.p = b.p ∧ qg a.q < qg b.q))))) := by
 rw [zxa]
 rcases j1 a.t b.t with ⟨h1,e1⟩ | ⟨h1,e1⟩ | ⟨h1,e1⟩
 ·rw [e1,if_neg (by decide)]; constructor <;> intro q <;> first | omega | decide
 ·rw [e1,if_pos rfl]
  rcases j1 a.k b.k with ⟨h2,e2⟩ | ⟨h2,e2⟩ | ⟨h2,e2⟩
  ·rw [e2,if_neg (by decide)]; constructor <;> intro q <;> first | omega | decide
  ·rw [e2,if_pos rfl]
   rcases j1 a.p b.p with ⟨h3,e3⟩ | ⟨h3,e3⟩ | ⟨h3,e3⟩
   ·rw [e3,if_neg (by decide)]; constructor <;> intro q <;> first | omega | decide
   ·rw [e3,if_pos rfl]
    rcases zr9 (qg a.q) (qg b.q) with ⟨h4,e4⟩ | ⟨h4,e4⟩ | ⟨h4,e4⟩ <;> rw [e4] <;> constructor <;> intro q <;> first | omega | decide
   ·rw [e3,if_neg (by decide)]; constructor <;> intro q <;> first | omega | decide
  ·rw [e2,if_neg (by decide)]; constructor <;> intro q <;> first | omega | decide
 ·rw [e1,if_neg (by decide)]; constructor <;> intro q <;> first | omega | decide
theorem zki (a b c : Lk) (h1 : zbu a b < 0) (h2 : zbu b c < 0) : zbu a c < 0 := by
 rw [zkj] at *
 omega
theorem zw9 (a b : Lk) : zbu a b < 0 ∨ zbu b a < 0 ∨ (a.t = b.t ∧ a.k = b.k ∧ a.p = b.p ∧ qg a.q = qg b.q) := by
 rw [zkj,zkj]
 omega
theorem z5w (a b : Wd) : ((((a.toNat : Nat) : Int)) == ((b.toNat : Nat) : Int)) = (a == b) := by
 by_cases h : a = b
 ·subst h; simp
 ·have : ¬ a.toNat = b.toNat := fun e => h (BitVec.eq_of_toNat_eq e)
  rw [beq_eq_false_iff_ne.2 h,beq_eq_false_iff_ne]
  omega
def z0p (a b : Lk) : Bool := a.t == b.t && (a.k == b.k && (a.p == b.p && a.q == b.q))
theorem zwt (a b : Lk) : z0p a b = decide (a = b) := by
 unfold z0p
 by_cases h : a = b
 ·subst h; simp
 ·rw [decide_eq_false h]
  rw [Lk.ext'] at h
  cases h1 : (a.t == b.t) <;> cases h2 : (a.k == b.k) <;> cases h3 : (a.p == b.p) <;> cases h4 : (a.q == b.q) <;> try rfl
  rw [beq_iff_eq] at h1 h2 h3 h4
  exact absurd ⟨h1,h2,h3,h4⟩ h
theorem znx (a b : Wd) : yn Cω 158 [.float .f64 a.toNat,.float .f64 b.toNat] = some (.bool (a == b)) := by
 have ev := z31 Cω Lω a.toNat b.toNat
 rw [z5w] at ev
 exact pc ev rfl
theorem z0d (a b : Lk) : yn Cω 130 [.agg a.e,.agg b.e] = some (.bool (decide (a = b))) := by
 have ev := z4i Cω Lω a.t a.k a.q.toNat a.p b.t b.k b.q.toNat b.p
 simp only [znx,zw,ze,z8,yj,yk,zu,zt,zf,zq,zx,zy,za,zh,zl,z7,ym,zi,zd,zm,zz,zg,zk,zj,zp,yg,zr,yh,yl,ye,yf,ya,zn,yd,zo,yc,yb,yp,zb,z6,yi] at ev
 rw [← zwt]
 unfold z0p
 refine pc (v := .bool _) (A := []) (ev.trans ?_) rfl
 cases (a.t == b.t) <;> cases (a.k == b.k) <;> cases (a.p == b.p) <;> rfl
def covL (a b : Lk) : Bool := if (a.t != b.t) = true then false else if (a.k == 3) = true then true else if (a.k == 2) = true then (b.k == 2 && b.p == a.p) || (b.k == 1 && ((zhc b.q : Nat) : Int) == a.p) else decide (a = b)
theorem zf9 (a b : Lk) : yn Cω 104 [.agg a.e,.agg b.e] = some (.bool (covL a b)) := by
 have ev := z4n Cω Lω a.t a.k a.q.toNat a.p b.t b.k b.q.toNat b.p
 have hs := z0d a b
 simp only [Lk.e] at hs
 simp only [hs,zzo,zw,ze,z8,yj,yk,zu,zt,zf,zq,zx,zy,za,zh,zl,z7,ym,zi,zd,zm,zz,zg,zk,zj,zp,yg,zr,yh,yl,ye,yf,ya,zn,yd,zo,yc,yb,yp,zb,z6,yi] at ev
 unfold covL
 refine pc (v := .bool _) (A := []) (ev.trans ?_) rfl
 cases (a.t != b.t) <;> cases (a.k == 3) <;> cases (a.k == 2) <;> cases (b.k == 2) <;> cases (b.p == a.p) <;> cases (b.k == 1) <;> rfl
def okL (x : Lk) : Bool := decide (1 ≤ x.t) && (decide (x.t ≤ 2147483647) && (if (x.k == 1) = true then x.p == 0 && x.q == zp9 x.q else if (x.k == 2) = true then decide (x.p ≥ 0) && (decide (x.p < 8) && x.q == 0) else if (x.k == 3) = true then x.p == 0 && x.q == 0 else false))
theorem z2p (x : Lk) : yn Cω 114 [.agg x.e] = some (.bool (okL x)) := by
 have ev := z4k Cω Lω x.t x.k x.q.toNat x.p
 have h0 : yn Cω 158 [.float .f64 x.q.toNat,.float .f64 0] = some (.bool (x.q == 0)) := znx x.q 0
 simp only [zwn,znx,h0,zw,ze,z8,yj,yk,zu,zt,zf,zq,zx,zy,za,zh,zl,z7,ym,zi,zd,zm,zz,zg,zk,zj,zp,yg,zr,yh,yl,ye,yf,ya,zn,yd,zo,yc,yb,yp,zb,z6,yi] at ev
 unfold okL
 refine pc (v := .bool _) (A := []) (ev.trans ?_) rfl
 by_cases h1 : x.t < 1
 ·rw [if_pos (decide_eq_true h1),decide_eq_false (by omega)]; rfl
 ·rw [if_neg (by rw [decide_eq_true_eq]; exact h1),decide_eq_true (show 1 ≤ x.t by omega),Bool.true_and]
  by_cases h2 : x.t > 2147483647
  ·rw [if_pos (decide_eq_true h2),decide_eq_false (by omega)]; rfl
  ·rw [if_neg (by rw [decide_eq_true_eq]; exact h2),decide_eq_true (show x.t ≤ 2147483647 by omega),Bool.true_and]
   cases (x.k == 1) <;> cases (x.k == 2) <;> cases (x.k == 3) <;> cases (x.p == 0) <;> cases decide (x.p ≥ 0) <;> cases decide (x.p < 8) <;> rfl
end Go.Pvm.S
