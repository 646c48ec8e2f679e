/- Part of the proof: edges: numbers compared, which edges and spans may be. -/
import Derived.Test.YtjfgklgcbogejaaGreatInn
set_option linter.unusedSimpArgs false
set_option linter.unusedVariables false
set_option maxRecDepth 100000
namespace Go.Pvm.S
open Go.Pvm Go.Proofs
structure Ed where
 f : Int
 t : Int
 deriving DecidableEq
def Ed.e (x : Ed) : List PV := [.int .i64 x.f,.int .i64 x.t]
theorem Ed.e_ok (x : Ed) : x.e.length = 2 ∧ x.e.all PV.plain = true ∧ PV.own.owns x.e = true := ⟨rfl,rfl,rfl⟩
structure Spn where
 t : Int
 b : Int
 c : Int
 deriving DecidableEq
def Spn.e (x : Spn) : List PV := [.int .i64 x.t,.int .i64 x.b,.int .i64 x.c]
theorem Spn.e_ok (x : Spn) : x.e.length = 3 ∧ x.e.all PV.plain = true ∧ PV.own.owns x.e = true := ⟨rfl,rfl,rfl⟩
theorem z0j (n : Int) : yn Cω 105 [.int .i64 n] = some (.bool (inn n)) := by
 have ev := z4m Cω Lω n
 unfold inn
 by_cases h : n ≥ 1
 ·simp only [decide_eq_true_eq,h,if_true] at ev
  rw [decide_eq_true h,Bool.true_and]
  exact pc ev rfl
 ·simp only [decide_eq_true_eq,h,if_false] at ev
  rw [decide_eq_false h,Bool.false_and]
  exact pc ev rfl
def zc3 (a b : Ed) : Int := orI [uo a.f b.f,uo a.t b.t]
theorem znw (a b : Ed) : yn Cω 107 [.agg a.e,.agg b.e] = some (.int .i64 (zc3 a b)) := by
 have ev := z4l Cω Lω a.f a.t b.f b.t
 have h := z7h [uo a.f b.f,uo a.t b.t] (by show (2 : Nat) < _; decide)
 simp only [List.map,ie] at h
 simp only [zwo,zw,ze,z8,yj,yk,zu,zt,zf,zq,zx,zy,za,zh,zl,z7,ym,zi,zd,zm,zz,zg,zk,zj,zp,yg,zr,yh,yl,ye,yf,ya,zn,yd,zo,yc,yb,yp,zb,z6,yi,h] at ev
 exact pc ev rfl
theorem zkk {a b : Ed} : zc3 a b < 0 ↔ a.f < b.f ∨ (a.f = b.f ∧ a.t < b.t) := by
 unfold zc3
 rw [z7m]
 rcases j1 a.f b.f with ⟨h,e⟩ | ⟨h,e⟩ | ⟨h,e⟩ <;> rcases j1 a.t b.t with ⟨k,e'⟩ | ⟨k,e'⟩ | ⟨k,e'⟩ <;> rw [e] <;> (try rw [if_pos rfl]) <;> (try rw [if_neg (by decide)]) <;> (try rw [e']) <;> constructor <;> intro q <;> first | omega | decide
theorem ordE_eq {a b : Ed} : zc3 a b = 0 ↔ a = b := by
 have hab : a = b ↔ a.f = b.f ∧ a.t = b.t := by
  obtain ⟨af,at_⟩ := a
  obtain ⟨bf,bt⟩ := b
  exact Ed.mk.injEq .. ▸ Iff.rfl
 rw [hab]
 unfold zc3
 rw [z7m]
 rcases j1 a.f b.f with ⟨h,e⟩ | ⟨h,e⟩ | ⟨h,e⟩ <;> rcases j1 a.t b.t with ⟨k,e'⟩ | ⟨k,e'⟩ | ⟨k,e'⟩ <;> rw [e] <;> (try rw [if_pos rfl]) <;> (try rw [if_neg (by decide)]) <;> (try rw [e']) <;> constructor <;> intro q <;> first | omega | decide
def okE (l : List Ed) (i : Nat) (a : Ed) : Bool := inn a.f && (inn a.t && (!(a.f == a.t) && (decide (i = 0) || decide (zc3 (l.getD (i - 1) a) a < 0))))
def ur (l : List Ed) : Bool := decide (l.length ≤ 600) && allI (okE l) l 0
def okS (l : List Spn) (i : Nat) (a : Spn) : Bool := inn a.t && (decide (0 ≤ a.b) && (decide (a.b ≤ 2147483647) && ((a.c == 0 || (decide (a.c > a.b) && decide (a.c ≤ 2147483647))) && (decide (i = 0) || decide ((l.getD (i - 1) a).t < a.t)))))
def ka (l : List Spn) : Bool := decide (l.length ≤ 24) && allI (okS l) l 0
theorem z03 (l : List Ed) (hl : l.length < 4611686018427387904) : Lω 56 zhy 0 (zeo (l.map Ed.e) (l.map Ed.e) (l.length : Nat) 0) [] =
  some (if allI (okE l) l 0 = true then (.exit 0,mkS 47 [],[]) else (.ret,mkS 47 [(2,.int .i64 1)],[])) :=
 zdw (fun i => zeo (l.map Ed.e) (l.map Ed.e) (l.length : Nat) (i : Nat)) [] l (okE l) _ _ (fun i a hg hi => by
  rw [zua]
  simp only [decide_eq_true_eq,Int.ofNat_lt,List.length_map,if_true,nn,true_and,Int.toNat_natCast,zb,hi,y9 hg,Ed.e,zw,ze,z8,yj,yk,zu,zt,zf,zq,zx,zy,za,zh,zl,z7,ym,zi,zd,zm,zz,zg,zk,zj,zp,yg,zr,yh,yl,ye,yf,ya,zn,yd,zo,yc,yb,yp,zb,z6,yi,z0j]
  unfold okE
  have ho := znw (l.getD (i - 1) a) a
  simp only [Ed.e] at ho
  cases inn a.f <;> cases inn a.t <;> cases (a.f == a.t) <;> simp only [Bool.not_true,Bool.not_false,Bool.false_and,Bool.true_and,Bool.false_eq_true,if_true,if_false]
  by_cases h0 : 0 < i
  ·have hz : decide (i = 0) = false := decide_eq_false (by omega)
   rw [if_pos (by omega),if_pos (by rw [zbl h0 (by omega)]; exact nn _),zbl h0 (by omega),Int.toNat_natCast,y9 (z5s (a := a) hi h0)]
   simp only [Ed.e,zw,ze,z8,yj,yk,zu,zt,zf,zq,zx,zy,za,zh,zl,z7,ym,zi,zd,zm,zz,zg,zk,zj,zp,yg,zr,yh,yl,ye,yf,ya,zn,yd,zo,yc,yb,yp,zb,z6,yi,ho,hz,Bool.false_or,decide_eq_true_eq]
   by_cases h : zc3 (l.getD (i - 1) a) a < 0
   ·rw [if_neg (by omega),if_pos h,yr (by omega)]
   ·rw [if_pos (by omega),if_neg h]
  ·have : i = 0 := by omega
   subst this
   simp only [decide_true,Bool.true_or,if_true]
   rw [if_neg (by decide)]
   rfl) (by rw [zua]; simp only [decide_eq_true_eq,Int.ofNat_lt,List.length_map,if_true,nn,true_and,Int.toNat_natCast,zb,Nat.lt_irrefl,if_false])
theorem znz (l : List Ed) (hl : l.length < 4611686018427387904) : yn Cω 56 [.psl false (l.map Ed.e)] = some (.int .i64 (if ur l = true then 0 else 1)) := by
 have ev := z6q Cω Lω (l.map Ed.e)
 rw [List.length_map,z03 l hl] at ev
 unfold ur
 by_cases h : l.length ≤ 600
 ·rw [if_neg (by rw [decide_eq_true_eq]; omega)] at ev
  simp only [z7a h,Bool.true_and]
  by_cases h2 : allI (okE l) l 0 = true
  ·simp only [h2,if_true,zw,ze,z8,yj,yk,zu,zt,zf,zq,zx,zy,za,zh,zl,z7,ym,zi,zd,zm,zz,zg,zk,zj,zp,yg,zr,yh,yl,ye,yf,ya,zn,yd,zo,yc,yb,yp,zb,z6,yi] at ev ⊢
   exact pc ev rfl
  ·simp only [h2,if_false,zw,ze,z8,yj,yk,zu,zt,zf,zq,zx,zy,za,zh,zl,z7,ym,zi,zd,zm,zz,zg,zk,zj,zp,yg,zr,yh,yl,ye,yf,ya,zn,yd,zo,yc,yb,yp,zb,z6,yi,y3,yz,ne_eq,not_false_eq_true,Nat.reduceLT,Nat.reduceEqDiff] at ev ⊢
   exact pc ev rfl
 ·rw [if_pos (by rw [decide_eq_true_eq]; omega)] at ev
  simp only [decide_eq_false h,Bool.false_and,Bool.false_eq_true,if_false]
  exact pc ev rfl
theorem zxn (l : List Spn) (hl : l.length < 4611686018427387904) : Lω 54 zc5 0 (zbm (l.map Spn.e) (l.map Spn.e) (l.length : Nat) 0) [] =
  some (if allI (okS l) l 0 = true then (.exit 0,mkS 68 [],[]) else (.ret,mkS 68 [(2,.int .i64 1)],[])) :=
 zdw (fun i => zbm (l.map Spn.e) (l.map Spn.e) (l.length : Nat) (i : Nat)) [] l (okS l) _ _ (fun i a hg hi => by
  rw [zud]
  simp only [decide_eq_true_eq,Int.ofNat_lt,List.length_map,if_true,nn,true_and,Int.toNat_natCast,zb,hi,y9 hg,Spn.e,zw,ze,z8,yj,yk,zu,zt,zf,zq,zx,zy,za,zh,zl,z7,ym,zi,zd,zm,zz,zg,zk,zj,zp,yg,zr,yh,yl,ye,yf,ya,zn,yd,zo,yc,yb,yp,zb,z6,yi,z0j,gt_iff_lt,z24,yr (show i < 4611686018427387904 by omega)]
  unfold okS
  by_cases h0 : 0 < i
  ·obtain ⟨p1,p2⟩ := ztu (e := Spn.e) a hi hl h0
   simp only [h0,if_true,p1,p2,Spn.e,zw,ze,z8,yj,yk,zu,zt,zf,zq,zx,zy,za,zh,zl,z7,ym,zi,zd,zm,zz,zg,zk,zj,zp,yg,zr,yh,yl,ye,yf,ya,zn,yd,zo,yc,yb,yp,zb,z6,yi]
   cases inn a.t <;> simp only [Bool.and_eq_true,Bool.or_eq_true,Bool.not_eq_true',Bool.not_eq_true,Bool.false_eq_true,Bool.true_eq_false,decide_eq_true_eq,decide_eq_false_iff_not,beq_iff_eq,beq_eq_false_iff_ne,bne_iff_ne,ne_eq,ge_iff_le,gt_iff_lt,if_true,if_false,false_and,true_and,and_true,and_false,false_or,true_or,or_true,or_false,Bool.not_true,Bool.not_false,decide_true,decide_false,Bool.and_true,Bool.true_and,Bool.false_and,Bool.and_false,Bool.or_true,Bool.true_or,Bool.false_or,Bool.or_false,not_true,not_false_eq_true,Int.not_lt,Int.not_le,Decidable.not_not] <;> (repeat' split) <;> first | rfl | (exfalso; omega)
  ·simp only [h0,if_false]
   cases inn a.t <;> simp only [Bool.and_eq_true,Bool.or_eq_true,Bool.not_eq_true',Bool.not_eq_true,Bool.false_eq_true,Bool.true_eq_false,decide_eq_true_eq,decide_eq_false_iff_not,beq_iff_eq,beq_eq_false_iff_ne,bne_iff_ne,ne_eq,ge_iff_le,gt_iff_lt,if_true,if_false,false_and,true_and,and_true,and_false,false_or,true_or,or_true,or_false,Bool.not_true,Bool.not_false,decide_true,decide_false,Bool.and_true,Bool.true_and,Bool.false_and,Bool.and_false,Bool.or_true,Bool.true_or,Bool.false_or,Bool.or_false,not_true,not_false_eq_true,Int.not_lt,Int.not_le,Decidable.not_not] <;> (repeat' split) <;> first | rfl | (exfalso; omega)) (by rw [zud]; simp only [decide_eq_true_eq,Int.ofNat_lt,List.length_map,if_true,nn,true_and,Int.toNat_natCast,zb,Nat.lt_irrefl,if_false])
theorem zpk (l : List Spn) (hl : l.length < 4611686018427387904) : yn Cω 54 [.psl false (l.map Spn.e)] = some (.int .i64 (if ka l = true then 0 else 1)) := by
 have ev := z6s Cω Lω (l.map Spn.e)
 rw [List.length_map,zxn l hl] at ev
 unfold ka
 by_cases h : l.length ≤ 24
 ·rw [if_neg (by rw [decide_eq_true_eq]; omega)] at ev
  simp only [z7a h,Bool.true_and]
  by_cases h2 : allI (okS l) l 0 = true
  ·simp only [h2,if_true,zw,ze,z8,yj,yk,zu,zt,zf,zq,zx,zy,za,zh,zl,z7,ym,zi,zd,zm,zz,zg,zk,zj,zp,yg,zr,yh,yl,ye,yf,ya,zn,yd,zo,yc,yb,yp,zb,z6,yi] at ev ⊢
   exact pc ev rfl
  ·simp only [h2,if_false,zw,ze,z8,yj,yk,zu,zt,zf,zq,zx,zy,za,zh,zl,z7,ym,zi,zd,zm,zz,zg,zk,zj,zp,yg,zr,yh,yl,ye,yf,ya,zn,yd,zo,yc,yb,yp,zb,z6,yi,y3,yz,ne_eq,not_false_eq_true,Nat.reduceLT,Nat.reduceEqDiff] at ev ⊢
   exact pc ev rfl
 ·rw [if_pos (by rw [decide_eq_true_eq]; omega)] at ev
  simp only [decide_eq_false h,Bool.false_and,Bool.false_eq_true,if_false]
  exact pc ev rfl
end Go.Pvm.S
