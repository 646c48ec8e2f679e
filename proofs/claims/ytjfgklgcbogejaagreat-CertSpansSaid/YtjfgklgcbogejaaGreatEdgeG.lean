/- Part of the proof: edges: the victims: the program's and the document's. -/
import Derived.Test.YtjfgklgcbogejaaGreatEdgeF
set_option linter.unusedSimpArgs false
set_option linter.unusedVariables false
set_option maxRecDepth 100000
namespace Go.Pvm.S
open Go.Pvm Go.Proofs
def vG (s : List Spn) (x : Ed) : Nat → Ed → List Int → List Int := fun _ y acc => if (x.t != y.f) = true then acc else if (vic s x.f x.t y.t != 0) = true then acc ++ [vic s x.f x.t y.t] else acc
theorem zzh (s : List Spn) (x : Ed) (i : Nat) (y : Ed) (acc : List Int) (n0 : Nat) (h : acc.length ≤ n0 + i) : (vG s x i y acc).length ≤ n0 + (i + 1) := by
 unfold vG
 repeat' split
 all_goals (try simp only [List.length_append,List.length_cons,List.length_nil]); omega
theorem z50 (l : List Ed) (s : List Spn) (hl : l.length ≤ 600) (hs : s.length < 1073741824) (hm : ka s = true) (x : Ed) (i : Int) (acc : List Int) (hacc : acc.length ≤ 1000000) :
  Lω 96 zex 1 (zct (l.map Ed.e) (l.map Ed.e) (l.length : Nat) i (l.map Ed.e) (l.length : Nat) 0) [.made true 3 (s.map Spn.e),.made true 1 (acc.map ie),.box true 69 [.int .i64 x.f,.int .i64 x.t]] =
  some (.exit 2,mkS 56 [(0,.psl false (l.map Ed.e)),(1,whole 0 3),(5,whole 1 1),(19,.psl false (l.map Ed.e)),(20,.int .i64 (l.length : Nat)),(21,.int .i64 i)],[.made true 3 (s.map Spn.e),.made true 1 ((xb (vG s x) l 0 acc).map ie)]) :=
 jv (fun j (_ : List Int) => zct (l.map Ed.e) (l.map Ed.e) (l.length : Nat) i (l.map Ed.e) (l.length : Nat) (j : Nat)) (fun _ acc => [.made true 3 (s.map Spn.e),.made true 1 (acc.map ie),.box true 69 [.int .i64 x.f,.int .i64 x.t]]) l (vG s x)
  (fun acc => (.exit 2,mkS 56 [(0,.psl false (l.map Ed.e)),(1,whole 0 3),(5,whole 1 1),(19,.psl false (l.map Ed.e)),(20,.int .i64 (l.length : Nat)),(21,.int .i64 i)],[.made true 3 (s.map Spn.e),.made true 1 (acc.map ie)])) (fun j a => a.length ≤ acc.length + j) (fun j y a hg hj ha => by
   refine ⟨zzh s x j y a _ ha,?_⟩
   have hs9 : a.length < 4294967295 := by omega
   have b1 : ((a.map ie).length + ([[(.int .i64 (vic s x.f x.t y.t))]] : List (List PV)).length) * 8 ≤ 140737488355328 := by rw [List.length_map]; exact rm8 hs9
   have m1 : a.map ie ++ ([[(.int .i64 (vic s x.f x.t y.t))]] : List (List PV)) = (a ++ [vic s x.f x.t y.t]).map ie := zgl (f := ie) a _
   rw [zt7]
   unfold vG
   have hdi : decide (((j : Nat) : Int) < ((l.length : Nat) : Int)) = true := by rw [decide_eq_true_eq]; omega
   simp only [hdi,nn,Int.toNat_natCast,zb,y9 hg,Ed.e,zw,ze,z8,yj,yk,zu,zt,zf,zq,zx,zy,za,zh,zl,z7,ym,zi,zd,zm,zz,zg,zk,zj,zp,yg,zr,yh,yl,ye,yf,ya,zn,yd,zo,yc,yb,yp,zb,z6,yi,yr (show j < 4611686018427387904 by omega),zwl s _ _ _ hs hm,b1,if_true]
   simp only [m1]
   cases (x.t != y.f) <;> cases (vic s x.f x.t y.t != 0) <;> rfl) (fun a ha => by rw [zt7]; simp only [Int.lt_irrefl,decide_false,Bool.false_eq_true,if_false]) acc (Nat.le_refl _)
def oG (l : List Ed) (s : List Spn) : Nat → Ed → List Int → List Int := fun _ x acc => xb (vG s x) l 0 acc
theorem zzw (l : List Ed) (s : List Spn) (x : Ed) (acc : List Int) : (xb (vG s x) l 0 acc).length ≤ acc.length + l.length := by
 have := zd4 (g := vG s x) (fun i a => a.length ≤ acc.length + i) l 0 acc (Nat.le_refl _) (fun j a s' h => zzh s x j a s' _ h)
 rwa [Nat.zero_add] at this
theorem z3i (l : List Ed) (s : List Spn) (hl : l.length ≤ 600) (hs : s.length < 1073741824) (hm : ka s = true) :
  Lω 96 zhx 1 (zg0 (l.map Ed.e) (l.map Ed.e) (l.length : Nat) 0) [.made true 3 (s.map Spn.e),.made true 1 []] =
  some (.exit 0,mkS 56 [(5,whole 1 1)],[.made true 3 (s.map Spn.e),.made true 1 ((xb (oG l s) l 0 []).map ie)]) :=
 jv (fun j (_ : List Int) => zg0 (l.map Ed.e) (l.map Ed.e) (l.length : Nat) (j : Nat)) (fun _ acc => [.made true 3 (s.map Spn.e),.made true 1 (acc.map ie)]) l (oG l s)
  (fun acc => (.exit 0,mkS 56 [(5,whole 1 1)],[.made true 3 (s.map Spn.e),.made true 1 (acc.map ie)])) (fun j a => a.length ≤ 600 * j) (fun j x a hg hj ha => by
   refine ⟨?_,?_⟩
   ·have := zzw l s x a
    unfold oG
    omega
   have lp := z50 l s hl hs hm x (j : Nat) a (by omega)
   have hdi : decide (((j : Nat) : Int) < ((l.length : Nat) : Int)) = true := by rw [decide_eq_true_eq]; omega
   rw [zt8]
   simp only [hdi,nn,Int.toNat_natCast,zb,y9 hg,if_true,List.length_map]
   simp only [Ed.e,zw,ze,z8,yj,yk,zu,zt,zf,zq,zx,zy,za,zh,zl,z7,ym,zi,zd,zm,zz,zg,zk,zj,zp,yg,zr,yh,yl,ye,yf,ya,zn,yd,zo,yc,yb,yp,zb,z6,yi]
   rw [lp]
   simp only [zw,ze,z8,yj,yk,zu,zt,zf,zq,zx,zy,za,zh,zl,z7,ym,zi,zd,zm,zz,zg,zk,zj,zp,yg,zr,yh,yl,ye,yf,ya,zn,yd,zo,yc,yb,yp,zb,z6,yi,y3,yz,ne_eq,not_false_eq_true,Nat.reduceLT,Nat.reduceEqDiff,if_true,yr (show j < 4611686018427387904 by omega)]
   rfl) (fun a ha => by rw [zt8]; simp only [Int.lt_irrefl,decide_false,Bool.false_eq_true,if_false]) [] (Nat.le_refl _)
def zoh (l : List Ed) (s : List Spn) : List Int := xb (oG l s) l 0 []
theorem zp0 (l : List Ed) (s : List Spn) (hl : l.length ≤ 600) : (zoh l s).length ≤ 360000 := by
 have := zd4 (g := oG l s) (fun i a => a.length ≤ 600 * i) l 0 [] (Nat.le_refl _) (fun j x a h => by
  have := zzw l s x a
  unfold oG
  omega)
 rw [Nat.zero_add] at this
 unfold zoh
 omega
noncomputable def kw (l : List Ed) (s : List Spn) : List Int := if (ur l && ka s) = true then zla ((zoh l s).mergeSort fun x y => decide (x ≤ y)) else []
theorem zlv (l : List Ed) (s : List Spn) (hl : l.length < 1073741824) (hs : s.length < 1073741824) : Cω 96 [.psl false (l.map Ed.e),whole 0 3] [.made true 3 (s.map Spn.e)] = some (whole 1 1,[.made true 3 (s.map Spn.e),.made true 1 ((kw l s).map ie)]) := by
 have ev := z6d Cω Lω (l.map Ed.e) (s.map Spn.e)
 rw [znz l (by omega)] at ev
 simp only [zw,ze,z8,yj,yk,zu,zt,zf,zq,zx,zy,za,zh,zl,z7,ym,zi,zd,zm,zz,zg,zk,zj,zp,yg,zr,yh,yl,ye,yf,ya,zn,yd,zo,yc,yb,yp,zb,z6,yi,zpk s (show s.length < 4611686018427387904 by omega),List.length_map] at ev
 unfold kw
 by_cases h1 : ur l = true
 case neg =>
  have h1' : ur l = false := by simpa using h1
  simp only [h1',Bool.false_and,Bool.false_eq_true,if_false] at ev ⊢
  rw [if_pos (by decide)] at ev
  exact cw ev
 by_cases h2 : ka s = true
 case neg =>
  have h2' : ka s = false := by simpa using h2
  simp only [h1,h2',Bool.and_false,Bool.false_eq_true,if_false,if_true] at ev ⊢
  rw [if_neg (by decide),if_pos (by decide)] at ev
  exact cw ev
 have hle : l.length ≤ 600 := by
  unfold ur at h1
  rw [Bool.and_eq_true,decide_eq_true_eq] at h1
  exact h1.1
 simp only [h1,h2,Bool.and_self,if_true] at ev ⊢
 rw [if_neg (by decide),if_neg (by decide),z3i l s hle hs h2] at ev
 have hml : (zoh l s).length ≤ 360000 := zp0 l s hle
 rw [show xb (oG l s) l 0 [] = zoh l s from rfl] at ev
 simp only [zw,ze,z8,yj,yk,zu,zt,zf,zq,zx,zy,za,zh,zl,z7,ym,zi,zd,zm,zz,zg,zk,zj,zp,yg,zr,yh,yl,ye,yf,ya,zn,yd,zo,yc,yb,yp,zb,z6,yi,y3,yz,ne_eq,not_false_eq_true,Nat.reduceLT,Nat.reduceEqDiff,if_true,List.length_map,List.drop_zero,List.take_zero,List.nil_append,Nat.zero_add] at ev
 rw [if_pos (by omega),List.take_of_length_le (by rw [List.length_map]; exact Nat.le_refl _),zjl,List.drop_of_length_le (by rw [List.length_map]; exact Nat.le_refl _),zb,List.append_nil,z3l] at ev
 rw [z4t ((zoh l s).mergeSort fun x y => decide (x ≤ y)) (by rw [List.length_mergeSort]; omega)] at ev
 simp only [zw,ze,z8,yj,yk,zu,zt,zf,zq,zx,zy,za,zh,zl,z7,ym,zi,zd,zm,zz,zg,zk,zj,zp,yg,zr,yh,yl,ye,yf,ya,zn,yd,zo,yc,yb,yp,zb,z6,yi] at ev
 exact cw ev
end Go.Pvm.S
