/- Part of the proof: edges: the victims: the program's and the document's. -/
import Derived.Test.YtjfgklgcbogejaaGreatEdgeF
set_option linter.unusedSimpArgs false
set_option linter.unusedVariables false
set_option maxRecDepth 100000
namespace Go.Pvm.S
open Go.Pvm Go.Proofs
def vG (s : List Spn) (x : Ed) : Nat → Ed → List Int → List Int := fun _ y acc => if (x.t != y.f) = true then acc else if (vic s x.f x.t y.t != 0) = true then acc ++ [vic s x.f x.t y.t] else acc
theorem z1i (s : List Spn) (x : Ed) (i : Nat) (y : Ed) (acc : List Int) (n0 : Nat) (h : acc.length ≤ n0 + i) : (vG s x i y acc).length ≤ n0 + (i + 1) := by
 unfold vG
 repeat' split
 all_goals (try simp only [List.length_append,List.length_cons,List.length_nil]); omega
theorem z8r (l : List Ed) (s : List Spn) (hl : l.length ≤ 600) (hs : s.length < 1073741824) (hm : qq s = true) (x : Ed) (i : Int) (acc : List Int) (hacc : acc.length ≤ 1000000) :
  Lω 96 zfd 1 (zda (l.map Ed.e) (l.map Ed.e) (l.length : Nat) i (l.map Ed.e) (l.length : Nat) 0) [.made true 3 (s.map Spn.e),.made true 1 (acc.map ie),.box true 69 [.int .i64 x.f,.int .i64 x.t]] =
  some (.exit 2,mkS 56 [(0,.psl false (l.map Ed.e)),(1,whole 0 3),(5,whole 1 1),(19,.psl false (l.map Ed.e)),(20,.int .i64 (l.length : Nat)),(21,.int .i64 i)],[.made true 3 (s.map Spn.e),.made true 1 ((y5 (vG s x) l 0 acc).map ie)]) :=
 ji (fun j (_ : List Int) => zda (l.map Ed.e) (l.map Ed.e) (l.length : Nat) i (l.map Ed.e) (l.length : Nat) (j : Nat)) (fun _ acc => [.made true 3 (s.map Spn.e),.made true 1 (acc.map ie),.box true 69 [.int .i64 x.f,.int .i64 x.t]]) l (vG s x)
  (fun acc => (.exit 2,mkS 56 [(0,.psl false (l.map Ed.e)),(1,whole 0 3),(5,whole 1 1),(19,.psl false (l.map Ed.e)),(20,.int .i64 (l.length : Nat)),(21,.int .i64 i)],[.made true 3 (s.map Spn.e),.made true 1 (acc.map ie)])) (fun j a => a.length ≤ acc.length + j) (fun j y a hg hj ha => by
   refine ⟨z1i s x j y a _ ha,?_⟩
   have hs9 : a.length < 4294967295 := by omega
   have b1 : ((a.map ie).length + ([[(.int .i64 (vic s x.f x.t y.t))]] : List (List PV)).length) * 8 ≤ 140737488355328 := by rw [List.length_map]; exact rm8 hs9
   have m1 : a.map ie ++ ([[(.int .i64 (vic s x.f x.t y.t))]] : List (List PV)) = (a ++ [vic s x.f x.t y.t]).map ie := zcs (f := ie) a _
   rw [zvq]
   unfold vG
   have hdi : decide (((j : Nat) : Int) < ((l.length : Nat) : Int)) = true := by rw [decide_eq_true_eq]; omega
   simp only [hdi,nn,Int.toNat_natCast,zb,y7 hg,Ed.e,zw,ze,ya,yk,yl,zu,zt,zf,zq,zx,zy,za,zh,zl,z8,yn,zi,zd,zm,z6,zg,zk,zj,zp,yh,zr,yi,ym,yf,yg,yb,zn,ye,zo,yd,yc,yp,zb,z7,yj,yr (show j < 4611686018427387904 by omega),zyf s _ _ _ hs hm,b1,if_true]
   simp only [m1]
   cases (x.t != y.f) <;> cases (vic s x.f x.t y.t != 0) <;> rfl) (fun a ha => by rw [zvq]; simp only [Int.lt_irrefl,decide_false,Bool.false_eq_true,if_false]) acc (Nat.le_refl _)
def oG (l : List Ed) (s : List Spn) : Nat → Ed → List Int → List Int := fun _ x acc => y5 (vG s x) l 0 acc
theorem z1y (l : List Ed) (s : List Spn) (x : Ed) (acc : List Int) : (y5 (vG s x) l 0 acc).length ≤ acc.length + l.length := by
 have := uy (g := vG s x) (fun i a => a.length ≤ acc.length + i) l 0 acc (Nat.le_refl _) (fun j a s' h => z1i s x j a s' _ h)
 rwa [Nat.zero_add] at this
theorem z52 (l : List Ed) (s : List Spn) (hl : l.length ≤ 600) (hs : s.length < 1073741824) (hm : qq s = true) :
  Lω 96 zik 1 (zhf (l.map Ed.e) (l.map Ed.e) (l.length : Nat) 0) [.made true 3 (s.map Spn.e),.made true 1 []] =
  some (.exit 0,mkS 56 [(5,whole 1 1)],[.made true 3 (s.map Spn.e),.made true 1 ((y5 (oG l s) l 0 []).map ie)]) :=
 ji (fun j (_ : List Int) => zhf (l.map Ed.e) (l.map Ed.e) (l.length : Nat) (j : Nat)) (fun _ acc => [.made true 3 (s.map Spn.e),.made true 1 (acc.map ie)]) l (oG l s)
  (fun acc => (.exit 0,mkS 56 [(5,whole 1 1)],[.made true 3 (s.map Spn.e),.made true 1 (acc.map ie)])) (fun j a => a.length ≤ 600 * j) (fun j x a hg hj ha => by
   refine ⟨?_,?_⟩
   ·have := z1y l s x a
    unfold oG
    omega
   have lp := z8r l s hl hs hm x (j : Nat) a (by omega)
   have hdi : decide (((j : Nat) : Int) < ((l.length : Nat) : Int)) = true := by rw [decide_eq_true_eq]; omega
   rw [zvr]
   simp only [hdi,nn,Int.toNat_natCast,zb,y7 hg,if_true,List.length_map]
   simp only [Ed.e,zw,ze,ya,yk,yl,zu,zt,zf,zq,zx,zy,za,zh,zl,z8,yn,zi,zd,zm,z6,zg,zk,zj,zp,yh,zr,yi,ym,yf,yg,yb,zn,ye,zo,yd,yc,yp,zb,z7,yj]
   rw [lp]
   simp only [zw,ze,ya,yk,yl,zu,zt,zf,zq,zx,zy,za,zh,zl,z8,yn,zi,zd,zm,z6,zg,zk,zj,zp,yh,zr,yi,ym,yf,yg,yb,zn,ye,zo,yd,yc,yp,zb,z7,yj,y4,y2,ne_eq,not_false_eq_true,Nat.reduceLT,Nat.reduceEqDiff,if_true,yr (show j < 4611686018427387904 by omega)]
   rfl) (fun a ha => by rw [zvr]; simp only [Int.lt_irrefl,decide_false,Bool.false_eq_true,if_false]) [] (Nat.le_refl _)
def zpj (l : List Ed) (s : List Spn) : List Int := y5 (oG l s) l 0 []
theorem zrc (l : List Ed) (s : List Spn) (hl : l.length ≤ 600) : (zpj l s).length ≤ 360000 := by
 have := uy (g := oG l s) (fun i a => a.length ≤ 600 * i) l 0 [] (Nat.le_refl _) (fun j x a h => by
  have := z1y l s x a
  unfold oG
  omega)
 rw [Nat.zero_add] at this
 unfold zpj
 omega
noncomputable def jk (l : List Ed) (s : List Spn) : List Int := if (wt l && qq s) = true then zji ((zpj l s).mergeSort fun x y => decide (x ≤ y)) else []
theorem zmq (l : List Ed) (s : List Spn) (hl : l.length < 1073741824) (hs : s.length < 1073741824) : Cω 96 [.psl false (l.map Ed.e),whole 0 3] [.made true 3 (s.map Spn.e)] = some (whole 1 1,[.made true 3 (s.map Spn.e),.made true 1 ((jk l s).map ie)]) := by
 have ev := z82 Cω Lω (l.map Ed.e) (s.map Spn.e)
 rw [zo1 l (by omega)] at ev
 simp only [zw,ze,ya,yk,yl,zu,zt,zf,zq,zx,zy,za,zh,zl,z8,yn,zi,zd,zm,z6,zg,zk,zj,zp,yh,zr,yi,ym,yf,yg,yb,zn,ye,zo,yd,yc,yp,zb,z7,yj,zqs s (show s.length < 4611686018427387904 by omega),List.length_map] at ev
 unfold jk
 by_cases h1 : wt l = true
 case neg =>
  have h1' : wt l = false := by simpa using h1
  simp only [h1',Bool.false_and,Bool.false_eq_true,if_false] at ev ⊢
  rw [if_pos (by decide)] at ev
  exact cw ev
 by_cases h2 : qq s = true
 case neg =>
  have h2' : qq s = false := by simpa using h2
  simp only [h1,h2',Bool.and_false,Bool.false_eq_true,if_false,if_true] at ev ⊢
  rw [if_neg (by decide),if_pos (by decide)] at ev
  exact cw ev
 have hle : l.length ≤ 600 := by
  unfold wt at h1
  rw [Bool.and_eq_true,decide_eq_true_eq] at h1
  exact h1.1
 simp only [h1,h2,Bool.and_self,if_true] at ev ⊢
 rw [if_neg (by decide),if_neg (by decide),z52 l s hle hs h2] at ev
 have hml : (zpj l s).length ≤ 360000 := zrc l s hle
 rw [show y5 (oG l s) l 0 [] = zpj l s from rfl] at ev
 simp only [zw,ze,ya,yk,yl,zu,zt,zf,zq,zx,zy,za,zh,zl,z8,yn,zi,zd,zm,z6,zg,zk,zj,zp,yh,zr,yi,ym,yf,yg,yb,zn,ye,zo,yd,yc,yp,zb,z7,yj,y4,y2,ne_eq,not_false_eq_true,Nat.reduceLT,Nat.reduceEqDiff,if_true,List.length_map,List.drop_zero,List.take_zero,List.nil_append,Nat.zero_add] at ev
 rw [if_pos (by omega),List.take_of_length_le (by rw [List.length_map]; exact Nat.le_refl _),zkb,List.drop_of_length_le (by rw [List.length_map]; exact Nat.le_refl _),zb,List.append_nil,z58] at ev
 rw [z7o ((zpj l s).mergeSort fun x y => decide (x ≤ y)) (by rw [List.length_mergeSort]; omega)] at ev
 simp only [zw,ze,ya,yk,yl,zu,zt,zf,zq,zx,zy,za,zh,zl,z8,yn,zi,zd,zm,z6,zg,zk,zj,zp,yh,zr,yi,ym,yf,yg,yb,zn,ye,zo,yd,yc,yp,zb,z7,yj] at ev
 exact cw ev
theorem zmk (l : List Int) (n : Int) : (zoo l n).length ≤ l.length + 1 := by
 have := uy (g := wiG n) (fun i s => s.2.length ≤ i + s.1.toNat) l 0 (false,[]) (Nat.le_refl _) (fun j a s h => by
  obtain ⟨dn,out⟩ := s
  unfold wiG
  cases dn <;> cases decide (a ≥ n) <;> cases (a != n) <;> simp [Bool.toNat] at h ⊢ <;> omega)
 unfold zoo
 rw [Nat.zero_add] at this
 cases hq : y5 (wiG n) l 0 (false,[]) with
 | mk dn out =>
   rw [hq] at this
   cases dn <;> simp [Bool.toNat] at this ⊢ <;> omega
def z77 (s : List Spn) (a b c : Int) : Bool := !(spn s a).2 || (!(spn s b).2 || (!(spn s c).2 || ((spn s c).1.c == 0 || (((spn s a).1.t != (spn s c).1.t && (decide ((spn s a).1.c > 0) && decide ((spn s a).1.c < (spn s c).1.c))) || (decide ((spn s b).1.c > 0) && decide ((spn s b).1.c < (spn s c).1.c))))))
def rG (s : List Spn) (x : Ed) : Nat → Ed → List Int → List Int := fun _ y out => if (x.t != y.f) = true then out else if z77 s x.f x.t y.t = true then out else if ((spn s x.t).1.c == 0) = true then zoo out (spn s x.t).1.t else if ((spn s x.f).1.c == 0) = true then zoo out (spn s x.f).1.t else out
theorem z1w (s : List Spn) (x : Ed) (i : Nat) (y : Ed) (acc : List Int) (n0 : Nat) (h : acc.length ≤ n0 + i) : (rG s x i y acc).length ≤ n0 + (i + 1) := by
 unfold rG
 have h1 := zmk acc (spn s x.t).1.t
 have h2 := zmk acc (spn s x.f).1.t
 repeat' split
 all_goals omega
theorem z55 (l : List Ed) (s : List Spn) (hl : l.length ≤ 600) (hs : s.length < 1073741824) (i : Nat) (x : Ed) (hi : l[i]? = some x) (acc : List Int) (hacc : acc.length ≤ 1000000) :
  Lω 17 xy 0 (xp (l.map Ed.e) (s.map Spn.e) (acc.map ie) (i : Nat) 0) [] =
  some (.exit 2,mkS 129 [(0,.psl false (l.map Ed.e)),(1,.psl false (s.map Spn.e)),(5,.psl false ((y5 (rG s x) l 0 acc).map ie)),(6,.int .i64 (i : Nat))],[]) :=
 ji (fun j (a : List Int) => xp (l.map Ed.e) (s.map Spn.e) (a.map ie) (i : Nat) (j : Nat)) (fun _ _ => []) l (rG s x)
  (fun a => (.exit 2,mkS 129 [(0,.psl false (l.map Ed.e)),(1,.psl false (s.map Spn.e)),(5,.psl false (a.map ie)),(6,.int .i64 (i : Nat))],[])) (fun j a => a.length ≤ acc.length + j) (fun j y a hg hj ha => by
   refine ⟨z1w s x j y a _ ha,?_⟩
   have hdi : decide (((j : Nat) : Int) < (((l.map Ed.e).length : Nat) : Int)) = true := by rw [decide_eq_true_eq,List.length_map]; omega
   have hw := fun n => z4x a n (show a.length < 1073741824 by omega)
   rw [zwa]
   unfold rG z77
   simp only [hdi,nn,Int.toNat_natCast,zb,y7 hg,y7 hi,Ed.e,Spn.e,zw,ze,ya,yk,yl,zu,zt,zf,zq,zx,zy,za,zh,zl,z8,yn,zi,zd,zm,z6,zg,zk,zj,zp,yh,zr,yi,ym,yf,yg,yb,zn,ye,zo,yd,yc,yp,zb,z7,yj,yr (show j < 4611686018427387904 by omega),z2g s _ (show s.length < 4611686018427387904 by omega),hw,if_true]
   cases (x.t != y.f) <;> simp only [Bool.and_eq_true,Bool.or_eq_true,Bool.not_eq_true',Bool.not_eq_true,Bool.false_eq_true,Bool.true_eq_false,decide_eq_true_eq,decide_eq_false_iff_not,beq_iff_eq,beq_eq_false_iff_ne,bne_iff_ne,ne_eq,ge_iff_le,gt_iff_lt,if_true,if_false,false_and,true_and,and_true,and_false,false_or,true_or,or_true,or_false,Bool.not_true,Bool.not_false,decide_true,decide_false,Bool.and_true,Bool.true_and,Bool.false_and,Bool.and_false,Bool.or_true,Bool.true_or,Bool.false_or,Bool.or_false,not_true,not_false_eq_true,Int.not_lt,Int.not_le,Decidable.not_not]
   cases (spn s x.f).2 <;> simp only [Bool.and_eq_true,Bool.or_eq_true,Bool.not_eq_true',Bool.not_eq_true,Bool.false_eq_true,Bool.true_eq_false,decide_eq_true_eq,decide_eq_false_iff_not,beq_iff_eq,beq_eq_false_iff_ne,bne_iff_ne,ne_eq,ge_iff_le,gt_iff_lt,if_true,if_false,false_and,true_and,and_true,and_false,false_or,true_or,or_true,or_false,Bool.not_true,Bool.not_false,decide_true,decide_false,Bool.and_true,Bool.true_and,Bool.false_and,Bool.and_false,Bool.or_true,Bool.true_or,Bool.false_or,Bool.or_false,not_true,not_false_eq_true,Int.not_lt,Int.not_le,Decidable.not_not]
   cases (spn s x.t).2 <;> simp only [Bool.and_eq_true,Bool.or_eq_true,Bool.not_eq_true',Bool.not_eq_true,Bool.false_eq_true,Bool.true_eq_false,decide_eq_true_eq,decide_eq_false_iff_not,beq_iff_eq,beq_eq_false_iff_ne,bne_iff_ne,ne_eq,ge_iff_le,gt_iff_lt,if_true,if_false,false_and,true_and,and_true,and_false,false_or,true_or,or_true,or_false,Bool.not_true,Bool.not_false,decide_true,decide_false,Bool.and_true,Bool.true_and,Bool.false_and,Bool.and_false,Bool.or_true,Bool.true_or,Bool.false_or,Bool.or_false,not_true,not_false_eq_true,Int.not_lt,Int.not_le,Decidable.not_not]
   cases (spn s y.t).2 <;> simp only [Bool.and_eq_true,Bool.or_eq_true,Bool.not_eq_true',Bool.not_eq_true,Bool.false_eq_true,Bool.true_eq_false,decide_eq_true_eq,decide_eq_false_iff_not,beq_iff_eq,beq_eq_false_iff_ne,bne_iff_ne,ne_eq,ge_iff_le,gt_iff_lt,if_true,if_false,false_and,true_and,and_true,and_false,false_or,true_or,or_true,or_false,Bool.not_true,Bool.not_false,decide_true,decide_false,Bool.and_true,Bool.true_and,Bool.false_and,Bool.and_false,Bool.or_true,Bool.true_or,Bool.false_or,Bool.or_false,not_true,not_false_eq_true,Int.not_lt,Int.not_le,Decidable.not_not]
   (repeat' split) <;> first | rfl | (exfalso; omega)) (fun a ha => by rw [zwa]; simp only [List.length_map,Int.lt_irrefl,decide_false,Bool.false_eq_true,if_false]) acc (Nat.le_refl _)
def roG (l : List Ed) (s : List Spn) : Nat → Ed → List Int → List Int := fun _ x acc => y5 (rG s x) l 0 acc
theorem z2v (l : List Ed) (s : List Spn) (x : Ed) (acc : List Int) : (y5 (rG s x) l 0 acc).length ≤ acc.length + l.length := by
 have := uy (g := rG s x) (fun i a => a.length ≤ acc.length + i) l 0 acc (Nat.le_refl _) (fun j a s' h => z1w s x j a s' _ h)
 rwa [Nat.zero_add] at this
def zuw (l : List Ed) (s : List Spn) : List Int := y5 (roG l s) l 0 []
theorem z41 (l : List Ed) (s : List Spn) (hl : l.length ≤ 600) (hs : s.length < 1073741824) : yo Cω 17 [.psl false (l.map Ed.e),.psl false (s.map Spn.e)] = some (.psl false ((zuw l s).map ie)) := by
 have ev := z91 Cω Lω (l.map Ed.e) (s.map Spn.e)
 have lp : Lω 17 zin 0 (zhl (l.map Ed.e) (s.map Spn.e) [] 0) [] = _ :=
  ji (fun j (a : List Int) => zhl (l.map Ed.e) (s.map Spn.e) (a.map ie) (j : Nat)) (fun _ _ => []) l (roG l s)
   (fun a => (.exit 0,mkS 129 [(5,.psl false (a.map ie))],[])) (fun j a => a.length ≤ 600 * j) (fun j x a hg hj ha => by
    refine ⟨?_,?_⟩
    ·have := z2v l s x a
     unfold roG
     omega
    have lp := z55 l s hl hs j x hg a (by omega)
    have hdi : decide (((j : Nat) : Int) < (((l.map Ed.e).length : Nat) : Int)) = true := by rw [decide_eq_true_eq,List.length_map]; omega
    rw [zwb]
    simp only [hdi,if_true]
    rw [lp]
    simp only [zw,ze,ya,yk,yl,zu,zt,zf,zq,zx,zy,za,zh,zl,z8,yn,zi,zd,zm,z6,zg,zk,zj,zp,yh,zr,yi,ym,yf,yg,yb,zn,ye,zo,yd,yc,yp,zb,z7,yj,y4,y2,ne_eq,not_false_eq_true,Nat.reduceLT,Nat.reduceEqDiff,if_true,yr (show j < 4611686018427387904 by omega)]
    rfl) (fun a ha => by rw [zwb]; simp only [List.length_map,Int.lt_irrefl,decide_false,Bool.false_eq_true,if_false]) [] (Nat.le_refl _)
 rw [lp] at ev
 simp only [zw,ze,ya,yk,yl,zu,zt,zf,zq,zx,zy,za,zh,zl,z8,yn,zi,zd,zm,z6,zg,zk,zj,zp,yh,zr,yi,ym,yf,yg,yb,zn,ye,zo,yd,yc,yp,zb,z7,yj,y4,y2,ne_eq,not_false_eq_true,Nat.reduceLT,Nat.reduceEqDiff,if_true] at ev
 exact pc ev rfl
end Go.Pvm.S
