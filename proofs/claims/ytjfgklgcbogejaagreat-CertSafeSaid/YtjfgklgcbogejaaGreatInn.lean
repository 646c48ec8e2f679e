/- Part of the proof: numbers that may be; numbers alike. -/
import Derived.Test.YtjfgklgcbogejaaGreatCmpK
set_option linter.unusedSimpArgs false
set_option linter.unusedVariables false
set_option maxRecDepth 100000
namespace Go.Pvm.S
open Go.Pvm Go.Proofs
def inn (n : Int) : Bool := decide (n ≥ 1) && decide (n ≤ 2147483647)
theorem inn_iff {n : Int} : inn n = true ↔ 1 ≤ n ∧ n ≤ 2147483647 := by
 unfold inn
 rw [Bool.and_eq_true,decide_eq_true_eq,decide_eq_true_eq]
theorem z8n (a b : Int) : (a != b) = !decide (a = b) := by by_cases h : a = b <;> simp [h]
theorem z7j (a b : List Int) (hl : a.length < 4611686018427387904) (hab : a.length = b.length) : Lω 44 zlg 0 (zhj (a.map ie) (b.map ie)  0) [] =
  some (if allI (fun i x => decide (b[i]? = some x)) a 0 = true then (.exit 0,mkS 26 [],[]) else (.ret,mkS 26 [(4,.bool false)],[])) :=
 uu (fun i => zhj (a.map ie) (b.map ie)  (i : Nat)) [] a (fun i x => decide (b[i]? = some x)) _ _ (fun i x hg hi => by
  have hb : b[i]? = some b[i] := List.getElem?_eq_getElem (by omega)
  have hm := y7 (f := ie) hb
  have hne := z8n x b[i]
  rw [zv2]
  simp only [ie] at hm hne
  simp only [decide_eq_true_eq,Int.ofNat_lt,List.length_map,if_true,nn,true_and,Int.toNat_natCast,zb,hi,y7 hg,hm,ie,zw,ze,ya,yk,yl,zu,zt,zf,zq,zx,zy,za,zh,zl,z8,yn,zi,zd,zm,z6,zg,zk,zj,zp,yh,zr,yi,ym,yf,yg,yb,zn,ye,zo,yd,yc,yp,zb,z7,yj,hne,hb,yr (show i < 4611686018427387904 by omega)]
  by_cases h : x = b[i]
  ·subst h
   simp only [Bool.not_true,Bool.false_eq_true,decide_true,if_true,if_false,bne_self_eq_false,Option.some.injEq]
   try rfl
  ·have h' : ¬ b[i] = x := fun e => h e.symm
   simp only [h,h',decide_false,Bool.not_false,if_true,if_false,Option.some.injEq,Bool.false_eq_true,Bool.and_eq_true,Bool.or_eq_true,Bool.not_eq_true',Bool.not_eq_true,Bool.false_eq_true,Bool.true_eq_false,decide_eq_true_eq,decide_eq_false_iff_not,beq_iff_eq,beq_eq_false_iff_ne,bne_iff_ne,ne_eq,ge_iff_le,gt_iff_lt,if_true,if_false,false_and,true_and,and_true,and_false,false_or,true_or,or_true,or_false,Bool.not_true,Bool.not_false,decide_true,decide_false,Bool.and_true,Bool.true_and,Bool.false_and,Bool.and_false,Bool.or_true,Bool.true_or,Bool.false_or,Bool.or_false,not_true,not_false_eq_true,Int.not_lt,Int.not_le,Decidable.not_not]) (by rw [zv2]; simp only [decide_eq_true_eq,Int.ofNat_lt,List.length_map,if_true,nn,true_and,Int.toNat_natCast,zb,Nat.lt_irrefl,if_false])
theorem z7i (a b : List Int) (hl : a.length < 4611686018427387904) : yo Cω 44 [.psl false (a.map ie),.psl false (b.map ie)] = some (.bool (decide (a = b))) := by
 have ev := z9m Cω Lω (a.map ie) (b.map ie)
 rw [List.length_map,List.length_map] at ev
 by_cases h : a.length = b.length
 ·rw [if_neg (by rw [zpg]; exact fun e => e h)] at ev
  have lp := z7j a b hl h
  rw [lp] at ev
  rw [zw8 h] at ev
  by_cases h2 : a = b
  ·simp only [h2,decide_true,if_true,zw,ze,ya,yk,yl,zu,zt,zf,zq,zx,zy,za,zh,zl,z8,yn,zi,zd,zm,z6,zg,zk,zj,zp,yh,zr,yi,ym,yf,yg,yb,zn,ye,zo,yd,yc,yp,zb,z7,yj] at ev ⊢
   exact pc ev rfl
  ·simp only [h2,decide_false,Bool.false_eq_true,if_false,zw,ze,ya,yk,yl,zu,zt,zf,zq,zx,zy,za,zh,zl,z8,yn,zi,zd,zm,z6,zg,zk,zj,zp,yh,zr,yi,ym,yf,yg,yb,zn,ye,zo,yd,yc,yp,zb,z7,yj,y4,y2,ne_eq,not_false_eq_true,Nat.reduceLT,Nat.reduceEqDiff] at ev ⊢
   exact pc ev rfl
 ·rw [if_pos (by rw [zpg]; exact h)] at ev
  have h2 : ¬ a = b := fun e => h (by rw [e])
  rw [decide_eq_false h2]
  exact pc ev rfl
theorem rm8 {n : Nat} (h : n < 4294967295) : (n + 1) * 8 ≤ 140737488355328 := by omega
end Go.Pvm.S
