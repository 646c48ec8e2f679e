/- Part of the proof: edges: alike; one more; without somebody's: the program's and the document's. -/
import Derived.Test.YtjfgklgcbogejaaGreatEdgeC
set_option linter.unusedSimpArgs false
set_option linter.unusedVariables false
set_option maxRecDepth 100000
namespace Go.Pvm.S
open Go.Pvm Go.Proofs
theorem yay (a b : Ed) : zch Tryz.prog .neq 69 (.agg a.e) (.agg b.e) = some (.bool (!decide (a = b))) := by
 have h : zch Tryz.prog .neq 69 (.agg a.e) (.agg b.e) = Option.map (fun b => PV.bool !b) (if (a.f == b.f) = true then (if (a.t == b.t) = true then some true else some false) else some false) := by kernel_rfl
 rw [h]
 obtain ⟨x,y⟩ := a
 obtain ⟨x',y'⟩ := b
 simp only [Ed.mk.injEq]
 by_cases h1 : x = x' <;> by_cases h2 : y = y' <;> simp [h1,h2]
theorem z6d (a b : List Ed) (hl : a.length < 4611686018427387904) (hab : a.length = b.length) : Lω 46 zle 0 (zhh (a.map Ed.e) (b.map Ed.e)  0) [] =
  some (if allI (fun i x => decide (b[i]? = some x)) a 0 = true then (.exit 0,mkS 26 [],[]) else (.ret,mkS 26 [(4,.bool false)],[])) :=
 uu (fun i => zhh (a.map Ed.e) (b.map Ed.e)  (i : Nat)) [] a (fun i x => decide (b[i]? = some x)) _ _ (fun i x hg hi => by
  have hb : b[i]? = some b[i] := List.getElem?_eq_getElem (by omega)
  have hm := y7 (f := Ed.e) hb
  have hne := yay x b[i]
  rw [zv0]
  simp only [Ed.e] at hm hne
  simp only [decide_eq_true_eq,Int.ofNat_lt,List.length_map,if_true,nn,true_and,Int.toNat_natCast,zb,hi,y7 hg,hm,Ed.e,zw,ze,ya,yk,yl,zu,zt,zf,zq,zx,zy,za,zh,zl,z8,yn,zi,zd,zm,z6,zg,zk,zj,zp,yh,zr,yi,ym,yf,yg,yb,zn,ye,zo,yd,yc,yp,zb,z7,yj,hne,hb,yr (show i < 4611686018427387904 by omega)]
  by_cases h : x = b[i]
  ·subst h
   simp only [Bool.not_true,Bool.false_eq_true,decide_true,if_true,if_false,bne_self_eq_false,Option.some.injEq]
   try rfl
  ·have h' : ¬ b[i] = x := fun e => h e.symm
   simp only [h,h',decide_false,Bool.not_false,if_true,if_false,Option.some.injEq,Bool.false_eq_true,Bool.and_eq_true,Bool.or_eq_true,Bool.not_eq_true',Bool.not_eq_true,Bool.false_eq_true,Bool.true_eq_false,decide_eq_true_eq,decide_eq_false_iff_not,beq_iff_eq,beq_eq_false_iff_ne,bne_iff_ne,ne_eq,ge_iff_le,gt_iff_lt,if_true,if_false,false_and,true_and,and_true,and_false,false_or,true_or,or_true,or_false,Bool.not_true,Bool.not_false,decide_true,decide_false,Bool.and_true,Bool.true_and,Bool.false_and,Bool.and_false,Bool.or_true,Bool.true_or,Bool.false_or,Bool.or_false,not_true,not_false_eq_true,Int.not_lt,Int.not_le,Decidable.not_not]) (by rw [zv0]; simp only [decide_eq_true_eq,Int.ofNat_lt,List.length_map,if_true,nn,true_and,Int.toNat_natCast,zb,Nat.lt_irrefl,if_false])
theorem z6c (a b : List Ed) (hl : a.length < 4611686018427387904) : yo Cω 46 [.psl false (a.map Ed.e),.psl false (b.map Ed.e)] = some (.bool (decide (a = b))) := by
 have ev := z9k Cω Lω (a.map Ed.e) (b.map Ed.e)
 rw [List.length_map,List.length_map] at ev
 by_cases h : a.length = b.length
 ·rw [if_neg (by rw [zpg]; exact fun e => e h)] at ev
  have lp := z6d a b hl h
  rw [lp] at ev
  rw [zw8 h] at ev
  by_cases h2 : a = b
  ·simp only [h2,decide_true,if_true,zw,ze,ya,yk,yl,zu,zt,zf,zq,zx,zy,za,zh,zl,z8,yn,zi,zd,zm,z6,zg,zk,zj,zp,yh,zr,yi,ym,yf,yg,yb,zn,ye,zo,yd,yc,yp,zb,z7,yj] at ev ⊢
   exact pc ev rfl
  ·simp only [h2,decide_false,Bool.false_eq_true,if_false,zw,ze,ya,yk,yl,zu,zt,zf,zq,zx,zy,za,zh,zl,z8,yn,zi,zd,zm,z6,zg,zk,zj,zp,yh,zr,yi,ym,yf,yg,yb,zn,ye,zo,yd,yc,yp,zb,z7,yj,y4,y2,ne_eq,not_false_eq_true,Nat.reduceLT,Nat.reduceEqDiff] at ev ⊢
   exact pc ev rfl
 ·rw [if_pos (by rw [zpg]; exact h)] at ev
  have h2 : ¬ a = b := fun e => h (by rw [e])
  rw [decide_eq_false h2]
  exact pc ev rfl
end Go.Pvm.S
