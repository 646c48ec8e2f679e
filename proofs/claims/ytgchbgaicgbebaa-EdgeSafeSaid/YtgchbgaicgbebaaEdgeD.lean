/- Part of the proof: edges: alike; one more; without somebody's: the program's and the document's. -/
import Derived.Test.YtgchbgaicgbebaaEdgeC
set_option linter.unusedSimpArgs false
set_option linter.unusedVariables false
set_option maxRecDepth 100000
namespace Go.Pvm.S
open Go.Pvm Go.Proofs
theorem neEd (a b : Ed) : binv Try.prog .neq 37 (.agg a.e) (.agg b.e) = some (.bool (!decide (a = b))) := by
  have h : binv Try.prog .neq 37 (.agg a.e) (.agg b.e) = Option.map (fun b => PV.bool !b) (if (a.f == b.f) = true then (if (a.t == b.t) = true then some true else some false) else some false) := by kernel_rfl
  rw [h]
  obtain ⟨x, y⟩ := a
  obtain ⟨x', y'⟩ := b
  simp only [Ed.mk.injEq]
  by_cases h1 : x = x' <;> by_cases h2 : y = y' <;> simp [h1, h2]
theorem neInt (a b : Int) : (a != b) = !decide (a = b) := by by_cases h : a = b <;> simp [h]
/-! Alike? -/
theorem eqE_lp (a b : List Ed) (hl : a.length < 4611686018427387904) (hab : a.length = b.length) : Lω 34 lcK34_4 0 (stK34_4 (a.map Ed.e) (b.map Ed.e) (a.length : Nat) 0) [] =
    some (if allI (fun i x => decide (b[i]? = some x)) a 0 = true then (.exit 0, mkS 26 [], []) else (.ret, mkS 26 [(4, .bool false)], [])) :=
  loopCheck (fun i => stK34_4 (a.map Ed.e) (b.map Ed.e) (a.length : Nat) (i : Nat)) [] a (fun i x => decide (b[i]? = some x)) _ _ (fun i x hg hi => by
    have hb : b[i]? = some b[i] := List.getElem?_eq_getElem (by omega)
    have hm := mapGet (f := Ed.e) hb
    have hne := neEd x b[i]
    rw [lqK34_4]
    simp only [Ed.e] at hm hne
    simp only [decide_eq_true_eq, Int.ofNat_lt, List.length_map, if_true, nn, true_and, Int.toNat_natCast, bind_some', hi, mapGet hg, hm, Ed.e, asInt_int, asBool_bool, asStr_str, asSl_psl, asSl_nil, asAgg_agg, asTup_tup, asCons_cons, asNil_nil, asFlt_flt, asRef_ref, asWhole_whole, asView_view, asWv_whole, asWv_view, asFn_fn, asPref_pref, asOCons_cons, asONil_nil, asBox_box, asMade_made, asGone_dead, asGone_made, bind_some', onEx_exit, onEx_ret, hne, hb, wrap_succ (show i < 4611686018427387904 by omega)]
    by_cases h : x = b[i]
    · subst h
      simp only [Bool.not_true, Bool.false_eq_true, decide_true, if_true, if_false, bne_self_eq_false, Option.some.injEq]
      try rfl
    · have h' : ¬ b[i] = x := fun e => h e.symm
      simp only [h, h', decide_false, Bool.not_false, if_true, if_false, Option.some.injEq, Bool.false_eq_true, Bool.and_eq_true, Bool.or_eq_true, Bool.not_eq_true', Bool.not_eq_true, Bool.false_eq_true, Bool.true_eq_false, decide_eq_true_eq, decide_eq_false_iff_not, beq_iff_eq, beq_eq_false_iff_ne, bne_iff_ne, ne_eq, ge_iff_le, gt_iff_lt, if_true, if_false, false_and, true_and, and_true, and_false, false_or, true_or, or_true, or_false, Bool.not_true, Bool.not_false, decide_true, decide_false, Bool.and_true, Bool.true_and, Bool.false_and, Bool.and_false, Bool.or_true, Bool.true_or, Bool.false_or, Bool.or_false, not_true, not_false_eq_true, Int.not_lt, Int.not_le, Decidable.not_not]) (by rw [lqK34_4]; simp only [decide_eq_true_eq, Int.ofNat_lt, List.length_map, if_true, nn, true_and, Int.toNat_natCast, bind_some', Nat.lt_irrefl, if_false])
theorem eqE_sp (a b : List Ed) (hl : a.length < 4611686018427387904) : pcall Cω 34 [.psl false (a.map Ed.e), .psl false (b.map Ed.e)] = some (.bool (decide (a = b))) := by
  have ev := eqK34 Cω Lω (a.map Ed.e) (b.map Ed.e)
  rw [List.length_map, List.length_map] at ev
  by_cases h : a.length = b.length
  · rw [if_neg (by rw [neLen]; exact fun e => e h)] at ev
    have lp := eqE_lp a b hl h
    rw [lp] at ev
    rw [eqAll0 h] at ev
    by_cases h2 : a = b
    · simp only [h2, decide_true, if_true, asInt_int, asBool_bool, asStr_str, asSl_psl, asSl_nil, asAgg_agg, asTup_tup, asCons_cons, asNil_nil, asFlt_flt, asRef_ref, asWhole_whole, asView_view, asWv_whole, asWv_view, asFn_fn, asPref_pref, asOCons_cons, asONil_nil, asBox_box, asMade_made, asGone_dead, asGone_made, bind_some', onEx_exit, onEx_ret] at ev ⊢
      exact pc ev rfl
    · simp only [h2, decide_false, Bool.false_eq_true, if_false, asInt_int, asBool_bool, asStr_str, asSl_psl, asSl_nil, asAgg_agg, asTup_tup, asCons_cons, asNil_nil, asFlt_flt, asRef_ref, asWhole_whole, asView_view, asWv_whole, asWv_view, asFn_fn, asPref_pref, asOCons_cons, asONil_nil, asBox_box, asMade_made, asGone_dead, asGone_made, bind_some', onEx_exit, onEx_ret, mkS_hit, mkS_miss, ne_eq, not_false_eq_true, Nat.reduceLT, Nat.reduceEqDiff] at ev ⊢
      exact pc ev rfl
  · rw [if_pos (by rw [neLen]; exact h)] at ev
    have h2 : ¬ a = b := fun e => h (by rw [e])
    rw [decide_eq_false h2]
    exact pc ev rfl

/-! Alike? -/
theorem eqR_lp (a b : List Ed) (hl : a.length < 4611686018427387904) (hab : a.length = b.length) : Lω 17 lcK17_4 0 (stK17_4 (a.map Ed.e) (b.map Ed.e)  0) [] =
    some (if allI (fun i x => decide (b[i]? = some x)) a 0 = true then (.exit 0, mkS 26 [], []) else (.ret, mkS 26 [(4, .bool false)], [])) :=
  loopCheck (fun i => stK17_4 (a.map Ed.e) (b.map Ed.e)  (i : Nat)) [] a (fun i x => decide (b[i]? = some x)) _ _ (fun i x hg hi => by
    have hb : b[i]? = some b[i] := List.getElem?_eq_getElem (by omega)
    have hm := mapGet (f := Ed.e) hb
    have hne := neEd x b[i]
    rw [lqK17_4]
    simp only [Ed.e] at hm hne
    simp only [decide_eq_true_eq, Int.ofNat_lt, List.length_map, if_true, nn, true_and, Int.toNat_natCast, bind_some', hi, mapGet hg, hm, Ed.e, asInt_int, asBool_bool, asStr_str, asSl_psl, asSl_nil, asAgg_agg, asTup_tup, asCons_cons, asNil_nil, asFlt_flt, asRef_ref, asWhole_whole, asView_view, asWv_whole, asWv_view, asFn_fn, asPref_pref, asOCons_cons, asONil_nil, asBox_box, asMade_made, asGone_dead, asGone_made, bind_some', onEx_exit, onEx_ret, hne, hb, wrap_succ (show i < 4611686018427387904 by omega)]
    by_cases h : x = b[i]
    · subst h
      simp only [Bool.not_true, Bool.false_eq_true, decide_true, if_true, if_false, bne_self_eq_false, Option.some.injEq]
      try rfl
    · have h' : ¬ b[i] = x := fun e => h e.symm
      simp only [h, h', decide_false, Bool.not_false, if_true, if_false, Option.some.injEq, Bool.false_eq_true, Bool.and_eq_true, Bool.or_eq_true, Bool.not_eq_true', Bool.not_eq_true, Bool.false_eq_true, Bool.true_eq_false, decide_eq_true_eq, decide_eq_false_iff_not, beq_iff_eq, beq_eq_false_iff_ne, bne_iff_ne, ne_eq, ge_iff_le, gt_iff_lt, if_true, if_false, false_and, true_and, and_true, and_false, false_or, true_or, or_true, or_false, Bool.not_true, Bool.not_false, decide_true, decide_false, Bool.and_true, Bool.true_and, Bool.false_and, Bool.and_false, Bool.or_true, Bool.true_or, Bool.false_or, Bool.or_false, not_true, not_false_eq_true, Int.not_lt, Int.not_le, Decidable.not_not]) (by rw [lqK17_4]; simp only [decide_eq_true_eq, Int.ofNat_lt, List.length_map, if_true, nn, true_and, Int.toNat_natCast, bind_some', Nat.lt_irrefl, if_false])
theorem eqR_sp (a b : List Ed) (hl : a.length < 4611686018427387904) : pcall Cω 17 [.psl false (a.map Ed.e), .psl false (b.map Ed.e)] = some (.bool (decide (a = b))) := by
  have ev := eqK17 Cω Lω (a.map Ed.e) (b.map Ed.e)
  rw [List.length_map, List.length_map] at ev
  by_cases h : a.length = b.length
  · rw [if_neg (by rw [neLen]; exact fun e => e h)] at ev
    have lp := eqR_lp a b hl h
    rw [lp] at ev
    rw [eqAll0 h] at ev
    by_cases h2 : a = b
    · simp only [h2, decide_true, if_true, asInt_int, asBool_bool, asStr_str, asSl_psl, asSl_nil, asAgg_agg, asTup_tup, asCons_cons, asNil_nil, asFlt_flt, asRef_ref, asWhole_whole, asView_view, asWv_whole, asWv_view, asFn_fn, asPref_pref, asOCons_cons, asONil_nil, asBox_box, asMade_made, asGone_dead, asGone_made, bind_some', onEx_exit, onEx_ret] at ev ⊢
      exact pc ev rfl
    · simp only [h2, decide_false, Bool.false_eq_true, if_false, asInt_int, asBool_bool, asStr_str, asSl_psl, asSl_nil, asAgg_agg, asTup_tup, asCons_cons, asNil_nil, asFlt_flt, asRef_ref, asWhole_whole, asView_view, asWv_whole, asWv_view, asFn_fn, asPref_pref, asOCons_cons, asONil_nil, asBox_box, asMade_made, asGone_dead, asGone_made, bind_some', onEx_exit, onEx_ret, mkS_hit, mkS_miss, ne_eq, not_false_eq_true, Nat.reduceLT, Nat.reduceEqDiff] at ev ⊢
      exact pc ev rfl
  · rw [if_pos (by rw [neLen]; exact h)] at ev
    have h2 : ¬ a = b := fun e => h (by rw [e])
    rw [decide_eq_false h2]
    exact pc ev rfl

/-! Alike? -/
theorem eqI_lp (a b : List Int) (hl : a.length < 4611686018427387904) (hab : a.length = b.length) : Lω 12 lcK12_4 0 (stK12_4 (a.map ie) (b.map ie)  0) [] =
    some (if allI (fun i x => decide (b[i]? = some x)) a 0 = true then (.exit 0, mkS 26 [], []) else (.ret, mkS 26 [(4, .bool false)], [])) :=
  loopCheck (fun i => stK12_4 (a.map ie) (b.map ie)  (i : Nat)) [] a (fun i x => decide (b[i]? = some x)) _ _ (fun i x hg hi => by
    have hb : b[i]? = some b[i] := List.getElem?_eq_getElem (by omega)
    have hm := mapGet (f := ie) hb
    have hne := neInt x b[i]
    rw [lqK12_4]
    simp only [ie] at hm hne
    simp only [decide_eq_true_eq, Int.ofNat_lt, List.length_map, if_true, nn, true_and, Int.toNat_natCast, bind_some', hi, mapGet hg, hm, ie, asInt_int, asBool_bool, asStr_str, asSl_psl, asSl_nil, asAgg_agg, asTup_tup, asCons_cons, asNil_nil, asFlt_flt, asRef_ref, asWhole_whole, asView_view, asWv_whole, asWv_view, asFn_fn, asPref_pref, asOCons_cons, asONil_nil, asBox_box, asMade_made, asGone_dead, asGone_made, bind_some', onEx_exit, onEx_ret, hne, hb, wrap_succ (show i < 4611686018427387904 by omega)]
    by_cases h : x = b[i]
    · subst h
      simp only [Bool.not_true, Bool.false_eq_true, decide_true, if_true, if_false, bne_self_eq_false, Option.some.injEq]
      try rfl
    · have h' : ¬ b[i] = x := fun e => h e.symm
      simp only [h, h', decide_false, Bool.not_false, if_true, if_false, Option.some.injEq, Bool.false_eq_true, Bool.and_eq_true, Bool.or_eq_true, Bool.not_eq_true', Bool.not_eq_true, Bool.false_eq_true, Bool.true_eq_false, decide_eq_true_eq, decide_eq_false_iff_not, beq_iff_eq, beq_eq_false_iff_ne, bne_iff_ne, ne_eq, ge_iff_le, gt_iff_lt, if_true, if_false, false_and, true_and, and_true, and_false, false_or, true_or, or_true, or_false, Bool.not_true, Bool.not_false, decide_true, decide_false, Bool.and_true, Bool.true_and, Bool.false_and, Bool.and_false, Bool.or_true, Bool.true_or, Bool.false_or, Bool.or_false, not_true, not_false_eq_true, Int.not_lt, Int.not_le, Decidable.not_not]) (by rw [lqK12_4]; simp only [decide_eq_true_eq, Int.ofNat_lt, List.length_map, if_true, nn, true_and, Int.toNat_natCast, bind_some', Nat.lt_irrefl, if_false])
theorem eqI_sp (a b : List Int) (hl : a.length < 4611686018427387904) : pcall Cω 12 [.psl false (a.map ie), .psl false (b.map ie)] = some (.bool (decide (a = b))) := by
  have ev := eqK12 Cω Lω (a.map ie) (b.map ie)
  rw [List.length_map, List.length_map] at ev
  by_cases h : a.length = b.length
  · rw [if_neg (by rw [neLen]; exact fun e => e h)] at ev
    have lp := eqI_lp a b hl h
    rw [lp] at ev
    rw [eqAll0 h] at ev
    by_cases h2 : a = b
    · simp only [h2, decide_true, if_true, asInt_int, asBool_bool, asStr_str, asSl_psl, asSl_nil, asAgg_agg, asTup_tup, asCons_cons, asNil_nil, asFlt_flt, asRef_ref, asWhole_whole, asView_view, asWv_whole, asWv_view, asFn_fn, asPref_pref, asOCons_cons, asONil_nil, asBox_box, asMade_made, asGone_dead, asGone_made, bind_some', onEx_exit, onEx_ret] at ev ⊢
      exact pc ev rfl
    · simp only [h2, decide_false, Bool.false_eq_true, if_false, asInt_int, asBool_bool, asStr_str, asSl_psl, asSl_nil, asAgg_agg, asTup_tup, asCons_cons, asNil_nil, asFlt_flt, asRef_ref, asWhole_whole, asView_view, asWv_whole, asWv_view, asFn_fn, asPref_pref, asOCons_cons, asONil_nil, asBox_box, asMade_made, asGone_dead, asGone_made, bind_some', onEx_exit, onEx_ret, mkS_hit, mkS_miss, ne_eq, not_false_eq_true, Nat.reduceLT, Nat.reduceEqDiff] at ev ⊢
      exact pc ev rfl
  · rw [if_pos (by rw [neLen]; exact h)] at ev
    have h2 : ¬ a = b := fun e => h (by rw [e])
    rw [decide_eq_false h2]
    exact pc ev rfl

theorem spSame (a b : List Ed) (hl : a.length < 4611686018427387904) : pcall Cω 19 [.psl false (a.map Ed.e), .psl false (b.map Ed.e)] = some (.bool (decide (a = b))) := by
  have ev := eqK19 Cω Lω (a.map Ed.e) (b.map Ed.e)
  simp only [eqE_sp a b hl, asInt_int, asBool_bool, asStr_str, asSl_psl, asSl_nil, asAgg_agg, asTup_tup, asCons_cons, asNil_nil, asFlt_flt, asRef_ref, asWhole_whole, asView_view, asWv_whole, asWv_view, asFn_fn, asPref_pref, asOCons_cons, asONil_nil, asBox_box, asMade_made, asGone_dead, asGone_made, bind_some', onEx_exit, onEx_ret] at ev
  exact pc ev rfl
end Go.Pvm.S
