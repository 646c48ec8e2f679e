/- Part of the proof: views: of many; alike. -/
import Derived.Test.YtkipbdbmeanffaaVmB
set_option linter.unusedSimpArgs false
set_option linter.unusedVariables false
set_option maxRecDepth 100000
namespace Go.Pvm.S
open Go.Pvm Go.Proofs
theorem drop_eq {a b : List Int} {i : Nat} (h : i < a.length) (h' : i < b.length) : decide (a.drop i = b.drop i) = (a.getD i 0 == b.getD i 0 && decide (a.drop (i + 1) = b.drop (i + 1))) := by
  have e1 : a.drop i = a.getD i 0 :: a.drop (i + 1) := by rw [List.drop_eq_getElem_cons h, List.getD_eq_getElem?_getD, List.getElem?_eq_getElem h]; rfl
  have e2 : b.drop i = b.getD i 0 :: b.drop (i + 1) := by rw [List.drop_eq_getElem_cons h', List.getD_eq_getElem?_getD, List.getElem?_eq_getElem h']; rfl
  rw [e1, e2]
  by_cases h1 : a.getD i 0 = b.getD i 0
  · rw [beq_iff_eq.2 h1, Bool.true_and]
    exact decide_eq_decide.2 ⟨fun h => (List.cons.inj h).2, fun h => by rw [h1, h]⟩
  · rw [beq_eq_false_iff_ne.2 h1, Bool.false_and]
    exact decide_eq_false fun h => h1 (List.cons.inj h).1
theorem lpInts (a b : List Int) (hl : a.length < 4611686018427387904) (hab : a.length = b.length) : ∀ k i : Nat, i + k = a.length → Lω 21 lcK21_4 0 (stK21_4 (a.map ie) (b.map ie) (i : Nat)) [] = some (if decide (a.drop i = b.drop i) = true then (.exit 0, mkS 26 [], []) else (.ret, mkS 26 [(4, .bool false)], []))
  | 0, i, h => by
    refine lw ?_
    rw [lqK21_4, if_neg (by simp; omega), List.drop_of_length_le (by omega), List.drop_of_length_le (by omega)]
    rfl
  | k + 1, i, h => by
    have hi : i < a.length := by omega
    have hi' : i < b.length := by omega
    have ih := lpInts a b hl hab k (i + 1) (by omega)
    rw [drop_eq hi hi']
    refine lw ?_
    rw [lqK21_4, if_pos (by simp; omega), if_pos (by omega), Int.toNat_natCast, mapGet (getDL hi)]
    simp only [ie, asInt_int, asBool_bool, asStr_str, asSl_psl, asSl_nil, asAgg_agg, asTup_tup, asCons_cons, asNil_nil, asFlt_flt, asRef_ref, asWhole_whole, asView_view, asWv_whole, asWv_view, asFn_fn, asPref_pref, asOCons_cons, asONil_nil, asBox_box, asMade_made, asGone_dead, asGone_made, asCI_cons, asCB_cons, asCF_cons, asCS_psl, asCS_nil, asCW_cons, asCR_cons, asOM_cons, asOM_false, asOB_cons, asOB_false, asOG_dead, asOG_made, gS_mk, bind_some', onEx_exit, onEx_ret]
    rw [if_pos (by omega)]
    have hq := mapGet (f := ie) (getDL hi')
    simp only [ie] at hq ih
    rw [hq]
    simp only [asInt_int, asBool_bool, asStr_str, asSl_psl, asSl_nil, asAgg_agg, asTup_tup, asCons_cons, asNil_nil, asFlt_flt, asRef_ref, asWhole_whole, asView_view, asWv_whole, asWv_view, asFn_fn, asPref_pref, asOCons_cons, asONil_nil, asBox_box, asMade_made, asGone_dead, asGone_made, asCI_cons, asCB_cons, asCF_cons, asCS_psl, asCS_nil, asCW_cons, asCR_cons, asOM_cons, asOM_false, asOB_cons, asOB_false, asOG_dead, asOG_made, gS_mk, bind_some', onEx_exit, onEx_ret]
    generalize a.getD i 0 = x
    generalize b.getD i 0 = y
    by_cases h1 : x = y
    · rw [if_neg (by simpa using h1), wrap_succ (by omega), beq_iff_eq.2 h1, Bool.true_and]
      exact ih
    · rw [if_pos (by simpa using h1), beq_eq_false_iff_ne.2 h1, Bool.false_and, if_neg (by decide)]
theorem spInts (a b : List Int) (hl : a.length < 4611686018427387904) : pcall Cω 21 [.psl false (a.map ie), .psl false (b.map ie)] = some (.bool (decide (a = b))) := by
  have ev := eqK21 Cω Lω (a.map ie) (b.map ie)
  simp only [List.length_map] at ev
  by_cases hab : a.length = b.length
  · have lp := lpInts a b hl hab a.length 0 (by omega)
    rw [List.drop_zero, List.drop_zero, natz] at lp
    rw [if_neg (by simp [hab]), lp] at ev
    by_cases h : decide (a = b) = true
    · rw [if_pos h] at ev
      simp only [asInt_int, asBool_bool, asStr_str, asSl_psl, asSl_nil, asAgg_agg, asTup_tup, asCons_cons, asNil_nil, asFlt_flt, asRef_ref, asWhole_whole, asView_view, asWv_whole, asWv_view, asFn_fn, asPref_pref, asOCons_cons, asONil_nil, asBox_box, asMade_made, asGone_dead, asGone_made, asCI_cons, asCB_cons, asCF_cons, asCS_psl, asCS_nil, asCW_cons, asCR_cons, asOM_cons, asOM_false, asOB_cons, asOB_false, asOG_dead, asOG_made, gS_mk, bind_some', onEx_exit, onEx_ret, if_true] at ev
      rw [h]
      exact pc ev rfl
    · rw [if_neg h] at ev
      simp only [asInt_int, asBool_bool, asStr_str, asSl_psl, asSl_nil, asAgg_agg, asTup_tup, asCons_cons, asNil_nil, asFlt_flt, asRef_ref, asWhole_whole, asView_view, asWv_whole, asWv_view, asFn_fn, asPref_pref, asOCons_cons, asONil_nil, asBox_box, asMade_made, asGone_dead, asGone_made, asCI_cons, asCB_cons, asCF_cons, asCS_psl, asCS_nil, asCW_cons, asCR_cons, asOM_cons, asOM_false, asOB_cons, asOB_false, asOG_dead, asOG_made, gS_mk, bind_some', onEx_exit, onEx_ret, getD_mkS (show 4 < 26 by decide)] at ev
      rw [Bool.eq_false_iff.2 h]
      exact pc ev rfl
  · rw [if_pos (by simp; omega)] at ev
    rw [decide_eq_false (fun h => hab (by rw [h]))]
    exact pc ev rfl
def same (a b : Vw) : Bool := if a.s = b.s then (if a.n = b.n then decide (a.a = b.a) else false) else false
theorem spRSame (a b : Vw) (hl : a.a.length < 4611686018427387904) : pcall Cω 10 [.agg a.e, .agg b.e] = some (.bool (same a b)) := by
  have ev := eqK10 Cω Lω a.s a.n (a.a.map ie) b.s b.n (b.a.map ie)
  rw [spInts _ _ hl] at ev
  simp only [asInt_int, asBool_bool, asStr_str, asSl_psl, asSl_nil, asAgg_agg, asTup_tup, asCons_cons, asNil_nil, asFlt_flt, asRef_ref, asWhole_whole, asView_view, asWv_whole, asWv_view, asFn_fn, asPref_pref, asOCons_cons, asONil_nil, asBox_box, asMade_made, asGone_dead, asGone_made, asCI_cons, asCB_cons, asCF_cons, asCS_psl, asCS_nil, asCW_cons, asCR_cons, asOM_cons, asOM_false, asOB_cons, asOB_false, asOG_dead, asOG_made, gS_mk, bind_some', onEx_exit, onEx_ret] at ev
  simp only [Vw.e]
  unfold same
  by_cases h1 : a.s = b.s
  · rw [if_pos (beq_iff_eq.2 h1)] at ev
    rw [if_pos h1]
    by_cases h2 : a.n = b.n
    · rw [if_pos (beq_iff_eq.2 h2)] at ev
      rw [if_pos h2]
      exact pc ev rfl
    · rw [if_neg (fun e => h2 (beq_iff_eq.1 e))] at ev
      rw [if_neg h2]
      exact pc ev rfl
  · rw [if_neg (fun e => h1 (beq_iff_eq.1 e))] at ev
    rw [if_neg h1]
    exact pc ev rfl
end Go.Pvm.S
