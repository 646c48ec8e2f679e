/- Part of the proof: the law of the view of any numbers. -/
import Derived.Test.YtkipbdbmeanffaaVmE
set_option linter.unusedSimpArgs false
set_option linter.unusedVariables false
set_option maxRecDepth 100000
namespace Go.Pvm.S
open Go.Pvm Go.Proofs
theorem of5 : ofL 7 8 [5] = [5] := by
  unfold ofL
  rw [show [5].filter (keep 7 8) = [5] by decide, List.mergeSort_singleton]
  rfl
theorem spAwake : pcall Cω 7 [] = some (.bool true) := by
  obtain ⟨u, h0, h1⟩ := spOf 7 8 [5] (by decide)
  rw [of5] at h0 h1
  have hok : (!low [5] && (Vw.mk 7 8 [5]).ok) = true := by decide
  rw [hok] at h0 h1
  have hu : u = .psl false [[.int .i64 5]] := by
    rcases h1 with ⟨_, e⟩ | ⟨e, _⟩
    · exact e
    · cases e
  subst hu
  have h0 : pcall Cω 8 [.int .i64 7, .int .i64 8, .psl false [[.int .i64 5]]] = some (.tuple [.agg [.int .i64 7, .int .i64 8, .psl false [[.int .i64 5]]], .int .i64 0]) := h0
  have se : ∀ (w : Int) (b : Bool), ((Vw.mk 7 8 [5]).ok && sees ⟨7, 8, [5]⟩ w) = b → pcall Cω 12 [.agg [.int .i64 7, .int .i64 8, .psl false [[.int .i64 5]]], .int .i64 w] = some (.bool b) := fun w b hb => by
    rw [← hb]; exact spSees ⟨7, 8, [5]⟩ w (by decide)
  have ev := eqK7 Cω Lω
  simp only [h0, asInt_int, asBool_bool, asStr_str, asSl_psl, asSl_nil, asAgg_agg, asTup_tup, asCons_cons, asNil_nil, asFlt_flt, asRef_ref, asWhole_whole, asView_view, asWv_whole, asWv_view, asFn_fn, asPref_pref, asOCons_cons, asONil_nil, asBox_box, asMade_made, asGone_dead, asGone_made, asCI_cons, asCB_cons, asCF_cons, asCS_psl, asCS_nil, asCW_cons, asCR_cons, asOM_cons, asOM_false, asOB_cons, asOB_false, asOG_dead, asOG_made, gS_mk, bind_some', onEx_exit, onEx_ret] at ev
  rw [if_pos (by decide), se 6 true (by decide), se 7 true (by decide), se 5 false (by decide), se 8 false (by decide)] at ev
  simp only [asInt_int, asBool_bool, asStr_str, asSl_psl, asSl_nil, asAgg_agg, asTup_tup, asCons_cons, asNil_nil, asFlt_flt, asRef_ref, asWhole_whole, asView_view, asWv_whole, asWv_view, asFn_fn, asPref_pref, asOCons_cons, asONil_nil, asBox_box, asMade_made, asGone_dead, asGone_made, asCI_cons, asCB_cons, asCF_cons, asCS_psl, asCS_nil, asCW_cons, asCR_cons, asOM_cons, asOM_false, asOB_cons, asOB_false, asOG_dead, asOG_made, gS_mk, bind_some', onEx_exit, onEx_ret, if_true, Bool.not_false] at ev
  exact pc ev rfl
theorem lawMakes (s n : Int) (l : List Int) (hl : l.length < 4611686018427387904) : pcall Cω 3 [.int .i64 s, .int .i64 n, .psl false (l.map ie)] = some (.bool true) := by
  have ev := eqK3 Cω Lω s n (l.map ie)
  rw [List.length_map] at ev
  by_cases h1 : ((l.length : Nat) : Int) > 200
  · rw [if_pos (decide_eq_true h1)] at ev
    simp only [spAwake, asInt_int, asBool_bool, asStr_str, asSl_psl, asSl_nil, asAgg_agg, asTup_tup, asCons_cons, asNil_nil, asFlt_flt, asRef_ref, asWhole_whole, asView_view, asWv_whole, asWv_view, asFn_fn, asPref_pref, asOCons_cons, asONil_nil, asBox_box, asMade_made, asGone_dead, asGone_made, asCI_cons, asCB_cons, asCF_cons, asCS_psl, asCS_nil, asCW_cons, asCR_cons, asOM_cons, asOM_false, asOB_cons, asOB_false, asOG_dead, asOG_made, gS_mk, bind_some', onEx_exit, onEx_ret] at ev
    exact pc ev rfl
  rw [if_neg (by simpa using h1)] at ev
  obtain ⟨u, p1, p2⟩ := spOf s n l (by omega)
  obtain ⟨w, q1, q2⟩ := spROf s n l (by omega)
  have hol := ofL_len s n l
  have hc := spCheck (Vw.mk s n (ofL s n l)) (by show (ofL s n l).length < _; omega)
  have hs := spRSame (Vw.mk s n (ofL s n l)) (Vw.mk s n (ofL s n l)) (by show (ofL s n l).length < _; omega)
  have hs0 := spRSame (Vw.mk 0 0 []) (Vw.mk 0 0 []) (by decide)
  have e1 : same (Vw.mk s n (ofL s n l)) (Vw.mk s n (ofL s n l)) = true := by unfold same; simp
  have e2 : same (Vw.mk 0 0 []) (Vw.mk 0 0 []) = true := by decide
  rw [e1] at hs
  rw [e2] at hs0
  simp only [Vw.e, List.map_nil] at hc hs hs0
  cases hb : (!low l && (Vw.mk s n (ofL s n l)).ok) with
  | true =>
    rw [hb] at p1 p2 q1 q2
    have hok : (Vw.mk s n (ofL s n l)).ok = true := by rw [Bool.and_eq_true] at hb; exact hb.2
    have hu : u = .psl false ((ofL s n l).map ie) := by
      rcases p2 with ⟨_, e⟩ | ⟨e, _⟩
      · exact e
      · cases e
    have hw : w = .psl false ((ofL s n l).map ie) := by
      rcases q2 with ⟨_, e⟩ | ⟨e, _⟩
      · exact e
      · cases e
    subst hu
    subst hw
    simp only [if_true] at p1 q1
    rw [hok, if_pos rfl] at hc
    simp only [p1, q1, asInt_int, asBool_bool, asStr_str, asSl_psl, asSl_nil, asAgg_agg, asTup_tup, asCons_cons, asNil_nil, asFlt_flt, asRef_ref, asWhole_whole, asView_view, asWv_whole, asWv_view, asFn_fn, asPref_pref, asOCons_cons, asONil_nil, asBox_box, asMade_made, asGone_dead, asGone_made, asCI_cons, asCB_cons, asCF_cons, asCS_psl, asCS_nil, asCW_cons, asCR_cons, asOM_cons, asOM_false, asOB_cons, asOB_false, asOG_dead, asOG_made, gS_mk, bind_some', onEx_exit, onEx_ret] at ev
    rw [if_neg (by decide), if_pos (by decide), hs] at ev
    simp only [asInt_int, asBool_bool, asStr_str, asSl_psl, asSl_nil, asAgg_agg, asTup_tup, asCons_cons, asNil_nil, asFlt_flt, asRef_ref, asWhole_whole, asView_view, asWv_whole, asWv_view, asFn_fn, asPref_pref, asOCons_cons, asONil_nil, asBox_box, asMade_made, asGone_dead, asGone_made, asCI_cons, asCB_cons, asCF_cons, asCS_psl, asCS_nil, asCW_cons, asCR_cons, asOM_cons, asOM_false, asOB_cons, asOB_false, asOG_dead, asOG_made, gS_mk, bind_some', onEx_exit, onEx_ret, if_true, hc] at ev
    rw [if_pos (by decide)] at ev
    simp only [spAwake, asInt_int, asBool_bool, asStr_str, asSl_psl, asSl_nil, asAgg_agg, asTup_tup, asCons_cons, asNil_nil, asFlt_flt, asRef_ref, asWhole_whole, asView_view, asWv_whole, asWv_view, asFn_fn, asPref_pref, asOCons_cons, asONil_nil, asBox_box, asMade_made, asGone_dead, asGone_made, asCI_cons, asCB_cons, asCF_cons, asCS_psl, asCS_nil, asCW_cons, asCR_cons, asOM_cons, asOM_false, asOB_cons, asOB_false, asOG_dead, asOG_made, gS_mk, bind_some', onEx_exit, onEx_ret] at ev
    exact pc ev rfl
  | false =>
    rw [hb] at p1 p2 q1 q2
    have hu : u = .nilsl ∨ u = .psl false [] := by
      rcases p2 with ⟨e, _⟩ | ⟨_, e⟩
      · cases e
      · exact e
    have hw : w = .nilsl ∨ w = .psl false [] := by
      rcases q2 with ⟨e, _⟩ | ⟨_, e⟩
      · cases e
      · exact e
    simp only [Bool.false_eq_true, if_false] at p1 q1
    rcases hu with rfl | rfl <;> rcases hw with rfl | rfl <;>
    · simp only [p1, q1, asInt_int, asBool_bool, asStr_str, asSl_psl, asSl_nil, asAgg_agg, asTup_tup, asCons_cons, asNil_nil, asFlt_flt, asRef_ref, asWhole_whole, asView_view, asWv_whole, asWv_view, asFn_fn, asPref_pref, asOCons_cons, asONil_nil, asBox_box, asMade_made, asGone_dead, asGone_made, asCI_cons, asCB_cons, asCF_cons, asCS_psl, asCS_nil, asCW_cons, asCR_cons, asOM_cons, asOM_false, asOB_cons, asOB_false, asOG_dead, asOG_made, gS_mk, bind_some', onEx_exit, onEx_ret] at ev
      rw [if_pos (by decide), if_pos (by decide), hs0] at ev
      simp only [asInt_int, asBool_bool, asStr_str, asSl_psl, asSl_nil, asAgg_agg, asTup_tup, asCons_cons, asNil_nil, asFlt_flt, asRef_ref, asWhole_whole, asView_view, asWv_whole, asWv_view, asFn_fn, asPref_pref, asOCons_cons, asONil_nil, asBox_box, asMade_made, asGone_dead, asGone_made, asCI_cons, asCB_cons, asCF_cons, asCS_psl, asCS_nil, asCW_cons, asCR_cons, asOM_cons, asOM_false, asOB_cons, asOB_false, asOG_dead, asOG_made, gS_mk, bind_some', onEx_exit, onEx_ret, if_true, spAwake] at ev
      exact pc ev rfl
end Go.Pvm.S
