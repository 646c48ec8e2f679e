/- Part of the proof: edges: what the statements come to. -/
import Derived.Test.YtgchbgaicgbebaaEdgeH
set_option linter.unusedSimpArgs false
set_option linter.unusedVariables false
set_option maxRecDepth 100000
namespace Go.Pvm.S
open Go.Pvm Go.Proofs
theorem victs_one {l : List Ed} {s : List Spn} {v : Int} (h : (mayE l && mayS s) = true) (hm : mets l s = [v]) : victs l s = [v] := by
  unfold victs
  rw [if_pos h, hm, List.mergeSort_singleton]; rfl
theorem victs_nil {l : List Ed} {s : List Spn} (hm : mets l s = []) : victs l s = [] := by
  unfold victs
  split
  · rw [hm, List.mergeSort_nil]; rfl
  · rfl
def s0 : List Spn := [⟨1, 0, 0⟩, ⟨2, 0, 0⟩, ⟨3, 0, 5⟩]
theorem spAwake : pcall Cω 7 [] = some (.bool true) := by
  have ev := eqK7 Cω Lω
  have a1 := spAdd [] ⟨2, 3⟩ (by decide)
  have e1 : addP [] ⟨2, 3⟩ = ([⟨2, 3⟩], 0) := by kernel_rfl
  rw [e1] at a1
  have a2 := spAdd [⟨2, 3⟩] ⟨1, 2⟩ (by decide)
  have e2 : addP [⟨2, 3⟩] ⟨1, 2⟩ = ([⟨1, 2⟩, ⟨2, 3⟩], 0) := by kernel_rfl
  rw [e2] at a2
  have a3 := spVictims [⟨1, 2⟩, ⟨2, 3⟩] s0 (by decide) (by decide)
  rw [victs_one (by kernel_rfl) (show mets [⟨1, 2⟩, ⟨2, 3⟩] s0 = [2] by kernel_rfl)] at a3
  simp only [s0, List.map, Ed.e, Spn.e, ie] at a1 a2 a3
  rw [a1] at ev
  simp only [asInt_int, asBool_bool, asStr_str, asSl_psl, asSl_nil, asAgg_agg, asTup_tup, asCons_cons, asNil_nil, asFlt_flt, asRef_ref, asWhole_whole, asView_view, asWv_whole, asWv_view, asFn_fn, asPref_pref, asOCons_cons, asONil_nil, asBox_box, asMade_made, asGone_dead, asGone_made, bind_some', onEx_exit, onEx_ret] at ev
  rw [a2] at ev
  simp only [asInt_int, asBool_bool, asStr_str, asSl_psl, asSl_nil, asAgg_agg, asTup_tup, asCons_cons, asNil_nil, asFlt_flt, asRef_ref, asWhole_whole, asView_view, asWv_whole, asWv_view, asFn_fn, asPref_pref, asOCons_cons, asONil_nil, asBox_box, asMade_made, asGone_dead, asGone_made, bind_some', onEx_exit, onEx_ret] at ev
  rw [a3] at ev
  simp only [asInt_int, asBool_bool, asStr_str, asSl_psl, asSl_nil, asAgg_agg, asTup_tup, asCons_cons, asNil_nil, asFlt_flt, asRef_ref, asWhole_whole, asView_view, asWv_whole, asWv_view, asFn_fn, asPref_pref, asOCons_cons, asONil_nil, asBox_box, asMade_made, asGone_dead, asGone_made, bind_some', onEx_exit, onEx_ret] at ev
  exact pc ev rfl
theorem lawAdds (l : List Ed) (f t : Int) (hl : l.length < 4611686018427387904) : pcall Cω 6 [.psl false (l.map Ed.e), .int .i64 f, .int .i64 t] = some (.bool true) := by
  have ev := eqK6 Cω Lω (l.map Ed.e) f t
  rw [List.length_map] at ev
  by_cases h7 : l.length > 700
  · rw [if_pos (by rw [decide_eq_true_eq]; omega)] at ev
    simp only [spAwake, asInt_int, asBool_bool, asStr_str, asSl_psl, asSl_nil, asAgg_agg, asTup_tup, asCons_cons, asNil_nil, asFlt_flt, asRef_ref, asWhole_whole, asView_view, asWv_whole, asWv_view, asFn_fn, asPref_pref, asOCons_cons, asONil_nil, asBox_box, asMade_made, asGone_dead, asGone_made, bind_some', onEx_exit, onEx_ret] at ev
    exact pc ev rfl
  rw [if_neg (by rw [decide_eq_true_eq]; omega)] at ev
  have hdl : (dropE l f).length ≤ l.length := List.length_filter_le _ _
  have ha := spAdd l ⟨f, t⟩ (by omega)
  have hr := spRAdd l ⟨f, t⟩ (by omega)
  have hb : ∀ b : Bool, (((if b = true then (0 : Int) else 1) == 0) == b) = true := by intro b; cases b <;> rfl
  have hs := eqR_sp (addR l ⟨f, t⟩).1 (addR l ⟨f, t⟩).1 (by
    unfold addR
    split
    · simp only; omega
    · split
      · simp only; omega
      · simp only
        have hi := foldI_inv (g := insG (bfE ⟨f, t⟩) ⟨f, t⟩) (fun i s => s.2.length ≤ 2 * i) l 0 (false, []) (Nat.le_refl _) (fun j a s hs => by
          unfold insG
          split
          · simp only [List.length_append, List.length_cons, List.length_nil]; omega
          · simp only [List.length_append, List.length_cons, List.length_nil]; omega)
        have he := foldI_ins (bf := bfE ⟨f, t⟩) (x := ⟨f, t⟩) l 0 []
        rw [List.nil_append] at he
        rw [← he]
        split
        · omega
        · rw [List.length_append]
          show _ + 1 < _
          omega)
  simp only [ha, hr, asInt_int, asBool_bool, asStr_str, asSl_psl, asSl_nil, asAgg_agg, asTup_tup, asCons_cons, asNil_nil, asFlt_flt, asRef_ref, asWhole_whole, asView_view, asWv_whole, asWv_view, asFn_fn, asPref_pref, asOCons_cons, asONil_nil, asBox_box, asMade_made, asGone_dead, asGone_made, bind_some', onEx_exit, onEx_ret, spDrop l f (show l.length < 1073741824 by omega), spRDrop l f (show l.length < 1073741824 by omega), spCheck l hl, spRMay l hl, hb, eqR_sp (dropE l f) (dropE l f) (show (dropE l f).length < 4611686018427387904 by omega), spSame l (dropE l f) hl, eqR_sp l (dropE l f) hl, decide_true, Bool.not_true, Bool.false_eq_true, if_false, beq_self_eq_true, spRIn, spAwake, List.length_map] at ev
  unfold addP at ev
  by_cases h1 : mayE l = true
  case neg =>
    have h1' : mayE l = false := by simpa using h1
    simp only [h1', Bool.false_and, Bool.false_eq_true, if_false, Bool.not_false, if_true, List.length_nil] at ev
    exact pc ev rfl
  by_cases h2 : inn f = true
  case neg =>
    have h2' : inn f = false := by simpa using h2
    simp only [h1, h2', Bool.false_and, Bool.and_false, Bool.true_and, Bool.false_eq_true, if_false, Bool.not_false, Bool.not_true, if_true, List.length_nil] at ev
    exact pc ev rfl
  by_cases h3 : inn t = true
  case neg =>
    have h3' : inn t = false := by simpa using h3
    simp only [h1, h2, h3', Bool.false_and, Bool.and_false, Bool.true_and, Bool.false_eq_true, if_false, Bool.not_false, Bool.not_true, if_true, List.length_nil] at ev
    exact pc ev rfl
  by_cases h4 : (f == t) = true
  · simp only [h1, h2, h3, h4, Bool.false_and, Bool.and_false, Bool.true_and, Bool.false_eq_true, if_false, Bool.not_false, Bool.not_true, if_true, List.length_nil] at ev
    exact pc ev rfl
  have h4' : (f == t) = false := by simpa using h4
  simp only [h1, h2, h3, h4', Bool.false_and, Bool.and_false, Bool.true_and, Bool.false_eq_true, if_false, Bool.not_false, Bool.not_true, if_true, beq_self_eq_true, hs, asInt_int, asBool_bool, asStr_str, asSl_psl, asSl_nil, asAgg_agg, asTup_tup, asCons_cons, asNil_nil, asFlt_flt, asRef_ref, asWhole_whole, asView_view, asWv_whole, asWv_view, asFn_fn, asPref_pref, asOCons_cons, asONil_nil, asBox_box, asMade_made, asGone_dead, asGone_made, bind_some', onEx_exit, onEx_ret, decide_true] at ev
  exact pc ev rfl
theorem lawVictims (l : List Ed) (s : List Spn) (hl : l.length < 4611686018427387904) (hs : s.length < 4611686018427387904) : pcall Cω 3 [.psl false (l.map Ed.e), .psl false (s.map Spn.e)] = some (.bool true) := by
  have ev := eqK3 Cω Lω (l.map Ed.e) (s.map Spn.e)
  rw [List.length_map, List.length_map] at ev
  by_cases h6 : l.length > 60
  · rw [if_pos (by rw [decide_eq_true_eq]; omega)] at ev
    simp only [spAwake, asInt_int, asBool_bool, asStr_str, asSl_psl, asSl_nil, asAgg_agg, asTup_tup, asCons_cons, asNil_nil, asFlt_flt, asRef_ref, asWhole_whole, asView_view, asWv_whole, asWv_view, asFn_fn, asPref_pref, asOCons_cons, asONil_nil, asBox_box, asMade_made, asGone_dead, asGone_made, bind_some', onEx_exit, onEx_ret] at ev
    exact pc ev rfl
  rw [if_neg (by rw [decide_eq_true_eq]; omega)] at ev
  by_cases h4 : s.length > 40
  · rw [if_pos (by rw [decide_eq_true_eq]; omega)] at ev
    simp only [spAwake, asInt_int, asBool_bool, asStr_str, asSl_psl, asSl_nil, asAgg_agg, asTup_tup, asCons_cons, asNil_nil, asFlt_flt, asRef_ref, asWhole_whole, asView_view, asWv_whole, asWv_view, asFn_fn, asPref_pref, asOCons_cons, asONil_nil, asBox_box, asMade_made, asGone_dead, asGone_made, bind_some', onEx_exit, onEx_ret] at ev
    exact pc ev rfl
  rw [if_neg (by rw [decide_eq_true_eq]; omega)] at ev
  have hb : ∀ b : Bool, (((if b = true then (0 : Int) else 1) == 0) == b) = true := by intro b; cases b <;> rfl
  simp only [spVictims l s (show l.length < 1073741824 by omega) (show s.length < 1073741824 by omega), asInt_int, asBool_bool, asStr_str, asSl_psl, asSl_nil, asAgg_agg, asTup_tup, asCons_cons, asNil_nil, asFlt_flt, asRef_ref, asWhole_whole, asView_view, asWv_whole, asWv_view, asFn_fn, asPref_pref, asOCons_cons, asONil_nil, asBox_box, asMade_made, asGone_dead, asGone_made, bind_some', onEx_exit, onEx_ret, spCheckS s hs, spRSpans s hs, spRMay l hl, hb, Bool.not_true, Bool.false_eq_true, if_false, spAwake] at ev
  by_cases h1 : mayE l = true
  case neg =>
    have h1' : mayE l = false := by simpa using h1
    have hv : victs l s = [] := by unfold victs; rw [h1']; rfl
    simp only [h1', hv, Bool.not_false, if_true, List.map_nil, List.length_nil] at ev
    exact pc ev rfl
  by_cases h2 : mayS s = true
  case neg =>
    have h2' : mayS s = false := by simpa using h2
    have hv : victs l s = [] := by unfold victs; rw [h2', Bool.and_false]; rfl
    simp only [h1, h2', hv, Bool.not_false, Bool.not_true, Bool.false_eq_true, if_false, if_true, List.map_nil, List.length_nil] at ev
    exact pc ev rfl
  have hvl : (victs l s).length < 4611686018427387904 := by
    have hml := mets_len l s (by omega)
    unfold victs
    split
    · have h9 : ∀ l : List Int, (cmpct l).length ≤ l.length := fun l => by
        cases l with
        | nil => exact Nat.le_refl _
        | cons a l => exact Nat.succ_le_succ (dd_len l a)
      have := h9 ((mets l s).mergeSort fun x y => decide (x ≤ y))
      rw [List.length_mergeSort] at this
      omega
    · exact Nat.zero_lt_succ _
  simp only [h1, h2, Bool.not_true, Bool.false_eq_true, if_false, spRVic l s (show l.length ≤ 600 by omega) (show s.length < 1073741824 by omega), asInt_int, asBool_bool, asStr_str, asSl_psl, asSl_nil, asAgg_agg, asTup_tup, asCons_cons, asNil_nil, asFlt_flt, asRef_ref, asWhole_whole, asView_view, asWv_whole, asWv_view, asFn_fn, asPref_pref, asOCons_cons, asONil_nil, asBox_box, asMade_made, asGone_dead, asGone_made, bind_some', onEx_exit, onEx_ret] at ev
  rw [← victs_eq h1 h2, eqI_sp _ _ hvl] at ev
  simp only [asInt_int, asBool_bool, asStr_str, asSl_psl, asSl_nil, asAgg_agg, asTup_tup, asCons_cons, asNil_nil, asFlt_flt, asRef_ref, asWhole_whole, asView_view, asWv_whole, asWv_view, asFn_fn, asPref_pref, asOCons_cons, asONil_nil, asBox_box, asMade_made, asGone_dead, asGone_made, bind_some', onEx_exit, onEx_ret, decide_true, if_true] at ev
  exact pc ev rfl
theorem lawSafe (l : List Ed) (s : List Spn) (hl : l.length < 4611686018427387904) (hs : s.length < 4611686018427387904) : pcall Cω 5 [.psl false (l.map Ed.e), .psl false (s.map Spn.e)] = some (.bool true) := by
  have ev := eqK5 Cω Lω (l.map Ed.e) (s.map Spn.e)
  rw [List.length_map] at ev
  by_cases h6 : l.length > 60
  · rw [if_pos (by rw [decide_eq_true_eq]; omega)] at ev
    simp only [spAwake, asInt_int, asBool_bool, asStr_str, asSl_psl, asSl_nil, asAgg_agg, asTup_tup, asCons_cons, asNil_nil, asFlt_flt, asRef_ref, asWhole_whole, asView_view, asWv_whole, asWv_view, asFn_fn, asPref_pref, asOCons_cons, asONil_nil, asBox_box, asMade_made, asGone_dead, asGone_made, bind_some', onEx_exit, onEx_ret] at ev
    exact pc ev rfl
  rw [if_neg (by rw [decide_eq_true_eq]; omega)] at ev
  simp only [spRMay l hl, spRSpans s hs, spAwake, asInt_int, asBool_bool, asStr_str, asSl_psl, asSl_nil, asAgg_agg, asTup_tup, asCons_cons, asNil_nil, asFlt_flt, asRef_ref, asWhole_whole, asView_view, asWv_whole, asWv_view, asFn_fn, asPref_pref, asOCons_cons, asONil_nil, asBox_box, asMade_made, asGone_dead, asGone_made, bind_some', onEx_exit, onEx_ret] at ev
  by_cases h1 : mayE l = true
  case neg =>
    have h1' : mayE l = false := by simpa using h1
    simp only [h1', Bool.not_false, if_true] at ev
    exact pc ev rfl
  by_cases h2 : mayS s = true
  case neg =>
    have h2' : mayS s = false := by simpa using h2
    simp only [h1, h2', Bool.not_false, Bool.not_true, Bool.false_eq_true, if_false, if_true] at ev
    exact pc ev rfl
  have hs24 : s.length ≤ 24 := by
    unfold mayS at h2
    rw [Bool.and_eq_true, decide_eq_true_eq] at h2
    exact h2.1
  simp only [h1, h2, Bool.not_true, Bool.false_eq_true, if_false, spVictims l s (show l.length < 1073741824 by omega) (show s.length < 1073741824 by omega), asInt_int, asBool_bool, asStr_str, asSl_psl, asSl_nil, asAgg_agg, asTup_tup, asCons_cons, asNil_nil, asFlt_flt, asRef_ref, asWhole_whole, asView_view, asWv_whole, asWv_view, asFn_fn, asPref_pref, asOCons_cons, asONil_nil, asBox_box, asMade_made, asGone_dead, asGone_made, bind_some', onEx_exit, onEx_ret] at ev
  have hvl : (victs l s).length < 4611686018427387904 := by
    have hml := mets_len l s (by omega)
    unfold victs
    split
    · have h9 : ∀ l : List Int, (cmpct l).length ≤ l.length := fun l => by
        cases l with
        | nil => exact Nat.le_refl _
        | cons a l => exact Nat.succ_le_succ (dd_len l a)
      have := h9 ((mets l s).mergeSort fun x y => decide (x ≤ y))
      rw [List.length_mergeSort] at this
      omega
    · exact Nat.zero_lt_succ _
  have lp : Lω 5 lcK5_5 0 (stK5_5 (l.map Ed.e) (s.map Spn.e) ((victs l s).map ie) 0) [] = _ :=
    loopFold (fun j (a : List Ed) => stK5_5 (a.map Ed.e) (s.map Spn.e) ((victs l s).map ie) (j : Nat)) (fun _ _ => []) (victs l s) dropG
      (fun a => (.exit 0, mkS 44 [(0, .psl false (a.map Ed.e)), (1, .psl false (s.map Spn.e))], [])) (fun j a => a.length ≤ 60) (fun j v a hg hj ha => by
        refine ⟨Nat.le_trans (List.length_filter_le _ _) ha, ?_⟩
        have hdi : decide (((j : Nat) : Int) < ((((victs l s).map ie).length : Nat) : Int)) = true := by rw [decide_eq_true_eq, List.length_map]; omega
        rw [lqK5_5]
        simp only [hdi, if_true, nn, Int.toNat_natCast, mapGet hg, ie, asInt_int, asBool_bool, asStr_str, asSl_psl, asSl_nil, asAgg_agg, asTup_tup, asCons_cons, asNil_nil, asFlt_flt, asRef_ref, asWhole_whole, asView_view, asWv_whole, asWv_view, asFn_fn, asPref_pref, asOCons_cons, asONil_nil, asBox_box, asMade_made, asGone_dead, asGone_made, bind_some', onEx_exit, onEx_ret, spDrop a v (show a.length < 1073741824 by omega), wrap_succ (show j < 4611686018427387904 by omega)]
        rfl) (fun a ha => by rw [lqK5_5]; simp only [List.length_map, Int.lt_irrefl, decide_false, Bool.false_eq_true, if_false]) l (by omega)
  have hdl := drops_len (victs l s) 0 l
  rw [lp] at ev
  simp only [asInt_int, asBool_bool, asStr_str, asSl_psl, asSl_nil, asAgg_agg, asTup_tup, asCons_cons, asNil_nil, asFlt_flt, asRef_ref, asWhole_whole, asView_view, asWv_whole, asWv_view, asFn_fn, asPref_pref, asOCons_cons, asONil_nil, asBox_box, asMade_made, asGone_dead, asGone_made, bind_some', onEx_exit, onEx_ret, mkS_hit, mkS_miss, ne_eq, not_false_eq_true, Nat.reduceLT, Nat.reduceEqDiff, if_true, spVictims (foldI dropG (victs l s) 0 l) s (show (foldI dropG (victs l s) 0 l).length < 1073741824 by omega) (show s.length < 1073741824 by omega), safe l s h1 h2, spAwake, List.map_nil, List.length_nil] at ev
  exact pc ev rfl
end Go.Pvm.S
