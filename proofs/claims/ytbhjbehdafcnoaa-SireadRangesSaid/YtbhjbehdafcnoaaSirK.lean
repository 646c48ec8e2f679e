/- Part of the proof: locks: alike, without somebody's, who holds a key: the program's and the document's. -/
import Derived.Test.YtbhjbehdafcnoaaSirJ
set_option linter.unusedSimpArgs false
set_option linter.unusedVariables false
set_option maxRecDepth 100000
namespace Go.Pvm.S
open Go.Pvm Go.Proofs
theorem neInt (a b : Int) : (a != b) = !decide (a = b) := by by_cases h : a = b <;> simp [h]
/-! Alike? -/
theorem eqI_lp (a b : List Int) (hl : a.length < 4611686018427387904) (hab : a.length = b.length) : Lω 21 lcK21_4 0 (stK21_4 (a.map ie) (b.map ie)  0) [] =
    some (if allI (fun i x => decide (b[i]? = some x)) a 0 = true then (.exit 0, mkS 26 [], []) else (.ret, mkS 26 [(4, .bool false)], [])) :=
  loopCheck (fun i => stK21_4 (a.map ie) (b.map ie)  (i : Nat)) [] a (fun i x => decide (b[i]? = some x)) _ _ (fun i x hg hi => by
    have hb : b[i]? = some b[i] := List.getElem?_eq_getElem (by omega)
    have hm := mapGet (f := ie) hb
    have hne := neInt x b[i]
    rw [lqK21_4]
    simp only [ie] at hm hne
    simp only [decide_eq_true_eq, Int.ofNat_lt, List.length_map, if_true, nn, true_and, Int.toNat_natCast, bind_some', hi, mapGet hg, hm, ie, asInt_int, asBool_bool, asStr_str, asSl_psl, asSl_nil, asAgg_agg, asTup_tup, asCons_cons, asNil_nil, asFlt_flt, asRef_ref, asWhole_whole, asView_view, asWv_whole, asWv_view, asFn_fn, asPref_pref, asOCons_cons, asONil_nil, asBox_box, asMade_made, asGone_dead, asGone_made, bind_some', onEx_exit, onEx_ret, hne, hb, wrap_succ (show i < 4611686018427387904 by omega)]
    by_cases h : x = b[i]
    · subst h
      simp only [Bool.not_true, Bool.false_eq_true, decide_true, if_true, if_false, bne_self_eq_false, Option.some.injEq]
      try rfl
    · have h' : ¬ b[i] = x := fun e => h e.symm
      simp only [h, h', decide_false, Bool.not_false, if_true, if_false, Option.some.injEq, Bool.false_eq_true, Bool.and_eq_true, Bool.or_eq_true, Bool.not_eq_true', Bool.not_eq_true, Bool.false_eq_true, Bool.true_eq_false, decide_eq_true_eq, decide_eq_false_iff_not, beq_iff_eq, beq_eq_false_iff_ne, bne_iff_ne, ne_eq, ge_iff_le, gt_iff_lt, if_true, if_false, false_and, true_and, and_true, and_false, false_or, true_or, or_true, or_false, Bool.not_true, Bool.not_false, decide_true, decide_false, Bool.and_true, Bool.true_and, Bool.false_and, Bool.and_false, Bool.or_true, Bool.true_or, Bool.false_or, Bool.or_false, not_true, not_false_eq_true, Int.not_lt, Int.not_le, Decidable.not_not]) (by rw [lqK21_4]; simp only [decide_eq_true_eq, Int.ofNat_lt, List.length_map, if_true, nn, true_and, Int.toNat_natCast, bind_some', Nat.lt_irrefl, if_false])
theorem eqI_sp (a b : List Int) (hl : a.length < 4611686018427387904) : pcall Cω 21 [.psl false (a.map ie), .psl false (b.map ie)] = some (.bool (decide (a = b))) := by
  have ev := eqK21 Cω Lω (a.map ie) (b.map ie)
  rw [List.length_map, List.length_map] at ev
  by_cases h : a.length = b.length
  · rw [if_neg (by rw [neLen]; exact fun e => e h)] at ev
    have lp := eqI_lp a b hl h
    rw [lp] at ev
    rw [eqAll0 h] at ev
    by_cases h2 : a = b
    · simp only [h2, decide_true, if_true, asInt_int, asBool_bool, asStr_str, asSl_psl, asSl_nil, asAgg_agg, asTup_tup, asCons_cons, asNil_nil, asFlt_flt, asRef_ref, asWhole_whole, asView_view, asWv_whole, asWv_view, asFn_fn, asPref_pref, asOCons_cons, asONil_nil, asBox_box, asMade_made, asGone_dead, asGone_made, bind_some', onEx_exit, onEx_ret] at ev ⊢
      exact pc ev rfl
    · simp only [h2, decide_false, Bool.false_eq_true, if_false, asInt_int, asBool_bool, asStr_str, asSl_psl, asSl_nil, asAgg_agg, asTup_tup, asCons_cons, asNil_nil, asFlt_flt, asRef_ref, asWhole_whole, asView_view, asWv_whole, asWv_view, asFn_fn, asPref_pref, asOCons_cons, asONil_nil, asBox_box, asMade_made, asGone_dead, asGone_made, bind_some', onEx_exit, onEx_ret, mkS_hit, mkS_miss, ne_eq, not_false_eq_true, Nat.reduceLT, Nat.reduceEqDiff] at ev ⊢
      exact pc ev rfl
  · rw [if_pos (by rw [neLen]; exact h)] at ev
    have h2 : ¬ a = b := fun e => h (by rw [e])
    rw [decide_eq_false h2]
    exact pc ev rfl

def sDrop (l : List Lk) (t : Int) : List Lk := l.filter fun a => !(a.t == t)
theorem spSDrop (l : List Lk) (t : Int) (hl : l.length < 1000000) : pcall Cω 18 [.psl false (l.map Lk.e), .int .i64 t] = some (.psl false ((sDrop l t).map Lk.e)) := by
  have ev := eqK18 Cω Lω (l.map Lk.e) t
  rw [cloneK_map l Lk.e_ok (by omega)] at ev
  simp only [bind_some', delL_sp l t (show l.length < 1073741824 by omega)] at ev
  unfold delL_res at ev
  unfold sDrop
  by_cases h : l.any (fun a => a.t == t) = true
  · rw [if_pos h] at ev
    simp only [asInt_int, asBool_bool, asStr_str, asSl_psl, asSl_nil, asAgg_agg, asTup_tup, asCons_cons, asNil_nil, asFlt_flt, asRef_ref, asWhole_whole, asView_view, asWv_whole, asWv_view, asFn_fn, asPref_pref, asOCons_cons, asONil_nil, asBox_box, asMade_made, asGone_dead, asGone_made, bind_some', onEx_exit, onEx_ret] at ev
    refine pc ev ?_
    simp only [viewK, fzK]
    show PV.psl false _ = _
    simp only [List.drop_zero]
    rw [List.take_append_of_le_length (by rw [List.length_map]; exact Nat.le_refl _), List.take_of_length_le (by rw [List.length_map]; exact Nat.le_refl _)]
  · rw [if_neg h] at ev
    simp only [asInt_int, asBool_bool, asStr_str, asSl_psl, asSl_nil, asAgg_agg, asTup_tup, asCons_cons, asNil_nil, asFlt_flt, asRef_ref, asWhole_whole, asView_view, asWv_whole, asWv_view, asFn_fn, asPref_pref, asOCons_cons, asONil_nil, asBox_box, asMade_made, asGone_dead, asGone_made, bind_some', onEx_exit, onEx_ret] at ev
    have hf : l.filter (fun a => !(a.t == t)) = l := List.filter_eq_self.2 fun a ha => by
      have h' : l.any (fun a => a.t == t) = false := by simpa using h
      have := List.any_eq_false.1 h' a ha
      simpa using this
    rw [hf]
    exact pc ev rfl
theorem spRDropL (l : List Lk) (t : Int) (hl : l.length < 1000000) : pcall Cω 19 [.psl false (l.map Lk.e), .int .i64 t] = some (.psl false ((sDrop l t).map Lk.e)) := by
  have ev := eqK19 Cω Lω (l.map Lk.e) t
  have lp : Lω 19 lcK19_3 0 (stK19_3 (l.map Lk.e) t 0) [.made true 4 []] = _ :=
    loopFold (fun i (s : List Lk) => stK19_3 (l.map Lk.e) t (i : Nat)) (fun _ s => [.made true 4 (s.map Lk.e)]) l (fun _ a s => if (!(a.t == t)) = true then s ++ [a] else s)
      (fun s => (.exit 0, mkS 29 [(5, whole 0 4)], [.made true 4 (s.map Lk.e)])) (fun i s => s.length ≤ i) (fun i a s hg hi hs => by
      refine ⟨?_, ?_⟩
      · split
        · simp only [List.length_append, List.length_cons, List.length_nil]; omega
        · omega
      · rw [lqK19_3]
        have hdi : decide (((i : Nat) : Int) < (((l.map Lk.e).length : Nat) : Int)) = true := by rw [decide_eq_true_eq, List.length_map]; omega
        have hs9 : s.length < 4294967295 := by omega
        have b1 : ((s.map Lk.e).length + ([[.int .i64 a.t, .int .i64 a.k, .float .f64 a.q.toNat, .int .i64 a.p]] : List (List PV)).length) * 32 ≤ 140737488355328 := by rw [List.length_map]; exact rm32 hs9
        have m1 : s.map Lk.e ++ ([[.int .i64 a.t, .int .i64 a.k, .float .f64 a.q.toNat, .int .i64 a.p]] : List (List PV)) = (s ++ [a]).map Lk.e := map_app1 (f := Lk.e) s a
        simp only [hdi, nn, Int.toNat_natCast, bind_some', mapGet hg, Lk.e, asInt_int, asBool_bool, asStr_str, asSl_psl, asSl_nil, asAgg_agg, asTup_tup, asCons_cons, asNil_nil, asFlt_flt, asRef_ref, asWhole_whole, asView_view, asWv_whole, asWv_view, asFn_fn, asPref_pref, asOCons_cons, asONil_nil, asBox_box, asMade_made, asGone_dead, asGone_made, bind_some', onEx_exit, onEx_ret, wrap_succ (show i < 4611686018427387904 by omega), if_true, b1]
        simp only [m1, bne]
        cases (a.t == t) <;> rfl) (fun s hs => by rw [lqK19_3]; simp only [List.length_map, Int.lt_irrefl, decide_false, Bool.false_eq_true, if_false]) [] (Nat.le_refl _)
  rw [lp, foldI_filter] at ev
  simp only [asInt_int, asBool_bool, asStr_str, asSl_psl, asSl_nil, asAgg_agg, asTup_tup, asCons_cons, asNil_nil, asFlt_flt, asRef_ref, asWhole_whole, asView_view, asWv_whole, asWv_view, asFn_fn, asPref_pref, asOCons_cons, asONil_nil, asBox_box, asMade_made, asGone_dead, asGone_made, bind_some', onEx_exit, onEx_ret, if_true, mkS_hit, mkS_miss, ne_eq, not_false_eq_true, Nat.reduceLT, Nat.reduceEqDiff] at ev
  exact pc ev rfl
/-! ### Alike -/
theorem spSameAll (a b : List Lk) (hl : a.length < 1000000) : pcall Cω 20 [.psl false (a.map Lk.e), .psl false (b.map Lk.e)] = some (.bool (decide (a = b))) := by
  have hq : pcall Cω 48 [.psl false (a.map Lk.e), .psl false (b.map Lk.e), .func 49 []] = some (.bool (decide (a = b))) := by
    have ev := eqK48_49 Cω Lω (a.map Lk.e) (b.map Lk.e)
    rw [List.length_map, List.length_map] at ev
    by_cases h : a.length = b.length
    · rw [if_neg (by rw [neLen]; exact fun e => e h)] at ev
      have lp : Lω 48 lcK48_4_49 0 (stK48_4_49 (b.map Lk.e) (a.map Lk.e) (a.length : Nat) 0) [] = _ :=
        loopCheck (fun i => stK48_4_49 (b.map Lk.e) (a.map Lk.e) (a.length : Nat) (i : Nat)) [] a (fun i x => decide (b[i]? = some x)) (.ret, mkS 32 [(6, .bool false)], []) (.exit 0, mkS 32 [], []) (fun i x hg hi => by
          have hb : b[i]? = some b[i] := List.getElem?_eq_getElem (by omega)
          have hm := mapGet (f := Lk.e) hb
          have hs := spSameL x b[i]
          have hdi : decide (((i : Nat) : Int) < ((a.length : Nat) : Int)) = true := by rw [decide_eq_true_eq]; omega
          simp only [Lk.e] at hs hm
          rw [lqK48_4_49]
          simp only [hdi, nn, Int.toNat_natCast, bind_some', mapGet hg, hm, Lk.e, asInt_int, asBool_bool, asStr_str, asSl_psl, asSl_nil, asAgg_agg, asTup_tup, asCons_cons, asNil_nil, asFlt_flt, asRef_ref, asWhole_whole, asView_view, asWv_whole, asWv_view, asFn_fn, asPref_pref, asOCons_cons, asONil_nil, asBox_box, asMade_made, asGone_dead, asGone_made, bind_some', onEx_exit, onEx_ret, wrap_succ (show i < 4611686018427387904 by omega), hs, if_true, hb]
          by_cases hx : x = b[i]
          · subst hx
            simp only [decide_true, Bool.not_true, Bool.false_eq_true, if_false, if_true]
          · have hx' : ¬ b[i] = x := fun e => hx e.symm
            simp only [hx, hx', decide_false, Bool.not_false, Bool.false_eq_true, if_false, if_true, Option.some.injEq]) (by rw [lqK48_4_49]; simp only [Int.lt_irrefl, decide_false, Bool.false_eq_true, if_false])
      rw [lp, eqAll0 h] at ev
      by_cases h2 : a = b
      · simp only [h2, decide_true, if_true, asInt_int, asBool_bool, asStr_str, asSl_psl, asSl_nil, asAgg_agg, asTup_tup, asCons_cons, asNil_nil, asFlt_flt, asRef_ref, asWhole_whole, asView_view, asWv_whole, asWv_view, asFn_fn, asPref_pref, asOCons_cons, asONil_nil, asBox_box, asMade_made, asGone_dead, asGone_made, bind_some', onEx_exit, onEx_ret] at ev ⊢
        exact pc ev rfl
      · simp only [h2, decide_false, Bool.false_eq_true, if_false, asInt_int, asBool_bool, asStr_str, asSl_psl, asSl_nil, asAgg_agg, asTup_tup, asCons_cons, asNil_nil, asFlt_flt, asRef_ref, asWhole_whole, asView_view, asWv_whole, asWv_view, asFn_fn, asPref_pref, asOCons_cons, asONil_nil, asBox_box, asMade_made, asGone_dead, asGone_made, bind_some', onEx_exit, onEx_ret, mkS_hit, mkS_miss, ne_eq, not_false_eq_true, Nat.reduceLT, Nat.reduceEqDiff] at ev ⊢
        exact pc ev rfl
    · rw [if_pos (by rw [neLen]; exact h)] at ev
      have h2 : ¬ a = b := fun e => h (by rw [e])
      rw [decide_eq_false h2]
      exact pc ev rfl
  have ev := eqK20 Cω Lω (a.map Lk.e) (b.map Lk.e)
  simp only [hq, asInt_int, asBool_bool, asStr_str, asSl_psl, asSl_nil, asAgg_agg, asTup_tup, asCons_cons, asNil_nil, asFlt_flt, asRef_ref, asWhole_whole, asView_view, asWv_whole, asWv_view, asFn_fn, asPref_pref, asOCons_cons, asONil_nil, asBox_box, asMade_made, asGone_dead, asGone_made, bind_some', onEx_exit, onEx_ret] at ev
  exact pc ev rfl
end Go.Pvm.S
