/- Part of the proof: numbers compared; the first that is not nought. -/
import Derived.Test.YtbhjbehdafcnoaaKL
import Derived.Test.YtbhjbehdafcnoaaEqKAll
set_option linter.unusedSimpArgs false
set_option linter.unusedVariables false
set_option maxRecDepth 100000
namespace Go.Pvm.S
open Go.Pvm Go.Proofs
/-- Less, alike, more. -/
def cmpI (a b : Int) : Int := if a < b then -1 else if a > b then 1 else 0
theorem spCmp (a b : Int) : pcall Cω 59 [.int .i64 a, .int .i64 b] = some (.int .i64 (cmpI a b)) := by
  have hn : ∀ z, pcall Cω 74 [.int .i64 z] = some (.bool false) := fun z => pc (eqK74 Cω Lω z) (by show PV.bool (z != z) = _; rw [bne_self_eq_false])
  have ev := eqK59 Cω Lω a b
  simp only [hn, asInt_int, asBool_bool, asStr_str, asSl_psl, asSl_nil, asAgg_agg, asTup_tup, asCons_cons, asNil_nil, asFlt_flt, asRef_ref, asWhole_whole, asView_view, asWv_whole, asWv_view, asFn_fn, asPref_pref, asOCons_cons, asONil_nil, asBox_box, asMade_made, asGone_dead, asGone_made, bind_some', onEx_exit, onEx_ret, Bool.false_eq_true, if_false, decide_eq_true_eq] at ev
  unfold cmpI
  by_cases h : a < b
  · rw [if_pos h] at ev ⊢
    exact pc ev rfl
  · rw [if_neg h] at ev ⊢
    by_cases h2 : a > b
    · rw [if_pos h2] at ev ⊢
      exact pc ev rfl
    · rw [if_neg h2] at ev ⊢
      exact pc ev rfl
/-- The first that is not nought. -/
def orI (l : List Int) : Int := ((l.find? (· != 0)).getD 0)
theorem lpOr (l : List Int) (hl : l.length < 4611686018427387904) : Lω 58 lcK58_3 0 (stK58_3 0 (l.map ie) (l.length : Nat) 0) [] =
    some (runL (fun i a _ => if (a != 0) = true then .out (.ret, mkS 18 [(2, .int .i64 a)], []) else .on ()) (fun _ => (.exit 0, mkS 18 [(3, .int .i64 0)], [])) l 0 ()) :=
  loopL (fun i _ => stK58_3 0 (l.map ie) (l.length : Nat) (i : Nat)) (fun _ _ => []) l _ _ (fun _ _ => True)
    (fun i a s hg hi _ => by
      rw [lqK58_3]
      simp only [decide_eq_true_eq, Int.ofNat_lt, List.length_map, if_true, nn, true_and, Int.toNat_natCast, bind_some', hi, mapGet hg, ie, asInt_int, asBool_bool, asStr_str, asSl_psl, asSl_nil, asAgg_agg, asTup_tup, asCons_cons, asNil_nil, asFlt_flt, asRef_ref, asWhole_whole, asView_view, asWv_whole, asWv_view, asFn_fn, asPref_pref, asOCons_cons, asONil_nil, asBox_box, asMade_made, asGone_dead, asGone_made, bind_some', onEx_exit, onEx_ret]
      by_cases h : (a != 0) = true
      · simp only [h, if_true]
      · simp only [h, if_false, wrap_succ (show i < 4611686018427387904 by omega)]
        first | rfl | exact ⟨trivial, rfl⟩)
    (fun s _ => by rw [lqK58_3]; simp only [decide_eq_true_eq, Int.ofNat_lt, List.length_map, if_true, nn, true_and, Int.toNat_natCast, bind_some', Nat.lt_irrefl, if_false]) () trivial
theorem spOr (l : List Int) (hl : l.length < 4611686018427387904) : pcall Cω 58 [.psl false (l.map ie)] = some (.int .i64 (orI l)) := by
  have ev := eqK58 Cω Lω (l.map ie)
  have lp := lpOr l hl
  rw [runL_find] at lp
  rw [List.length_map, lp] at ev
  have hf := findI_find (p := fun a : Int => a != 0) l 0
  unfold orI
  rw [← hf]
  cases hq : findI (fun a : Int => a != 0) l 0 with
  | none =>
    rw [hq] at ev
    simp only [fndO_some, fndO_none, asInt_int, asBool_bool, asStr_str, asSl_psl, asSl_nil, asAgg_agg, asTup_tup, asCons_cons, asNil_nil, asFlt_flt, asRef_ref, asWhole_whole, asView_view, asWv_whole, asWv_view, asFn_fn, asPref_pref, asOCons_cons, asONil_nil, asBox_box, asMade_made, asGone_dead, asGone_made, bind_some', onEx_exit, onEx_ret, mkS_hit, mkS_miss, ne_eq, not_false_eq_true, Nat.reduceLT, Nat.reduceEqDiff, if_true] at ev
    exact pc ev rfl
  | some x =>
    rw [hq] at ev
    simp only [fndO_some, fndO_none, asInt_int, asBool_bool, asStr_str, asSl_psl, asSl_nil, asAgg_agg, asTup_tup, asCons_cons, asNil_nil, asFlt_flt, asRef_ref, asWhole_whole, asView_view, asWv_whole, asWv_view, asFn_fn, asPref_pref, asOCons_cons, asONil_nil, asBox_box, asMade_made, asGone_dead, asGone_made, bind_some', onEx_exit, onEx_ret, mkS_hit, mkS_miss, ne_eq, not_false_eq_true, Nat.reduceLT, Nat.reduceEqDiff, if_true] at ev
    exact pc ev rfl
theorem cmpI_cases (a b : Int) : (a < b ∧ cmpI a b = -1) ∨ (a = b ∧ cmpI a b = 0) ∨ (b < a ∧ cmpI a b = 1) := by
  unfold cmpI
  rcases Int.lt_trichotomy a b with h | h | h
  · exact .inl ⟨h, by rw [if_pos h]⟩
  · exact .inr (.inl ⟨h, by rw [if_neg (by omega), if_neg (by omega)]⟩)
  · exact .inr (.inr ⟨h, by rw [if_neg (by omega), if_pos h]⟩)
theorem orI2 (a b : Int) : orI [a, b] = if a = 0 then b else a := by
  unfold orI
  by_cases h : a = 0
  · subst h
    by_cases h2 : b = 0
    · subst h2; rfl
    · have : (b != 0) = true := by simpa using h2
      simp [List.find?_cons, this]
  · have : (a != 0) = true := by simpa using h
    simp [List.find?_cons, this, h]
theorem orI_cons (a : Int) (l : List Int) : orI (a :: l) = if a = 0 then orI l else a := by
  unfold orI
  by_cases h : a = 0
  · subst h; rfl
  · have : (a != 0) = true := by simpa using h
    simp [List.find?_cons, this, h]
theorem orI_nil : orI [] = 0 := rfl
end Go.Pvm.S
