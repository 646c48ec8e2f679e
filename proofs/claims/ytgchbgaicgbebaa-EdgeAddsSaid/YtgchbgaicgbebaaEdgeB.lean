/- Part of the proof: edges: numbers compared, which edges and spans may be. -/
import Derived.Test.YtgchbgaicgbebaaKL
import Derived.Test.YtgchbgaicgbebaaEqKAll
set_option linter.unusedSimpArgs false
set_option linter.unusedVariables false
set_option maxRecDepth 100000
namespace Go.Pvm.S
open Go.Pvm Go.Proofs
structure Ed where
  f : Int
  t : Int
  deriving DecidableEq
def Ed.e (x : Ed) : List PV := [.int .i64 x.f, .int .i64 x.t]
theorem Ed.e_ok (x : Ed) : x.e.length = 2 ∧ x.e.all PV.plain = true ∧ PV.own.owns x.e = true := ⟨rfl, rfl, rfl⟩
structure Spn where
  t : Int
  b : Int
  c : Int
  deriving DecidableEq
def Spn.e (x : Spn) : List PV := [.int .i64 x.t, .int .i64 x.b, .int .i64 x.c]
theorem Spn.e_ok (x : Spn) : x.e.length = 3 ∧ x.e.all PV.plain = true ∧ PV.own.owns x.e = true := ⟨rfl, rfl, rfl⟩
/-- A number that may be. -/
def inn (n : Int) : Bool := decide (n ≥ 1) && decide (n ≤ 2147483647)
theorem spInF (n : Int) : pcall Cω 25 [.int .i64 n] = some (.bool (inn n)) := by
  have ev := eqK25 Cω Lω n
  unfold inn
  by_cases h : n ≥ 1
  · simp only [decide_eq_true_eq, h, if_true] at ev
    rw [decide_eq_true h, Bool.true_and]
    exact pc ev rfl
  · simp only [decide_eq_true_eq, h, if_false] at ev
    rw [decide_eq_false h, Bool.false_and]
    exact pc ev rfl
/-- Less, alike, more. -/
def cmpI (a b : Int) : Int := if a < b then -1 else if a > b then 1 else 0
theorem spCmp (a b : Int) : pcall Cω 42 [.int .i64 a, .int .i64 b] = some (.int .i64 (cmpI a b)) := by
  have hn : ∀ z, pcall Cω 58 [.int .i64 z] = some (.bool false) := fun z => pc (eqK58 Cω Lω z) (by show PV.bool (z != z) = _; rw [bne_self_eq_false])
  have ev := eqK42 Cω Lω a b
  simp only [hn, asInt_int, asBool_bool, asStr_str, asSl_psl, asSl_nil, asAgg_agg, asTup_tup, asCons_cons, asNil_nil, asFlt_flt, asRef_ref, asWhole_whole, asView_view, asWv_whole, asWv_view, asFn_fn, asPref_pref, asOCons_cons, asONil_nil, asBox_box, asMade_made, asGone_dead, asGone_made, bind_some', onEx_exit, onEx_ret, Bool.false_eq_true, if_false, decide_eq_true_eq] at ev
  unfold cmpI
  by_cases h : a < b
  · rw [if_pos h] at ev ⊢
    exact pc ev rfl
  · rw [if_neg h] at ev ⊢
    by_cases h2 : a > b
    · rw [if_pos h2] at ev ⊢
      exact pc ev rfl
    · rw [if_neg h2] at ev ⊢
      exact pc ev rfl
/-- The first that is not nought. -/
def orI (l : List Int) : Int := ((l.find? (· != 0)).getD 0)
theorem lpOr (l : List Int) (hl : l.length < 4611686018427387904) : Lω 41 lcK41_3 0 (stK41_3 0 (l.map ie) (l.length : Nat) 0) [] =
    some (runL (fun i a _ => if (a != 0) = true then .out (.ret, mkS 18 [(2, .int .i64 a)], []) else .on ()) (fun _ => (.exit 0, mkS 18 [(3, .int .i64 0)], [])) l 0 ()) :=
  loopL (fun i _ => stK41_3 0 (l.map ie) (l.length : Nat) (i : Nat)) (fun _ _ => []) l _ _ (fun _ _ => True)
    (fun i a s hg hi _ => by
      rw [lqK41_3]
      simp only [decide_eq_true_eq, Int.ofNat_lt, List.length_map, if_true, nn, true_and, Int.toNat_natCast, bind_some', hi, mapGet hg, ie, asInt_int, asBool_bool, asStr_str, asSl_psl, asSl_nil, asAgg_agg, asTup_tup, asCons_cons, asNil_nil, asFlt_flt, asRef_ref, asWhole_whole, asView_view, asWv_whole, asWv_view, asFn_fn, asPref_pref, asOCons_cons, asONil_nil, asBox_box, asMade_made, asGone_dead, asGone_made, bind_some', onEx_exit, onEx_ret]
      by_cases h : (a != 0) = true
      · simp only [h, if_true]
      · simp only [h, if_false, wrap_succ (show i < 4611686018427387904 by omega)]
        first | rfl | exact ⟨trivial, rfl⟩)
    (fun s _ => by rw [lqK41_3]; simp only [decide_eq_true_eq, Int.ofNat_lt, List.length_map, if_true, nn, true_and, Int.toNat_natCast, bind_some', Nat.lt_irrefl, if_false]) () trivial
theorem spOr (l : List Int) (hl : l.length < 4611686018427387904) : pcall Cω 41 [.psl false (l.map ie)] = some (.int .i64 (orI l)) := by
  have ev := eqK41 Cω Lω (l.map ie)
  have lp := lpOr l hl
  rw [runL_find] at lp
  rw [List.length_map, lp] at ev
  have hf := findI_find (p := fun a : Int => a != 0) l 0
  unfold orI
  rw [← hf]
  cases hq : findI (fun a : Int => a != 0) l 0 with
  | none =>
    rw [hq] at ev
    simp only [fndO_some, fndO_none, asInt_int, asBool_bool, asStr_str, asSl_psl, asSl_nil, asAgg_agg, asTup_tup, asCons_cons, asNil_nil, asFlt_flt, asRef_ref, asWhole_whole, asView_view, asWv_whole, asWv_view, asFn_fn, asPref_pref, asOCons_cons, asONil_nil, asBox_box, asMade_made, asGone_dead, asGone_made, bind_some', onEx_exit, onEx_ret, mkS_hit, mkS_miss, ne_eq, not_false_eq_true, Nat.reduceLT, Nat.reduceEqDiff, if_true] at ev
    exact pc ev rfl
  | some x =>
    rw [hq] at ev
    simp only [fndO_some, fndO_none, asInt_int, asBool_bool, asStr_str, asSl_psl, asSl_nil, asAgg_agg, asTup_tup, asCons_cons, asNil_nil, asFlt_flt, asRef_ref, asWhole_whole, asView_view, asWv_whole, asWv_view, asFn_fn, asPref_pref, asOCons_cons, asONil_nil, asBox_box, asMade_made, asGone_dead, asGone_made, bind_some', onEx_exit, onEx_ret, mkS_hit, mkS_miss, ne_eq, not_false_eq_true, Nat.reduceLT, Nat.reduceEqDiff, if_true] at ev
    exact pc ev rfl
def ordE (a b : Ed) : Int := orI [cmpI a.f b.f, cmpI a.t b.t]
theorem spOrder (a b : Ed) : pcall Cω 32 [.agg a.e, .agg b.e] = some (.int .i64 (ordE a b)) := by
  have ev := eqK32 Cω Lω a.f a.t b.f b.t
  have h := spOr [cmpI a.f b.f, cmpI a.t b.t] (by show (2 : Nat) < _; decide)
  simp only [List.map, ie] at h
  simp only [spCmp, asInt_int, asBool_bool, asStr_str, asSl_psl, asSl_nil, asAgg_agg, asTup_tup, asCons_cons, asNil_nil, asFlt_flt, asRef_ref, asWhole_whole, asView_view, asWv_whole, asWv_view, asFn_fn, asPref_pref, asOCons_cons, asONil_nil, asBox_box, asMade_made, asGone_dead, asGone_made, bind_some', onEx_exit, onEx_ret, h] at ev
  exact pc ev rfl
theorem cmpI_cases (a b : Int) : (a < b ∧ cmpI a b = -1) ∨ (a = b ∧ cmpI a b = 0) ∨ (b < a ∧ cmpI a b = 1) := by
  unfold cmpI
  rcases Int.lt_trichotomy a b with h | h | h
  · exact .inl ⟨h, by rw [if_pos h]⟩
  · exact .inr (.inl ⟨h, by rw [if_neg (by omega), if_neg (by omega)]⟩)
  · exact .inr (.inr ⟨h, by rw [if_neg (by omega), if_pos h]⟩)
theorem orI2 (a b : Int) : orI [a, b] = if a = 0 then b else a := by
  unfold orI
  by_cases h : a = 0
  · subst h
    by_cases h2 : b = 0
    · subst h2; rfl
    · have : (b != 0) = true := by simpa using h2
      simp [List.find?_cons, this]
  · have : (a != 0) = true := by simpa using h
    simp [List.find?_cons, this, h]
theorem ordE_lt {a b : Ed} : ordE a b < 0 ↔ a.f < b.f ∨ (a.f = b.f ∧ a.t < b.t) := by
  unfold ordE
  rw [orI2]
  rcases cmpI_cases a.f b.f with ⟨h, e⟩ | ⟨h, e⟩ | ⟨h, e⟩ <;> rcases cmpI_cases a.t b.t with ⟨k, e'⟩ | ⟨k, e'⟩ | ⟨k, e'⟩ <;> rw [e] <;> (try rw [if_pos rfl]) <;> (try rw [if_neg (by decide)]) <;> (try rw [e']) <;> constructor <;> intro q <;> first | omega | decide
theorem ordE_eq {a b : Ed} : ordE a b = 0 ↔ a = b := by
  have hab : a = b ↔ a.f = b.f ∧ a.t = b.t := by
    obtain ⟨af, at_⟩ := a
    obtain ⟨bf, bt⟩ := b
    exact Ed.mk.injEq .. ▸ Iff.rfl
  rw [hab]
  unfold ordE
  rw [orI2]
  rcases cmpI_cases a.f b.f with ⟨h, e⟩ | ⟨h, e⟩ | ⟨h, e⟩ <;> rcases cmpI_cases a.t b.t with ⟨k, e'⟩ | ⟨k, e'⟩ | ⟨k, e'⟩ <;> rw [e] <;> (try rw [if_pos rfl]) <;> (try rw [if_neg (by decide)]) <;> (try rw [e']) <;> constructor <;> intro q <;> first | omega | decide

/-! ### Which edges, and which spans, may be -/
def okE (l : List Ed) (i : Nat) (a : Ed) : Bool := inn a.f && (inn a.t && (!(a.f == a.t) && (decide (i = 0) || decide (ordE (l.getD (i - 1) a) a < 0))))
def mayE (l : List Ed) : Bool := decide (l.length ≤ 600) && allI (okE l) l 0
def okS (l : List Spn) (i : Nat) (a : Spn) : Bool := inn a.t && (decide (0 ≤ a.b) && (decide (a.b ≤ 2147483647) && ((a.c == 0 || (decide (a.c > a.b) && decide (a.c ≤ 2147483647))) && (decide (i = 0) || decide ((l.getD (i - 1) a).t < a.t)))))
def mayS (l : List Spn) : Bool := decide (l.length ≤ 24) && allI (okS l) l 0
theorem lpCheck (l : List Ed) (hl : l.length < 4611686018427387904) : Lω 16 lcK16_4 0 (stK16_4 (l.map Ed.e) (l.map Ed.e) (l.length : Nat) 0) [] =
    some (if allI (okE l) l 0 = true then (.exit 0, mkS 47 [], []) else (.ret, mkS 47 [(2, .int .i64 1)], [])) :=
  loopCheck (fun i => stK16_4 (l.map Ed.e) (l.map Ed.e) (l.length : Nat) (i : Nat)) [] l (okE l) _ _ (fun i a hg hi => by
    rw [lqK16_4]
    simp only [decide_eq_true_eq, Int.ofNat_lt, List.length_map, if_true, nn, true_and, Int.toNat_natCast, bind_some', hi, mapGet hg, Ed.e, asInt_int, asBool_bool, asStr_str, asSl_psl, asSl_nil, asAgg_agg, asTup_tup, asCons_cons, asNil_nil, asFlt_flt, asRef_ref, asWhole_whole, asView_view, asWv_whole, asWv_view, asFn_fn, asPref_pref, asOCons_cons, asONil_nil, asBox_box, asMade_made, asGone_dead, asGone_made, bind_some', onEx_exit, onEx_ret, spInF]
    unfold okE
    have ho := spOrder (l.getD (i - 1) a) a
    simp only [Ed.e] at ho
    cases inn a.f <;> cases inn a.t <;> cases (a.f == a.t) <;> simp only [Bool.not_true, Bool.not_false, Bool.false_and, Bool.true_and, Bool.false_eq_true, if_true, if_false]
    by_cases h0 : 0 < i
    · have hz : decide (i = 0) = false := decide_eq_false (by omega)
      rw [if_pos (by omega), if_pos (by rw [wrap_pred h0 (by omega)]; exact nn _), wrap_pred h0 (by omega), Int.toNat_natCast, mapGet (prev (a := a) hi h0)]
      simp only [Ed.e, asInt_int, asBool_bool, asStr_str, asSl_psl, asSl_nil, asAgg_agg, asTup_tup, asCons_cons, asNil_nil, asFlt_flt, asRef_ref, asWhole_whole, asView_view, asWv_whole, asWv_view, asFn_fn, asPref_pref, asOCons_cons, asONil_nil, asBox_box, asMade_made, asGone_dead, asGone_made, bind_some', onEx_exit, onEx_ret, ho, hz, Bool.false_or, decide_eq_true_eq]
      by_cases h : ordE (l.getD (i - 1) a) a < 0
      · rw [if_neg (by omega), if_pos h, wrap_succ (by omega)]
      · rw [if_pos (by omega), if_neg h]
    · have : i = 0 := by omega
      subst this
      simp only [decide_true, Bool.true_or, if_true]
      rw [if_neg (by decide)]
      rfl) (by rw [lqK16_4]; simp only [decide_eq_true_eq, Int.ofNat_lt, List.length_map, if_true, nn, true_and, Int.toNat_natCast, bind_some', Nat.lt_irrefl, if_false])
theorem spCheck (l : List Ed) (hl : l.length < 4611686018427387904) : pcall Cω 16 [.psl false (l.map Ed.e)] = some (.int .i64 (if mayE l = true then 0 else 1)) := by
  have ev := eqK16 Cω Lω (l.map Ed.e)
  rw [List.length_map, lpCheck l hl] at ev
  unfold mayE
  by_cases h : l.length ≤ 600
  · rw [if_neg (by rw [decide_eq_true_eq]; omega)] at ev
    simp only [decI h, Bool.true_and]
    by_cases h2 : allI (okE l) l 0 = true
    · simp only [h2, if_true, asInt_int, asBool_bool, asStr_str, asSl_psl, asSl_nil, asAgg_agg, asTup_tup, asCons_cons, asNil_nil, asFlt_flt, asRef_ref, asWhole_whole, asView_view, asWv_whole, asWv_view, asFn_fn, asPref_pref, asOCons_cons, asONil_nil, asBox_box, asMade_made, asGone_dead, asGone_made, bind_some', onEx_exit, onEx_ret] at ev ⊢
      exact pc ev rfl
    · simp only [h2, if_false, asInt_int, asBool_bool, asStr_str, asSl_psl, asSl_nil, asAgg_agg, asTup_tup, asCons_cons, asNil_nil, asFlt_flt, asRef_ref, asWhole_whole, asView_view, asWv_whole, asWv_view, asFn_fn, asPref_pref, asOCons_cons, asONil_nil, asBox_box, asMade_made, asGone_dead, asGone_made, bind_some', onEx_exit, onEx_ret, mkS_hit, mkS_miss, ne_eq, not_false_eq_true, Nat.reduceLT, Nat.reduceEqDiff] at ev ⊢
      exact pc ev rfl
  · rw [if_pos (by rw [decide_eq_true_eq]; omega)] at ev
    simp only [decide_eq_false h, Bool.false_and, Bool.false_eq_true, if_false]
    exact pc ev rfl
theorem lpCheckS (l : List Spn) (hl : l.length < 4611686018427387904) : Lω 9 lcK9_4 0 (stK9_4 (l.map Spn.e) (l.map Spn.e) (l.length : Nat) 0) [] =
    some (if allI (okS l) l 0 = true then (.exit 0, mkS 68 [], []) else (.ret, mkS 68 [(2, .int .i64 1)], [])) :=
  loopCheck (fun i => stK9_4 (l.map Spn.e) (l.map Spn.e) (l.length : Nat) (i : Nat)) [] l (okS l) _ _ (fun i a hg hi => by
    rw [lqK9_4]
    simp only [decide_eq_true_eq, Int.ofNat_lt, List.length_map, if_true, nn, true_and, Int.toNat_natCast, bind_some', hi, mapGet hg, Spn.e, asInt_int, asBool_bool, asStr_str, asSl_psl, asSl_nil, asAgg_agg, asTup_tup, asCons_cons, asNil_nil, asFlt_flt, asRef_ref, asWhole_whole, asView_view, asWv_whole, asWv_view, asFn_fn, asPref_pref, asOCons_cons, asONil_nil, asBox_box, asMade_made, asGone_dead, asGone_made, bind_some', onEx_exit, onEx_ret, spInF, gt_iff_lt, posNat, wrap_succ (show i < 4611686018427387904 by omega)]
    unfold okS
    by_cases h0 : 0 < i
    · obtain ⟨p1, p2⟩ := prevAt (e := Spn.e) a hi hl h0
      simp only [h0, if_true, p1, p2, Spn.e, asInt_int, asBool_bool, asStr_str, asSl_psl, asSl_nil, asAgg_agg, asTup_tup, asCons_cons, asNil_nil, asFlt_flt, asRef_ref, asWhole_whole, asView_view, asWv_whole, asWv_view, asFn_fn, asPref_pref, asOCons_cons, asONil_nil, asBox_box, asMade_made, asGone_dead, asGone_made, bind_some', onEx_exit, onEx_ret]
      cases inn a.t <;> simp only [Bool.and_eq_true, Bool.or_eq_true, Bool.not_eq_true', Bool.not_eq_true, Bool.false_eq_true, Bool.true_eq_false, decide_eq_true_eq, decide_eq_false_iff_not, beq_iff_eq, beq_eq_false_iff_ne, bne_iff_ne, ne_eq, ge_iff_le, gt_iff_lt, if_true, if_false, false_and, true_and, and_true, and_false, false_or, true_or, or_true, or_false, Bool.not_true, Bool.not_false, decide_true, decide_false, Bool.and_true, Bool.true_and, Bool.false_and, Bool.and_false, Bool.or_true, Bool.true_or, Bool.false_or, Bool.or_false, not_true, not_false_eq_true, Int.not_lt, Int.not_le, Decidable.not_not] <;> (repeat' split) <;> first | rfl | (exfalso; omega)
    · simp only [h0, if_false]
      cases inn a.t <;> simp only [Bool.and_eq_true, Bool.or_eq_true, Bool.not_eq_true', Bool.not_eq_true, Bool.false_eq_true, Bool.true_eq_false, decide_eq_true_eq, decide_eq_false_iff_not, beq_iff_eq, beq_eq_false_iff_ne, bne_iff_ne, ne_eq, ge_iff_le, gt_iff_lt, if_true, if_false, false_and, true_and, and_true, and_false, false_or, true_or, or_true, or_false, Bool.not_true, Bool.not_false, decide_true, decide_false, Bool.and_true, Bool.true_and, Bool.false_and, Bool.and_false, Bool.or_true, Bool.true_or, Bool.false_or, Bool.or_false, not_true, not_false_eq_true, Int.not_lt, Int.not_le, Decidable.not_not] <;> (repeat' split) <;> first | rfl | (exfalso; omega)) (by rw [lqK9_4]; simp only [decide_eq_true_eq, Int.ofNat_lt, List.length_map, if_true, nn, true_and, Int.toNat_natCast, bind_some', Nat.lt_irrefl, if_false])
theorem spCheckS (l : List Spn) (hl : l.length < 4611686018427387904) : pcall Cω 9 [.psl false (l.map Spn.e)] = some (.int .i64 (if mayS l = true then 0 else 1)) := by
  have ev := eqK9 Cω Lω (l.map Spn.e)
  rw [List.length_map, lpCheckS l hl] at ev
  unfold mayS
  by_cases h : l.length ≤ 24
  · rw [if_neg (by rw [decide_eq_true_eq]; omega)] at ev
    simp only [decI h, Bool.true_and]
    by_cases h2 : allI (okS l) l 0 = true
    · simp only [h2, if_true, asInt_int, asBool_bool, asStr_str, asSl_psl, asSl_nil, asAgg_agg, asTup_tup, asCons_cons, asNil_nil, asFlt_flt, asRef_ref, asWhole_whole, asView_view, asWv_whole, asWv_view, asFn_fn, asPref_pref, asOCons_cons, asONil_nil, asBox_box, asMade_made, asGone_dead, asGone_made, bind_some', onEx_exit, onEx_ret] at ev ⊢
      exact pc ev rfl
    · simp only [h2, if_false, asInt_int, asBool_bool, asStr_str, asSl_psl, asSl_nil, asAgg_agg, asTup_tup, asCons_cons, asNil_nil, asFlt_flt, asRef_ref, asWhole_whole, asView_view, asWv_whole, asWv_view, asFn_fn, asPref_pref, asOCons_cons, asONil_nil, asBox_box, asMade_made, asGone_dead, asGone_made, bind_some', onEx_exit, onEx_ret, mkS_hit, mkS_miss, ne_eq, not_false_eq_true, Nat.reduceLT, Nat.reduceEqDiff] at ev ⊢
      exact pc ev rfl
  · rw [if_pos (by rw [decide_eq_true_eq]; omega)] at ev
    simp only [decide_eq_false h, Bool.false_and, Bool.false_eq_true, if_false]
    exact pc ev rfl
theorem spRIn (n : Int) : pcall Cω 20 [.int .i64 n] = some (.bool (inn n)) := by
  have ev := eqK20 Cω Lω n
  have h2 : decide (n < 2147483648) = decide (n ≤ 2147483647) := by rw [decide_eq_decide]; omega
  unfold inn
  rw [← h2]
  by_cases h : n ≥ 1
  · simp only [decide_eq_true_eq, h, if_true] at ev
    rw [decide_eq_true h, Bool.true_and]
    exact pc ev rfl
  · simp only [decide_eq_true_eq, h, if_false] at ev
    rw [decide_eq_false h, Bool.false_and]
    exact pc ev rfl
theorem lpRMay (l : List Ed) (hl : l.length < 4611686018427387904) : Lω 11 lcK11_2 0 (stK11_2 (l.map Ed.e) 0) [] =
    some (if allI (okE l) l 0 = true then (.exit 0, mkS 70 [(0, .psl false (l.map Ed.e))], []) else (.ret, mkS 70 [(2, .bool false)], [])) :=
  loopCheck (fun i => stK11_2 (l.map Ed.e) (i : Nat)) [] l (okE l) _ _ (fun i a hg hi => by
    rw [lqK11_2]
    simp only [decide_eq_true_eq, Int.ofNat_lt, List.length_map, if_true, nn, true_and, Int.toNat_natCast, bind_some', hi, mapGet hg, Ed.e, asInt_int, asBool_bool, asStr_str, asSl_psl, asSl_nil, asAgg_agg, asTup_tup, asCons_cons, asNil_nil, asFlt_flt, asRef_ref, asWhole_whole, asView_view, asWv_whole, asWv_view, asFn_fn, asPref_pref, asOCons_cons, asONil_nil, asBox_box, asMade_made, asGone_dead, asGone_made, bind_some', onEx_exit, onEx_ret, spRIn, gt_iff_lt, posNat, wrap_succ (show i < 4611686018427387904 by omega)]
    unfold okE
    have ho := ordE_lt (a := l.getD (i - 1) a) (b := a)
    by_cases h0 : 0 < i
    · obtain ⟨p1, p2⟩ := prevAt (e := Ed.e) a hi hl h0
      simp only [h0, if_true, p1, p2, Ed.e, asInt_int, asBool_bool, asStr_str, asSl_psl, asSl_nil, asAgg_agg, asTup_tup, asCons_cons, asNil_nil, asFlt_flt, asRef_ref, asWhole_whole, asView_view, asWv_whole, asWv_view, asFn_fn, asPref_pref, asOCons_cons, asONil_nil, asBox_box, asMade_made, asGone_dead, asGone_made, bind_some', onEx_exit, onEx_ret]
      cases inn a.f <;> cases inn a.t <;> simp only [Bool.and_eq_true, Bool.or_eq_true, Bool.not_eq_true', Bool.not_eq_true, Bool.false_eq_true, Bool.true_eq_false, decide_eq_true_eq, decide_eq_false_iff_not, beq_iff_eq, beq_eq_false_iff_ne, bne_iff_ne, ne_eq, ge_iff_le, gt_iff_lt, if_true, if_false, false_and, true_and, and_true, and_false, false_or, true_or, or_true, or_false, Bool.not_true, Bool.not_false, decide_true, decide_false, Bool.and_true, Bool.true_and, Bool.false_and, Bool.and_false, Bool.or_true, Bool.true_or, Bool.false_or, Bool.or_false, not_true, not_false_eq_true, Int.not_lt, Int.not_le, Decidable.not_not, ho] <;> (repeat' split) <;> first | rfl | (exfalso; omega)
    · simp only [h0, if_false]
      cases inn a.f <;> cases inn a.t <;> simp only [Bool.and_eq_true, Bool.or_eq_true, Bool.not_eq_true', Bool.not_eq_true, Bool.false_eq_true, Bool.true_eq_false, decide_eq_true_eq, decide_eq_false_iff_not, beq_iff_eq, beq_eq_false_iff_ne, bne_iff_ne, ne_eq, ge_iff_le, gt_iff_lt, if_true, if_false, false_and, true_and, and_true, and_false, false_or, true_or, or_true, or_false, Bool.not_true, Bool.not_false, decide_true, decide_false, Bool.and_true, Bool.true_and, Bool.false_and, Bool.and_false, Bool.or_true, Bool.true_or, Bool.false_or, Bool.or_false, not_true, not_false_eq_true, Int.not_lt, Int.not_le, Decidable.not_not, ho] <;> (repeat' split) <;> first | rfl | (exfalso; omega)) (by rw [lqK11_2]; simp only [decide_eq_true_eq, Int.ofNat_lt, List.length_map, if_true, nn, true_and, Int.toNat_natCast, bind_some', Nat.lt_irrefl, if_false])
theorem spRMay (l : List Ed) (hl : l.length < 4611686018427387904) : pcall Cω 11 [.psl false (l.map Ed.e)] = some (.bool (mayE l)) := by
  have ev := eqK11 Cω Lω (l.map Ed.e)
  have lp := lpRMay l hl
  rw [lp] at ev
  unfold mayE
  by_cases h2 : allI (okE l) l 0 = true
  · simp only [h2, if_true, asInt_int, asBool_bool, asStr_str, asSl_psl, asSl_nil, asAgg_agg, asTup_tup, asCons_cons, asNil_nil, asFlt_flt, asRef_ref, asWhole_whole, asView_view, asWv_whole, asWv_view, asFn_fn, asPref_pref, asOCons_cons, asONil_nil, asBox_box, asMade_made, asGone_dead, asGone_made, bind_some', onEx_exit, onEx_ret, mkS_hit, mkS_miss, ne_eq, not_false_eq_true, Nat.reduceLT, Nat.reduceEqDiff, List.length_map] at ev
    rw [h2, Bool.and_true]
    rw [show decide (((l.length : Nat) : Int) ≤ 600) = decide (l.length ≤ 600) from by rw [decide_eq_decide]; omega] at ev
    exact pc ev rfl
  · simp only [h2, if_false, asInt_int, asBool_bool, asStr_str, asSl_psl, asSl_nil, asAgg_agg, asTup_tup, asCons_cons, asNil_nil, asFlt_flt, asRef_ref, asWhole_whole, asView_view, asWv_whole, asWv_view, asFn_fn, asPref_pref, asOCons_cons, asONil_nil, asBox_box, asMade_made, asGone_dead, asGone_made, bind_some', onEx_exit, onEx_ret, mkS_hit, mkS_miss, ne_eq, not_false_eq_true, Nat.reduceLT, Nat.reduceEqDiff] at ev
    have h3 : allI (okE l) l 0 = false := by simpa using h2
    rw [h3, Bool.and_false]
    exact pc ev rfl
theorem lpRSpans (l : List Spn) (hl : l.length < 4611686018427387904) : Lω 10 lcK10_2 0 (stK10_2 (l.map Spn.e) 0) [] =
    some (if allI (okS l) l 0 = true then (.exit 0, mkS 64 [(0, .psl false (l.map Spn.e))], []) else (.ret, mkS 64 [(2, .bool false)], [])) :=
  loopCheck (fun i => stK10_2 (l.map Spn.e) (i : Nat)) [] l (okS l) _ _ (fun i a hg hi => by
    rw [lqK10_2]
    simp only [decide_eq_true_eq, Int.ofNat_lt, List.length_map, if_true, nn, true_and, Int.toNat_natCast, bind_some', hi, mapGet hg, Spn.e, asInt_int, asBool_bool, asStr_str, asSl_psl, asSl_nil, asAgg_agg, asTup_tup, asCons_cons, asNil_nil, asFlt_flt, asRef_ref, asWhole_whole, asView_view, asWv_whole, asWv_view, asFn_fn, asPref_pref, asOCons_cons, asONil_nil, asBox_box, asMade_made, asGone_dead, asGone_made, bind_some', onEx_exit, onEx_ret, spRIn, gt_iff_lt, posNat, wrap_succ (show i < 4611686018427387904 by omega)]
    unfold okS
    by_cases h0 : 0 < i
    · obtain ⟨p1, p2⟩ := prevAt (e := Spn.e) a hi hl h0
      simp only [h0, if_true, p1, p2, Spn.e, asInt_int, asBool_bool, asStr_str, asSl_psl, asSl_nil, asAgg_agg, asTup_tup, asCons_cons, asNil_nil, asFlt_flt, asRef_ref, asWhole_whole, asView_view, asWv_whole, asWv_view, asFn_fn, asPref_pref, asOCons_cons, asONil_nil, asBox_box, asMade_made, asGone_dead, asGone_made, bind_some', onEx_exit, onEx_ret]
      cases inn a.t <;> simp only [Bool.and_eq_true, Bool.or_eq_true, Bool.not_eq_true', Bool.not_eq_true, Bool.false_eq_true, Bool.true_eq_false, decide_eq_true_eq, decide_eq_false_iff_not, beq_iff_eq, beq_eq_false_iff_ne, bne_iff_ne, ne_eq, ge_iff_le, gt_iff_lt, if_true, if_false, false_and, true_and, and_true, and_false, false_or, true_or, or_true, or_false, Bool.not_true, Bool.not_false, decide_true, decide_false, Bool.and_true, Bool.true_and, Bool.false_and, Bool.and_false, Bool.or_true, Bool.true_or, Bool.false_or, Bool.or_false, not_true, not_false_eq_true, Int.not_lt, Int.not_le, Decidable.not_not] <;> (repeat' split) <;> first | rfl | (exfalso; omega)
    · simp only [h0, if_false]
      cases inn a.t <;> simp only [Bool.and_eq_true, Bool.or_eq_true, Bool.not_eq_true', Bool.not_eq_true, Bool.false_eq_true, Bool.true_eq_false, decide_eq_true_eq, decide_eq_false_iff_not, beq_iff_eq, beq_eq_false_iff_ne, bne_iff_ne, ne_eq, ge_iff_le, gt_iff_lt, if_true, if_false, false_and, true_and, and_true, and_false, false_or, true_or, or_true, or_false, Bool.not_true, Bool.not_false, decide_true, decide_false, Bool.and_true, Bool.true_and, Bool.false_and, Bool.and_false, Bool.or_true, Bool.true_or, Bool.false_or, Bool.or_false, not_true, not_false_eq_true, Int.not_lt, Int.not_le, Decidable.not_not] <;> (repeat' split) <;> first | rfl | (exfalso; omega)) (by rw [lqK10_2]; simp only [decide_eq_true_eq, Int.ofNat_lt, List.length_map, if_true, nn, true_and, Int.toNat_natCast, bind_some', Nat.lt_irrefl, if_false])
theorem spRSpans (l : List Spn) (hl : l.length < 4611686018427387904) : pcall Cω 10 [.psl false (l.map Spn.e)] = some (.bool (mayS l)) := by
  have ev := eqK10 Cω Lω (l.map Spn.e)
  have lp := lpRSpans l hl
  rw [lp] at ev
  unfold mayS
  by_cases h2 : allI (okS l) l 0 = true
  · simp only [h2, if_true, asInt_int, asBool_bool, asStr_str, asSl_psl, asSl_nil, asAgg_agg, asTup_tup, asCons_cons, asNil_nil, asFlt_flt, asRef_ref, asWhole_whole, asView_view, asWv_whole, asWv_view, asFn_fn, asPref_pref, asOCons_cons, asONil_nil, asBox_box, asMade_made, asGone_dead, asGone_made, bind_some', onEx_exit, onEx_ret, mkS_hit, mkS_miss, ne_eq, not_false_eq_true, Nat.reduceLT, Nat.reduceEqDiff, List.length_map] at ev
    rw [h2, Bool.and_true]
    rw [show decide (((l.length : Nat) : Int) ≤ 24) = decide (l.length ≤ 24) from by rw [decide_eq_decide]; omega] at ev
    exact pc ev rfl
  · simp only [h2, if_false, asInt_int, asBool_bool, asStr_str, asSl_psl, asSl_nil, asAgg_agg, asTup_tup, asCons_cons, asNil_nil, asFlt_flt, asRef_ref, asWhole_whole, asView_view, asWv_whole, asWv_view, asFn_fn, asPref_pref, asOCons_cons, asONil_nil, asBox_box, asMade_made, asGone_dead, asGone_made, bind_some', onEx_exit, onEx_ret, mkS_hit, mkS_miss, ne_eq, not_false_eq_true, Nat.reduceLT, Nat.reduceEqDiff] at ev
    have h3 : allI (okS l) l 0 = false := by simpa using h2
    rw [h3, Bool.and_false]
    exact pc ev rfl
end Go.Pvm.S
