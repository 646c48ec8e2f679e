/- Part of the proof: locks: the document's rounds. -/
import Derived.Test.YtbhjbehdafcnoaaSirG
set_option linter.unusedSimpArgs false
set_option linter.unusedVariables false
set_option maxRecDepth 100000
namespace Go.Pvm.S
open Go.Pvm Go.Proofs
/-! ### The document's, walked -/
def kArr (f : Nat → Nat) : List PV := [.int .i64 (f 0 : Nat), .int .i64 (f 1 : Nat), .int .i64 (f 2 : Nat), .int .i64 (f 3 : Nat), .int .i64 (f 4 : Nat), .int .i64 (f 5 : Nat), .int .i64 (f 6 : Nat), .int .i64 (f 7 : Nat)]
def kG (t : Int) : Nat → Lk → Nat × (Nat → Nat) → Nat × (Nat → Nat) := fun _ a s =>
  (if (a.t == t && a.k == 2) = true then s.1 + 1 else s.1, fun j => if (a.t == t && (a.k == 1 && ((pageV a.q : Nat) : Int) == (j : Nat))) = true then s.2 j + 1 else s.2 j)
theorem kG_all (t : Int) : ∀ (l : List Lk) (i : Nat) (s : Nat × (Nat → Nat)), foldI (kG t) l i s = (s.1 + nPage l t, fun j => s.2 j + nKey l t j)
  | [], i, s => rfl
  | a :: l, i, s => by
    rw [foldI_cons, kG_all t l]
    unfold kG nPage nKey
    simp only
    congr 1
    · by_cases h : (a.t == t && a.k == 2) = true
      · rw [if_pos h, List.filter_cons_of_pos (p := fun a : Lk => a.t == t && a.k == 2) h, List.length_cons]; omega
      · rw [if_neg h, List.filter_cons_of_neg (p := fun a : Lk => a.t == t && a.k == 2) h]
    · funext j
      by_cases h : (a.t == t && (a.k == 1 && ((pageV a.q : Nat) : Int) == (j : Nat))) = true
      · rw [if_pos h, List.filter_cons_of_pos (p := fun a : Lk => a.t == t && (a.k == 1 && ((pageV a.q : Nat) : Int) == (j : Nat))) h, List.length_cons]; omega
      · rw [if_neg h, List.filter_cons_of_neg (p := fun a : Lk => a.t == t && (a.k == 1 && ((pageV a.q : Nat) : Int) == (j : Nat))) h]
theorem kG_le (t : Int) (i : Nat) (a : Lk) (s : Nat × (Nat → Nat)) (h : s.1 ≤ i ∧ ∀ j, s.2 j ≤ i) : (kG t i a s).1 ≤ i + 1 ∧ ∀ j, (kG t i a s).2 j ≤ i + 1 := by
  unfold kG
  refine ⟨?_, fun j => ?_⟩
  · simp only
    split <;> omega
  · have := h.2 j
    simp only
    split <;> omega
theorem lpKeys (l : List Lk) (x : Lk) (hl : l.length ≤ 1000) (i5 : Int) : Lω 39 lcK39_8 0 (stK39_8 (l.map Lk.e) i5 ((0 : Nat) : Int) (0 : Nat)) [.box true 46 [.int .i64 x.t, .int .i64 x.k, .float .f64 x.q.toNat, .int .i64 x.p], .box true 68 (kArr fun _ => 0)] =
    some (.exit 2, mkS 99 [(0, .psl false (l.map Lk.e)), (3, .ref 0 0 0), (5, .int .i64 i5), (6, .ref 1 0 0), (7, .int .i64 (nPage l x.t : Nat))], [.box true 46 [.int .i64 x.t, .int .i64 x.k, .float .f64 x.q.toNat, .int .i64 x.p], .box true 68 (kArr (nKey l x.t))]) := by
  have := loopFold (f := 39) (cd := lcK39_8) (n0 := 0) (fun i (s : Nat × (Nat → Nat)) => stK39_8 (l.map Lk.e) i5 ((s.1 : Nat) : Int) (i : Nat)) (fun _ s => [.box true 46 [.int .i64 x.t, .int .i64 x.k, .float .f64 x.q.toNat, .int .i64 x.p], .box true 68 (kArr s.2)]) l (kG x.t)
    (fun s => (.exit 2, mkS 99 [(0, .psl false (l.map Lk.e)), (3, .ref 0 0 0), (5, .int .i64 i5), (6, .ref 1 0 0), (7, .int .i64 (s.1 : Nat))], [.box true 46 [.int .i64 x.t, .int .i64 x.k, .float .f64 x.q.toNat, .int .i64 x.p], .box true 68 (kArr s.2)]))
    (fun i s => s.1 ≤ i ∧ ∀ j, s.2 j ≤ i) (fun i a s hg hi hs => by
      refine ⟨kG_le x.t i a s hs, ?_⟩
      have hdi : decide (((i : Nat) : Int) < (((l.map Lk.e).length : Nat) : Int)) = true := by rw [decide_eq_true_eq, List.length_map]; omega
      have step := lqK39_8 Cω Lω (l.map Lk.e) i5 (s.1 : Nat) (i : Nat) x.t x.k x.q.toNat x.p (s.2 0 : Nat) (s.2 1 : Nat) (s.2 2 : Nat) (s.2 3 : Nat) (s.2 4 : Nat) (s.2 5 : Nat) (s.2 6 : Nat) (s.2 7 : Nat)
      have w : ∀ j, IntKind.wrap .i64 (((s.2 j : Nat) : Int) + 1) = ((s.2 j + 1 : Nat) : Int) := fun j => wrap_succ (by have := hs.2 j; omega)
      rw [hdi, if_pos rfl] at step
      simp only [nn, Int.toNat_natCast, bind_some', mapGet hg, Lk.e, asInt_int, asBool_bool, asStr_str, asSl_psl, asSl_nil, asAgg_agg, asTup_tup, asCons_cons, asNil_nil, asFlt_flt, asRef_ref, asWhole_whole, asView_view, asWv_whole, asWv_view, asFn_fn, asPref_pref, asOCons_cons, asONil_nil, asBox_box, asMade_made, asGone_dead, asGone_made, bind_some', onEx_exit, onEx_ret, wrap_succ (show i < 4611686018427387904 by omega), wrap_succ (show s.1 < 4611686018427387904 by omega), spRPage, if_true, w] at step
      refine Eq.trans step ?_
      clear step
      unfold kG
      cases h1 : (a.t == x.t)
      · simp only [Bool.false_and, Bool.false_eq_true, if_false]
        rfl
      · cases h2 : (a.k == 1)
        · simp only [Bool.false_and, Bool.and_false, Bool.true_and, Bool.false_eq_true, if_false, if_true]
          cases (a.k == 2) <;> rfl
        · have h3 : (a.k == 2) = false := by
            rw [beq_iff_eq] at h2
            rw [h2]; rfl
          have hp := pageV_lt a.q
          simp only [h3, Bool.and_false, Bool.true_and, Bool.false_eq_true, if_false, if_true]
          generalize pageV a.q = p at hp
          match p, hp with
          | 0, _ => rfl
          | 1, _ => rfl
          | 2, _ => rfl
          | 3, _ => rfl
          | 4, _ => rfl
          | 5, _ => rfl
          | 6, _ => rfl
          | 7, _ => rfl
          | p + 8, h => omega)
    (fun s hs => by
      have step := lqK39_8 Cω Lω (l.map Lk.e) i5 (s.1 : Nat) (l.length : Nat) x.t x.k x.q.toNat x.p (s.2 0 : Nat) (s.2 1 : Nat) (s.2 2 : Nat) (s.2 3 : Nat) (s.2 4 : Nat) (s.2 5 : Nat) (s.2 6 : Nat) (s.2 7 : Nat)
      rw [List.length_map, if_neg (by rw [decide_eq_true_eq]; omega)] at step
      exact step) (0, fun _ => 0) ⟨Nat.le_refl _, fun _ => Nat.le_refl _⟩
  rw [kG_all] at this
  simp only [Nat.zero_add] at this
  exact this
theorem lpFirst (l : List Lk) (x : Lk) (i5 i7 : Int) (f : Nat → Nat) : Lω 39 lcK39_15 0 (stK39_15 (l.map Lk.e) i5 i7 0) [.box true 46 [.int .i64 x.t, .int .i64 x.k, .float .f64 x.q.toNat, .int .i64 x.p], .box true 68 (kArr f)] =
    some (fndO (findI (fun j => decide (f j > 3)) (List.range 8) 0) (fun i _ => (.exit 4, mkS 99 [(0, .psl false (l.map Lk.e)), (3, .ref 0 0 0), (5, .int .i64 i5), (7, .int .i64 i7), (9, .int .i64 (i : Nat))], [.box true 46 [.int .i64 x.t, .int .i64 x.k, .float .f64 x.q.toNat, .int .i64 x.p]])) (.exit 4, mkS 99 [(0, .psl false (l.map Lk.e)), (3, .ref 0 0 0), (5, .int .i64 i5), (7, .int .i64 i7), (9, .int .i64 8)], [.box true 46 [.int .i64 x.t, .int .i64 x.k, .float .f64 x.q.toNat, .int .i64 x.p]])) :=
  loopFind (fun i => stK39_15 (l.map Lk.e) i5 i7 (i : Nat)) [.box true 46 [.int .i64 x.t, .int .i64 x.k, .float .f64 x.q.toNat, .int .i64 x.p], .box true 68 (kArr f)] (List.range 8) (fun j => decide (f j > 3)) _ _ (fun i a hg hi => by
    rw [List.length_range] at hi
    have hai : a = i := by
      rw [List.getElem?_range hi] at hg
      exact (Option.some.inj hg).symm
    subst hai
    have step := lqK39_15 Cω Lω (l.map Lk.e) i5 i7 (a : Nat) x.t x.k x.q.toNat x.p (f 0 : Nat) (f 1 : Nat) (f 2 : Nat) (f 3 : Nat) (f 4 : Nat) (f 5 : Nat) (f 6 : Nat) (f 7 : Nat)
    have hd : ∀ j, decide (((f j : Nat) : Int) ≤ 3) = !decide (f j > 3) := fun j => by
      by_cases h : f j > 3
      · rw [decide_eq_true h, decide_eq_false (by omega)]; rfl
      · rw [decide_eq_false h, decide_eq_true (by omega)]; rfl
    simp only [hd] at step
    refine Eq.trans step ?_
    clear step
    match a, hi with
    | 0, _ => cases decide (f 0 > 3) <;> rfl
    | 1, _ => cases decide (f 1 > 3) <;> rfl
    | 2, _ => cases decide (f 2 > 3) <;> rfl
    | 3, _ => cases decide (f 3 > 3) <;> rfl
    | 4, _ => cases decide (f 4 > 3) <;> rfl
    | 5, _ => cases decide (f 5 > 3) <;> rfl
    | 6, _ => cases decide (f 6 > 3) <;> rfl
    | 7, _ => cases decide (f 7 > 3) <;> rfl
    | p + 8, h => omega) (by
    have step := lqK39_15 Cω Lω (l.map Lk.e) i5 i7 8 x.t x.k x.q.toNat x.p (f 0 : Nat) (f 1 : Nat) (f 2 : Nat) (f 3 : Nat) (f 4 : Nat) (f 5 : Nat) (f 6 : Nat) (f 7 : Nat)
    rw [if_neg (by decide)] at step
    exact step)
theorem crw_find (l : List Lk) (t : Int) : findI (fun j => decide (nKey l t j > 3)) (List.range 8) 0 = (crw l t).map fun j => (j, j) := by
  unfold crw
  cases hq : findI (fun j => decide (nKey l t j > 3)) (List.range 8) 0 with
  | none => rfl
  | some y =>
    obtain ⟨i, a⟩ := y
    obtain ⟨_, h2, h3, _, _⟩ := findI_spec hq
    simp only at h2 h3
    rw [List.length_range] at h2
    rw [Nat.sub_zero, List.getElem?_range (by omega)] at h3
    cases h3
    rfl
theorem rlockStep (x : Lk) (ht : 1 ≤ x.t ∧ x.t ≤ 2147483647) (i : Nat) (l : List Lk) (hi : i < 20) (hg : Good l) (hl : l.length ≤ 1000) :
    stepLKK cfg kcfg Cω Lω 39 lcK39_3 0 (stK39_3 (l.map Lk.e) (i : Nat)) [.box true 46 [.int .i64 x.t, .int .i64 x.k, .float .f64 x.q.toNat, .int .i64 x.p]] =
    Lω 39 lcK39_3 0 (stK39_3 ((dStep l x.t).map Lk.e) ((i + 1 : Nat) : Int)) [.box true 46 [.int .i64 x.t, .int .i64 x.k, .float .f64 x.q.toNat, .int .i64 x.p]] := by
  have hi2 : i < 4611686018427387904 := by omega
  have hi3 : decide (((i : Nat) : Int) < 20) = true := by rw [decide_eq_true_eq]; omega
  have hl2 : l.length < 1000000 := by omega
  have hd4 : decide (((nPage l x.t : Nat) : Int) > 4) = decide (nPage l x.t > 4) := by rw [decide_eq_decide]; omega
  have hd6 : decide (((l.length : Nat) : Int) > 64) = decide (l.length > 64) := by rw [decide_eq_decide]; omega
  have htb : pcall Cω 61 [.psl false (l.map Lk.e), .agg [.int .i64 x.t, .int .i64 3, .float .f64 0, .int .i64 0]] = some (.psl false ((putL l (tbL x.t)).map Lk.e)) := spRput l (tbL x.t) hl2 hg.ok (okL_tb ht)
  have h8 := lpKeys l x hl (i : Nat)
  have h15 := lpFirst l x (i : Nat) (nPage l x.t : Nat) (nKey l x.t)
  rw [crw_find] at h15
  have ev := lqK39_3 Cω Lω (l.map Lk.e) (i : Nat) x.t x.k x.q.toNat x.p
  rw [hi3, if_pos rfl] at ev
  have h8' : Lω 39 lcK39_8 0 (stK39_8 (l.map Lk.e) (i : Nat) 0 0) [.box true 46 [.int .i64 x.t, .int .i64 x.k, .float .f64 x.q.toNat, .int .i64 x.p], .box true 68 [.int .i64 0, .int .i64 0, .int .i64 0, .int .i64 0, .int .i64 0, .int .i64 0, .int .i64 0, .int .i64 0]] = _ := h8
  rw [h8'] at ev
  clear h8 h8'
  simp only [kArr] at h15
  simp only [asInt_int, asBool_bool, asStr_str, asSl_psl, asSl_nil, asAgg_agg, asTup_tup, asCons_cons, asNil_nil, asFlt_flt, asRef_ref, asWhole_whole, asView_view, asWv_whole, asWv_view, asFn_fn, asPref_pref, asOCons_cons, asONil_nil, asBox_box, asMade_made, asGone_dead, asGone_made, bind_some', onEx_exit, onEx_ret, mkS_hit, mkS_miss, ne_eq, not_false_eq_true, Nat.reduceLT, Nat.reduceEqDiff, if_true, kArr] at ev
  rw [h15] at ev
  clear h15
  unfold dStep
  cases hc : crw l x.t with
  | some j =>
    rw [hc] at ev
    obtain ⟨h1, h2⟩ := crw_some hc
    have hj : decide (((j : Nat) : Int) < 8) = true := by rw [decide_eq_true_eq]; clear ev; omega
    have hpg : pcall Cω 61 [.psl false (l.map Lk.e), .agg [.int .i64 x.t, .int .i64 2, .float .f64 0, .int .i64 (j : Nat)]] = some (.psl false ((putL l (pgL x.t j)).map Lk.e)) := spRput l (pgL x.t j) hl2 hg.ok (okL_pg ht h1)
    simp only [Option.map_some, fndO_some, asInt_int, asBool_bool, asStr_str, asSl_psl, asSl_nil, asAgg_agg, asTup_tup, asCons_cons, asNil_nil, asFlt_flt, asRef_ref, asWhole_whole, asView_view, asWv_whole, asWv_view, asFn_fn, asPref_pref, asOCons_cons, asONil_nil, asBox_box, asMade_made, asGone_dead, asGone_made, bind_some', onEx_exit, onEx_ret, mkS_hit, mkS_miss, ne_eq, not_false_eq_true, Nat.reduceLT, Nat.reduceEqDiff, if_true, hj, hpg, wrap_succ hi2] at ev
    exact ev
  | none =>
    rw [hc] at ev
    simp only [Option.map_none, fndO_none, asInt_int, asBool_bool, asStr_str, asSl_psl, asSl_nil, asAgg_agg, asTup_tup, asCons_cons, asNil_nil, asFlt_flt, asRef_ref, asWhole_whole, asView_view, asWv_whole, asWv_view, asFn_fn, asPref_pref, asOCons_cons, asONil_nil, asBox_box, asMade_made, asGone_dead, asGone_made, bind_some', onEx_exit, onEx_ret, mkS_hit, mkS_miss, ne_eq, not_false_eq_true, Nat.reduceLT, Nat.reduceEqDiff, if_true, htb, hd4, hd6, List.length_map, wrap_succ hi2] at ev
    rw [if_neg (by decide)] at ev
    by_cases h4 : nPage l x.t > 4
    · rw [if_pos (decide_eq_true h4)] at ev
      simp only [if_pos (Or.inl h4 : nPage l x.t > 4 ∨ l.length > 64)]
      exact ev
    · rw [if_neg (by rw [decide_eq_true_eq]; exact h4)] at ev
      by_cases h6 : l.length > 64
      · rw [if_pos (decide_eq_true h6)] at ev
        simp only [if_pos (Or.inr h6 : nPage l x.t > 4 ∨ l.length > 64)]
        exact ev
      · rw [if_neg (by rw [decide_eq_true_eq]; exact h6)] at ev
        simp only [if_neg (show ¬ (nPage l x.t > 4 ∨ l.length > 64) from fun h => h.elim h4 h6)]
        exact ev
theorem dStep_len (l : List Lk) (t : Int) : (dStep l t).length ≤ l.length + 1 := by
  unfold dStep
  split
  · exact putL_len _ _
  · split
    · exact putL_len _ _
    · omega
theorem Good.dStep {l : List Lk} (hg : Good l) {t : Int} (ht : 1 ≤ t ∧ t ≤ 2147483647) : Good (dStep l t) := by
  unfold S.dStep
  cases hc : crw l t with
  | some j => exact hg.put (okL_pg ht (crw_some hc).1)
  | none =>
    simp only
    split
    · exact hg.put (okL_tb ht)
    · exact hg
theorem lpRounds (x : Lk) (ht : 1 ≤ x.t ∧ x.t ≤ 2147483647) : ∀ (n i : Nat) (l : List Lk), i + n = 20 → Good l → l.length + n ≤ 1000 →
    Lω 39 lcK39_3 0 (stK39_3 (l.map Lk.e) (i : Nat)) [.box true 46 [.int .i64 x.t, .int .i64 x.k, .float .f64 x.q.toNat, .int .i64 x.p]] = some (.exit 0, mkS 99 [(0, .psl false ((dSteps n l x.t).map Lk.e))], [])
  | 0, i, l, hi, hg, hl => by
    refine lw ?_
    have h20 : i = 20 := by omega
    subst h20
    rw [lqK39_3, if_neg (by decide)]; rfl
  | n + 1, i, l, hi, hg, hl => by
    refine lw ?_
    rw [rlockStep x ht i l (by omega) hg (by omega)]
    have := dStep_len l x.t
    exact lpRounds x ht n (i + 1) (dStep l x.t) (by omega) (hg.dStep ht) (by omega)
theorem spRlock (l : List Lk) (x : Lk) (hl : l.length ≤ 900) (hg : Good l) (hx : okL x = true) (ht : 1 ≤ x.t ∧ x.t ≤ 2147483647) : pcall Cω 39 [.psl false (l.map Lk.e), .agg x.e] = some (.psl false ((lockL l x).map Lk.e)) := by
  have ev := eqK39 Cω Lω (l.map Lk.e) x.t x.k x.q.toNat x.p
  have hlen := putL_len l x
  have hp : pcall Cω 61 [.psl false (l.map Lk.e), .agg [.int .i64 x.t, .int .i64 x.k, .float .f64 x.q.toNat, .int .i64 x.p]] = _ := spRput l x (by omega) hg.ok hx
  have lp := lpRounds x ht 20 0 (putL l x) rfl (hg.put hx) (by omega)
  rw [hp] at ev
  simp only [asInt_int, asBool_bool, asStr_str, asSl_psl, asSl_nil, asAgg_agg, asTup_tup, asCons_cons, asNil_nil, asFlt_flt, asRef_ref, asWhole_whole, asView_view, asWv_whole, asWv_view, asFn_fn, asPref_pref, asOCons_cons, asONil_nil, asBox_box, asMade_made, asGone_dead, asGone_made, bind_some', onEx_exit, onEx_ret] at ev
  rw [show Lω 39 lcK39_3 0 (stK39_3 ((putL l x).map Lk.e) 0) [.box true 46 [.int .i64 x.t, .int .i64 x.k, .float .f64 x.q.toNat, .int .i64 x.p]] = _ from lp, dSteps_eq ht 9 20 _ (by have := nCrw_le (putL l x) x.t; omega) (by decide) (hg.put hx)] at ev
  simp only [asInt_int, asBool_bool, asStr_str, asSl_psl, asSl_nil, asAgg_agg, asTup_tup, asCons_cons, asNil_nil, asFlt_flt, asRef_ref, asWhole_whole, asView_view, asWv_whole, asWv_view, asFn_fn, asPref_pref, asOCons_cons, asONil_nil, asBox_box, asMade_made, asGone_dead, asGone_made, bind_some', onEx_exit, onEx_ret, mkS_hit, mkS_miss, ne_eq, not_false_eq_true, Nat.reduceLT, Nat.reduceEqDiff, if_true] at ev
  exact pc ev rfl
end Go.Pvm.S
