/- Part of the proof: locks: a key more, and a range: the program's and the document's. -/
import Derived.Test.YtbhjbehdafcnoaaSirI
set_option linter.unusedSimpArgs false
set_option linter.unusedVariables false
set_option maxRecDepth 100000
namespace Go.Pvm.S
open Go.Pvm Go.Proofs
def inn (n : Int) : Bool := decide (n ≥ 1) && decide (n ≤ 2147483647)
theorem spRIn (n : Int) : pcall Cω 13 [.int .i64 n] = some (.bool (inn n)) := by
  have ev := eqK13 Cω Lω n
  have h2 : decide (n < 2147483648) = decide (n ≤ 2147483647) := by rw [decide_eq_decide]; omega
  unfold inn
  rw [← h2]
  by_cases h : n ≥ 1
  · simp only [decide_eq_true_eq, h, if_true] at ev
    rw [decide_eq_true h, Bool.true_and]
    exact pc ev rfl
  · simp only [decide_eq_true_eq, h, if_false] at ev
    rw [decide_eq_false h, Bool.false_and]
    exact pc ev rfl
theorem inn_iff {n : Int} : inn n = true ↔ 1 ≤ n ∧ n ≤ 2147483647 := by
  unfold inn
  rw [Bool.and_eq_true, decide_eq_true_eq, decide_eq_true_eq]
def beg (l : List Lk) (t : Int) : List Lk × Int := if (mayL l && inn t) = true then (l, if oth l t ≥ 64 then 12 else 0) else ([], 1)
theorem spBegin (l : List Lk) (t : Int) (hl : l.length < 1000000) : Cω 26 [.psl false (l.map Lk.e), .int .i64 t] [] = some (.tuple [whole 0 4, .int .i64 (beg l t).2], [.made true 4 ((beg l t).1.map Lk.e)]) := by
  have ev := eqK26 Cω Lω (l.map Lk.e) t
  have ha := cntA_sp l t (by omega)
  have ho := len_oth l t
  have hf : (l.filter fun a => a.t == t && true) = l.filter fun a => a.t == t := List.filter_congr fun a _ => by simp
  rw [hf] at ha
  rw [spCheckL l (by omega), ha, cloneK_map l Lk.e_ok (by omega)] at ev
  simp only [asInt_int, asBool_bool, asStr_str, asSl_psl, asSl_nil, asAgg_agg, asTup_tup, asCons_cons, asNil_nil, asFlt_flt, asRef_ref, asWhole_whole, asView_view, asWv_whole, asWv_view, asFn_fn, asPref_pref, asOCons_cons, asONil_nil, asBox_box, asMade_made, asGone_dead, asGone_made, bind_some', onEx_exit, onEx_ret, List.length_map] at ev
  have hw : IntKind.wrap .i64 (((l.length : Nat) : Int) - (((l.filter fun a => a.t == t).length : Nat) : Int)) = ((oth l t : Nat) : Int) := by
    rw [wrap_i64 (by omega) (by omega)]; omega
  rw [hw] at ev
  unfold beg
  by_cases h1 : mayL l = true
  case neg =>
    have h1' : mayL l = false := by simpa using h1
    simp only [h1', Bool.false_and, Bool.false_eq_true, if_false] at ev ⊢
    rw [if_pos (by decide)] at ev
    exact cw ev
  simp only [h1, Bool.true_and, if_true] at ev ⊢
  rw [if_neg (by decide)] at ev
  by_cases h2 : inn t = true
  case neg =>
    rw [if_neg h2]
    rw [inn_iff] at h2
    by_cases h3 : t < 1
    · rw [if_pos (decide_eq_true h3)] at ev
      exact cw ev
    · rw [if_neg (by rw [decide_eq_true_eq]; exact h3), if_pos (by rw [decide_eq_true_eq]; omega)] at ev
      exact cw ev
  rw [if_pos h2]
  rw [inn_iff] at h2
  rw [if_neg (by rw [decide_eq_true_eq]; omega), if_neg (by rw [decide_eq_true_eq]; omega)] at ev
  by_cases h3 : oth l t ≥ 64
  · rw [if_pos (by rw [decide_eq_true_eq]; omega)] at ev
    simp only [if_pos h3]
    exact cw ev
  · rw [if_neg (by rw [decide_eq_true_eq]; omega)] at ev
    simp only [if_neg h3]
    exact cw ev
def kyL (t : Int) (q : Wd) : Lk := ⟨t, 1, 0, keyV q⟩
theorem keyV_key (q : Wd) : keyV (keyV q) = keyV q := by
  apply BitVec.eq_of_toNat_eq
  rw [keyV_nat, keyV_nat, keyW_key]
theorem okL_ky {t : Int} {q : Wd} (ht : 1 ≤ t ∧ t ≤ 2147483647) : okL (kyL t q) = true := by
  unfold okL kyL
  simp only [decide_eq_true (show 1 ≤ t from ht.1), decide_eq_true (show t ≤ 2147483647 from ht.2), Bool.true_and]
  rw [if_pos (by rfl), keyV_key]
  simp
theorem beg_ok {l : List Lk} {t : Int} (h : (beg l t).2 = 0) : (beg l t).1 = l ∧ mayL l = true ∧ (1 ≤ t ∧ t ≤ 2147483647) ∧ oth l t < 64 := by
  unfold beg at h ⊢
  by_cases hb : (mayL l && inn t) = true
  · rw [if_pos hb] at h ⊢
    rw [Bool.and_eq_true, inn_iff] at hb
    refine ⟨rfl, hb.1, hb.2, ?_⟩
    by_cases h3 : oth l t ≥ 64
    · simp only [if_pos h3] at h
      exact absurd h (by decide)
    · omega
  · rw [if_neg hb] at h
    exact absurd h (by decide)
def keyP (l : List Lk) (t : Int) (q : Wd) : List Lk × Int := if (beg l t).2 = 0 then (lockL l (kyL t q), 0) else beg l t
theorem spKeyL (l : List Lk) (t : Int) (q : Wd) (hl : l.length < 1000000) : pcall Cω 7 [.psl false (l.map Lk.e), .int .i64 t, .float .f64 q.toNat] = some (.tuple [.psl false ((keyP l t q).1.map Lk.e), .int .i64 (keyP l t q).2]) := by
  have ev := eqK7 Cω Lω (l.map Lk.e) t q.toNat
  rw [spBegin l t hl] at ev
  simp only [asInt_int, asBool_bool, asStr_str, asSl_psl, asSl_nil, asAgg_agg, asTup_tup, asCons_cons, asNil_nil, asFlt_flt, asRef_ref, asWhole_whole, asView_view, asWv_whole, asWv_view, asFn_fn, asPref_pref, asOCons_cons, asONil_nil, asBox_box, asMade_made, asGone_dead, asGone_made, bind_some', onEx_exit, onEx_ret, spKey] at ev
  unfold keyP
  by_cases h : (beg l t).2 = 0
  · obtain ⟨h1, h2, h3, h4⟩ := beg_ok h
    rw [if_neg (by rw [bne_iff_ne]; exact fun e => e h), h1] at ev
    obtain ⟨m1, m2⟩ := (mayL_iff l).1 h2
    have lk : Cω 27 [whole 0 4, .agg [.int .i64 t, .int .i64 1, .float .f64 (keyV q).toNat, .int .i64 0]] [.made true 4 (l.map Lk.e)] = _ := spLocks l (kyL t q) (by omega) m2 (okL_ky h3) h3
    rw [lk] at ev
    simp only [asInt_int, asBool_bool, asStr_str, asSl_psl, asSl_nil, asAgg_agg, asTup_tup, asCons_cons, asNil_nil, asFlt_flt, asRef_ref, asWhole_whole, asView_view, asWv_whole, asWv_view, asFn_fn, asPref_pref, asOCons_cons, asONil_nil, asBox_box, asMade_made, asGone_dead, asGone_made, bind_some', onEx_exit, onEx_ret] at ev
    rw [if_pos h]
    exact pc ev rfl
  · rw [if_pos (by rw [bne_iff_ne]; exact h)] at ev
    rw [if_neg h]
    exact pc ev rfl
/-- From a page on. -/
def rngL : Nat → Nat → List Lk → Int → List Lk
  | 0, _, l, _ => l
  | n + 1, p, l, t => rngL n (p + 1) (lockL l (pgL t p)) t
theorem rngL_ok {t : Int} (ht : 1 ≤ t ∧ t ≤ 2147483647) : ∀ (n p : Nat) (l : List Lk), p + n ≤ 8 → l.length ≤ 64 → Good l → oth l t < 64 → (rngL n p l t).length ≤ 64 ∧ Good (rngL n p l t)
  | 0, p, l, _, h1, h2, _ => ⟨h1, h2⟩
  | n + 1, p, l, hp, h1, h2, h3 => by
    have hx := okL_pg ht (show p < 8 by omega)
    have e := lockL_oth l (pgL t p)
    exact rngL_ok ht n (p + 1) _ (by omega) (lockL_len hx ht h2 h3) (h2.lockL hx ht) (by have e' : oth (lockL l (pgL t p)) t = oth l t := e; omega)
theorem lpRange (t : Int) (ht : 1 ≤ t ∧ t ≤ 2147483647) (hi : Wd) : ∀ (n p : Nat) (l : List Lk), p + n = pageV hi + 1 → l.length ≤ 64 → Good l → oth l t < 64 →
    Lω 8 lcK8_5 0 (stK8_5 t hi.toNat (p : Nat)) [.made true 4 (l.map Lk.e)] = some (.exit 0, mkS 42 [(0, whole 0 4)], [.made true 4 ((rngL n p l t).map Lk.e)])
  | 0, p, l, hp, _, _, _ => by
    refine lw ?_
    rw [lqK8_5, spPage]
    simp only [asInt_int, asBool_bool, asStr_str, asSl_psl, asSl_nil, asAgg_agg, asTup_tup, asCons_cons, asNil_nil, asFlt_flt, asRef_ref, asWhole_whole, asView_view, asWv_whole, asWv_view, asFn_fn, asPref_pref, asOCons_cons, asONil_nil, asBox_box, asMade_made, asGone_dead, asGone_made, bind_some', onEx_exit, onEx_ret]
    rw [if_neg (by rw [decide_eq_true_eq]; omega)]; rfl
  | n + 1, p, l, hp, h1, h2, h3 => by
    have hp8 := pageV_lt hi
    have hx := okL_pg ht (show p < 8 by omega)
    have e : oth (lockL l (pgL t p)) t = oth l t := lockL_oth l (pgL t p)
    have hd : decide (((p : Nat) : Int) ≤ ((pageV hi : Nat) : Int)) = true := by rw [decide_eq_true_eq]; omega
    have hw : IntKind.wrap .i64 (((p : Nat) : Int) + 1) = ((p + 1 : Nat) : Int) := wrap_succ (by omega)
    have lk : Cω 27 [whole 0 4, .agg [.int .i64 t, .int .i64 2, .float .f64 0, .int .i64 (p : Nat)]] [.made true 4 (l.map Lk.e)] = _ := spLocks l (pgL t p) (by omega) h2 hx ht
    have ih := lpRange t ht hi n (p + 1) (lockL l (pgL t p)) (by omega) (lockL_len hx ht h2 h3) (h2.lockL hx ht) (by omega)
    refine lw ?_
    rw [lqK8_5, spPage]
    simp only [asInt_int, asBool_bool, asStr_str, asSl_psl, asSl_nil, asAgg_agg, asTup_tup, asCons_cons, asNil_nil, asFlt_flt, asRef_ref, asWhole_whole, asView_view, asWv_whole, asWv_view, asFn_fn, asPref_pref, asOCons_cons, asONil_nil, asBox_box, asMade_made, asGone_dead, asGone_made, bind_some', onEx_exit, onEx_ret, hd, if_true, lk, hw]
    exact ih
def rngP (l : List Lk) (t : Int) (lo hi : Wd) : List Lk × Int := if (beg l t).2 = 0 ∧ rankV lo < rankV hi then (rngL (pageV hi + 1 - pageV lo) (pageV lo) l t, 0) else beg l t
theorem page_le {a b : Wd} (h : rankV a < rankV b) : pageV a ≤ pageV b := by
  unfold pageV
  exact Nat.div_le_div_right (Nat.le_of_lt h)
theorem spRangeL (l : List Lk) (t : Int) (lo hi : Wd) (hl : l.length < 1000000) : pcall Cω 8 [.psl false (l.map Lk.e), .int .i64 t, .float .f64 lo.toNat, .float .f64 hi.toNat] = some (.tuple [.psl false ((rngP l t lo hi).1.map Lk.e), .int .i64 (rngP l t lo hi).2]) := by
  have ev := eqK8 Cω Lω (l.map Lk.e) t lo.toNat hi.toNat
  rw [spBegin l t hl] at ev
  simp only [asInt_int, asBool_bool, asStr_str, asSl_psl, asSl_nil, asAgg_agg, asTup_tup, asCons_cons, asNil_nil, asFlt_flt, asRef_ref, asWhole_whole, asView_view, asWv_whole, asWv_view, asFn_fn, asPref_pref, asOCons_cons, asONil_nil, asBox_box, asMade_made, asGone_dead, asGone_made, bind_some', onEx_exit, onEx_ret, spCompare, spPage] at ev
  unfold rngP
  by_cases h : (beg l t).2 = 0
  · obtain ⟨h1, h2, h3, h4⟩ := beg_ok h
    rw [if_neg (by rw [bne_iff_ne]; exact fun e => e h)] at ev
    by_cases hr : rankV lo < rankV hi
    · have hc : cmpN (rankV lo) (rankV hi) = -1 := by unfold cmpN; rw [if_pos hr]
      rw [hc, if_neg (by decide), h1] at ev
      obtain ⟨m1, m2⟩ := (mayL_iff l).1 h2
      have hpl := page_le hr
      rw [lpRange t h3 hi (pageV hi + 1 - pageV lo) (pageV lo) l (by omega) m1 m2 h4] at ev
      simp only [asInt_int, asBool_bool, asStr_str, asSl_psl, asSl_nil, asAgg_agg, asTup_tup, asCons_cons, asNil_nil, asFlt_flt, asRef_ref, asWhole_whole, asView_view, asWv_whole, asWv_view, asFn_fn, asPref_pref, asOCons_cons, asONil_nil, asBox_box, asMade_made, asGone_dead, asGone_made, bind_some', onEx_exit, onEx_ret, mkS_hit, mkS_miss, ne_eq, not_false_eq_true, Nat.reduceLT, Nat.reduceEqDiff, if_true] at ev
      rw [if_pos ⟨h, hr⟩]
      exact pc ev rfl
    · have hc : cmpN (rankV lo) (rankV hi) ≥ 0 := by
        rcases cmpN_cases (rankV lo) (rankV hi) with ⟨h, e⟩ | ⟨h, e⟩ | ⟨h, e⟩
        · exact absurd h hr
        · rw [e]; decide
        · rw [e]; decide
      rw [if_pos (decide_eq_true hc)] at ev
      rw [if_neg (fun h => hr h.2)]
      exact pc ev rfl
  · rw [if_pos (by rw [bne_iff_ne]; exact h)] at ev
    rw [if_neg (fun h' => h h'.1)]
    exact pc ev rfl
/-! ### The document's, of locks that may be -/
theorem spFull (l : List Lk) (t : Int) (hl : l.length < 1000000) : pcall Cω 38 [.psl false (l.map Lk.e), .int .i64 t] = some (.bool (decide (oth l t ≥ 64))) := by
  have ev := eqK38 Cω Lω (l.map Lk.e) t
  have lp : Lω 38 lcK38_3 0 (stK38_3 (l.map Lk.e) t ((0 : Nat) : Int) (0 : Nat)) [] = _ :=
    loopFold (fun i (n : Nat) => stK38_3 (l.map Lk.e) t ((n : Nat) : Int) (i : Nat)) (fun _ _ => []) l (fun _ a n => if (a.t != t) = true then n + 1 else n)
      (fun n => (.exit 0, mkS 24 [(5, .int .i64 (n : Nat))], [])) (fun i n => n ≤ i) (fun i a n hg hi hn => by
        refine ⟨by split <;> omega, ?_⟩
        have hdi : decide (((i : Nat) : Int) < (((l.map Lk.e).length : Nat) : Int)) = true := by rw [decide_eq_true_eq, List.length_map]; omega
        rw [lqK38_3]
        simp only [hdi, nn, Int.toNat_natCast, bind_some', mapGet hg, Lk.e, asInt_int, asBool_bool, asStr_str, asSl_psl, asSl_nil, asAgg_agg, asTup_tup, asCons_cons, asNil_nil, asFlt_flt, asRef_ref, asWhole_whole, asView_view, asWv_whole, asWv_view, asFn_fn, asPref_pref, asOCons_cons, asONil_nil, asBox_box, asMade_made, asGone_dead, asGone_made, bind_some', onEx_exit, onEx_ret, wrap_succ (show i < 4611686018427387904 by omega), wrap_succ (show n < 4611686018427387904 by omega), if_true]
        cases (a.t != t) <;> rfl) (fun n hn => by
        rw [lqK38_3]; simp only [List.length_map, Int.lt_irrefl, decide_false, Bool.false_eq_true, if_false]) 0 (Nat.le_refl _)
  rw [show (0 : Int) = ((0 : Nat) : Int) from rfl, lp, foldI_count] at ev
  simp only [asInt_int, asBool_bool, asStr_str, asSl_psl, asSl_nil, asAgg_agg, asTup_tup, asCons_cons, asNil_nil, asFlt_flt, asRef_ref, asWhole_whole, asView_view, asWv_whole, asWv_view, asFn_fn, asPref_pref, asOCons_cons, asONil_nil, asBox_box, asMade_made, asGone_dead, asGone_made, bind_some', onEx_exit, onEx_ret, mkS_hit, mkS_miss, ne_eq, not_false_eq_true, Nat.reduceLT, Nat.reduceEqDiff, if_true, Nat.zero_add] at ev
  refine pc ev ?_
  show PV.bool _ = _
  congr 1
  unfold oth
  rw [decide_eq_decide]; omega
theorem spRKeyL (l : List Lk) (t : Int) (q : Wd) (hm : mayL l = true) (ht : 1 ≤ t ∧ t ≤ 2147483647) : pcall Cω 14 [.psl false (l.map Lk.e), .int .i64 t, .float .f64 q.toNat] = some (.tuple [.psl false ((keyP l t q).1.map Lk.e), .int .i64 (keyP l t q).2]) := by
  obtain ⟨m1, m2⟩ := (mayL_iff l).1 hm
  have ev := eqK14 Cω Lω (l.map Lk.e) t q.toNat
  rw [spFull l t (by omega)] at ev
  simp only [asInt_int, asBool_bool, asStr_str, asSl_psl, asSl_nil, asAgg_agg, asTup_tup, asCons_cons, asNil_nil, asFlt_flt, asRef_ref, asWhole_whole, asView_view, asWv_whole, asWv_view, asFn_fn, asPref_pref, asOCons_cons, asONil_nil, asBox_box, asMade_made, asGone_dead, asGone_made, bind_some', onEx_exit, onEx_ret, spRKey, Int.toNat_natCast] at ev
  have lk : pcall Cω 39 [.psl false (l.map Lk.e), .agg [.int .i64 t, .int .i64 1, .float .f64 (keyV q).toNat, .int .i64 0]] = _ := spRlock l (kyL t q) (by omega) m2 (okL_ky ht) ht
  rw [lk] at ev
  simp only [asInt_int, asBool_bool, asStr_str, asSl_psl, asSl_nil, asAgg_agg, asTup_tup, asCons_cons, asNil_nil, asFlt_flt, asRef_ref, asWhole_whole, asView_view, asWv_whole, asWv_view, asFn_fn, asPref_pref, asOCons_cons, asONil_nil, asBox_box, asMade_made, asGone_dead, asGone_made, bind_some', onEx_exit, onEx_ret] at ev
  have hb : beg l t = (l, if oth l t ≥ 64 then 12 else 0) := by unfold beg; rw [if_pos (by rw [hm, inn_iff.2 ht]; rfl)]
  unfold keyP
  rw [hb]
  by_cases h : oth l t ≥ 64
  · rw [if_pos (decide_eq_true h)] at ev
    simp only [if_pos h]
    rw [if_neg (by decide)]
    exact pc ev rfl
  · rw [if_neg (by rw [decide_eq_true_eq]; exact h)] at ev
    simp only [if_neg h, if_true]
    exact pc ev rfl
theorem lpRRange (t : Int) (ht : 1 ≤ t ∧ t ≤ 2147483647) (lo hi : Wd) (hr : rankV lo < rankV hi) : ∀ (n p : Nat) (l : List Lk), p + n = pageV hi + 1 → l.length ≤ 64 → Good l → oth l t < 64 →
    Lω 15 lcK15_4 0 (stK15_4 (l.map Lk.e) t lo.toNat hi.toNat (p : Nat)) [] = some (.exit 0, mkS 34 [(0, .psl false ((rngL n p l t).map Lk.e))], [])
  | 0, p, l, hp, _, _, _ => by
    refine lw ?_
    rw [lqK15_4, spRPage]
    simp only [asInt_int, asBool_bool, asStr_str, asSl_psl, asSl_nil, asAgg_agg, asTup_tup, asCons_cons, asNil_nil, asFlt_flt, asRef_ref, asWhole_whole, asView_view, asWv_whole, asWv_view, asFn_fn, asPref_pref, asOCons_cons, asONil_nil, asBox_box, asMade_made, asGone_dead, asGone_made, bind_some', onEx_exit, onEx_ret]
    rw [if_neg (by rw [decide_eq_true_eq]; omega)]; rfl
  | n + 1, p, l, hp, h1, h2, h3 => by
    have hp8 := pageV_lt hi
    have hx := okL_pg ht (show p < 8 by omega)
    have e : oth (lockL l (pgL t p)) t = oth l t := lockL_oth l (pgL t p)
    have hd : decide (((p : Nat) : Int) ≤ ((pageV hi : Nat) : Int)) = true := by rw [decide_eq_true_eq]; omega
    have hw : IntKind.wrap .i64 (((p : Nat) : Int) + 1) = ((p + 1 : Nat) : Int) := wrap_succ (by omega)
    have lk : pcall Cω 39 [.psl false (l.map Lk.e), .agg [.int .i64 t, .int .i64 2, .float .f64 0, .int .i64 (p : Nat)]] = _ := spRlock l (pgL t p) (by omega) h2 hx ht
    have ih := lpRRange t ht lo hi hr n (p + 1) (lockL l (pgL t p)) (by omega) (lockL_len hx ht h2 h3) (h2.lockL hx ht) (by omega)
    refine lw ?_
    rw [lqK15_4, spRPage]
    simp only [asInt_int, asBool_bool, asStr_str, asSl_psl, asSl_nil, asAgg_agg, asTup_tup, asCons_cons, asNil_nil, asFlt_flt, asRef_ref, asWhole_whole, asView_view, asWv_whole, asWv_view, asFn_fn, asPref_pref, asOCons_cons, asONil_nil, asBox_box, asMade_made, asGone_dead, asGone_made, bind_some', onEx_exit, onEx_ret, hd, if_true, spRLess, decide_eq_true hr, lk, hw]
    exact ih
theorem spRRangeL (l : List Lk) (t : Int) (lo hi : Wd) (hm : mayL l = true) (ht : 1 ≤ t ∧ t ≤ 2147483647) : pcall Cω 15 [.psl false (l.map Lk.e), .int .i64 t, .float .f64 lo.toNat, .float .f64 hi.toNat] = some (.tuple [.psl false ((rngP l t lo hi).1.map Lk.e), .int .i64 (rngP l t lo hi).2]) := by
  obtain ⟨m1, m2⟩ := (mayL_iff l).1 hm
  have ev := eqK15 Cω Lω (l.map Lk.e) t lo.toNat hi.toNat
  rw [spFull l t (by omega)] at ev
  simp only [asInt_int, asBool_bool, asStr_str, asSl_psl, asSl_nil, asAgg_agg, asTup_tup, asCons_cons, asNil_nil, asFlt_flt, asRef_ref, asWhole_whole, asView_view, asWv_whole, asWv_view, asFn_fn, asPref_pref, asOCons_cons, asONil_nil, asBox_box, asMade_made, asGone_dead, asGone_made, bind_some', onEx_exit, onEx_ret, spRPage] at ev
  have hb : beg l t = (l, if oth l t ≥ 64 then 12 else 0) := by unfold beg; rw [if_pos (by rw [hm, inn_iff.2 ht]; rfl)]
  unfold rngP
  rw [hb]
  by_cases h : oth l t ≥ 64
  · rw [if_pos (decide_eq_true h)] at ev
    simp only [if_pos h]
    rw [if_neg (fun h => absurd h.1 (by decide))]
    exact pc ev rfl
  · rw [if_neg (by rw [decide_eq_true_eq]; exact h)] at ev
    simp only [if_neg h]
    by_cases hr : rankV lo < rankV hi
    · have hpl := page_le hr
      rw [lpRRange t ht lo hi hr (pageV hi + 1 - pageV lo) (pageV lo) l (by omega) m1 m2 (by omega)] at ev
      simp only [asInt_int, asBool_bool, asStr_str, asSl_psl, asSl_nil, asAgg_agg, asTup_tup, asCons_cons, asNil_nil, asFlt_flt, asRef_ref, asWhole_whole, asView_view, asWv_whole, asWv_view, asFn_fn, asPref_pref, asOCons_cons, asONil_nil, asBox_box, asMade_made, asGone_dead, asGone_made, bind_some', onEx_exit, onEx_ret, mkS_hit, mkS_miss, ne_eq, not_false_eq_true, Nat.reduceLT, Nat.reduceEqDiff, if_true] at ev
      rw [if_pos ⟨trivial, hr⟩]
      exact pc ev rfl
    · have lp : Lω 15 lcK15_4 0 (stK15_4 (l.map Lk.e) t lo.toNat hi.toNat (pageV lo : Nat)) [] = some (.exit 0, mkS 34 [(0, .psl false (l.map Lk.e))], []) := by
        refine lw ?_
        rw [lqK15_4, spRPage]
        simp only [asInt_int, asBool_bool, asStr_str, asSl_psl, asSl_nil, asAgg_agg, asTup_tup, asCons_cons, asNil_nil, asFlt_flt, asRef_ref, asWhole_whole, asView_view, asWv_whole, asWv_view, asFn_fn, asPref_pref, asOCons_cons, asONil_nil, asBox_box, asMade_made, asGone_dead, asGone_made, bind_some', onEx_exit, onEx_ret, spRLess, decide_eq_false hr, Bool.false_eq_true, if_false]
        split <;> rfl
      rw [lp] at ev
      simp only [asInt_int, asBool_bool, asStr_str, asSl_psl, asSl_nil, asAgg_agg, asTup_tup, asCons_cons, asNil_nil, asFlt_flt, asRef_ref, asWhole_whole, asView_view, asWv_whole, asWv_view, asFn_fn, asPref_pref, asOCons_cons, asONil_nil, asBox_box, asMade_made, asGone_dead, asGone_made, bind_some', onEx_exit, onEx_ret, mkS_hit, mkS_miss, ne_eq, not_false_eq_true, Nat.reduceLT, Nat.reduceEqDiff, if_true] at ev
      rw [if_neg (fun h => hr h.2)]
      exact pc ev rfl
end Go.Pvm.S
