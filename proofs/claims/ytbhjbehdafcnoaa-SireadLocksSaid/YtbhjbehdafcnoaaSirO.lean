/- Part of the proof: locks: what the statements come to. -/
import Derived.Test.YtbhjbehdafcnoaaSirN
set_option linter.unusedSimpArgs false
set_option linter.unusedVariables false
set_option maxRecDepth 100000
namespace Go.Pvm.S
open Go.Pvm Go.Proofs
def k1 : Lk := ⟨5, 1, 0, 4607182418800017408⟩
def k2 : Lk := ⟨5, 1, 0, 4608308318706860032⟩
def k3 : Lk := ⟨5, 1, 0, 4609434218613702656⟩
theorem aw1 : keyP [] 5 4607182418800017408 = ([k1], 0) := by kernel_rfl
theorem aw2 : keyP [k1] 5 4608308318706860032 = ([k1, k2], 0) := by kernel_rfl
theorem aw3 : keyP [k1, k2] 5 4609434218613702656 = ([k1, k2, k3], 0) := by kernel_rfl
theorem aw4 : keyP [k1, k2, k3] 5 4610560118520545280 = ([pgL 5 5], 0) := by kernel_rfl
theorem aw5 : (if mayL [pgL 5 5] = true then hold [pgL 5 5] 4607745368753438720 else []) = [5] := by kernel_rfl
theorem spAwake : pcall Cω 6 [] = some (.bool true) := by
  have ev := eqK6 Cω Lω
  have a1 := spKeyL [] 5 4607182418800017408 (by decide)
  have a2 := spKeyL [k1] 5 4608308318706860032 (by show (1 : Nat) < _; decide)
  have a3 := spKeyL [k1, k2] 5 4609434218613702656 (by show (2 : Nat) < _; decide)
  have a4 := spKeyL [k1, k2, k3] 5 4610560118520545280 (by show (3 : Nat) < _; decide)
  have a5 := spHolders [pgL 5 5] 4607745368753438720 (by show (1 : Nat) < _; decide)
  rw [aw1] at a1; rw [aw2] at a2; rw [aw3] at a3; rw [aw4] at a4; rw [aw5] at a5
  have b1 : pcall Cω 7 [.psl false [], .int .i64 5, .float .f64 4607182418800017408] = some (.tuple [.psl false ([k1].map Lk.e), .int .i64 0]) := a1
  have b2 : pcall Cω 7 [.psl false ([k1].map Lk.e), .int .i64 5, .float .f64 4608308318706860032] = some (.tuple [.psl false ([k1, k2].map Lk.e), .int .i64 0]) := a2
  have b3 : pcall Cω 7 [.psl false ([k1, k2].map Lk.e), .int .i64 5, .float .f64 4609434218613702656] = some (.tuple [.psl false ([k1, k2, k3].map Lk.e), .int .i64 0]) := a3
  have b4 : pcall Cω 7 [.psl false ([k1, k2, k3].map Lk.e), .int .i64 5, .float .f64 4610560118520545280] = some (.tuple [.psl false ([pgL 5 5].map Lk.e), .int .i64 0]) := a4
  have b5 : pcall Cω 17 [.psl false ([pgL 5 5].map Lk.e), .float .f64 4607745368753438720] = some (.psl false ([5].map ie)) := a5
  rw [b1] at ev
  simp only [asInt_int, asBool_bool, asStr_str, asSl_psl, asSl_nil, asAgg_agg, asTup_tup, asCons_cons, asNil_nil, asFlt_flt, asRef_ref, asWhole_whole, asView_view, asWv_whole, asWv_view, asFn_fn, asPref_pref, asOCons_cons, asONil_nil, asBox_box, asMade_made, asGone_dead, asGone_made, bind_some', onEx_exit, onEx_ret] at ev
  rw [b2] at ev
  simp only [asInt_int, asBool_bool, asStr_str, asSl_psl, asSl_nil, asAgg_agg, asTup_tup, asCons_cons, asNil_nil, asFlt_flt, asRef_ref, asWhole_whole, asView_view, asWv_whole, asWv_view, asFn_fn, asPref_pref, asOCons_cons, asONil_nil, asBox_box, asMade_made, asGone_dead, asGone_made, bind_some', onEx_exit, onEx_ret] at ev
  rw [b3] at ev
  simp only [asInt_int, asBool_bool, asStr_str, asSl_psl, asSl_nil, asAgg_agg, asTup_tup, asCons_cons, asNil_nil, asFlt_flt, asRef_ref, asWhole_whole, asView_view, asWv_whole, asWv_view, asFn_fn, asPref_pref, asOCons_cons, asONil_nil, asBox_box, asMade_made, asGone_dead, asGone_made, bind_some', onEx_exit, onEx_ret] at ev
  rw [b4] at ev
  simp only [asInt_int, asBool_bool, asStr_str, asSl_psl, asSl_nil, asAgg_agg, asTup_tup, asCons_cons, asNil_nil, asFlt_flt, asRef_ref, asWhole_whole, asView_view, asWv_whole, asWv_view, asFn_fn, asPref_pref, asOCons_cons, asONil_nil, asBox_box, asMade_made, asGone_dead, asGone_made, bind_some', onEx_exit, onEx_ret] at ev
  rw [b5] at ev
  simp only [asInt_int, asBool_bool, asStr_str, asSl_psl, asSl_nil, asAgg_agg, asTup_tup, asCons_cons, asNil_nil, asFlt_flt, asRef_ref, asWhole_whole, asView_view, asWv_whole, asWv_view, asFn_fn, asPref_pref, asOCons_cons, asONil_nil, asBox_box, asMade_made, asGone_dead, asGone_made, bind_some', onEx_exit, onEx_ret] at ev
  exact pc ev rfl
theorem keyP_ok {l : List Lk} (hm : mayL l = true) {t : Int} (ht : 1 ≤ t ∧ t ≤ 2147483647) (q : Wd) : mayL (keyP l t q).1 = true := by
  obtain ⟨m1, m2⟩ := (mayL_iff l).1 hm
  unfold keyP
  by_cases h : (beg l t).2 = 0
  · obtain ⟨_, _, _, h4⟩ := beg_ok h
    rw [if_pos h]
    exact (mayL_iff _).2 ⟨lockL_len (okL_ky ht) ht m2 h4, m2.lockL (okL_ky ht) ht⟩
  · rw [if_neg h]
    unfold beg
    rw [if_pos (by rw [hm, inn_iff.2 ht]; rfl)]
    exact hm
theorem rngP_ok {l : List Lk} (hm : mayL l = true) {t : Int} (ht : 1 ≤ t ∧ t ≤ 2147483647) (lo hi : Wd) : mayL (rngP l t lo hi).1 = true := by
  obtain ⟨m1, m2⟩ := (mayL_iff l).1 hm
  unfold rngP
  by_cases h : (beg l t).2 = 0 ∧ rankV lo < rankV hi
  · obtain ⟨_, _, _, h4⟩ := beg_ok h.1
    rw [if_pos h]
    have hp := pageV_lt hi
    have hpl := page_le h.2
    exact (mayL_iff _).2 (rngL_ok ht _ _ l (by omega) m1 m2 h4)
  · rw [if_neg h]
    unfold beg
    rw [if_pos (by rw [hm, inn_iff.2 ht]; rfl)]
    exact hm
theorem may_len {l : List Lk} (h : mayL l = true) : l.length < 100000 := by
  have := ((mayL_iff l).1 h).1
  omega
theorem lawLocks (l : List Lk) (t : Int) (a b c : Wd) (hl : l.length < 4611686018427387904) : pcall Cω 3 [.psl false (l.map Lk.e), .int .i64 t, .agg [.float .f64 a.toNat, .float .f64 b.toNat, .float .f64 c.toNat]] = some (.bool true) := by
  have ev := eqK3 Cω Lω (l.map Lk.e) t a.toNat b.toNat c.toNat
  rw [List.length_map] at ev
  by_cases h7 : l.length > 70
  · rw [if_pos (by rw [decide_eq_true_eq]; omega)] at ev
    simp only [spAwake, asInt_int, asBool_bool, asStr_str, asSl_psl, asSl_nil, asAgg_agg, asTup_tup, asCons_cons, asNil_nil, asFlt_flt, asRef_ref, asWhole_whole, asView_view, asWv_whole, asWv_view, asFn_fn, asPref_pref, asOCons_cons, asONil_nil, asBox_box, asMade_made, asGone_dead, asGone_made, bind_some', onEx_exit, onEx_ret] at ev
    exact pc ev rfl
  rw [if_neg (by rw [decide_eq_true_eq]; omega)] at ev
  have hb : ∀ b : Bool, (((if b = true then (0 : Int) else 1) == 0) == b) = true := by intro b; cases b <;> rfl
  simp only [spKeyL l t a (show l.length < 1000000 by omega), spRangeL l t b c (show l.length < 1000000 by omega), spCheckL l hl, spRMayL l hl, spPage, spRPage, asInt_int, asBool_bool, asStr_str, asSl_psl, asSl_nil, asAgg_agg, asTup_tup, asCons_cons, asNil_nil, asFlt_flt, asRef_ref, asWhole_whole, asView_view, asWv_whole, asWv_view, asFn_fn, asPref_pref, asOCons_cons, asONil_nil, asBox_box, asMade_made, asGone_dead, asGone_made, bind_some', onEx_exit, onEx_ret, hb, Bool.not_true, Bool.false_eq_true, if_false, bne_self_eq_false, spRIn, spAwake, List.length_map] at ev
  by_cases h1 : mayL l = true
  case neg =>
    have h1' : mayL l = false := by simpa using h1
    have e1 : beg l t = ([], 1) := by unfold beg; rw [h1']; rfl
    have e2 : keyP l t a = ([], 1) := by unfold keyP; rw [e1]; rfl
    have e3 : rngP l t b c = ([], 1) := by unfold rngP; rw [e1, if_neg (fun h => absurd h.1 (by decide))]
    simp only [h1', e2, e3, Bool.not_false, if_true, List.length_nil] at ev
    exact pc ev rfl
  by_cases h2 : inn t = true
  case neg =>
    have h2' : inn t = false := by simpa using h2
    have e1 : beg l t = ([], 1) := by unfold beg; rw [h2', Bool.and_false]; rfl
    have e2 : keyP l t a = ([], 1) := by unfold keyP; rw [e1]; rfl
    have e3 : rngP l t b c = ([], 1) := by unfold rngP; rw [e1, if_neg (fun h => absurd h.1 (by decide))]
    simp only [h1, h2', e2, e3, Bool.not_true, Bool.false_eq_true, if_false, Bool.not_false, if_true, List.length_nil] at ev
    exact pc ev rfl
  have ht := inn_iff.1 h2
  have k9 := keyP_ok h1 ht a
  have r9 := rngP_ok h1 ht b c
  have kl := may_len k9
  have rl := may_len r9
  simp only [h1, h2, Bool.not_true, Bool.false_eq_true, if_false, spRKeyL l t a h1 ht, spRRangeL l t b c h1 ht, asInt_int, asBool_bool, asStr_str, asSl_psl, asSl_nil, asAgg_agg, asTup_tup, asCons_cons, asNil_nil, asFlt_flt, asRef_ref, asWhole_whole, asView_view, asWv_whole, asWv_view, asFn_fn, asPref_pref, asOCons_cons, asONil_nil, asBox_box, asMade_made, asGone_dead, asGone_made, bind_some', onEx_exit, onEx_ret, beq_self_eq_true, if_true, spRSameAll _ _ (show (keyP l t a).1.length < 1000000 by omega), spRSameAll _ _ (show (rngP l t b c).1.length < 1000000 by omega), decide_true, spRMayL _ (show (keyP l t a).1.length < 4611686018427387904 by omega), spRMayL _ (show (rngP l t b c).1.length < 4611686018427387904 by omega), k9, r9] at ev
  exact pc ev rfl
theorem lawHolds (l : List Lk) (q : Wd) (t : Int) (hl : l.length < 4611686018427387904) : pcall Cω 4 [.psl false (l.map Lk.e), .float .f64 q.toNat, .int .i64 t] = some (.bool true) := by
  have ev := eqK4 Cω Lω (l.map Lk.e) q.toNat t
  rw [List.length_map] at ev
  by_cases h7 : l.length > 70
  · rw [if_pos (by rw [decide_eq_true_eq]; omega)] at ev
    simp only [spAwake, asInt_int, asBool_bool, asStr_str, asSl_psl, asSl_nil, asAgg_agg, asTup_tup, asCons_cons, asNil_nil, asFlt_flt, asRef_ref, asWhole_whole, asView_view, asWv_whole, asWv_view, asFn_fn, asPref_pref, asOCons_cons, asONil_nil, asBox_box, asMade_made, asGone_dead, asGone_made, bind_some', onEx_exit, onEx_ret] at ev
    exact pc ev rfl
  rw [if_neg (by rw [decide_eq_true_eq]; omega)] at ev
  have hdl : (sDrop l t).length ≤ l.length := List.length_filter_le _ _
  simp only [spHolders l q (show l.length < 100000 by omega), spSDrop l t (show l.length < 1000000 by omega), spRDropL l t (show l.length < 1000000 by omega), asInt_int, asBool_bool, asStr_str, asSl_psl, asSl_nil, asAgg_agg, asTup_tup, asCons_cons, asNil_nil, asFlt_flt, asRef_ref, asWhole_whole, asView_view, asWv_whole, asWv_view, asFn_fn, asPref_pref, asOCons_cons, asONil_nil, asBox_box, asMade_made, asGone_dead, asGone_made, bind_some', onEx_exit, onEx_ret, spRSameAll (sDrop l t) (sDrop l t) (show (sDrop l t).length < 1000000 by omega), decide_true, Bool.not_true, Bool.false_eq_true, if_false, spSameAll l (sDrop l t) (show l.length < 1000000 by omega), spRSameAll l (sDrop l t) (show l.length < 1000000 by omega), beq_self_eq_true, spRMayL l hl, spAwake, List.length_map] at ev
  by_cases h1 : mayL l = true
  case neg =>
    have h1' : mayL l = false := by simpa using h1
    simp only [h1', Bool.not_false, Bool.false_eq_true, if_false, if_true, List.length_nil] at ev
    exact pc ev rfl
  obtain ⟨m1, m2⟩ := (mayL_iff l).1 h1
  have hh := hold_eq m2.srt q
  have hn : (hold l q).length < 4611686018427387904 := by
    have := hold_len q l 0 []
    unfold hold
    rw [List.length_nil] at this
    omega
  simp only [h1, Bool.not_true, Bool.false_eq_true, if_false, if_true, spRHolders l q (show l.length < 100000 by omega) m2.ok, ← hh, eqI_sp _ _ hn, decide_true, asInt_int, asBool_bool, asStr_str, asSl_psl, asSl_nil, asAgg_agg, asTup_tup, asCons_cons, asNil_nil, asFlt_flt, asRef_ref, asWhole_whole, asView_view, asWv_whole, asWv_view, asFn_fn, asPref_pref, asOCons_cons, asONil_nil, asBox_box, asMade_made, asGone_dead, asGone_made, bind_some', onEx_exit, onEx_ret] at ev
  exact pc ev rfl
def infW : Wd := 18442240474082181120
def nanQ : Wd := 9221120237041090561
theorem infNan : rankV infW < rankV nanQ := of_decide_eq_true (by kernel_rfl)
theorem cov_ky (t : Int) (q : Wd) : covL (pgL t (pageV (keyV q))) (kyL t q) = true := cov_pg (t := t) (j := pageV (keyV q)) (a := kyL t q) rfl rfl rfl
theorem pgInf : pageV infW = 0 := by kernel_rfl
theorem pgNan : pageV nanQ = 7 := by kernel_rfl
theorem rngP_all {l : List Lk} {t : Int} {lo hi : Wd} (hb : beg l t = (l, if oth l t ≥ 64 then 12 else 0)) (h6 : ¬ oth l t ≥ 64) (hr : rankV lo < rankV hi) : rngP l t lo hi = (rngL (pageV hi + 1 - pageV lo) (pageV lo) l t, 0) := by
  unfold rngP
  have h2 : (beg l t).2 = 0 := by rw [hb]; exact if_neg h6
  rw [if_pos ⟨h2, hr⟩]
theorem rngL_all {l : List Lk} {t : Int} (ht : 1 ≤ t ∧ t ≤ 2147483647) (q : Wd) : Cvd (rngL 8 0 l t) (kyL t q) := by
  have hp : 0 + 8 > pageV (keyV q) := by rw [Nat.zero_add]; exact pageV_lt (keyV q)
  exact rngL_cvd ht 8 0 l (Nat.le_of_eq (Nat.zero_add 8)) (Or.inr ⟨pageV (keyV q), Nat.zero_le _, hp, cov_ky t q⟩)
theorem rngL_all' {l : List Lk} {t : Int} (ht : 1 ≤ t ∧ t ≤ 2147483647) (q : Wd) {n p : Nat} (hn : n = 8) (hp : p = 0) : Cvd (rngL n p l t) (kyL t q) := by
  rw [hn, hp]
  exact rngL_all ht q
theorem rngP_cvd {l : List Lk} {t : Int} {q lo hi : Wd} (hb : beg l t = (l, if oth l t ≥ 64 then 12 else 0)) (h6 : ¬ oth l t ≥ 64) (ht : 1 ≤ t ∧ t ≤ 2147483647) (hr : rankV lo < rankV hi) (p1 : pageV lo = 0) (p2 : pageV hi = 7) : Cvd (rngP l t lo hi).1 (kyL t q) := by
  rw [rngP_all hb h6 hr]
  exact rngL_all' ht q (by rw [p1, p2]) p1
theorem lawRanges (l : List Lk) (t : Int) (q : Wd) (hl : l.length < 4611686018427387904) : pcall Cω 5 [.psl false (l.map Lk.e), .int .i64 t, .float .f64 q.toNat] = some (.bool true) := by
  have ev := eqK5 Cω Lω (l.map Lk.e) t q.toNat
  rw [List.length_map] at ev
  by_cases h7 : l.length > 70
  · rw [if_pos (by rw [decide_eq_true_eq]; omega)] at ev
    simp only [spAwake, asInt_int, asBool_bool, asStr_str, asSl_psl, asSl_nil, asAgg_agg, asTup_tup, asCons_cons, asNil_nil, asFlt_flt, asRef_ref, asWhole_whole, asView_view, asWv_whole, asWv_view, asFn_fn, asPref_pref, asOCons_cons, asONil_nil, asBox_box, asMade_made, asGone_dead, asGone_made, bind_some', onEx_exit, onEx_ret] at ev
    exact pc ev rfl
  rw [if_neg (by rw [decide_eq_true_eq]; omega)] at ev
  simp only [spRMayL l hl, spRIn, spAwake, asInt_int, asBool_bool, asStr_str, asSl_psl, asSl_nil, asAgg_agg, asTup_tup, asCons_cons, asNil_nil, asFlt_flt, asRef_ref, asWhole_whole, asView_view, asWv_whole, asWv_view, asFn_fn, asPref_pref, asOCons_cons, asONil_nil, asBox_box, asMade_made, asGone_dead, asGone_made, bind_some', onEx_exit, onEx_ret] at ev
  by_cases h1 : mayL l = true
  case neg =>
    have h1' : mayL l = false := by simpa using h1
    simp only [h1', Bool.not_false, if_true] at ev
    exact pc ev rfl
  by_cases h2 : inn t = true
  case neg =>
    have h2' : inn t = false := by simpa using h2
    simp only [h1, h2', Bool.not_false, Bool.not_true, Bool.false_eq_true, if_false, if_true] at ev
    exact pc ev rfl
  have ht := inn_iff.1 h2
  obtain ⟨m1, m2⟩ := (mayL_iff l).1 h1
  have hi : pcall Cω 23 [.int .i64 (-1)] = some (.float .f64 infW.toNat) := pc ((eqK23 Cω Lω (-1)).trans (by rw [if_neg (by decide)])) rfl
  have hn : pcall Cω 24 [] = some (.float .f64 nanQ.toNat) := pc (eqK24 Cω Lω) rfl
  have s9 := rngP_ok h1 ht q q
  have r9 := rngP_ok h1 ht infW nanQ
  have sl := may_len s9
  have rl := may_len r9
  have hb : beg l t = (l, if oth l t ≥ 64 then 12 else 0) := by unfold beg; rw [if_pos (by rw [h1, inn_iff.2 ht]; rfl)]
  have e1 : rngP l t q q = (l, if oth l t ≥ 64 then 12 else 0) := by
    unfold rngP
    rw [if_neg (fun h => Nat.lt_irrefl _ h.2), hb]
  have hr := infNan
  have e2 : (rngP l t infW nanQ).2 = if oth l t ≥ 64 then 12 else 0 := by
    unfold rngP
    rw [hb]
    by_cases h6 : oth l t ≥ 64
    · simp only [if_pos h6]
      rw [if_neg (fun h => absurd h.1 (by decide))]
    · simp only [if_neg h6]
      rw [if_pos ⟨trivial, hr⟩]
  have hln : (hold (rngP l t infW nanQ).1 q).length < 1000000 := by
    have := hold_len q (rngP l t infW nanQ).1 0 []
    unfold hold
    rw [List.length_nil] at this
    omega
  have hll : l.length < 1000000 := by omega
  simp only [h1, h2, Bool.not_true, Bool.false_eq_true, if_false, spRangeL l t q q hll, hi, hn, spRangeL l t infW nanQ hll, asInt_int, asBool_bool, asStr_str, asSl_psl, asSl_nil, asAgg_agg, asTup_tup, asCons_cons, asNil_nil, asFlt_flt, asRef_ref, asWhole_whole, asView_view, asWv_whole, asWv_view, asFn_fn, asPref_pref, asOCons_cons, asONil_nil, asBox_box, asMade_made, asGone_dead, asGone_made, bind_some', onEx_exit, onEx_ret, e1, e2, bne_self_eq_false, spRSameAll l l hll, decide_true, spHolders _ q (show (rngP l t infW nanQ).1.length < 100000 from rl), r9, if_true, spInI _ t hln] at ev
  by_cases h6 : oth l t ≥ 64
  · simp only [if_pos h6] at ev
    rw [if_pos (by decide)] at ev
    exact pc ev rfl
  · simp only [if_neg h6] at ev
    rw [if_neg (by decide)] at ev
    have hc : Cvd (rngP l t infW nanQ).1 (kyL t q) := rngP_cvd hb h6 ht infNan pgInf pgNan
    have hm := hold_mem hc
    have ha : ((hold (rngP l t infW nanQ).1 q).any fun a => a == t) = true := List.any_eq_true.2 ⟨t, hm, by simp⟩
    rw [ha] at ev
    exact pc ev rfl
end Go.Pvm.S
