/- Part of the proof: locks: put, and nobody is crowded any more: the program's and the document's. -/
import Derived.Test.YtbhjbehdafcnoaaSirF
set_option linter.unusedSimpArgs false
set_option linter.unusedVariables false
set_option maxRecDepth 100000
namespace Go.Pvm.S
open Go.Pvm Go.Proofs
theorem spLockLoop (x : Lk) (ht : 1 ≤ x.t ∧ x.t ≤ 2147483647) : ∀ (n : Nat) (l : List Lk), nCrw l x.t < n → Good l → l.length + n ≤ 1000 →
    Lω 27 lcK27_2 1 stK27_2 [.dead, .made true 4 (l.map Lk.e), .box true 46 [.int .i64 x.t, .int .i64 x.k, .float .f64 x.q.toNat, .int .i64 x.p]] =
    some (.ret, mkS 41 [(4, whole 1 4)], [.dead, .made true 4 ((lockR n l x.t).map Lk.e)])
  | 0, l, h, _, _ => absurd h (Nat.not_lt_zero _)
  | n + 1, l, h, hg, hl => by
    refine lw ?_
    have ev := lqK27_2 Cω Lω (l.map Lk.e) x.t x.k x.q.toNat x.p
    rw [spCrowded l x.t (by omega), cntB_sp l x.t (by omega)] at ev
    simp only [asInt_int, asBool_bool, asStr_str, asSl_psl, asSl_nil, asAgg_agg, asTup_tup, asCons_cons, asNil_nil, asFlt_flt, asRef_ref, asWhole_whole, asView_view, asWv_whole, asWv_view, asFn_fn, asPref_pref, asOCons_cons, asONil_nil, asBox_box, asMade_made, asGone_dead, asGone_made, bind_some', onEx_exit, onEx_ret, List.length_map] at ev
    unfold lockR
    cases hc : crw l x.t with
    | some j =>
      rw [hc] at ev
      obtain ⟨h1, h2⟩ := crw_some hc
      have hp : Cω 52 [whole 0 4, .agg [.int .i64 x.t, .int .i64 2, .float .f64 0, .int .i64 (j : Nat)]] [.made true 4 (l.map Lk.e)] = _ := spPut l (pgL x.t j) (by omega) hg (okL_pg ht h1)
      simp only [decide_eq_true (show ((j : Nat) : Int) ≥ 0 from nn j), if_true, hp, asInt_int, asBool_bool, asStr_str, asSl_psl, asSl_nil, asAgg_agg, asTup_tup, asCons_cons, asNil_nil, asFlt_flt, asRef_ref, asWhole_whole, asView_view, asWv_whole, asWv_view, asFn_fn, asPref_pref, asOCons_cons, asONil_nil, asBox_box, asMade_made, asGone_dead, asGone_made, bind_some', onEx_exit, onEx_ret] at ev
      have hlen := putL_len l (pgL x.t j)
      have ih := spLockLoop x ht n (putL l (pgL x.t j)) (by have := nCrw_put hg h1 h2; omega) (hg.put (okL_pg ht h1)) (by omega)
      exact ev.trans ih
    | none =>
      rw [hc] at ev
      have hp : Cω 52 [whole 0 4, .agg [.int .i64 x.t, .int .i64 3, .float .f64 0, .int .i64 0]] [.made true 4 (l.map Lk.e)] = _ := spPut l (tbL x.t) (by omega) hg (okL_tb ht)
      simp only [hp, asInt_int, asBool_bool, asStr_str, asSl_psl, asSl_nil, asAgg_agg, asTup_tup, asCons_cons, asNil_nil, asFlt_flt, asRef_ref, asWhole_whole, asView_view, asWv_whole, asWv_view, asFn_fn, asPref_pref, asOCons_cons, asONil_nil, asBox_box, asMade_made, asGone_dead, asGone_made, bind_some', onEx_exit, onEx_ret] at ev
      rw [if_neg (by decide)] at ev
      have hd : decide ((((l.filter fun a => a.t == x.t && (a.k == 2)).length : Nat) : Int) > 4) = decide (nPage l x.t > 4) := by
        unfold nPage
        rw [decide_eq_decide]; omega
      rw [hd] at ev
      by_cases h4 : nPage l x.t > 4
      · rw [if_pos (decide_eq_true h4)] at ev
        simp only [if_pos (Or.inl h4 : nPage l x.t > 4 ∨ l.length > 64)]
        exact ev
      · rw [if_neg (by rw [decide_eq_true_eq]; exact h4)] at ev
        by_cases h6 : l.length > 64
        · rw [if_pos (by rw [decide_eq_true_eq]; omega)] at ev
          simp only [if_pos (Or.inr h6 : nPage l x.t > 4 ∨ l.length > 64)]
          exact ev
        · rw [if_neg (by rw [decide_eq_true_eq]; omega)] at ev
          simp only [if_neg (by rintro (h | h) <;> contradiction : ¬ (nPage l x.t > 4 ∨ l.length > 64))]
          exact ev
theorem nCrw_le (l : List Lk) (t : Int) : nCrw l t ≤ 8 := by
  have := List.length_filter_le (fun j => decide (nKey l t j > 3)) (List.range 8)
  rw [List.length_range] at this
  exact this
/-- One more, and nobody is crowded any more. -/
def lockL (l : List Lk) (x : Lk) : List Lk := lockR 9 (putL l x) x.t
theorem spLocks (l : List Lk) (x : Lk) (hl : l.length ≤ 900) (hg : Good l) (hx : okL x = true) (ht : 1 ≤ x.t ∧ x.t ≤ 2147483647) : Cω 27 [whole 0 4, .agg x.e] [.made true 4 (l.map Lk.e)] = some (whole 1 4, [.dead, .made true 4 ((lockL l x).map Lk.e)]) := by
  have ev := eqK27 Cω Lω x.t x.k x.q.toNat x.p (l.map Lk.e)
  have hp := spPut l x (by omega) hg hx
  simp only [Lk.e] at hp
  have hlen := putL_len l x
  have lp := spLockLoop x ht 9 (putL l x) (by have := nCrw_le (putL l x) x.t; omega) (hg.put hx) (by omega)
  rw [show Cω 52 [whole 0 4, .agg [.int .i64 x.t, .int .i64 x.k, .float .f64 x.q.toNat, .int .i64 x.p]] [.made true 4 (l.map Lk.e)] = _ from spPut l x (by omega) hg hx] at ev
  simp only [asInt_int, asBool_bool, asStr_str, asSl_psl, asSl_nil, asAgg_agg, asTup_tup, asCons_cons, asNil_nil, asFlt_flt, asRef_ref, asWhole_whole, asView_view, asWv_whole, asWv_view, asFn_fn, asPref_pref, asOCons_cons, asONil_nil, asBox_box, asMade_made, asGone_dead, asGone_made, bind_some', onEx_exit, onEx_ret] at ev
  rw [lp] at ev
  simp only [asInt_int, asBool_bool, asStr_str, asSl_psl, asSl_nil, asAgg_agg, asTup_tup, asCons_cons, asNil_nil, asFlt_flt, asRef_ref, asWhole_whole, asView_view, asWv_whole, asWv_view, asFn_fn, asPref_pref, asOCons_cons, asONil_nil, asBox_box, asMade_made, asGone_dead, asGone_made, bind_some', onEx_exit, onEx_ret, mkS_hit, mkS_miss, ne_eq, not_false_eq_true, Nat.reduceLT, Nat.reduceEqDiff] at ev
  exact cw ev
/-! ### What is left -/
theorem crw_tb {l : List Lk} {t : Int} (h : ∃ a ∈ l, a.t = t ∧ a.k = 3) (hg : Good l) : crw l t = none ∧ putL l (tbL t) = l ∧ nPage l t = 0 := by
  obtain ⟨a, ha, h1, h2⟩ := h
  have hcov : ∀ b : Lk, b.t = t → covL a b = true := fun b hb => by
    unfold covL
    rw [if_neg (by rw [bne_iff_ne]; exact fun e => e (h1.trans hb.symm)), h2]; rfl
  have hall : ∀ b ∈ l, b.t = t → b = a := fun b hb hbt => (hg.nc a ha b hb (hcov b hbt)).symm
  refine ⟨?_, ?_, ?_⟩
  · cases hc : crw l t with
    | none => rfl
    | some j =>
      obtain ⟨_, h4⟩ := crw_some hc
      obtain ⟨b, hb, hbt, hbk, _⟩ := nKey_mem (show 0 < nKey l t j by omega)
      have := hall b hb hbt
      rw [this, h2] at hbk
      exact absurd hbk (by decide)
  · unfold putL
    have h9 : (l.any fun a => covL a (tbL t)) = true := List.any_eq_true.2 ⟨a, ha, hcov (tbL t) rfl⟩
    rw [if_pos h9]
  · unfold nPage
    rcases Nat.eq_zero_or_pos (l.filter fun b => b.t == t && b.k == 2).length with h0 | h0
    · exact h0
    · obtain ⟨b, hb⟩ := List.exists_mem_of_length_pos h0
      rw [List.mem_filter, Bool.and_eq_true, beq_iff_eq, beq_iff_eq] at hb
      have := hall b hb.1 hb.2.1
      have h9 := hb.2.2
      rw [this, h2] at h9
      exact absurd h9 (by decide)
theorem tb_in {l : List Lk} (hg : Good l) {t : Int} : ∃ a ∈ putL l (tbL t), a.t = t ∧ a.k = 3 := by
  unfold putL
  split
  · rename_i h
    obtain ⟨b, hb, hc⟩ := List.any_eq_true.1 h
    have hbt : b.t = t := covL_t hc
    refine ⟨b, hb, hbt, ?_⟩
    unfold covL at hc
    rw [if_neg (by rw [bne_iff_ne]; exact fun e => e hbt)] at hc
    by_cases k3 : b.k = 3
    · exact k3
    · rw [if_neg (by rw [beq_iff_eq]; exact k3)] at hc
      by_cases k2 : (b.k == 2) = true
      · rw [if_pos k2] at hc
        have e1 : (tbL t).k = 3 := rfl
        rw [e1] at hc
        simp at hc
      · rw [if_neg k2, decide_eq_true_eq] at hc
        rw [hc]; rfl
  · exact ⟨tbL t, insB_mem.2 (.inl rfl), rfl, rfl⟩
/-- The document's round. -/
def dStep (l : List Lk) (t : Int) : List Lk := match crw l t with
  | some j => putL l (pgL t j)
  | none => if nPage l t > 4 ∨ l.length > 64 then putL l (tbL t) else l
def dSteps : Nat → List Lk → Int → List Lk
  | 0, l, _ => l
  | n + 1, l, t => dSteps n (dStep l t) t
theorem dStep_fix {l : List Lk} {t : Int} (h : dStep l t = l) : ∀ n, dSteps n l t = l
  | 0 => rfl
  | n + 1 => by
    unfold dSteps
    rw [h]
    exact dStep_fix h n
theorem dSteps_eq {t : Int} (ht : 1 ≤ t ∧ t ≤ 2147483647) : ∀ (n m : Nat) (l : List Lk), nCrw l t < n → n ≤ m → Good l → dSteps m l t = lockR n l t
  | 0, _, _, h, _, _ => absurd h (Nat.not_lt_zero _)
  | n + 1, 0, l, h, hm, hg => absurd hm (Nat.not_succ_le_zero _)
  | n + 1, m + 1, l, h, hm, hg => by
    unfold lockR dSteps
    cases hc : crw l t with
    | some j =>
      obtain ⟨h1, h2⟩ := crw_some hc
      have : dStep l t = putL l (pgL t j) := by unfold dStep; rw [hc]
      rw [this]
      exact dSteps_eq ht n m _ (by have := nCrw_put hg h1 h2; omega) (Nat.le_of_succ_le_succ hm) (hg.put (okL_pg ht h1))
    | none =>
      by_cases h4 : nPage l t > 4 ∨ l.length > 64
      · have e : dStep l t = putL l (tbL t) := by unfold dStep; rw [hc]; simp only [if_pos h4]
        rw [e]
        simp only [if_pos h4]
        obtain ⟨q1, q2, q3⟩ := crw_tb (tb_in hg (t := t)) (hg.put (okL_tb ht))
        refine dStep_fix ?_ m
        unfold dStep
        rw [q1]
        simp only
        split
        · exact q2
        · rfl
      · have e : dStep l t = l := by unfold dStep; rw [hc]; simp only [if_neg h4]
        rw [e]
        simp only [if_neg h4]
        exact dStep_fix e m
theorem Good.lockR {t : Int} (ht : 1 ≤ t ∧ t ≤ 2147483647) : ∀ (n : Nat) {l : List Lk}, Good l → Good (lockR n l t)
  | 0, l, hg => hg
  | n + 1, l, hg => by
    unfold S.lockR
    cases hc : crw l t with
    | some j => exact Good.lockR ht n (hg.put (okL_pg ht (crw_some hc).1))
    | none =>
      simp only
      split
      · exact hg.put (okL_tb ht)
      · exact hg
theorem Good.lockL {l : List Lk} (hg : Good l) {x : Lk} (hx : okL x = true) (ht : 1 ≤ x.t ∧ x.t ≤ 2147483647) : Good (lockL l x) := Good.lockR ht 9 (hg.put hx)
end Go.Pvm.S
