/- Part of the proof: numbers that ascend are sorted already, and there are no two alike. -/
import Derived.Test.YtkipbdbmeanffaaViewC
set_option linter.unusedSimpArgs false
set_option linter.unusedVariables false
set_option linter.unusedSectionVars false
set_option maxRecDepth 100000
namespace Go.Pvm.S
open Go.Pvm Go.Proofs
theorem part1 (x : Int) : partOf Try.prog 3 (ie x) 0 = some (.int .i64 x) := by kernel_rfl
def oI (l : List Int) : KO := .made true 1 (l.map ie)
theorem mk49 (a b c d : PV) : List.getD (mkS 49 [(0, a), (1, b), (2, c), (6, d)]) 0 .undef = a ∧ List.getD (mkS 49 [(0, a), (1, b), (2, c), (6, d)]) 1 .undef = b ∧ List.getD (mkS 49 [(0, a), (1, b), (2, c), (6, d)]) 2 .undef = c ∧ List.getD (mkS 49 [(0, a), (1, b), (2, c), (6, d)]) 6 .undef = d := ⟨rfl, rfl, rfl, rfl⟩
theorem mk133 (a b c d e : PV) : List.getD (mkS 133 [(0, a), (1, b), (2, c), (7, d), (8, e)]) 0 .undef = a ∧ List.getD (mkS 133 [(0, a), (1, b), (2, c), (7, d), (8, e)]) 1 .undef = b ∧ List.getD (mkS 133 [(0, a), (1, b), (2, c), (7, d), (8, e)]) 2 .undef = c ∧ List.getD (mkS 133 [(0, a), (1, b), (2, c), (7, d), (8, e)]) 7 .undef = d ∧ List.getD (mkS 133 [(0, a), (1, b), (2, c), (7, d), (8, e)]) 8 .undef = e := ⟨rfl, rfl, rfl, rfl, rfl⟩
section
variable {l : List Int} (hl : l.length < 1073741824) (hs : Asc l)
include hl hs
theorem lpIns4 (i : Nat) (hi : i < l.length) (b : Int) : Lω 31 lcK31_4 1 (stK31_4 0 b (i : Nat) (i : Nat)) [.made true 1 (l.map ie)] = some (.exit 2, mkS 49 [(0, whole 0 1), (1, .int .i64 0), (2, .int .i64 b), (6, .int .i64 (i : Nat))], [.made true 1 (l.map ie)]) := by
  refine lw ?_
  by_cases h0 : 0 < i
  · have h1 := hs (i - 1) i (by omega) hi
    rw [lqK31_4, if_pos (by simp; omega), if_pos (by simp; omega), Int.toNat_natCast, mapGet (getDL hi)]
    simp only [bind_some', part1, asInt_int]
    rw [wrap_pred h0 (by omega), if_pos (by simp; omega), Int.toNat_natCast, mapGet (getDL (show i - 1 < l.length by omega))]
    simp only [bind_some', part1, asInt_int]
    rw [spLess, decide_eq_false (by omega)]
    simp only [asInt_int, asBool_bool, asStr_str, asSl_psl, asSl_nil, asAgg_agg, asTup_tup, asCons_cons, asNil_nil, asFlt_flt, asRef_ref, asWhole_whole, asView_view, asWv_whole, asWv_view, asFn_fn, asPref_pref, asOCons_cons, asONil_nil, asBox_box, asMade_made, asGone_dead, asGone_made, bind_some', onEx_exit, onEx_ret]
    rw [if_neg (by decide)]
  · have : i = 0 := by omega
    subst this
    rw [lqK31_4, if_neg (by simp)]
theorem lpIns1 : ∀ k i : Nat, i + k = l.length → Lω 31 lcK31_1 1 (stK31_1 0 (l.length : Nat) (i : Nat)) [.made true 1 (l.map ie)] = some (.exit 0, mkS 49 [], [.made true 1 (l.map ie)])
  | 0, i, h => by
    refine lw ?_
    rw [lqK31_1, if_neg (by simp; omega)]
  | k + 1, i, h => by
    refine lw ?_
    rw [lqK31_1, if_pos (by simp; omega), lpIns4 hl hs i (by omega)]
    simp only [asInt_int, asBool_bool, asStr_str, asSl_psl, asSl_nil, asAgg_agg, asTup_tup, asCons_cons, asNil_nil, asFlt_flt, asRef_ref, asWhole_whole, asView_view, asWv_whole, asWv_view, asFn_fn, asPref_pref, asOCons_cons, asONil_nil, asBox_box, asMade_made, asGone_dead, asGone_made, bind_some', onEx_exit, onEx_ret, mk49, if_true]
    rw [wrap_succ (by omega)]
    exact lpIns1 k (i + 1) (by omega)
theorem spIns : Cω 31 [whole 0 1, .int .i64 0, .int .i64 (l.length : Nat)] [.made true 1 (l.map ie)] = some (.tuple [], [.made true 1 (l.map ie)]) := by
  refine cw ?_
  rw [eqK31]
  have e : IntKind.wrap .i64 ((0 : Int) + 1) = ((1 : Nat) : Int) := by decide
  rw [e]
  by_cases h : 1 ≤ l.length
  · rw [lpIns1 hl hs (l.length - 1) 1 (by omega)]
    simp only [asInt_int, asBool_bool, asStr_str, asSl_psl, asSl_nil, asAgg_agg, asTup_tup, asCons_cons, asNil_nil, asFlt_flt, asRef_ref, asWhole_whole, asView_view, asWv_whole, asWv_view, asFn_fn, asPref_pref, asOCons_cons, asONil_nil, asBox_box, asMade_made, asGone_dead, asGone_made, bind_some', onEx_exit, onEx_ret, if_true]
  · have : Lω 31 lcK31_1 1 (stK31_1 0 (l.length : Nat) ((1 : Nat) : Int)) [.made true 1 (l.map ie)] = some (.exit 0, mkS 49 [], [.made true 1 (l.map ie)]) := by
      refine lw ?_
      rw [lqK31_1, if_neg (by simp; omega)]
    rw [this]
    simp only [asInt_int, asBool_bool, asStr_str, asSl_psl, asSl_nil, asAgg_agg, asTup_tup, asCons_cons, asNil_nil, asFlt_flt, asRef_ref, asWhole_whole, asView_view, asWv_whole, asWv_view, asFn_fn, asPref_pref, asOCons_cons, asONil_nil, asBox_box, asMade_made, asGone_dead, asGone_made, bind_some', onEx_exit, onEx_ret, if_true]
theorem spOrd {a b : Nat} (hab : a < b) (hb : b < l.length) (z : Int) : Cω 47 [whole 0 1, .int .i64 (a : Nat), .int .i64 (b : Nat), .ref 1 0 0] [.made true 1 (l.map ie), .box true 3 [.int .i64 z]] = some (.tuple [.int .i64 (a : Nat), .int .i64 (b : Nat)], [.made true 1 (l.map ie), .box true 3 [.int .i64 z]]) := by
  have h1 := hs a b hab hb
  refine cw ?_
  rw [eqK47, if_pos (by simp; omega), Int.toNat_natCast, mapGet (getDL hb)]
  simp only [bind_some', part1, asInt_int]
  rw [if_pos (by simp; omega), Int.toNat_natCast, mapGet (getDL (show a < l.length by omega))]
  simp only [bind_some', part1, asInt_int]
  rw [spLess, decide_eq_false (by omega)]
  simp only [asInt_int, asBool_bool, asStr_str, asSl_psl, asSl_nil, asAgg_agg, asTup_tup, asCons_cons, asNil_nil, asFlt_flt, asRef_ref, asWhole_whole, asView_view, asWv_whole, asWv_view, asFn_fn, asPref_pref, asOCons_cons, asONil_nil, asBox_box, asMade_made, asGone_dead, asGone_made, bind_some', onEx_exit, onEx_ret]
  rw [if_neg (by decide)]
theorem spMed {a b c : Nat} (hab : a < b) (hbc : b < c) (hc : c < l.length) (z : Int) : Cω 46 [whole 0 1, .int .i64 (a : Nat), .int .i64 (b : Nat), .int .i64 (c : Nat), .ref 1 0 0] [.made true 1 (l.map ie), .box true 3 [.int .i64 z]] = some (.int .i64 (b : Nat), [.made true 1 (l.map ie), .box true 3 [.int .i64 z]]) := by
  refine cw ?_
  rw [eqK46, spOrd hl hs hab (by omega)]
  simp only [asInt_int, asBool_bool, asStr_str, asSl_psl, asSl_nil, asAgg_agg, asTup_tup, asCons_cons, asNil_nil, asFlt_flt, asRef_ref, asWhole_whole, asView_view, asWv_whole, asWv_view, asFn_fn, asPref_pref, asOCons_cons, asONil_nil, asBox_box, asMade_made, asGone_dead, asGone_made, bind_some', onEx_exit, onEx_ret]
  rw [spOrd hl hs hbc hc]
  simp only [asInt_int, asBool_bool, asStr_str, asSl_psl, asSl_nil, asAgg_agg, asTup_tup, asCons_cons, asNil_nil, asFlt_flt, asRef_ref, asWhole_whole, asView_view, asWv_whole, asWv_view, asFn_fn, asPref_pref, asOCons_cons, asONil_nil, asBox_box, asMade_made, asGone_dead, asGone_made, bind_some', onEx_exit, onEx_ret]
  rw [spOrd hl hs hab (by omega)]
  simp only [asInt_int, asBool_bool, asStr_str, asSl_psl, asSl_nil, asAgg_agg, asTup_tup, asCons_cons, asNil_nil, asFlt_flt, asRef_ref, asWhole_whole, asView_view, asWv_whole, asWv_view, asFn_fn, asPref_pref, asOCons_cons, asONil_nil, asBox_box, asMade_made, asGone_dead, asGone_made, bind_some', onEx_exit, onEx_ret]
theorem spAdj {a : Nat} (h0 : 0 < a) (ha : a + 1 < l.length) (z : Int) : Cω 45 [whole 0 1, .int .i64 (a : Nat), .ref 1 0 0] [.made true 1 (l.map ie), .box true 3 [.int .i64 z]] = some (.int .i64 (a : Nat), [.made true 1 (l.map ie), .box true 3 [.int .i64 z]]) := by
  refine cw ?_
  rw [eqK45, wrap_pred h0 (by omega), wrap_succ (by omega), spMed hl hs (show a - 1 < a by omega) (show a < a + 1 by omega) ha]
  simp only [asInt_int, asBool_bool, asStr_str, asSl_psl, asSl_nil, asAgg_agg, asTup_tup, asCons_cons, asNil_nil, asFlt_flt, asRef_ref, asWhole_whole, asView_view, asWv_whole, asWv_view, asFn_fn, asPref_pref, asOCons_cons, asONil_nil, asBox_box, asMade_made, asGone_dead, asGone_made, bind_some', onEx_exit, onEx_ret]
theorem spPiv (h13 : 12 < l.length) : Cω 34 [whole 0 1, .int .i64 0, .int .i64 (l.length : Nat)] [.made true 1 (l.map ie)] = some (.tuple [.int .i64 ((l.length / 4 * 2 : Nat) : Int), .int .i64 1], [.made true 1 (l.map ie)]) := by
  have w0 : IntKind.wrap .i64 (((l.length : Nat) : Int) - 0) = ((l.length : Nat) : Int) := by rw [wrap_i64 (by omega) (by omega)]; omega
  have w1 : IntKind.wrap .i64 (Int.tdiv ((l.length : Nat) : Int) 4) = ((l.length / 4 : Nat) : Int) := by
    rw [Int.tdiv_eq_ediv_of_nonneg (by omega), wrap_i64 (by omega) (by omega)]; omega
  have w2 : ∀ m : Nat, m ≤ 3 → IntKind.wrap .i64 (0 + IntKind.wrap .i64 (((l.length / 4 : Nat) : Int) * ((m : Nat) : Int))) = ((l.length / 4 * m : Nat) : Int) := fun m hm => by
    have hb : l.length / 4 * m ≤ l.length / 4 * 3 := Nat.mul_le_mul_left _ hm
    rw [← Int.natCast_mul, wrap_i64 (x := ((l.length / 4 * m : Nat) : Int)) (by omega) (by omega), wrap_i64 (by omega) (by omega)]; omega
  have v1 := w2 1 (by omega)
  have v2 := w2 2 (by omega)
  have v3 := w2 3 (by omega)
  have c1 : ((1 : Nat) : Int) = 1 := rfl
  have c2 : ((2 : Nat) : Int) = 2 := rfl
  have c3 : ((3 : Nat) : Int) = 3 := rfl
  rw [c1] at v1; rw [c2] at v2; rw [c3] at v3
  refine cw ?_
  rw [eqK34]
  simp only [w0, w1, v1, v2, v3]
  rw [if_pos (by simp; omega)]
  by_cases h50 : 50 ≤ l.length
  · rw [if_pos (by simp; omega), spAdj hl hs (show 0 < l.length / 4 * 1 by omega) (by omega)]
    simp only [asInt_int, asBool_bool, asStr_str, asSl_psl, asSl_nil, asAgg_agg, asTup_tup, asCons_cons, asNil_nil, asFlt_flt, asRef_ref, asWhole_whole, asView_view, asWv_whole, asWv_view, asFn_fn, asPref_pref, asOCons_cons, asONil_nil, asBox_box, asMade_made, asGone_dead, asGone_made, bind_some', onEx_exit, onEx_ret]
    rw [spAdj hl hs (show 0 < l.length / 4 * 2 by omega) (by omega)]
    simp only [asInt_int, asBool_bool, asStr_str, asSl_psl, asSl_nil, asAgg_agg, asTup_tup, asCons_cons, asNil_nil, asFlt_flt, asRef_ref, asWhole_whole, asView_view, asWv_whole, asWv_view, asFn_fn, asPref_pref, asOCons_cons, asONil_nil, asBox_box, asMade_made, asGone_dead, asGone_made, bind_some', onEx_exit, onEx_ret]
    rw [spAdj hl hs (show 0 < l.length / 4 * 3 by omega) (by omega)]
    simp only [asInt_int, asBool_bool, asStr_str, asSl_psl, asSl_nil, asAgg_agg, asTup_tup, asCons_cons, asNil_nil, asFlt_flt, asRef_ref, asWhole_whole, asView_view, asWv_whole, asWv_view, asFn_fn, asPref_pref, asOCons_cons, asONil_nil, asBox_box, asMade_made, asGone_dead, asGone_made, bind_some', onEx_exit, onEx_ret]
    rw [spMed hl hs (show l.length / 4 * 1 < l.length / 4 * 2 by omega) (show l.length / 4 * 2 < l.length / 4 * 3 by omega) (by omega)]
    simp only [asInt_int, asBool_bool, asStr_str, asSl_psl, asSl_nil, asAgg_agg, asTup_tup, asCons_cons, asNil_nil, asFlt_flt, asRef_ref, asWhole_whole, asView_view, asWv_whole, asWv_view, asFn_fn, asPref_pref, asOCons_cons, asONil_nil, asBox_box, asMade_made, asGone_dead, asGone_made, bind_some', onEx_exit, onEx_ret]
    rw [if_pos (by decide)]
  · rw [if_neg (by simp; omega), spMed hl hs (show l.length / 4 * 1 < l.length / 4 * 2 by omega) (show l.length / 4 * 2 < l.length / 4 * 3 by omega) (by omega)]
    simp only [asInt_int, asBool_bool, asStr_str, asSl_psl, asSl_nil, asAgg_agg, asTup_tup, asCons_cons, asNil_nil, asFlt_flt, asRef_ref, asWhole_whole, asView_view, asWv_whole, asWv_view, asFn_fn, asPref_pref, asOCons_cons, asONil_nil, asBox_box, asMade_made, asGone_dead, asGone_made, bind_some', onEx_exit, onEx_ret]
    rw [if_pos (by decide)]
theorem lpPar5 (z : Int) : ∀ k i : Nat, 0 < i → i + k = l.length → Lω 36 lcK36_5 1 (stK36_5 0 (l.length : Nat) (i : Nat) z) [.made true 1 (l.map ie)] = some (.exit 2, mkS 133 [(0, whole 0 1), (1, .int .i64 0), (2, .int .i64 (l.length : Nat)), (7, .int .i64 (l.length : Nat)), (8, .int .i64 z)], [.made true 1 (l.map ie)])
  | 0, i, h0, h => by
    refine lw ?_
    rw [lqK36_5, if_neg (by simp; omega)]
    have : i = l.length := by omega
    rw [this]
  | k + 1, i, h0, h => by
    have h1 := hs (i - 1) i (by omega) (by omega)
    refine lw ?_
    rw [lqK36_5, if_pos (by simp; omega), if_pos (by simp; omega), Int.toNat_natCast, mapGet (getDL (show i < l.length by omega))]
    simp only [bind_some', part1, asInt_int]
    rw [wrap_pred h0 (by omega), if_pos (by simp; omega), Int.toNat_natCast, mapGet (getDL (show i - 1 < l.length by omega))]
    simp only [bind_some', part1, asInt_int]
    rw [spLess, decide_eq_false (by omega)]
    simp only [asInt_int, asBool_bool, asStr_str, asSl_psl, asSl_nil, asAgg_agg, asTup_tup, asCons_cons, asNil_nil, asFlt_flt, asRef_ref, asWhole_whole, asView_view, asWv_whole, asWv_view, asFn_fn, asPref_pref, asOCons_cons, asONil_nil, asBox_box, asMade_made, asGone_dead, asGone_made, bind_some', onEx_exit, onEx_ret]
    rw [if_pos (by decide), wrap_succ (by omega)]
    exact lpPar5 z k (i + 1) (by omega) (by omega)
theorem spPar (h1 : 0 < l.length) : Cω 36 [whole 0 1, .int .i64 0, .int .i64 (l.length : Nat)] [.made true 1 (l.map ie)] = some (.bool true, [.made true 1 (l.map ie)]) := by
  have e : IntKind.wrap .i64 ((0 : Int) + 1) = ((1 : Nat) : Int) := by decide
  have lp : Lω 36 lcK36_3 1 (stK36_3 0 (l.length : Nat) ((1 : Nat) : Int) 0) [.made true 1 (l.map ie)] = some (.ret, mkS 133 [(6, .bool true)], [.made true 1 (l.map ie)]) := by
    refine lw ?_
    rw [lqK36_3, if_pos (by decide), lpPar5 hl hs 0 (l.length - 1) 1 (by omega) (by omega)]
    simp only [asInt_int, asBool_bool, asStr_str, asSl_psl, asSl_nil, asAgg_agg, asTup_tup, asCons_cons, asNil_nil, asFlt_flt, asRef_ref, asWhole_whole, asView_view, asWv_whole, asWv_view, asFn_fn, asPref_pref, asOCons_cons, asONil_nil, asBox_box, asMade_made, asGone_dead, asGone_made, bind_some', onEx_exit, onEx_ret, mk133, if_true]
    rw [if_pos (by simp)]
  refine cw ?_
  rw [eqK36, e, lp]
  simp only [asInt_int, asBool_bool, asStr_str, asSl_psl, asSl_nil, asAgg_agg, asTup_tup, asCons_cons, asNil_nil, asFlt_flt, asRef_ref, asWhole_whole, asView_view, asWv_whole, asWv_view, asFn_fn, asPref_pref, asOCons_cons, asONil_nil, asBox_box, asMade_made, asGone_dead, asGone_made, bind_some', onEx_exit, onEx_ret, getD_mkS (show 6 < 133 by decide)]
  rfl
theorem spPdq (z : Int) (hz : 12 < l.length → z ≠ 0) : Cω 26 [whole 0 1, .int .i64 0, .int .i64 (l.length : Nat), .int .i64 z] [.made true 1 (l.map ie)] = some (.tuple [], [.made true 1 (l.map ie)]) := by
  have w0 : IntKind.wrap .i64 (((l.length : Nat) : Int) - 0) = ((l.length : Nat) : Int) := by rw [wrap_i64 (by omega) (by omega)]; omega
  have lp : Lω 26 lcK26_2 1 (stK26_2 0 (l.length : Nat) z true true) [.made true 1 (l.map ie)] = some (.ret, mkS 134 [], [.made true 1 (l.map ie)]) := by
    refine lw ?_
    rw [lqK26_2, w0]
    by_cases h12 : l.length ≤ 12
    · rw [if_pos (by simp; omega), spIns hl hs]
      simp only [asInt_int, asBool_bool, asStr_str, asSl_psl, asSl_nil, asAgg_agg, asTup_tup, asCons_cons, asNil_nil, asFlt_flt, asRef_ref, asWhole_whole, asView_view, asWv_whole, asWv_view, asFn_fn, asPref_pref, asOCons_cons, asONil_nil, asBox_box, asMade_made, asGone_dead, asGone_made, bind_some', onEx_exit, onEx_ret]
    · rw [if_neg (by simp; omega), if_neg (by simpa using hz (by omega)), if_neg (by decide), spPiv hl hs (by omega)]
      simp only [asInt_int, asBool_bool, asStr_str, asSl_psl, asSl_nil, asAgg_agg, asTup_tup, asCons_cons, asNil_nil, asFlt_flt, asRef_ref, asWhole_whole, asView_view, asWv_whole, asWv_view, asFn_fn, asPref_pref, asOCons_cons, asONil_nil, asBox_box, asMade_made, asGone_dead, asGone_made, bind_some', onEx_exit, onEx_ret]
      rw [if_neg (by decide), if_pos (by decide), if_pos (by decide), if_pos (by decide), spPar hl hs (by omega)]
      simp only [asInt_int, asBool_bool, asStr_str, asSl_psl, asSl_nil, asAgg_agg, asTup_tup, asCons_cons, asNil_nil, asFlt_flt, asRef_ref, asWhole_whole, asView_view, asWv_whole, asWv_view, asFn_fn, asPref_pref, asOCons_cons, asONil_nil, asBox_box, asMade_made, asGone_dead, asGone_made, bind_some', onEx_exit, onEx_ret]
      rw [if_pos trivial]
  refine cw ?_
  rw [eqK26, lp]
  simp only [asInt_int, asBool_bool, asStr_str, asSl_psl, asSl_nil, asAgg_agg, asTup_tup, asCons_cons, asNil_nil, asFlt_flt, asRef_ref, asWhole_whole, asView_view, asWv_whole, asWv_view, asFn_fn, asPref_pref, asOCons_cons, asONil_nil, asBox_box, asMade_made, asGone_dead, asGone_made, bind_some', onEx_exit, onEx_ret]
end
end Go.Pvm.S
