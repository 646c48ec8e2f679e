/- Part of the proof: a view of numbers that ascend; what is asked of each program. -/
import Derived.Test.YtkipbdbmeanffaaViewD
set_option linter.unusedSimpArgs false
set_option linter.unusedVariables false
set_option linter.unusedSectionVars false
set_option maxRecDepth 100000
namespace Go.Pvm.S
open Go.Pvm Go.Proofs
def lenN (n : Nat) : Nat := if n = 0 then 0 else Nat.log2 n + 1
theorem lenTab (C : CallK) (L : LoopK) : ∀ n : Nat, n < 65 → stepKK cfg kcfg C L 40 [.int .u64 ((n : Nat) : Int)] [] = some (.int .i64 ((lenN n : Nat) : Int), [])
  | 0, _ => by kernel_rfl
  | 1, _ => by kernel_rfl
  | 2, _ => by kernel_rfl
  | 3, _ => by kernel_rfl
  | 4, _ => by kernel_rfl
  | 5, _ => by kernel_rfl
  | 6, _ => by kernel_rfl
  | 7, _ => by kernel_rfl
  | 8, _ => by kernel_rfl
  | 9, _ => by kernel_rfl
  | 10, _ => by kernel_rfl
  | 11, _ => by kernel_rfl
  | 12, _ => by kernel_rfl
  | 13, _ => by kernel_rfl
  | 14, _ => by kernel_rfl
  | 15, _ => by kernel_rfl
  | 16, _ => by kernel_rfl
  | 17, _ => by kernel_rfl
  | 18, _ => by kernel_rfl
  | 19, _ => by kernel_rfl
  | 20, _ => by kernel_rfl
  | 21, _ => by kernel_rfl
  | 22, _ => by kernel_rfl
  | 23, _ => by kernel_rfl
  | 24, _ => by kernel_rfl
  | 25, _ => by kernel_rfl
  | 26, _ => by kernel_rfl
  | 27, _ => by kernel_rfl
  | 28, _ => by kernel_rfl
  | 29, _ => by kernel_rfl
  | 30, _ => by kernel_rfl
  | 31, _ => by kernel_rfl
  | 32, _ => by kernel_rfl
  | 33, _ => by kernel_rfl
  | 34, _ => by kernel_rfl
  | 35, _ => by kernel_rfl
  | 36, _ => by kernel_rfl
  | 37, _ => by kernel_rfl
  | 38, _ => by kernel_rfl
  | 39, _ => by kernel_rfl
  | 40, _ => by kernel_rfl
  | 41, _ => by kernel_rfl
  | 42, _ => by kernel_rfl
  | 43, _ => by kernel_rfl
  | 44, _ => by kernel_rfl
  | 45, _ => by kernel_rfl
  | 46, _ => by kernel_rfl
  | 47, _ => by kernel_rfl
  | 48, _ => by kernel_rfl
  | 49, _ => by kernel_rfl
  | 50, _ => by kernel_rfl
  | 51, _ => by kernel_rfl
  | 52, _ => by kernel_rfl
  | 53, _ => by kernel_rfl
  | 54, _ => by kernel_rfl
  | 55, _ => by kernel_rfl
  | 56, _ => by kernel_rfl
  | 57, _ => by kernel_rfl
  | 58, _ => by kernel_rfl
  | 59, _ => by kernel_rfl
  | 60, _ => by kernel_rfl
  | 61, _ => by kernel_rfl
  | 62, _ => by kernel_rfl
  | 63, _ => by kernel_rfl
  | 64, _ => by kernel_rfl
  | n + 65, h => absurd h (by omega)

theorem spLen {n : Nat} (h : n < 65) : pcall Cω 27 [.int .u64 ((n : Nat) : Int)] = some (.int .i64 ((lenN n : Nat) : Int)) := by
  have h1 : pcall Cω 40 [.int .u64 ((n : Nat) : Int)] = some (.int .i64 ((lenN n : Nat) : Int)) := pc (lenTab Cω Lω n h) rfl
  have ev := eqK27 Cω Lω ((n : Nat) : Int)
  rw [h1] at ev
  simp only [asInt_int, asBool_bool, asStr_str, asSl_psl, asSl_nil, asAgg_agg, asTup_tup, asCons_cons, asNil_nil, asFlt_flt, asRef_ref, asWhole_whole, asView_view, asWv_whole, asWv_view, asFn_fn, asPref_pref, asOCons_cons, asONil_nil, asBox_box, asMade_made, asGone_dead, asGone_made, bind_some', onEx_exit, onEx_ret] at ev
  exact pc ev rfl
section
variable {l : List Int} (hl : l.length ≤ 64) (hs : Asc l)
include hl hs
theorem spSort : Cω 19 [whole 0 1] [.made true 1 (l.map ie)] = some (.tuple [], [.made true 1 (l.map ie)]) := by
  refine cw ?_
  rw [eqK19, List.length_map, wrap_u64 (by omega) (by omega), spLen (by omega)]
  simp only [asInt_int, asBool_bool, asStr_str, asSl_psl, asSl_nil, asAgg_agg, asTup_tup, asCons_cons, asNil_nil, asFlt_flt, asRef_ref, asWhole_whole, asView_view, asWv_whole, asWv_view, asFn_fn, asPref_pref, asOCons_cons, asONil_nil, asBox_box, asMade_made, asGone_dead, asGone_made, bind_some', onEx_exit, onEx_ret]
  rw [spPdq (by omega) hs _ (fun h => by unfold lenN; rw [if_neg (by omega)]; omega)]
  simp only [asInt_int, asBool_bool, asStr_str, asSl_psl, asSl_nil, asAgg_agg, asTup_tup, asCons_cons, asNil_nil, asFlt_flt, asRef_ref, asWhole_whole, asView_view, asWv_whole, asWv_view, asFn_fn, asPref_pref, asOCons_cons, asONil_nil, asBox_box, asMade_made, asGone_dead, asGone_made, bind_some', onEx_exit, onEx_ret]
theorem lpComp : ∀ k i : Nat, 0 < i → i + k = l.length → Lω 20 lcK20_4 1 (stK20_4 (i : Nat)) [.made true 1 (l.map ie)] = some (.exit 0, mkS 61 [(0, whole 0 1)], [.made true 1 (l.map ie)])
  | 0, i, h0, h => by
    refine lw ?_
    rw [lqK20_4, if_neg (by simp; omega)]
  | k + 1, i, h0, h => by
    have h1 := hs (i - 1) i (by omega) (by omega)
    refine lw ?_
    rw [lqK20_4, if_pos (by simp; omega), if_pos (by simp; omega), Int.toNat_natCast, mapGet (getDL (show i < l.length by omega))]
    simp only [bind_some', part1, asInt_int]
    rw [wrap_pred h0 (by omega), if_pos (by simp; omega), Int.toNat_natCast, mapGet (getDL (show i - 1 < l.length by omega))]
    simp only [bind_some', part1, asInt_int]
    rw [if_neg (by rw [beq_iff_eq]; omega), wrap_succ (by omega)]
    exact lpComp k (i + 1) (by omega) (by omega)
theorem spComp : Cω 20 [whole 0 1] [.made true 1 (l.map ie)] = some (whole 0 1, [.made true 1 (l.map ie)]) := by
  refine cw ?_
  rw [eqK20]
  by_cases h2 : l.length < 2
  · rw [if_pos (by simp; omega)]
  · have lp := lpComp hl hs (l.length - 1) 1 (by omega) (by omega)
    have c1 : ((1 : Nat) : Int) = 1 := rfl
    rw [c1] at lp
    rw [if_neg (by simp; omega), lp]
    simp only [asInt_int, asBool_bool, asStr_str, asSl_psl, asSl_nil, asAgg_agg, asTup_tup, asCons_cons, asNil_nil, asFlt_flt, asRef_ref, asWhole_whole, asView_view, asWv_whole, asWv_view, asFn_fn, asPref_pref, asOCons_cons, asONil_nil, asBox_box, asMade_made, asGone_dead, asGone_made, bind_some', onEx_exit, onEx_ret, getD_mkS (show 0 < 61 by decide)]
    simp only [List.lookup, beq_self_eq_true, Option.getD_some, asWhole_whole, asInt_int, asBool_bool, asStr_str, asSl_psl, asSl_nil, asAgg_agg, asTup_tup, asCons_cons, asNil_nil, asFlt_flt, asRef_ref, asWhole_whole, asView_view, asWv_whole, asWv_view, asFn_fn, asPref_pref, asOCons_cons, asONil_nil, asBox_box, asMade_made, asGone_dead, asGone_made, bind_some', onEx_exit, onEx_ret, if_true]
end
theorem Asc.filter {l : List Int} (h : l.Pairwise (· < ·)) (p : Int → Bool) : (l.filter p).Pairwise (· < ·) := List.Pairwise.filter p h
theorem asc_of {l : List Int} (h : l.Pairwise (· < ·)) : Asc l := fun i j hij hj => by
  have := List.pairwise_iff_getElem.1 h i j (by omega) hj hij
  rw [List.getD_eq_getElem?_getD, List.getD_eq_getElem?_getD, List.getElem?_eq_getElem (show i < l.length by omega), List.getElem?_eq_getElem hj]
  exact this
def keep (s n : Int) (t : Int) : Bool := decide (t < n) && !(t == s)
theorem lpOf (s n : Int) (l : List Int) (hl : l.length ≤ 64) (hp : ∀ t ∈ l, 1 ≤ t) (a b : Int) (x : List (List PV)) : ∀ k i : Nat, i + k = l.length → ∀ acc : List Int, acc.length ≤ i → Lω 8 lcK8_3 0 (stK8_3 s n (l.map ie) (l.length : Nat) (i : Nat)) [.box true 25 [.int .i64 a, .int .i64 b, whole 2 1], .box true 25 [.int .i64 s, .int .i64 n, whole 3 1], .made true 1 x, .made true 1 (acc.map ie)] =
    some (.exit 0, mkS 53 [(6, .ref 0 0 0), (8, .ref 1 0 0)], [.box true 25 [.int .i64 a, .int .i64 b, whole 2 1], .box true 25 [.int .i64 s, .int .i64 n, whole 3 1], .made true 1 x, .made true 1 ((acc ++ (l.drop i).filter (keep s n)).map ie)])
  | 0, i, h, acc, ha => by
    refine lw ?_
    rw [lqK8_3, if_neg (by simp; omega), List.drop_of_length_le (by omega), List.filter_nil, List.append_nil]
  | k + 1, i, h, acc, ha => by
    have hi : i < l.length := by omega
    have hg := List.getElem?_eq_getElem hi
    have h1 := hp l[i] (List.getElem_mem hi)
    refine lw ?_
    rw [lqK8_3, if_pos (by simp; omega), if_pos (by omega), Int.toNat_natCast, mapGet hg]
    simp only [ie, asInt_int, asBool_bool, asStr_str, asSl_psl, asSl_nil, asAgg_agg, asTup_tup, asCons_cons, asNil_nil, asFlt_flt, asRef_ref, asWhole_whole, asView_view, asWv_whole, asWv_view, asFn_fn, asPref_pref, asOCons_cons, asONil_nil, asBox_box, asMade_made, asGone_dead, asGone_made, bind_some', onEx_exit, onEx_ret]
    rw [if_neg (by simp; omega), List.drop_eq_getElem_cons hi, List.filter_cons, wrap_succ (by omega)]
    have ie' : ∀ z : Int, [PV.int .i64 z] = ie z := fun _ => rfl
    by_cases c1 : l[i] < n
    · rw [if_pos (by simpa using c1)]
      by_cases c2 : l[i] = s
      · have hk : keep s n l[i] = false := by unfold keep; rw [beq_iff_eq.2 c2]; simp
        rw [if_neg (by simpa using c2), hk]
        exact lpOf s n l hl hp a b x k (i + 1) (by omega) acc (by omega)
      · have hk : keep s n l[i] = true := by unfold keep; rw [beq_eq_false_iff_ne.2 c2, decide_eq_true c1]; rfl
        rw [if_pos (by simpa using c2), hk, if_pos (by simp; omega)]
        have ih := lpOf s n l hl hp a b x k (i + 1) (by omega) (acc ++ [l[i]]) (by simp; omega)
        rw [List.append_assoc] at ih
        rw [List.map_append] at ih
        exact ih
    · have hk : keep s n l[i] = false := by unfold keep; rw [decide_eq_false c1]; rfl
      rw [if_neg (by simpa using c1), hk]
      exact lpOf s n l hl hp a b x k (i + 1) (by omega) acc (by omega)
theorem spOf (s n : Int) (l : List Int) (hl : l.length ≤ 64) (hp : ∀ t ∈ l, 1 ≤ t) (hs : l.Pairwise (· < ·)) (hok : (Vw.mk s n (l.filter (keep s n))).ok = true) :
    pcall Cω 8 [.int .i64 s, .int .i64 n, .psl false (l.map ie)] = some (.tuple [.agg (Vw.mk s n (l.filter (keep s n))).e, .int .i64 0]) := by
  have lp := lpOf s n l hl hp 0 0 [] l.length 0 (by omega) [] (Nat.le_refl _)
  rw [List.drop_zero, natz, List.nil_append] at lp
  have hfl : (l.filter (keep s n)).length ≤ 64 := Nat.le_trans (List.length_filter_le _ _) hl
  have hfa : Asc (l.filter (keep s n)) := asc_of (Asc.filter hs _)
  have hc := spCheck (Vw.mk s n (l.filter (keep s n))) (by show (l.filter (keep s n)).length < _; omega)
  rw [hok, if_pos rfl] at hc
  have ev := eqK8 Cω Lω s n (l.map ie)
  rw [List.length_map] at ev
  simp only [List.map_nil] at lp
  rw [lp] at ev
  have g6 : List.getD (mkS 53 [(6, PV.ref 0 0 0), (8, .ref 1 0 0)]) 6 .undef = .ref 0 0 0 := rfl
  have g8 : List.getD (mkS 53 [(6, PV.ref 0 0 0), (8, .ref 1 0 0)]) 8 .undef = .ref 1 0 0 := rfl
  simp only [asInt_int, asBool_bool, asStr_str, asSl_psl, asSl_nil, asAgg_agg, asTup_tup, asCons_cons, asNil_nil, asFlt_flt, asRef_ref, asWhole_whole, asView_view, asWv_whole, asWv_view, asFn_fn, asPref_pref, asOCons_cons, asONil_nil, asBox_box, asMade_made, asGone_dead, asGone_made, bind_some', onEx_exit, onEx_ret, g6, g8, if_true, spSort hfl hfa, spComp hfl hfa] at ev
  simp only [Vw.e] at hc ⊢
  rw [hc] at ev
  simp only [asInt_int, asBool_bool, asStr_str, asSl_psl, asSl_nil, asAgg_agg, asTup_tup, asCons_cons, asNil_nil, asFlt_flt, asRef_ref, asWhole_whole, asView_view, asWv_whole, asWv_view, asFn_fn, asPref_pref, asOCons_cons, asONil_nil, asBox_box, asMade_made, asGone_dead, asGone_made, bind_some', onEx_exit, onEx_ret] at ev
  rw [if_neg (by decide)] at ev
  exact pc ev rfl
end Go.Pvm.S
