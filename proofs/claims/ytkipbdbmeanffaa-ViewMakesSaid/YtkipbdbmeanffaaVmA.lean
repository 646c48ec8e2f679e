/- Part of the proof: views (beside KL): which may be; whether a number is one of some. -/
import Derived.Test.YtkipbdbmeanffaaEqKAll
import Derived.Test.YtkipbdbmeanffaaKL
set_option linter.unusedSimpArgs false
set_option linter.unusedVariables false
set_option maxRecDepth 100000
namespace Go.Pvm.S
open Go.Pvm Go.Proofs
structure Vw where
  s : Int
  n : Int
  a : List Int
  deriving DecidableEq
def Vw.e (v : Vw) : List PV := [.int .i64 v.s, .int .i64 v.n, .psl false (v.a.map ie)]

/-! ### Is a number one of some? -/
theorem lpIn (l : List Int) (x : Int) (hl : l.length < 4611686018427387904) : ∀ k i : Nat, i + k = l.length → Lω 13 lcK13_2 0 (stK13_2 (l.map ie) x (i : Nat)) [] = some (if (l.drop i).any (· == x) = true then (.ret, mkS 18 [(4, .bool true)], []) else (.exit 0, mkS 18 [], []))
  | 0, i, h => by
    refine lw ?_
    rw [lqK13_2, if_neg (by simp; omega), List.drop_of_length_le (by omega)]
    rfl
  | k + 1, i, h => by
    have hi : i < l.length := by omega
    have hg := List.getElem?_eq_getElem hi
    refine lw ?_
    rw [lqK13_2, if_pos (by simp; omega), if_pos (by omega), Int.toNat_natCast, mapGet hg]
    simp only [ie, asInt_int, asBool_bool, asStr_str, asSl_psl, asSl_nil, asAgg_agg, asTup_tup, asCons_cons, asNil_nil, asFlt_flt, asRef_ref, asWhole_whole, asView_view, asWv_whole, asWv_view, asFn_fn, asPref_pref, asOCons_cons, asONil_nil, asBox_box, asMade_made, asGone_dead, asGone_made, asCI_cons, asCB_cons, asCF_cons, asCS_psl, asCS_nil, asCW_cons, asCR_cons, asOM_cons, asOM_false, asOB_cons, asOB_false, asOG_dead, asOG_made, gS_mk, bind_some', onEx_exit, onEx_ret]
    rw [List.drop_eq_getElem_cons hi, List.any_cons]
    by_cases hp : (l[i] == x) = true
    · rw [if_pos hp, if_pos (by rw [hp]; rfl)]
    · have hp' : (l[i] == x) = false := by simpa using hp
      rw [if_neg hp, hp', Bool.false_or, wrap_succ (by omega)]
      exact lpIn l x hl k (i + 1) (by omega)
theorem spIn (l : List Int) (x : Int) (hl : l.length < 4611686018427387904) : pcall Cω 13 [.psl false (l.map ie), .int .i64 x] = some (.bool (l.any (· == x))) := by
  have ev := eqK13 Cω Lω (l.map ie) x
  have lp := lpIn l x hl l.length 0 (by omega)
  rw [List.drop_zero, natz] at lp
  rw [lp] at ev
  by_cases h : l.any (· == x) = true
  · rw [if_pos h] at ev
    simp only [asInt_int, asBool_bool, asStr_str, asSl_psl, asSl_nil, asAgg_agg, asTup_tup, asCons_cons, asNil_nil, asFlt_flt, asRef_ref, asWhole_whole, asView_view, asWv_whole, asWv_view, asFn_fn, asPref_pref, asOCons_cons, asONil_nil, asBox_box, asMade_made, asGone_dead, asGone_made, asCI_cons, asCB_cons, asCF_cons, asCS_psl, asCS_nil, asCW_cons, asCR_cons, asOM_cons, asOM_false, asOB_cons, asOB_false, asOG_dead, asOG_made, gS_mk, bind_some', onEx_exit, onEx_ret, getD_mkS (show 4 < 18 by decide)] at ev
    rw [h]
    exact pc ev rfl
  · have h' : l.any (· == x) = false := Bool.eq_false_iff.2 h
    rw [if_neg h] at ev
    simp only [asInt_int, asBool_bool, asStr_str, asSl_psl, asSl_nil, asAgg_agg, asTup_tup, asCons_cons, asNil_nil, asFlt_flt, asRef_ref, asWhole_whole, asView_view, asWv_whole, asWv_view, asFn_fn, asPref_pref, asOCons_cons, asONil_nil, asBox_box, asMade_made, asGone_dead, asGone_made, asCI_cons, asCB_cons, asCF_cons, asCS_psl, asCS_nil, asCW_cons, asCR_cons, asOM_cons, asOM_false, asOB_cons, asOB_false, asOG_dead, asOG_made, gS_mk, bind_some', onEx_exit, onEx_ret, if_true] at ev
    rw [h']
    exact pc ev rfl

/-! ### May a view be? -/
def fineAt (v : Vw) (t : Int) (i : Nat) : Bool :=
  if t < 1 then false else if t ≥ v.n then false else if t = v.s then false else if 0 < i then decide (v.a.getD (i - 1) 0 < t) else true
def okF (v : Vw) : Nat → Nat → Bool
  | 0, _ => true
  | k + 1, i => if fineAt v (v.a.getD i 0) i = true then okF v k (i + 1) else false
def Vw.ok (v : Vw) : Bool := decide (0 ≤ v.s) && decide (v.s ≤ 2147483647) && decide (0 ≤ v.n) && decide (v.n ≤ 2147483647) && decide (v.a.length ≤ 64) && okF v v.a.length 0
theorem fine1 {v : Vw} {t : Int} {i : Nat} (h : t < 1) : fineAt v t i = false := by unfold fineAt; rw [if_pos h]
theorem fine2 {v : Vw} {t : Int} {i : Nat} (h : t ≥ v.n) : fineAt v t i = false := by
  unfold fineAt; rw [if_pos h]; exact ite_self false
theorem fine3 {v : Vw} {t : Int} {i : Nat} (h : t = v.s) : fineAt v t i = false := by
  unfold fineAt; rw [if_pos h, ite_self, ite_self]
theorem fine4 {v : Vw} {t : Int} {i : Nat} (h1 : ¬ t < 1) (h2 : ¬ t ≥ v.n) (h3 : ¬ t = v.s) (h4 : 0 < i) : fineAt v t i = decide (v.a.getD (i - 1) 0 < t) := by
  unfold fineAt; rw [if_neg h1, if_neg h2, if_neg h3, if_pos h4]
theorem fine5 {v : Vw} {t : Int} {i : Nat} (h1 : ¬ t < 1) (h2 : ¬ t ≥ v.n) (h3 : ¬ t = v.s) (h4 : ¬ 0 < i) : fineAt v t i = true := by
  unfold fineAt; rw [if_neg h1, if_neg h2, if_neg h3, if_neg h4]
theorem getDL {l : List Int} {i : Nat} (h : i < l.length) : l[i]? = some (l.getD i 0) := by
  rw [List.getD_eq_getElem?_getD, List.getElem?_eq_getElem h]; rfl
theorem lpMay (v : Vw) (hl : v.a.length < 4611686018427387904) : ∀ k i : Nat, i + k = v.a.length → Lω 15 lcK15_2 0 (stK15_2 (i : Nat)) [.box true 25 v.e] = some (if okF v k i = true then (.exit 0, mkS 69 [(1, .ref 0 0 0)], [.box true 25 v.e]) else (.ret, mkS 69 [(2, .bool false)], []))
  | 0, i, h => by
    refine lw ?_
    simp only [Vw.e]
    rw [lqK15_2, if_neg (by simp; omega)]
    rfl
  | k + 1, i, h => by
    have hi : i < v.a.length := by omega
    have ih := lpMay v hl k (i + 1) (by omega)
    refine lw ?_
    simp only [Vw.e] at ih ⊢
    rw [lqK15_2, if_pos (by simp; omega), if_pos (by omega), Int.toNat_natCast, mapGet (getDL hi)]
    simp only [ie, asInt_int, asBool_bool, asStr_str, asSl_psl, asSl_nil, asAgg_agg, asTup_tup, asCons_cons, asNil_nil, asFlt_flt, asRef_ref, asWhole_whole, asView_view, asWv_whole, asWv_view, asFn_fn, asPref_pref, asOCons_cons, asONil_nil, asBox_box, asMade_made, asGone_dead, asGone_made, asCI_cons, asCB_cons, asCF_cons, asCS_psl, asCS_nil, asCW_cons, asCR_cons, asOM_cons, asOM_false, asOB_cons, asOB_false, asOG_dead, asOG_made, gS_mk, bind_some', onEx_exit, onEx_ret]
    rw [okF]
    generalize hx : v.a.getD i 0 = x
    by_cases h1 : x < 1
    · rw [if_pos (by simpa using h1), fine1 h1]
      rfl
    rw [if_neg (by simpa using h1)]
    by_cases h2 : x ≥ v.n
    · rw [if_pos (by simpa using h2), fine2 h2]
      rfl
    rw [if_neg (by simpa using h2)]
    by_cases h3 : x = v.s
    · rw [if_pos (by simpa using h3), fine3 h3]
      rfl
    rw [if_neg (by simpa using h3)]
    by_cases h4 : 0 < i
    · rw [if_pos (by simp; omega), wrap_pred h4 (by omega), if_pos (by omega), Int.toNat_natCast, mapGet (getDL (show i - 1 < v.a.length by omega))]
      simp only [ie, asInt_int, asBool_bool, asStr_str, asSl_psl, asSl_nil, asAgg_agg, asTup_tup, asCons_cons, asNil_nil, asFlt_flt, asRef_ref, asWhole_whole, asView_view, asWv_whole, asWv_view, asFn_fn, asPref_pref, asOCons_cons, asONil_nil, asBox_box, asMade_made, asGone_dead, asGone_made, asCI_cons, asCB_cons, asCF_cons, asCS_psl, asCS_nil, asCW_cons, asCR_cons, asOM_cons, asOM_false, asOB_cons, asOB_false, asOG_dead, asOG_made, gS_mk, bind_some', onEx_exit, onEx_ret]
      rw [fine4 h1 h2 h3 h4]
      generalize hy : v.a.getD (i - 1) 0 = y
      by_cases h5 : y < x
      · rw [if_neg (by simp; omega), wrap_succ (by omega), ih, decide_eq_true h5]
        rfl
      · rw [if_pos (by simp; omega), decide_eq_false h5]
        rfl
    · rw [if_neg (by simp; omega), wrap_succ (by omega), ih, fine5 h1 h2 h3 h4]
      rfl
theorem lpCheck (v : Vw) (hl : v.a.length < 4611686018427387904) : ∀ k i : Nat, i + k = v.a.length → Lω 11 lcK11_4 0 (stK11_4 (v.a.map ie) (v.a.length : Nat) (i : Nat)) [.box true 25 v.e] = some (if okF v k i = true then (.exit 0, mkS 66 [], []) else (.ret, mkS 66 [(2, .int .i64 1)], []))
  | 0, i, h => by
    refine lw ?_
    simp only [Vw.e]
    rw [lqK11_4, if_neg (by simp; omega)]
    rfl
  | k + 1, i, h => by
    have hi : i < v.a.length := by omega
    have ih := lpCheck v hl k (i + 1) (by omega)
    refine lw ?_
    simp only [Vw.e] at ih ⊢
    rw [lqK11_4, if_pos (by simp; omega), if_pos (by omega), Int.toNat_natCast, mapGet (getDL hi)]
    simp only [ie, asInt_int, asBool_bool, asStr_str, asSl_psl, asSl_nil, asAgg_agg, asTup_tup, asCons_cons, asNil_nil, asFlt_flt, asRef_ref, asWhole_whole, asView_view, asWv_whole, asWv_view, asFn_fn, asPref_pref, asOCons_cons, asONil_nil, asBox_box, asMade_made, asGone_dead, asGone_made, asCI_cons, asCB_cons, asCF_cons, asCS_psl, asCS_nil, asCW_cons, asCR_cons, asOM_cons, asOM_false, asOB_cons, asOB_false, asOG_dead, asOG_made, gS_mk, bind_some', onEx_exit, onEx_ret]
    rw [okF]
    generalize hx : v.a.getD i 0 = x
    by_cases h1 : x < 1
    · rw [if_pos (by simpa using h1), fine1 h1]
      rfl
    rw [if_neg (by simpa using h1)]
    by_cases h2 : x ≥ v.n
    · rw [if_pos (by simpa using h2), fine2 h2]
      rfl
    rw [if_neg (by simpa using h2)]
    by_cases h3 : x = v.s
    · rw [if_pos (by simpa using h3), fine3 h3]
      rfl
    rw [if_neg (by simpa using h3)]
    by_cases h4 : 0 < i
    · rw [if_pos (by simp; omega), wrap_pred h4 (by omega), if_pos (by omega), Int.toNat_natCast, mapGet (getDL (show i - 1 < v.a.length by omega))]
      simp only [ie, asInt_int, asBool_bool, asStr_str, asSl_psl, asSl_nil, asAgg_agg, asTup_tup, asCons_cons, asNil_nil, asFlt_flt, asRef_ref, asWhole_whole, asView_view, asWv_whole, asWv_view, asFn_fn, asPref_pref, asOCons_cons, asONil_nil, asBox_box, asMade_made, asGone_dead, asGone_made, asCI_cons, asCB_cons, asCF_cons, asCS_psl, asCS_nil, asCW_cons, asCR_cons, asOM_cons, asOM_false, asOB_cons, asOB_false, asOG_dead, asOG_made, gS_mk, bind_some', onEx_exit, onEx_ret]
      rw [fine4 h1 h2 h3 h4]
      generalize hy : v.a.getD (i - 1) 0 = y
      by_cases h5 : y < x
      · rw [if_neg (by simp; omega), wrap_succ (by omega), ih, decide_eq_true h5]
        rfl
      · rw [if_pos (by simp; omega), decide_eq_false h5]
        rfl
    · rw [if_neg (by simp; omega), wrap_succ (by omega), ih, fine5 h1 h2 h3 h4]
      rfl
theorem spCheck (v : Vw) (hl : v.a.length < 4611686018427387904) : pcall Cω 11 [.agg v.e] = some (.int .i64 (if v.ok = true then 0 else 1)) := by
  have ev := eqK11 Cω Lω v.s v.n (v.a.map ie)
  have lp := lpCheck v hl v.a.length 0 (by omega)
  rw [natz] at lp
  simp only [Vw.e] at lp
  rw [List.length_map, lp] at ev
  unfold Vw.ok
  by_cases h1 : v.s < 0
  · rw [if_pos (by simpa using h1)] at ev
    rw [if_neg (by simp; omega)]
    exact pc ev rfl
  rw [if_neg (by simpa using h1)] at ev
  by_cases h2 : v.s > 2147483647
  · rw [if_pos (by simpa using h2)] at ev
    rw [if_neg (by simp; omega)]
    exact pc ev rfl
  rw [if_neg (by simpa using h2)] at ev
  by_cases h3 : v.n < 0
  · rw [if_pos (by simpa using h3)] at ev
    rw [if_neg (by simp; omega)]
    exact pc ev rfl
  rw [if_neg (by simpa using h3)] at ev
  by_cases h4 : v.n > 2147483647
  · rw [if_pos (by simpa using h4)] at ev
    rw [if_neg (by simp; omega)]
    exact pc ev rfl
  rw [if_neg (by simpa using h4)] at ev
  by_cases h5 : ((v.a.length : Nat) : Int) > 64
  · rw [if_pos (by simpa using h5)] at ev
    rw [if_neg (by simp; omega)]
    exact pc ev rfl
  rw [if_neg (by simpa using h5)] at ev
  by_cases h6 : okF v v.a.length 0 = true
  · rw [if_pos h6] at ev
    simp only [asInt_int, asBool_bool, asStr_str, asSl_psl, asSl_nil, asAgg_agg, asTup_tup, asCons_cons, asNil_nil, asFlt_flt, asRef_ref, asWhole_whole, asView_view, asWv_whole, asWv_view, asFn_fn, asPref_pref, asOCons_cons, asONil_nil, asBox_box, asMade_made, asGone_dead, asGone_made, asCI_cons, asCB_cons, asCF_cons, asCS_psl, asCS_nil, asCW_cons, asCR_cons, asOM_cons, asOM_false, asOB_cons, asOB_false, asOG_dead, asOG_made, gS_mk, bind_some', onEx_exit, onEx_ret, if_true] at ev
    rw [if_pos (by simp [h6]; omega)]
    exact pc ev rfl
  · rw [if_neg h6] at ev
    simp only [asInt_int, asBool_bool, asStr_str, asSl_psl, asSl_nil, asAgg_agg, asTup_tup, asCons_cons, asNil_nil, asFlt_flt, asRef_ref, asWhole_whole, asView_view, asWv_whole, asWv_view, asFn_fn, asPref_pref, asOCons_cons, asONil_nil, asBox_box, asMade_made, asGone_dead, asGone_made, asCI_cons, asCB_cons, asCF_cons, asCS_psl, asCS_nil, asCW_cons, asCR_cons, asOM_cons, asOM_false, asOB_cons, asOB_false, asOG_dead, asOG_made, gS_mk, bind_some', onEx_exit, onEx_ret, getD_mkS (show 2 < 66 by decide)] at ev
    rw [if_neg (by simp [h6])]
    exact pc ev rfl
theorem spMay (v : Vw) (hl : v.a.length < 4611686018427387904) : pcall Cω 15 [.agg v.e] = some (.bool v.ok) := by
  have ev := eqK15 Cω Lω v.s v.n (v.a.map ie)
  have lp := lpMay v hl v.a.length 0 (by omega)
  rw [natz] at lp
  simp only [Vw.e] at lp
  rw [lp] at ev
  unfold Vw.ok
  by_cases h6 : okF v v.a.length 0 = true
  · rw [if_pos h6] at ev
    simp only [asInt_int, asBool_bool, asStr_str, asSl_psl, asSl_nil, asAgg_agg, asTup_tup, asCons_cons, asNil_nil, asFlt_flt, asRef_ref, asWhole_whole, asView_view, asWv_whole, asWv_view, asFn_fn, asPref_pref, asOCons_cons, asONil_nil, asBox_box, asMade_made, asGone_dead, asGone_made, asCI_cons, asCB_cons, asCF_cons, asCS_psl, asCS_nil, asCW_cons, asCR_cons, asOM_cons, asOM_false, asOB_cons, asOB_false, asOG_dead, asOG_made, gS_mk, bind_some', onEx_exit, onEx_ret, getD_mkS (show 1 < 69 by decide), if_true, List.length_map] at ev
    rw [h6, Bool.and_true]
    by_cases h1 : v.s < 0
    · rw [if_neg (by simpa using h1)] at ev
      rw [show (decide (0 ≤ v.s)) = false by simp; omega]
      exact pc ev rfl
    rw [if_pos (by simp; omega)] at ev
    rw [show (decide (0 ≤ v.s)) = true by simp; omega]
    by_cases h2 : v.s > 2147483647
    · rw [if_neg (by simp; omega)] at ev
      rw [show (decide (v.s ≤ 2147483647)) = false by simp; omega]
      exact pc ev rfl
    rw [if_pos (by simp; omega)] at ev
    rw [show (decide (v.s ≤ 2147483647)) = true by simp; omega]
    by_cases h3 : v.n < 0
    · rw [if_neg (by simpa using h3)] at ev
      rw [show (decide (0 ≤ v.n)) = false by simp; omega]
      exact pc ev rfl
    rw [if_pos (by simp; omega)] at ev
    rw [show (decide (0 ≤ v.n)) = true by simp; omega]
    by_cases h4 : v.n > 2147483647
    · rw [if_neg (by simp; omega)] at ev
      rw [show (decide (v.n ≤ 2147483647)) = false by simp; omega]
      exact pc ev rfl
    rw [if_pos (by simp; omega)] at ev
    rw [show (decide (v.n ≤ 2147483647)) = true by simp; omega]
    have e : (decide (((v.a.length : Nat) : Int) ≤ 64)) = decide (v.a.length ≤ 64) := decide_eq_decide.2 (by omega)
    rw [e] at ev
    simp only [Bool.true_and]
    exact pc ev rfl
  · rw [if_neg h6] at ev
    simp only [asInt_int, asBool_bool, asStr_str, asSl_psl, asSl_nil, asAgg_agg, asTup_tup, asCons_cons, asNil_nil, asFlt_flt, asRef_ref, asWhole_whole, asView_view, asWv_whole, asWv_view, asFn_fn, asPref_pref, asOCons_cons, asONil_nil, asBox_box, asMade_made, asGone_dead, asGone_made, asCI_cons, asCB_cons, asCF_cons, asCS_psl, asCS_nil, asCW_cons, asCR_cons, asOM_cons, asOM_false, asOB_cons, asOB_false, asOG_dead, asOG_made, gS_mk, bind_some', onEx_exit, onEx_ret, getD_mkS (show 2 < 69 by decide)] at ev
    have h' : okF v v.a.length 0 = false := by simpa using h6
    rw [h', Bool.and_false]
    exact pc ev rfl
end Go.Pvm.S
