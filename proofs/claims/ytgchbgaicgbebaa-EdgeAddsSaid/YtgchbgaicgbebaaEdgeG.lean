/- Part of the proof: edges: the victims: the program's and the document's. -/
import Derived.Test.YtgchbgaicgbebaaEdgeF
set_option linter.unusedSimpArgs false
set_option linter.unusedVariables false
set_option maxRecDepth 100000
namespace Go.Pvm.S
open Go.Pvm Go.Proofs
def vG (s : List Spn) (x : Ed) : Nat → Ed → List Int → List Int := fun _ y acc => if (x.t != y.f) = true then acc else if (vic s x.f x.t y.t != 0) = true then acc ++ [vic s x.f x.t y.t] else acc
theorem vG_len (s : List Spn) (x : Ed) (i : Nat) (y : Ed) (acc : List Int) (n0 : Nat) (h : acc.length ≤ n0 + i) : (vG s x i y acc).length ≤ n0 + (i + 1) := by
  unfold vG
  repeat' split
  all_goals (try simp only [List.length_append, List.length_cons, List.length_nil]); omega
theorem lpVic (l : List Ed) (s : List Spn) (hl : l.length ≤ 600) (hs : s.length < 1073741824) (hm : mayS s = true) (x : Ed) (i : Int) (acc : List Int) (hacc : acc.length ≤ 1000000) :
    Lω 8 lcK8_8 0 (stK8_8 (l.map Ed.e) (s.map Spn.e) (l.map Ed.e) (l.length : Nat) i (l.map Ed.e) (l.length : Nat) 0) [.made true 1 (acc.map ie), .box true 37 [.int .i64 x.f, .int .i64 x.t]] =
    some (.exit 2, mkS 56 [(0, .psl false (l.map Ed.e)), (1, .psl false (s.map Spn.e)), (5, whole 0 1), (19, .psl false (l.map Ed.e)), (20, .int .i64 (l.length : Nat)), (21, .int .i64 i)], [.made true 1 ((foldI (vG s x) l 0 acc).map ie)]) :=
  loopFold (fun j (_ : List Int) => stK8_8 (l.map Ed.e) (s.map Spn.e) (l.map Ed.e) (l.length : Nat) i (l.map Ed.e) (l.length : Nat) (j : Nat)) (fun _ acc => [.made true 1 (acc.map ie), .box true 37 [.int .i64 x.f, .int .i64 x.t]]) l (vG s x)
    (fun acc => (.exit 2, mkS 56 [(0, .psl false (l.map Ed.e)), (1, .psl false (s.map Spn.e)), (5, whole 0 1), (19, .psl false (l.map Ed.e)), (20, .int .i64 (l.length : Nat)), (21, .int .i64 i)], [.made true 1 (acc.map ie)])) (fun j a => a.length ≤ acc.length + j) (fun j y a hg hj ha => by
      refine ⟨vG_len s x j y a _ ha, ?_⟩
      have hs9 : a.length < 4294967295 := by omega
      have b1 : ((a.map ie).length + ([[(.int .i64 (vic s x.f x.t y.t))]] : List (List PV)).length) * 8 ≤ 140737488355328 := by rw [List.length_map]; exact rm8 hs9
      have m1 : a.map ie ++ ([[(.int .i64 (vic s x.f x.t y.t))]] : List (List PV)) = (a ++ [vic s x.f x.t y.t]).map ie := map_app1 (f := ie) a _
      rw [lqK8_8]
      unfold vG
      have hdi : decide (((j : Nat) : Int) < ((l.length : Nat) : Int)) = true := by rw [decide_eq_true_eq]; omega
      simp only [hdi, nn, Int.toNat_natCast, bind_some', mapGet hg, Ed.e, asInt_int, asBool_bool, asStr_str, asSl_psl, asSl_nil, asAgg_agg, asTup_tup, asCons_cons, asNil_nil, asFlt_flt, asRef_ref, asWhole_whole, asView_view, asWv_whole, asWv_view, asFn_fn, asPref_pref, asOCons_cons, asONil_nil, asBox_box, asMade_made, asGone_dead, asGone_made, bind_some', onEx_exit, onEx_ret, wrap_succ (show j < 4611686018427387904 by omega), spVictim s _ _ _ hs hm, b1, if_true]
      simp only [m1]
      cases (x.t != y.f) <;> cases (vic s x.f x.t y.t != 0) <;> rfl) (fun a ha => by rw [lqK8_8]; simp only [Int.lt_irrefl, decide_false, Bool.false_eq_true, if_false]) acc (Nat.le_refl _)
def oG (l : List Ed) (s : List Spn) : Nat → Ed → List Int → List Int := fun _ x acc => foldI (vG s x) l 0 acc
theorem oG_len (l : List Ed) (s : List Spn) (x : Ed) (acc : List Int) : (foldI (vG s x) l 0 acc).length ≤ acc.length + l.length := by
  have := foldI_inv (g := vG s x) (fun i a => a.length ≤ acc.length + i) l 0 acc (Nat.le_refl _) (fun j a s' h => vG_len s x j a s' _ h)
  rwa [Nat.zero_add] at this
theorem lpVics (l : List Ed) (s : List Spn) (hl : l.length ≤ 600) (hs : s.length < 1073741824) (hm : mayS s = true) :
    Lω 8 lcK8_5 0 (stK8_5 (l.map Ed.e) (s.map Spn.e) (l.map Ed.e) (l.length : Nat) 0) [.made true 1 []] =
    some (.exit 0, mkS 56 [(5, whole 0 1)], [.made true 1 ((foldI (oG l s) l 0 []).map ie)]) :=
  loopFold (fun j (_ : List Int) => stK8_5 (l.map Ed.e) (s.map Spn.e) (l.map Ed.e) (l.length : Nat) (j : Nat)) (fun _ acc => [.made true 1 (acc.map ie)]) l (oG l s)
    (fun acc => (.exit 0, mkS 56 [(5, whole 0 1)], [.made true 1 (acc.map ie)])) (fun j a => a.length ≤ 600 * j) (fun j x a hg hj ha => by
      refine ⟨?_, ?_⟩
      · have := oG_len l s x a
        unfold oG
        omega
      have lp := lpVic l s hl hs hm x (j : Nat) a (by omega)
      have hdi : decide (((j : Nat) : Int) < ((l.length : Nat) : Int)) = true := by rw [decide_eq_true_eq]; omega
      rw [lqK8_5]
      simp only [hdi, nn, Int.toNat_natCast, bind_some', mapGet hg, if_true, List.length_map]
      simp only [Ed.e, asInt_int, asBool_bool, asStr_str, asSl_psl, asSl_nil, asAgg_agg, asTup_tup, asCons_cons, asNil_nil, asFlt_flt, asRef_ref, asWhole_whole, asView_view, asWv_whole, asWv_view, asFn_fn, asPref_pref, asOCons_cons, asONil_nil, asBox_box, asMade_made, asGone_dead, asGone_made, bind_some', onEx_exit, onEx_ret]
      rw [lp]
      simp only [asInt_int, asBool_bool, asStr_str, asSl_psl, asSl_nil, asAgg_agg, asTup_tup, asCons_cons, asNil_nil, asFlt_flt, asRef_ref, asWhole_whole, asView_view, asWv_whole, asWv_view, asFn_fn, asPref_pref, asOCons_cons, asONil_nil, asBox_box, asMade_made, asGone_dead, asGone_made, bind_some', onEx_exit, onEx_ret, mkS_hit, mkS_miss, ne_eq, not_false_eq_true, Nat.reduceLT, Nat.reduceEqDiff, if_true, wrap_succ (show j < 4611686018427387904 by omega)]
      rfl) (fun a ha => by rw [lqK8_5]; simp only [Int.lt_irrefl, decide_false, Bool.false_eq_true, if_false]) [] (Nat.le_refl _)
/-- All victims, as they are met. -/
def mets (l : List Ed) (s : List Spn) : List Int := foldI (oG l s) l 0 []
theorem mets_len (l : List Ed) (s : List Spn) (hl : l.length ≤ 600) : (mets l s).length ≤ 360000 := by
  have := foldI_inv (g := oG l s) (fun i a => a.length ≤ 600 * i) l 0 [] (Nat.le_refl _) (fun j x a h => by
    have := oG_len l s x a
    unfold oG
    omega)
  rw [Nat.zero_add] at this
  unfold mets
  omega
noncomputable def victs (l : List Ed) (s : List Spn) : List Int := if (mayE l && mayS s) = true then cmpct ((mets l s).mergeSort fun x y => decide (x ≤ y)) else []
theorem spVictims (l : List Ed) (s : List Spn) (hl : l.length < 1073741824) (hs : s.length < 1073741824) : pcall Cω 8 [.psl false (l.map Ed.e), .psl false (s.map Spn.e)] = some (.psl false ((victs l s).map ie)) := by
  have ev := eqK8 Cω Lω (l.map Ed.e) (s.map Spn.e)
  rw [spCheck l (by omega)] at ev
  simp only [asInt_int, asBool_bool, asStr_str, asSl_psl, asSl_nil, asAgg_agg, asTup_tup, asCons_cons, asNil_nil, asFlt_flt, asRef_ref, asWhole_whole, asView_view, asWv_whole, asWv_view, asFn_fn, asPref_pref, asOCons_cons, asONil_nil, asBox_box, asMade_made, asGone_dead, asGone_made, bind_some', onEx_exit, onEx_ret, spCheckS s (show s.length < 4611686018427387904 by omega), List.length_map] at ev
  unfold victs
  by_cases h1 : mayE l = true
  case neg =>
    have h1' : mayE l = false := by simpa using h1
    simp only [h1', Bool.false_and, Bool.false_eq_true, if_false] at ev ⊢
    rw [if_pos (by decide)] at ev
    exact pc ev rfl
  by_cases h2 : mayS s = true
  case neg =>
    have h2' : mayS s = false := by simpa using h2
    simp only [h1, h2', Bool.and_false, Bool.false_eq_true, if_false, if_true] at ev ⊢
    rw [if_neg (by decide), if_pos (by decide)] at ev
    exact pc ev rfl
  have hle : l.length ≤ 600 := by
    unfold mayE at h1
    rw [Bool.and_eq_true, decide_eq_true_eq] at h1
    exact h1.1
  simp only [h1, h2, Bool.and_self, if_true] at ev ⊢
  rw [if_neg (by decide), if_neg (by decide), lpVics l s hle hs h2] at ev
  have hml : (mets l s).length ≤ 360000 := mets_len l s hle
  rw [show foldI (oG l s) l 0 [] = mets l s from rfl] at ev
  simp only [asInt_int, asBool_bool, asStr_str, asSl_psl, asSl_nil, asAgg_agg, asTup_tup, asCons_cons, asNil_nil, asFlt_flt, asRef_ref, asWhole_whole, asView_view, asWv_whole, asWv_view, asFn_fn, asPref_pref, asOCons_cons, asONil_nil, asBox_box, asMade_made, asGone_dead, asGone_made, bind_some', onEx_exit, onEx_ret, mkS_hit, mkS_miss, ne_eq, not_false_eq_true, Nat.reduceLT, Nat.reduceEqDiff, if_true, List.length_map, List.drop_zero, List.take_zero, List.nil_append, Nat.zero_add] at ev
  rw [if_pos (by omega), List.take_of_length_le (by rw [List.length_map]; exact Nat.le_refl _), intsOf_map, List.drop_of_length_le (by rw [List.length_map]; exact Nat.le_refl _), bind_some', List.append_nil, ie_row] at ev
  obtain ⟨v, A, hc, hr⟩ := cmp_sp ((mets l s).mergeSort fun x y => decide (x ≤ y)) (by rw [List.length_mergeSort]; omega)
  rw [hc] at ev
  rcases hr with ⟨rfl, rfl⟩ | ⟨tl, rfl, rfl⟩
  · simp only [asInt_int, asBool_bool, asStr_str, asSl_psl, asSl_nil, asAgg_agg, asTup_tup, asCons_cons, asNil_nil, asFlt_flt, asRef_ref, asWhole_whole, asView_view, asWv_whole, asWv_view, asFn_fn, asPref_pref, asOCons_cons, asONil_nil, asBox_box, asMade_made, asGone_dead, asGone_made, bind_some', onEx_exit, onEx_ret] at ev
    exact pc ev rfl
  · simp only [asInt_int, asBool_bool, asStr_str, asSl_psl, asSl_nil, asAgg_agg, asTup_tup, asCons_cons, asNil_nil, asFlt_flt, asRef_ref, asWhole_whole, asView_view, asWv_whole, asWv_view, asFn_fn, asPref_pref, asOCons_cons, asONil_nil, asBox_box, asMade_made, asGone_dead, asGone_made, bind_some', onEx_exit, onEx_ret] at ev
    refine pc ev ?_
    simp only [viewK, fzK]
    show PV.psl false _ = _
    simp only [List.drop_zero]
    rw [List.take_append_of_le_length (by rw [List.length_map]; exact Nat.le_refl _), List.take_of_length_le (by rw [List.length_map]; exact Nat.le_refl _)]
/-! ### The document's -/
theorem withI_len (l : List Int) (n : Int) : (withI l n).length ≤ l.length + 1 := by
  have := foldI_inv (g := wiG n) (fun i s => s.2.length ≤ i + s.1.toNat) l 0 (false, []) (Nat.le_refl _) (fun j a s h => by
    obtain ⟨dn, out⟩ := s
    unfold wiG
    cases dn <;> cases decide (a ≥ n) <;> cases (a != n) <;> simp [Bool.toNat] at h ⊢ <;> omega)
  unfold withI
  rw [Nat.zero_add] at this
  cases hq : foldI (wiG n) l 0 (false, []) with
  | mk dn out =>
    rw [hq] at this
    cases dn <;> simp [Bool.toNat] at this ⊢ <;> omega
def rbad (s : List Spn) (a b c : Int) : Bool := !(spn s a).2 || (!(spn s b).2 || (!(spn s c).2 || ((spn s c).1.c == 0 || (((spn s a).1.t != (spn s c).1.t && (decide ((spn s a).1.c > 0) && decide ((spn s a).1.c < (spn s c).1.c))) || (decide ((spn s b).1.c > 0) && decide ((spn s b).1.c < (spn s c).1.c))))))
def rG (s : List Spn) (x : Ed) : Nat → Ed → List Int → List Int := fun _ y out => if (x.t != y.f) = true then out else if rbad s x.f x.t y.t = true then out else if ((spn s x.t).1.c == 0) = true then withI out (spn s x.t).1.t else if ((spn s x.f).1.c == 0) = true then withI out (spn s x.f).1.t else out
theorem rG_len (s : List Spn) (x : Ed) (i : Nat) (y : Ed) (acc : List Int) (n0 : Nat) (h : acc.length ≤ n0 + i) : (rG s x i y acc).length ≤ n0 + (i + 1) := by
  unfold rG
  have h1 := withI_len acc (spn s x.t).1.t
  have h2 := withI_len acc (spn s x.f).1.t
  repeat' split
  all_goals omega
theorem lpRVic (l : List Ed) (s : List Spn) (hl : l.length ≤ 600) (hs : s.length < 1073741824) (i : Nat) (x : Ed) (hi : l[i]? = some x) (acc : List Int) (hacc : acc.length ≤ 1000000) :
    Lω 13 lcK13_6 0 (stK13_6 (l.map Ed.e) (s.map Spn.e) (acc.map ie) (i : Nat) 0) [] =
    some (.exit 2, mkS 129 [(0, .psl false (l.map Ed.e)), (1, .psl false (s.map Spn.e)), (5, .psl false ((foldI (rG s x) l 0 acc).map ie)), (6, .int .i64 (i : Nat))], []) :=
  loopFold (fun j (a : List Int) => stK13_6 (l.map Ed.e) (s.map Spn.e) (a.map ie) (i : Nat) (j : Nat)) (fun _ _ => []) l (rG s x)
    (fun a => (.exit 2, mkS 129 [(0, .psl false (l.map Ed.e)), (1, .psl false (s.map Spn.e)), (5, .psl false (a.map ie)), (6, .int .i64 (i : Nat))], [])) (fun j a => a.length ≤ acc.length + j) (fun j y a hg hj ha => by
      refine ⟨rG_len s x j y a _ ha, ?_⟩
      have hdi : decide (((j : Nat) : Int) < (((l.map Ed.e).length : Nat) : Int)) = true := by rw [decide_eq_true_eq, List.length_map]; omega
      have hw := fun n => spWith a n (show a.length < 1073741824 by omega)
      rw [lqK13_6]
      unfold rG rbad
      simp only [hdi, nn, Int.toNat_natCast, bind_some', mapGet hg, mapGet hi, Ed.e, Spn.e, asInt_int, asBool_bool, asStr_str, asSl_psl, asSl_nil, asAgg_agg, asTup_tup, asCons_cons, asNil_nil, asFlt_flt, asRef_ref, asWhole_whole, asView_view, asWv_whole, asWv_view, asFn_fn, asPref_pref, asOCons_cons, asONil_nil, asBox_box, asMade_made, asGone_dead, asGone_made, bind_some', onEx_exit, onEx_ret, wrap_succ (show j < 4611686018427387904 by omega), spRspan s _ (show s.length < 4611686018427387904 by omega), hw, if_true]
      cases (x.t != y.f) <;> simp only [Bool.and_eq_true, Bool.or_eq_true, Bool.not_eq_true', Bool.not_eq_true, Bool.false_eq_true, Bool.true_eq_false, decide_eq_true_eq, decide_eq_false_iff_not, beq_iff_eq, beq_eq_false_iff_ne, bne_iff_ne, ne_eq, ge_iff_le, gt_iff_lt, if_true, if_false, false_and, true_and, and_true, and_false, false_or, true_or, or_true, or_false, Bool.not_true, Bool.not_false, decide_true, decide_false, Bool.and_true, Bool.true_and, Bool.false_and, Bool.and_false, Bool.or_true, Bool.true_or, Bool.false_or, Bool.or_false, not_true, not_false_eq_true, Int.not_lt, Int.not_le, Decidable.not_not]
      cases (spn s x.f).2 <;> simp only [Bool.and_eq_true, Bool.or_eq_true, Bool.not_eq_true', Bool.not_eq_true, Bool.false_eq_true, Bool.true_eq_false, decide_eq_true_eq, decide_eq_false_iff_not, beq_iff_eq, beq_eq_false_iff_ne, bne_iff_ne, ne_eq, ge_iff_le, gt_iff_lt, if_true, if_false, false_and, true_and, and_true, and_false, false_or, true_or, or_true, or_false, Bool.not_true, Bool.not_false, decide_true, decide_false, Bool.and_true, Bool.true_and, Bool.false_and, Bool.and_false, Bool.or_true, Bool.true_or, Bool.false_or, Bool.or_false, not_true, not_false_eq_true, Int.not_lt, Int.not_le, Decidable.not_not]
      cases (spn s x.t).2 <;> simp only [Bool.and_eq_true, Bool.or_eq_true, Bool.not_eq_true', Bool.not_eq_true, Bool.false_eq_true, Bool.true_eq_false, decide_eq_true_eq, decide_eq_false_iff_not, beq_iff_eq, beq_eq_false_iff_ne, bne_iff_ne, ne_eq, ge_iff_le, gt_iff_lt, if_true, if_false, false_and, true_and, and_true, and_false, false_or, true_or, or_true, or_false, Bool.not_true, Bool.not_false, decide_true, decide_false, Bool.and_true, Bool.true_and, Bool.false_and, Bool.and_false, Bool.or_true, Bool.true_or, Bool.false_or, Bool.or_false, not_true, not_false_eq_true, Int.not_lt, Int.not_le, Decidable.not_not]
      cases (spn s y.t).2 <;> simp only [Bool.and_eq_true, Bool.or_eq_true, Bool.not_eq_true', Bool.not_eq_true, Bool.false_eq_true, Bool.true_eq_false, decide_eq_true_eq, decide_eq_false_iff_not, beq_iff_eq, beq_eq_false_iff_ne, bne_iff_ne, ne_eq, ge_iff_le, gt_iff_lt, if_true, if_false, false_and, true_and, and_true, and_false, false_or, true_or, or_true, or_false, Bool.not_true, Bool.not_false, decide_true, decide_false, Bool.and_true, Bool.true_and, Bool.false_and, Bool.and_false, Bool.or_true, Bool.true_or, Bool.false_or, Bool.or_false, not_true, not_false_eq_true, Int.not_lt, Int.not_le, Decidable.not_not]
      (repeat' split) <;> first | rfl | (exfalso; omega)) (fun a ha => by rw [lqK13_6]; simp only [List.length_map, Int.lt_irrefl, decide_false, Bool.false_eq_true, if_false]) acc (Nat.le_refl _)
def roG (l : List Ed) (s : List Spn) : Nat → Ed → List Int → List Int := fun _ x acc => foldI (rG s x) l 0 acc
theorem roG_len (l : List Ed) (s : List Spn) (x : Ed) (acc : List Int) : (foldI (rG s x) l 0 acc).length ≤ acc.length + l.length := by
  have := foldI_inv (g := rG s x) (fun i a => a.length ≤ acc.length + i) l 0 acc (Nat.le_refl _) (fun j a s' h => rG_len s x j a s' _ h)
  rwa [Nat.zero_add] at this
def rvict (l : List Ed) (s : List Spn) : List Int := foldI (roG l s) l 0 []
theorem spRVic (l : List Ed) (s : List Spn) (hl : l.length ≤ 600) (hs : s.length < 1073741824) : pcall Cω 13 [.psl false (l.map Ed.e), .psl false (s.map Spn.e)] = some (.psl false ((rvict l s).map ie)) := by
  have ev := eqK13 Cω Lω (l.map Ed.e) (s.map Spn.e)
  have lp : Lω 13 lcK13_3 0 (stK13_3 (l.map Ed.e) (s.map Spn.e) [] 0) [] = _ :=
    loopFold (fun j (a : List Int) => stK13_3 (l.map Ed.e) (s.map Spn.e) (a.map ie) (j : Nat)) (fun _ _ => []) l (roG l s)
      (fun a => (.exit 0, mkS 129 [(5, .psl false (a.map ie))], [])) (fun j a => a.length ≤ 600 * j) (fun j x a hg hj ha => by
        refine ⟨?_, ?_⟩
        · have := roG_len l s x a
          unfold roG
          omega
        have lp := lpRVic l s hl hs j x hg a (by omega)
        have hdi : decide (((j : Nat) : Int) < (((l.map Ed.e).length : Nat) : Int)) = true := by rw [decide_eq_true_eq, List.length_map]; omega
        rw [lqK13_3]
        simp only [hdi, if_true]
        rw [lp]
        simp only [asInt_int, asBool_bool, asStr_str, asSl_psl, asSl_nil, asAgg_agg, asTup_tup, asCons_cons, asNil_nil, asFlt_flt, asRef_ref, asWhole_whole, asView_view, asWv_whole, asWv_view, asFn_fn, asPref_pref, asOCons_cons, asONil_nil, asBox_box, asMade_made, asGone_dead, asGone_made, bind_some', onEx_exit, onEx_ret, mkS_hit, mkS_miss, ne_eq, not_false_eq_true, Nat.reduceLT, Nat.reduceEqDiff, if_true, wrap_succ (show j < 4611686018427387904 by omega)]
        rfl) (fun a ha => by rw [lqK13_3]; simp only [List.length_map, Int.lt_irrefl, decide_false, Bool.false_eq_true, if_false]) [] (Nat.le_refl _)
  rw [lp] at ev
  simp only [asInt_int, asBool_bool, asStr_str, asSl_psl, asSl_nil, asAgg_agg, asTup_tup, asCons_cons, asNil_nil, asFlt_flt, asRef_ref, asWhole_whole, asView_view, asWv_whole, asWv_view, asFn_fn, asPref_pref, asOCons_cons, asONil_nil, asBox_box, asMade_made, asGone_dead, asGone_made, bind_some', onEx_exit, onEx_ret, mkS_hit, mkS_miss, ne_eq, not_false_eq_true, Nat.reduceLT, Nat.reduceEqDiff, if_true] at ev
  exact pc ev rfl
end Go.Pvm.S
