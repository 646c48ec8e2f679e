/- Part of the proof: edges: two that each read what the other one wrote over. -/
import Derived.Test.YtgchbgaicgbebaaEdgeI
set_option linter.unusedSimpArgs false
set_option linter.unusedVariables false
set_option maxRecDepth 100000
namespace Go.Pvm.S
open Go.Pvm Go.Proofs
theorem ptS1 (a : Spn) : partOf Try.prog 3 a.e 1 = some (.int .i64 a.b) := by kernel_rfl
theorem ptS2 (a : Spn) : partOf Try.prog 3 a.e 2 = some (.int .i64 a.c) := by kernel_rfl
/-- When it is committed. -/
def com (b c : Int) : Int := if c > b then c else 0
def twoS (x y : Spn) : List (List PV) := [x.e, y.e]
theorem pr0 (c0 c1 : Int) (x y : Spn) (h0 : 0 ≤ c0 ∧ c0 ≤ 255) : stepLKK cfg kcfg Cω Lω 4 lcK4_3 0 (stK4_3 0) [.box true 33 [.int .u8 c0, .int .u8 c1], .made true 3 (twoS x y)] =
    Lω 4 lcK4_3 0 (stK4_3 1) [.box true 33 [.int .u8 c0, .int .u8 c1], .made true 3 (twoS ⟨x.t, x.b, if c0 > x.b then c0 else x.c⟩ y)] := by
  rw [lqK4_3]
  have hw : IntKind.wrap .i64 c0 = c0 := wrap_i64 (by omega) (by omega)
  have hg : (twoS x y)[Int.toNat 0]? = some x.e := rfl
  have hw1 : IntKind.wrap .i64 (0 + 1) = 1 := by decide
  have hlen : (twoS x y).length = 2 := rfl
  rw [hg, hlen, hw, hw1]
  simp only [bind_some', ptS1, asInt_int, if_true, decide_eq_true_eq, Int.reduceLT, Int.reduceLE, Int.reduceEq, Int.toNat_zero, and_self, Int.cast_ofNat_Int, Nat.reduceLT, Nat.zero_lt_succ, show (0 : Int) < ((2 : Nat) : Int) from by decide]
  by_cases h : c0 > x.b
  · rw [if_pos h, if_pos h]
    rfl
  · rw [if_neg h, if_neg h]
theorem pr1 (c0 c1 : Int) (x y : Spn) (h0 : 0 ≤ c1 ∧ c1 ≤ 255) : stepLKK cfg kcfg Cω Lω 4 lcK4_3 0 (stK4_3 1) [.box true 33 [.int .u8 c0, .int .u8 c1], .made true 3 (twoS x y)] =
    Lω 4 lcK4_3 0 (stK4_3 2) [.box true 33 [.int .u8 c0, .int .u8 c1], .made true 3 (twoS x ⟨y.t, y.b, if c1 > y.b then c1 else y.c⟩)] := by
  rw [lqK4_3]
  have hw : IntKind.wrap .i64 c1 = c1 := wrap_i64 (by omega) (by omega)
  have hg : (twoS x y)[Int.toNat 1]? = some y.e := rfl
  have hw1 : IntKind.wrap .i64 (1 + 1) = 2 := by decide
  have hlen : (twoS x y).length = 2 := rfl
  rw [hg, hlen, hw, hw1]
  simp only [bind_some', ptS1, asInt_int, if_true, if_false, decide_eq_true_eq, Int.reduceLT, Int.reduceLE, Int.reduceEq, and_self, show (1 : Int) < ((2 : Nat) : Int) from by decide, show Int.toNat 1 < 2 from by decide, show ¬ (1 : Int) = 0 from by decide]
  by_cases h : c1 > y.b
  · rw [if_pos h, if_pos h]
    rfl
  · rw [if_neg h, if_neg h]
theorem pr2 (c0 c1 : Int) (x y : Spn) : stepLKK cfg kcfg Cω Lω 4 lcK4_3 0 (stK4_3 2) [.box true 33 [.int .u8 c0, .int .u8 c1], .made true 3 (twoS x y)] =
    some (.exit 0, mkS 80 [(5, whole 0 3)], [.made true 3 (twoS x y)]) := by
  rw [lqK4_3, if_neg (by decide)]
theorem lpPairs (c0 c1 : Int) (x y : Spn) (h0 : 0 ≤ c0 ∧ c0 ≤ 255) (h1 : 0 ≤ c1 ∧ c1 ≤ 255) : Lω 4 lcK4_3 0 (stK4_3 0) [.box true 33 [.int .u8 c0, .int .u8 c1], .made true 3 (twoS x y)] =
    some (.exit 0, mkS 80 [(5, whole 0 3)], [.made true 3 (twoS ⟨x.t, x.b, if c0 > x.b then c0 else x.c⟩ ⟨y.t, y.b, if c1 > y.b then c1 else y.c⟩)]) := by
  refine lw ?_
  rw [pr0 _ _ _ _ h0]
  refine lw ?_
  rw [pr1 _ _ _ _ h1]
  exact lw (pr2 _ _ _ _)
/-- The two, and their victims. -/
def lPair : List Ed := [⟨1, 2⟩, ⟨2, 1⟩]
def sPair (b0 b1 k0 k1 : Int) : List Spn := [⟨1, b0, k0⟩, ⟨2, b1, k1⟩]
theorem spn1 (b0 b1 k0 k1 : Int) : spn (sPair b0 b1 k0 k1) 1 = (⟨1, b0, k0⟩, true) := by kernel_rfl
theorem spn2 (b0 b1 k0 k1 : Int) : spn (sPair b0 b1 k0 k1) 2 = (⟨2, b1, k1⟩, true) := by kernel_rfl
theorem vic12 (b0 b1 k0 k1 : Int) : vic (sPair b0 b1 k0 k1) 1 2 1 = if k0 = 0 then 0 else if k1 = 0 then 2 else 0 := by
  unfold vic ahd
  rw [spn1, spn2]
  by_cases h0 : k0 = 0 <;> by_cases h1 : k1 = 0 <;> simp [h0, h1]
theorem vic21 (b0 b1 k0 k1 : Int) : vic (sPair b0 b1 k0 k1) 2 1 2 = if k1 = 0 then 0 else if k0 = 0 then 1 else 0 := by
  unfold vic ahd
  rw [spn1, spn2]
  by_cases h0 : k0 = 0 <;> by_cases h1 : k1 = 0 <;> simp [h0, h1]
theorem metsPair (b0 b1 k0 k1 : Int) : mets lPair (sPair b0 b1 k0 k1) = if k0 = 0 then (if k1 = 0 then [] else [1]) else (if k1 = 0 then [2] else []) := by
  have h12 := vic12 b0 b1 k0 k1
  have h21 := vic21 b0 b1 k0 k1
  unfold mets
  show foldI (vG (sPair b0 b1 k0 k1) ⟨2, 1⟩) lPair 0 (foldI (vG (sPair b0 b1 k0 k1) ⟨1, 2⟩) lPair 0 []) = _
  have e1 : foldI (vG (sPair b0 b1 k0 k1) ⟨1, 2⟩) lPair 0 [] = if (vic (sPair b0 b1 k0 k1) 1 2 1 != 0) = true then [vic (sPair b0 b1 k0 k1) 1 2 1] else [] := rfl
  have e2 : ∀ acc, foldI (vG (sPair b0 b1 k0 k1) ⟨2, 1⟩) lPair 0 acc = if (vic (sPair b0 b1 k0 k1) 2 1 2 != 0) = true then acc ++ [vic (sPair b0 b1 k0 k1) 2 1 2] else acc := fun acc => rfl
  rw [e1, e2, h12, h21]
  by_cases h0 : k0 = 0 <;> by_cases h1 : k1 = 0 <;> simp [h0, h1]
theorem mayPair (b0 b1 k0 k1 : Int) (hb0 : 0 ≤ b0 ∧ b0 ≤ 255) (hb1 : 0 ≤ b1 ∧ b1 ≤ 255) (h0 : k0 = 0 ∨ (k0 > b0 ∧ k0 ≤ 255)) (h1 : k1 = 0 ∨ (k1 > b1 ∧ k1 ≤ 255)) : (mayE lPair && mayS (sPair b0 b1 k0 k1)) = true := by
  have e1 : mayE lPair = true := by kernel_rfl
  rw [e1, Bool.true_and]
  have e2 : mayS (sPair b0 b1 k0 k1) = (true && ((inn 1 && (decide (0 ≤ b0) && (decide (b0 ≤ 2147483647) && ((k0 == 0 || (decide (k0 > b0) && decide (k0 ≤ 2147483647))) && true)))) && ((inn 2 && (decide (0 ≤ b1) && (decide (b1 ≤ 2147483647) && ((k1 == 0 || (decide (k1 > b1) && decide (k1 ≤ 2147483647))) && true)))) && true))) := by
    unfold mayS
    rfl
  rw [e2]
  have i1 : inn 1 = true := by decide
  have i2 : inn 2 = true := by decide
  rw [i1, i2]
  simp only [Bool.and_eq_true, Bool.or_eq_true, Bool.not_eq_true', Bool.not_eq_true, Bool.false_eq_true, Bool.true_eq_false, decide_eq_true_eq, decide_eq_false_iff_not, beq_iff_eq, beq_eq_false_iff_ne, bne_iff_ne, ne_eq, ge_iff_le, gt_iff_lt, if_true, if_false, false_and, true_and, and_true, and_false, false_or, true_or, or_true, or_false, Bool.not_true, Bool.not_false, decide_true, decide_false, Bool.and_true, Bool.true_and, Bool.false_and, Bool.and_false, Bool.or_true, Bool.true_or, Bool.false_or, Bool.or_false, not_true, not_false_eq_true, Int.not_lt, Int.not_le, Decidable.not_not]
  omega
theorem com_ok {b c : Int} (hb : 0 ≤ b ∧ b ≤ 255) (hc : 0 ≤ c ∧ c ≤ 255) : com b c = 0 ∨ (com b c > b ∧ com b c ≤ 255) := by
  unfold com
  split
  · exact .inr ⟨by assumption, hc.2⟩
  · exact .inl rfl
theorem lawPairs (b0 b1 c0 c1 : Int) (hb0 : 0 ≤ b0 ∧ b0 ≤ 255) (hb1 : 0 ≤ b1 ∧ b1 ≤ 255) (hc0 : 0 ≤ c0 ∧ c0 ≤ 255) (hc1 : 0 ≤ c1 ∧ c1 ≤ 255) : pcall Cω 4 [.agg [.int .u8 b0, .int .u8 b1], .agg [.int .u8 c0, .int .u8 c1]] = some (.bool true) := by
  have ev := eqK4 Cω Lω b0 b1 c0 c1
  have w0 : IntKind.wrap .i64 b0 = b0 := wrap_i64 (by omega) (by omega)
  have w1 : IntKind.wrap .i64 b1 = b1 := wrap_i64 (by omega) (by omega)
  rw [w0, w1] at ev
  have lp : Lω 4 lcK4_3 0 (stK4_3 0) [.box true 33 [.int .u8 c0, .int .u8 c1], .made true 3 [[.int .i64 1, .int .i64 b0, .int .i64 0], [.int .i64 2, .int .i64 b1, .int .i64 0]]] = _ := lpPairs c0 c1 ⟨1, b0, 0⟩ ⟨2, b1, 0⟩ hc0 hc1
  rw [lp] at ev
  have k0 := com_ok hb0 hc0
  have k1 := com_ok hb1 hc1
  have hv := spVictims lPair (sPair b0 b1 (com b0 c0) (com b1 c1)) (by decide) (Nat.lt_of_le_of_lt (show 2 ≤ 2 from Nat.le_refl 2) (by decide))
  have hm := metsPair b0 b1 (com b0 c0) (com b1 c1)
  have hmay := mayPair b0 b1 (com b0 c0) (com b1 c1) hb0 hb1 k0 k1
  rw [show (if c0 > (⟨1, b0, 0⟩ : Spn).b then c0 else (⟨1, b0, 0⟩ : Spn).c) = com b0 c0 from rfl, show (if c1 > (⟨2, b1, 0⟩ : Spn).b then c1 else (⟨2, b1, 0⟩ : Spn).c) = com b1 c1 from rfl] at ev
  generalize com b0 c0 = K0 at ev k0 hv hm hmay
  generalize com b1 c1 = K1 at ev k1 hv hm hmay
  have hv' : pcall Cω 8 [.psl false [[.int .i64 1, .int .i64 2], [.int .i64 2, .int .i64 1]], .psl false (twoS ⟨1, b0, K0⟩ ⟨2, b1, K1⟩)] = some (.psl false ((victs lPair (sPair b0 b1 K0 K1)).map ie)) := hv
  simp only [asInt_int, asBool_bool, asStr_str, asSl_psl, asSl_nil, asAgg_agg, asTup_tup, asCons_cons, asNil_nil, asFlt_flt, asRef_ref, asWhole_whole, asView_view, asWv_whole, asWv_view, asFn_fn, asPref_pref, asOCons_cons, asONil_nil, asBox_box, asMade_made, asGone_dead, asGone_made, bind_some', onEx_exit, onEx_ret, mkS_hit, mkS_miss, ne_eq, not_false_eq_true, Nat.reduceLT, Nat.reduceEqDiff, if_true] at ev
  simp only [hv', asInt_int, asBool_bool, asStr_str, asSl_psl, asSl_nil, asAgg_agg, asTup_tup, asCons_cons, asNil_nil, asFlt_flt, asRef_ref, asWhole_whole, asView_view, asWv_whole, asWv_view, asFn_fn, asPref_pref, asOCons_cons, asONil_nil, asBox_box, asMade_made, asGone_dead, asGone_made, bind_some', onEx_exit, onEx_ret] at ev
  have g0 : (twoS ⟨1, b0, K0⟩ ⟨2, b1, K1⟩)[Int.toNat 0]? = some (Spn.e ⟨1, b0, K0⟩) := rfl
  have g1 : (twoS ⟨1, b0, K0⟩ ⟨2, b1, K1⟩)[Int.toNat 1]? = some (Spn.e ⟨2, b1, K1⟩) := rfl
  have hlen : (twoS ⟨1, b0, K0⟩ ⟨2, b1, K1⟩).length = 2 := rfl
  rw [g0, g1, hlen, if_pos (by decide), bind_some', ptS2, bind_some', asInt_int, if_pos (by decide), bind_some', ptS2, bind_some', asInt_int] at ev
  simp only [spAwake, asInt_int, asBool_bool, asStr_str, asSl_psl, asSl_nil, asAgg_agg, asTup_tup, asCons_cons, asNil_nil, asFlt_flt, asRef_ref, asWhole_whole, asView_view, asWv_whole, asWv_view, asFn_fn, asPref_pref, asOCons_cons, asONil_nil, asBox_box, asMade_made, asGone_dead, asGone_made, bind_some', onEx_exit, onEx_ret] at ev
  by_cases h0 : K0 = 0 <;> by_cases h1 : K1 = 0
  · simp only [h0, h1, if_true, if_false] at hm
    rw [h0, h1] at ev
    rw [h0, h1] at hmay
    rw [victs_nil hm] at ev
    exact pc ev rfl
  · rw [h0] at hm ev hmay
    rw [if_pos rfl, if_neg h1] at hm
    rw [victs_one hmay hm] at ev
    have hd : decide (K1 > 0) = true := by rw [decide_eq_true_eq]; omega
    have hz : decide ((0 : Int) > 0) = false := by decide
    rw [hd, hz, if_neg (show ¬ ((false == true) = true) by decide), if_neg (show ¬ (false = true) by decide)] at ev
    exact pc ev rfl
  · rw [h1] at hm ev hmay
    rw [if_neg h0, if_pos rfl] at hm
    rw [victs_one hmay hm] at ev
    have hd : decide (K0 > 0) = true := by rw [decide_eq_true_eq]; omega
    have hz : decide ((0 : Int) > 0) = false := by decide
    rw [hd, hz, if_neg (show ¬ ((true == false) = true) by decide), if_pos rfl] at ev
    exact pc ev rfl
  · rw [if_neg h0, if_neg h1] at hm
    rw [victs_nil hm] at ev
    have hd0 : decide (K0 > 0) = true := by rw [decide_eq_true_eq]; omega
    have hd1 : decide (K1 > 0) = true := by rw [decide_eq_true_eq]; omega
    rw [hd0, hd1, if_pos (by decide)] at ev
    exact pc ev rfl
end Go.Pvm.S
