/- Part of the proof: keys: one zero, one that is no number; ranks; pages: the program's and the document's. -/
import Derived.Test.YtbhjbehdafcnoaaKL
import Derived.Test.YtbhjbehdafcnoaaEqKAll
import Derived.Test.YtbhjbehdafcnoaaFlt
set_option linter.unusedSimpArgs false
set_option linter.unusedVariables false
set_option maxRecDepth 100000
namespace Go.Pvm.S
open Go.Pvm Go.Proofs
abbrev Wd := BitVec 64
theorem Wd.lt (q : Wd) : q.toNat < 18446744073709551616 := q.isLt
def keyV (q : Wd) : Wd := BitVec.ofNat 64 (keyW q.toNat)
theorem keyV_nat (q : Wd) : (keyV q).toNat = keyW q.toNat := by
  unfold keyV
  rw [BitVec.toNat_ofNat]
  exact Nat.mod_eq_of_lt (keyW_lt q.lt)
def rankV (q : Wd) : Nat := rankW q.toNat
theorem rankV_lt (q : Wd) : rankV q < 18446744073709551616 := rankW_lt q.lt
theorem bvEq (b c : Nat) : binv Try.prog .eql 23 (.float .f64 b) (.float .f64 c) = some (.bool (Op.floatEq .f64 b c)) := rfl
theorem bvNe (b c : Nat) : binv Try.prog .neq 23 (.float .f64 b) (.float .f64 c) = some (.bool (!Op.floatEq .f64 b c)) := rfl
theorem bvLt (b c : Nat) : binv Try.prog .lss 23 (.float .f64 b) (.float .f64 c) = some (.bool (Ieee.double.order b c == some .lt)) := rfl
theorem spKey (q : Wd) : pcall Cω 28 [.float .f64 q.toNat] = some (.float .f64 (keyV q).toNat) := by
  have e1 := eqK72 Cω Lω q.toNat
  rw [bvNe, floatEq_self, Bool.not_not] at e1
  simp only [bind_some', asBool_bool] at e1
  have e2 := eqK55 Cω Lω q.toNat
  have e3 : pcall Cω 72 [.float .f64 q.toNat] = some (.bool (nanW q.toNat)) := pc e1 rfl
  rw [e3] at e2
  simp only [bind_some', asBool_bool] at e2
  have ev := eqK28 Cω Lω q.toNat
  rw [bvEq, floatEq_zero q.lt] at ev
  simp only [bind_some', asBool_bool, decide_eq_true_eq] at ev
  rw [keyV_nat]
  unfold keyW
  by_cases h : q.toNat % 9223372036854775808 = 0
  · rw [if_pos h] at ev ⊢
    exact pc ev rfl
  · rw [if_neg h] at ev ⊢
    by_cases h2 : nanW q.toNat = true
    · rw [if_pos h2] at e2 ⊢
      have h9 : pcall Cω 55 [.float .f64 q.toNat] = some (.float .f64 9221120237041090561) := pc e2 rfl
      rw [h9] at ev
      simp only [asInt_int, asBool_bool, asStr_str, asSl_psl, asSl_nil, asAgg_agg, asTup_tup, asCons_cons, asNil_nil, asFlt_flt, asRef_ref, asWhole_whole, asView_view, asWv_whole, asWv_view, asFn_fn, asPref_pref, asOCons_cons, asONil_nil, asBox_box, asMade_made, asGone_dead, asGone_made, bind_some', onEx_exit, onEx_ret] at ev
      exact pc ev rfl
    · rw [if_neg h2] at e2 ⊢
      have h9 : pcall Cω 55 [.float .f64 q.toNat] = some (.float .f64 q.toNat) := pc e2 rfl
      rw [h9] at ev
      simp only [asInt_int, asBool_bool, asStr_str, asSl_psl, asSl_nil, asAgg_agg, asTup_tup, asCons_cons, asNil_nil, asFlt_flt, asRef_ref, asWhole_whole, asView_view, asWv_whole, asWv_view, asFn_fn, asPref_pref, asOCons_cons, asONil_nil, asBox_box, asMade_made, asGone_dead, asGone_made, bind_some', onEx_exit, onEx_ret] at ev
      exact pc ev rfl
theorem bvOf (q : Wd) : BitVec.ofInt (IntKind.bits .u64) ((q.toNat : Nat) : Int) = q := by
  show BitVec.ofInt 64 _ = q
  rw [BitVec.ofInt_natCast, BitVec.ofNat_toNat, BitVec.setWidth_eq]
theorem bvOf64 (q : Wd) : BitVec.ofInt 64 ((q.toNat : Nat) : Int) = q := bvOf q
theorem high_and (q : Wd) : ((q &&& BitVec.ofInt 64 9223372036854775808).toNat = 0 ↔ q.toNat < 9223372036854775808) := by
  have e : (BitVec.ofInt 64 9223372036854775808) = BitVec.twoPow 64 63 := by decide
  have hm : q.getLsbD 63 = decide (9223372036854775808 ≤ q.toNat) := by
    have h1 : q.msb = decide (2 ^ (64 - 1) ≤ q.toNat) := BitVec.msb_eq_decide q
    rw [BitVec.msb_eq_getLsbD_last] at h1
    exact h1
  rw [e, BitVec.and_twoPow, hm]
  by_cases h : 9223372036854775808 ≤ q.toNat
  · rw [decide_eq_true h, if_pos rfl]
    constructor
    · intro h9; exact absurd h9 (by decide)
    · intro h9; omega
  · rw [decide_eq_false h, if_neg (by decide)]
    constructor
    · intro _; omega
    · intro _; rfl
theorem rankStep (q : Wd) : stepKK cfg kcfg Cω Lω 36 [.float .f64 q.toNat] [] =
    (pcall Cω 28 [.float .f64 q.toNat]).bind fun v => asFlt .f64 v fun n => if ((IntKind.wrap .u64 (((BitVec.ofInt 64 ((n : Nat) : Int) &&& BitVec.ofInt 64 9223372036854775808 : BitVec 64).toNat : Nat) : Int)) != 0) = true then (some ((.int .u64 (IntKind.wrap .u64 (((BitVec.ofInt 64 (IntKind.max .u64) ^^^ BitVec.ofInt 64 ((n : Nat) : Int) : BitVec 64).toNat : Nat) : Int))), [])) else (some ((.int .u64 (IntKind.wrap .u64 (((BitVec.ofInt 64 ((n : Nat) : Int) ||| BitVec.ofInt 64 9223372036854775808 : BitVec 64).toNat : Nat) : Int))), [])) := eqK36 Cω Lω q.toNat
theorem spRank (q : Wd) : pcall Cω 36 [.float .f64 q.toNat] = some (.int .u64 (rankV q : Nat)) := by
  have ev := rankStep q
  rw [spKey] at ev
  simp only [bind_some', asFlt_flt, bvOf64] at ev
  have hk := (keyV q).lt
  have hkn := keyV_nat q
  unfold rankV rankW
  rw [← hkn]
  generalize keyV q = k at *
  have ha := high_and k
  by_cases h : k.toNat < 9223372036854775808
  · have h0 : IntKind.wrap .u64 (((k &&& BitVec.ofInt 64 9223372036854775808).toNat : Nat) : Int) = 0 := by
      rw [show (k &&& BitVec.ofInt 64 9223372036854775808).toNat = 0 from ha.2 h]; decide
    rw [h0, if_neg (by decide)] at ev
    rw [if_neg (by omega)]
    have e : (BitVec.ofInt 64 9223372036854775808).toNat = 2 ^ 63 * 1 := by decide
    have ho : (k ||| BitVec.ofInt 64 9223372036854775808).toNat = k.toNat + 9223372036854775808 := by
      rw [BitVec.toNat_or, e, Nat.or_comm, ← Nat.two_pow_add_eq_or_of_lt (i := 63) (by omega)]
      omega
    rw [ho, wrap_u64 (by omega) (by omega)] at ev
    exact pc ev rfl
  · have h0 : (IntKind.wrap .u64 (((k &&& BitVec.ofInt 64 9223372036854775808).toNat : Nat) : Int) != 0) = true := by
      rw [bne_iff_ne, wrap_u64 (by omega) (by have := (k &&& BitVec.ofInt 64 9223372036854775808).isLt; omega)]
      intro h9
      exact h (ha.1 (by show (k &&& BitVec.ofInt 64 9223372036854775808).toNat = 0; omega))
    rw [if_pos h0] at ev
    rw [if_pos (by omega)]
    have e : BitVec.ofInt 64 (IntKind.max .u64) = BitVec.allOnes 64 := by decide
    rw [e, BitVec.xor_comm] at ev
    have hx : (k ^^^ BitVec.allOnes 64).toNat = 18446744073709551615 - k.toNat := by
      rw [BitVec.xor_allOnes, BitVec.toNat_not]
    rw [hx, wrap_u64 (by omega) (by omega)] at ev
    exact pc ev rfl
def cmpN (a b : Nat) : Int := if a < b then -1 else if a > b then 1 else 0
theorem spCompare (a b : Wd) : pcall Cω 29 [.float .f64 a.toNat, .float .f64 b.toNat] = some (.int .i64 (cmpN (rankV a) (rankV b))) := by
  have hn : ∀ z, pcall Cω 73 [.int .u64 z] = some (.bool false) := fun z => pc (eqK73 Cω Lω z) (by show PV.bool (z != z) = _; rw [bne_self_eq_false])
  have hc : pcall Cω 56 [.int .u64 (rankV a : Nat), .int .u64 (rankV b : Nat)] = some (.int .i64 (cmpN (rankV a) (rankV b))) := by
    have ev := eqK56 Cω Lω (rankV a : Nat) (rankV b : Nat)
    simp only [hn, asInt_int, asBool_bool, asStr_str, asSl_psl, asSl_nil, asAgg_agg, asTup_tup, asCons_cons, asNil_nil, asFlt_flt, asRef_ref, asWhole_whole, asView_view, asWv_whole, asWv_view, asFn_fn, asPref_pref, asOCons_cons, asONil_nil, asBox_box, asMade_made, asGone_dead, asGone_made, bind_some', onEx_exit, onEx_ret, Bool.false_eq_true, if_false, decide_eq_true_eq] at ev
    unfold cmpN
    by_cases h : rankV a < rankV b
    · rw [if_pos (by omega)] at ev
      rw [if_pos h]
      exact pc ev rfl
    · rw [if_neg (by omega)] at ev
      rw [if_neg h]
      by_cases h2 : rankV a > rankV b
      · rw [if_pos (by omega)] at ev
        rw [if_pos h2]
        exact pc ev rfl
      · rw [if_neg (by omega)] at ev
        rw [if_neg h2]
        exact pc ev rfl
  have ev := eqK29 Cω Lω a.toNat b.toNat
  simp only [spRank, asInt_int, asBool_bool, asStr_str, asSl_psl, asSl_nil, asAgg_agg, asTup_tup, asCons_cons, asNil_nil, asFlt_flt, asRef_ref, asWhole_whole, asView_view, asWv_whole, asWv_view, asFn_fn, asPref_pref, asOCons_cons, asONil_nil, asBox_box, asMade_made, asGone_dead, asGone_made, bind_some', onEx_exit, onEx_ret, hc] at ev
  exact pc ev rfl
/-! ### The document's -/
theorem spRNan (b : Nat) (hb : b < 18446744073709551616) : pcall Cω 63 [.int .u64 (b : Nat)] = some (.bool (nanW b)) := by
  have ev := eqK63 Cω Lω (b : Nat)
  have e1 : Int.tmod (Int.fdiv ((b : Nat) : Int) (2 ^ (min (Int.toNat 52) (IntKind.bits .u64)))) 2048 = ((b / 4503599627370496 % 2048 : Nat) : Int) := by
    have e : (2 : Int) ^ (min (Int.toNat 52) (IntKind.bits .u64)) = 4503599627370496 := by decide
    rw [e, Int.fdiv_eq_ediv_of_nonneg _ (by decide), Int.tmod_eq_emod_of_nonneg (by omega)]
    omega
  have e2 : IntKind.wrap .u64 (((b : Nat) : Int) * 2 ^ (min (Int.toNat 12) (IntKind.bits .u64))) = ((b * 4096 % 18446744073709551616 : Nat) : Int) := by
    have e : (2 : Int) ^ (min (Int.toNat 12) (IntKind.bits .u64)) = 4096 := by decide
    rw [e]
    show (((b : Nat) : Int) * 4096) % 18446744073709551616 = _
    omega
  rw [e1, e2] at ev
  unfold nanW
  by_cases h : b / 4503599627370496 % 2048 = 2047
  · rw [h, if_pos (by decide)] at ev
    have : ((((b * 4096 % 18446744073709551616 : Nat) : Int)) != 0) = decide (b % 9223372036854775808 > 9218868437227405312) := by
      by_cases h2 : b % 9223372036854775808 > 9218868437227405312
      · rw [decide_eq_true h2, bne_iff_ne]; omega
      · rw [decide_eq_false h2]
        have : b * 4096 % 18446744073709551616 = 0 := by omega
        rw [this]; rfl
    rw [this] at ev
    exact pc ev rfl
  · rw [if_neg (by rw [beq_iff_eq]; omega)] at ev
    rw [decide_eq_false (by omega)]
    exact pc ev rfl
theorem spRKey (q : Wd) : pcall Cω 41 [.float .f64 q.toNat] = some (.int .u64 ((keyV q).toNat : Nat)) := by
  have e2 := eqK62 Cω Lω q.toNat
  rw [spRNan _ q.lt] at e2
  simp only [bind_some', asBool_bool] at e2
  have ev := eqK41 Cω Lω q.toNat
  rw [keyV_nat]
  unfold keyW
  have hq := q.lt
  by_cases h2 : nanW q.toNat = true
  · have h2' := h2
    unfold nanW at h2'
    rw [decide_eq_true_eq] at h2'
    rw [if_pos h2] at e2
    rw [if_neg (by omega), if_pos h2]
    have h9 : pcall Cω 62 [.float .f64 q.toNat] = some (.int .u64 9221120237041090561) := pc e2 rfl
    rw [h9] at ev
    simp only [asInt_int, asBool_bool, asStr_str, asSl_psl, asSl_nil, asAgg_agg, asTup_tup, asCons_cons, asNil_nil, asFlt_flt, asRef_ref, asWhole_whole, asView_view, asWv_whole, asWv_view, asFn_fn, asPref_pref, asOCons_cons, asONil_nil, asBox_box, asMade_made, asGone_dead, asGone_made, bind_some', onEx_exit, onEx_ret] at ev
    rw [if_neg (by decide)] at ev
    exact pc ev rfl
  · rw [if_neg h2] at e2
    have h9 : pcall Cω 62 [.float .f64 q.toNat] = some (.int .u64 (q.toNat : Nat)) := pc e2 rfl
    rw [h9] at ev
    simp only [asInt_int, asBool_bool, asStr_str, asSl_psl, asSl_nil, asAgg_agg, asTup_tup, asCons_cons, asNil_nil, asFlt_flt, asRef_ref, asWhole_whole, asView_view, asWv_whole, asWv_view, asFn_fn, asPref_pref, asOCons_cons, asONil_nil, asBox_box, asMade_made, asGone_dead, asGone_made, bind_some', onEx_exit, onEx_ret] at ev
    by_cases h : q.toNat = 9223372036854775808
    · rw [if_pos (by rw [beq_iff_eq]; omega)] at ev
      rw [if_pos (by omega)]
      exact pc ev rfl
    · rw [if_neg (by rw [beq_iff_eq]; omega)] at ev
      by_cases h0 : q.toNat % 9223372036854775808 = 0
      · rw [if_pos h0]
        have : q.toNat = 0 := by omega
        rw [this] at ev ⊢
        exact pc ev rfl
      · rw [if_neg h0, if_neg h2]
        exact pc ev rfl
theorem spRRank (q : Wd) : pcall Cω 37 [.float .f64 q.toNat] = some (.int .u64 (rankV q : Nat)) := by
  have ev := eqK37 Cω Lω q.toNat
  rw [spRKey] at ev
  simp only [asInt_int, asBool_bool, asStr_str, asSl_psl, asSl_nil, asAgg_agg, asTup_tup, asCons_cons, asNil_nil, asFlt_flt, asRef_ref, asWhole_whole, asView_view, asWv_whole, asWv_view, asFn_fn, asPref_pref, asOCons_cons, asONil_nil, asBox_box, asMade_made, asGone_dead, asGone_made, bind_some', onEx_exit, onEx_ret, decide_eq_true_eq] at ev
  have hk := (keyV q).lt
  unfold rankV rankW
  rw [← keyV_nat]
  generalize keyV q = k at *
  by_cases h : k.toNat ≥ 9223372036854775808
  · rw [if_pos (by omega), wrap_u64 (by omega) (by omega)] at ev
    rw [if_pos h]
    refine pc ev ?_
    show PV.int .u64 _ = _
    congr 1; omega
  · rw [if_neg (by omega), wrap_u64 (by omega) (by omega)] at ev
    rw [if_neg h]
    exact pc ev rfl
theorem spRLess (a b : Wd) : pcall Cω 42 [.float .f64 a.toNat, .float .f64 b.toNat] = some (.bool (decide (rankV a < rankV b))) := by
  have ev := eqK42 Cω Lω a.toNat b.toNat
  have hl := less_rank a.lt b.lt
  simp only [spRKey, asInt_int, asBool_bool, asStr_str, asSl_psl, asSl_nil, asAgg_agg, asTup_tup, asCons_cons, asNil_nil, asFlt_flt, asRef_ref, asWhole_whole, asView_view, asWv_whole, asWv_view, asFn_fn, asPref_pref, asOCons_cons, asONil_nil, asBox_box, asMade_made, asGone_dead, asGone_made, bind_some', onEx_exit, onEx_ret, spRNan _ (keyV a).lt, spRNan _ (keyV b).lt, Int.toNat_natCast, bvLt] at ev
  rw [keyV_nat, keyV_nat] at ev
  unfold rankV
  rw [← hl]
  by_cases h1 : nanW (keyW a.toNat) = true
  · rw [if_pos h1] at ev ⊢
    exact pc ev rfl
  · rw [if_neg h1] at ev ⊢
    by_cases h2 : nanW (keyW b.toNat) = true
    · rw [if_pos h2] at ev ⊢
      exact pc ev rfl
    · rw [if_neg h2] at ev ⊢
      exact pc ev rfl
/-! ### Pages -/
def pageV (q : Wd) : Nat := rankV q / 2305843009213693952
theorem pageV_lt (q : Wd) : pageV q < 8 := by
  have := rankV_lt q
  unfold pageV
  omega
theorem spPage (q : Wd) : pcall Cω 11 [.float .f64 q.toNat] = some (.int .i64 (pageV q : Nat)) := by
  have ev := eqK11 Cω Lω q.toNat
  have hr := rankV_lt q
  rw [spRank] at ev
  simp only [asInt_int, asBool_bool, asStr_str, asSl_psl, asSl_nil, asAgg_agg, asTup_tup, asCons_cons, asNil_nil, asFlt_flt, asRef_ref, asWhole_whole, asView_view, asWv_whole, asWv_view, asFn_fn, asPref_pref, asOCons_cons, asONil_nil, asBox_box, asMade_made, asGone_dead, asGone_made, bind_some', onEx_exit, onEx_ret] at ev
  have e : (2 : Int) ^ (min (Int.toNat 61) (IntKind.bits .u64)) = 2305843009213693952 := by decide
  rw [e, Int.fdiv_eq_ediv_of_nonneg _ (by decide), wrap_i64 (by omega) (by omega)] at ev
  refine pc ev ?_
  show PV.int .i64 _ = _
  congr 1
theorem spRPage (q : Wd) : pcall Cω 12 [.float .f64 q.toNat] = some (.int .i64 (pageV q : Nat)) := by
  have ev := eqK12 Cω Lω q.toNat
  have hr := rankV_lt q
  rw [spRRank] at ev
  simp only [asInt_int, asBool_bool, asStr_str, asSl_psl, asSl_nil, asAgg_agg, asTup_tup, asCons_cons, asNil_nil, asFlt_flt, asRef_ref, asWhole_whole, asView_view, asWv_whole, asWv_view, asFn_fn, asPref_pref, asOCons_cons, asONil_nil, asBox_box, asMade_made, asGone_dead, asGone_made, bind_some', onEx_exit, onEx_ret] at ev
  rw [Int.tdiv_eq_ediv_of_nonneg (by omega), wrap_u64 (by omega) (by omega), wrap_i64 (by omega) (by omega)] at ev
  refine pc ev ?_
  show PV.int .i64 _ = _
  congr 1
end Go.Pvm.S
