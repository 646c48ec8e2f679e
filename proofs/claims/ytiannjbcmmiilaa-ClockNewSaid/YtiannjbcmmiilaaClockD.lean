/- Part of the proof: clocks: which new ones there may be; pages that come by turns. -/
import Derived.Test.YtiannjbcmmiilaaClockC
set_option linter.unusedSimpArgs false
set_option linter.unusedVariables false
set_option maxRecDepth 100000
namespace Go.Pvm.S
open Go.Pvm Go.Proofs
theorem spAwake : pcall Cω 7 [] = some (.bool true) := by
  have ev := eqK7 Cω Lω
  have h0 := spNew 2
  have e0 : newS 2 = (⟨[noSp, noSp], 0⟩, 0) := by decide +kernel
  have h1 := spTouch ⟨[noSp, noSp], 0⟩ 1 (by decide)
  have e1 : touchS ⟨[noSp, noSp], 0⟩ 1 = (⟨[⟨1, true, false⟩, noSp], 0⟩, 0, -1, 0) := by decide +kernel
  have h2 := spTouch ⟨[⟨1, true, false⟩, noSp], 0⟩ 2 (by decide)
  have e2 : touchS ⟨[⟨1, true, false⟩, noSp], 0⟩ 2 = (⟨[⟨1, true, false⟩, ⟨2, true, false⟩], 0⟩, 1, -1, 0) := by decide +kernel
  have h3 := spTouch ⟨[⟨1, true, false⟩, ⟨2, true, false⟩], 0⟩ 3 (by decide)
  have e3 : touchS ⟨[⟨1, true, false⟩, ⟨2, true, false⟩], 0⟩ 3 = (⟨[⟨3, true, false⟩, ⟨2, false, false⟩], 1⟩, 0, 1, 0) := by decide +kernel
  rw [e0] at h0
  rw [e1] at h1
  rw [e2] at h2
  rw [e3] at h3
  simp only [Ck.v, sps] at h0 h1 h2 h3
  simp only [h0, h1, h2, h3, asInt_int, asBool_bool, asStr_str, asSl_psl, asSl_nil, asAgg_agg, asTup_tup, asCons_cons, asNil_nil, asFlt_flt, asRef_ref, asWhole_whole, asOCons_cons, asONil_nil, asBox_box, asMade_made, asGone_dead, asGone_made, bind_some', onEx_exit, onEx_ret] at ev
  exact pc ev rfl

/-! ### New ones -/
theorem lpNew (n : Nat) (hn : n ≤ 64) : ∀ (k i : Nat), i + k = n → Lω 3 lcK3_7 0 (stK3_7 (n : Nat) (i : Nat)) [.box true 24 [.psl false ((List.replicate n noSp).map Sp.e), .int .i64 0]] = some (.exit 0, mkS 55 [], [])
  | 0, i, h => by
    refine lw ?_
    rw [lqK3_7, if_neg (by simp; omega)]
  | k + 1, i, h => by
    have hg : (List.replicate n noSp)[i]? = some noSp := by rw [List.getElem?_replicate, if_pos (by omega)]
    refine lw ?_
    rw [lqK3_7, if_pos (by simp; omega), if_pos (by omega), Int.toNat_natCast, mapGet hg]
    have hne := neSpot noSp noSp
    simp only [Sp.e, noSp] at hne
    simp only [Sp.e, noSp, asInt_int, asBool_bool, asStr_str, asSl_psl, asSl_nil, asAgg_agg, asTup_tup, asCons_cons, asNil_nil, asFlt_flt, asRef_ref, asWhole_whole, asOCons_cons, asONil_nil, asBox_box, asMade_made, asGone_dead, asGone_made, bind_some', onEx_exit, onEx_ret, hne]
    rw [if_neg (by decide), wrap_succ (by omega)]
    exact lpNew n hn k (i + 1) (by omega)
theorem lawNew (n : Int) : pcall Cω 3 [.int .i64 n] = some (.bool true) := by
  have ev := eqK3 Cω Lω n
  have h0 := spNew n
  unfold newS at h0
  by_cases c1 : n < 1
  · rw [if_pos (.inl c1)] at h0
    simp only [Ck.v, sps] at h0
    simp only [h0, asInt_int, asBool_bool, asStr_str, asSl_psl, asSl_nil, asAgg_agg, asTup_tup, asCons_cons, asNil_nil, asFlt_flt, asRef_ref, asWhole_whole, asOCons_cons, asONil_nil, asBox_box, asMade_made, asGone_dead, asGone_made, bind_some', onEx_exit, onEx_ret] at ev
    rw [if_pos (by simpa using c1)] at ev
    simp only [spAwake, asInt_int, asBool_bool, asStr_str, asSl_psl, asSl_nil, asAgg_agg, asTup_tup, asCons_cons, asNil_nil, asFlt_flt, asRef_ref, asWhole_whole, asOCons_cons, asONil_nil, asBox_box, asMade_made, asGone_dead, asGone_made, bind_some', onEx_exit, onEx_ret] at ev
    exact pc ev rfl
  by_cases c2 : n > 64
  · rw [if_pos (.inr c2)] at h0
    simp only [Ck.v, sps] at h0
    simp only [h0, asInt_int, asBool_bool, asStr_str, asSl_psl, asSl_nil, asAgg_agg, asTup_tup, asCons_cons, asNil_nil, asFlt_flt, asRef_ref, asWhole_whole, asOCons_cons, asONil_nil, asBox_box, asMade_made, asGone_dead, asGone_made, bind_some', onEx_exit, onEx_ret] at ev
    rw [if_neg (by simpa using c1), if_pos (by simpa using c2)] at ev
    simp only [spAwake, asInt_int, asBool_bool, asStr_str, asSl_psl, asSl_nil, asAgg_agg, asTup_tup, asCons_cons, asNil_nil, asFlt_flt, asRef_ref, asWhole_whole, asOCons_cons, asONil_nil, asBox_box, asMade_made, asGone_dead, asGone_made, bind_some', onEx_exit, onEx_ret] at ev
    exact pc ev rfl
  rw [if_neg (by omega)] at h0
  simp only [Ck.v, sps] at h0
  have lp := lpNew n.toNat (by omega) n.toNat 0 (by omega)
  rw [natz, show ((n.toNat : Nat) : Int) = n by omega] at lp
  simp only [h0, asInt_int, asBool_bool, asStr_str, asSl_psl, asSl_nil, asAgg_agg, asTup_tup, asCons_cons, asNil_nil, asFlt_flt, asRef_ref, asWhole_whole, asOCons_cons, asONil_nil, asBox_box, asMade_made, asGone_dead, asGone_made, bind_some', onEx_exit, onEx_ret] at ev
  rw [if_neg (by simpa using c1), if_neg (by simpa using c2), if_neg (by decide), List.length_map, List.length_replicate, if_neg (by simp; omega), if_neg (by decide)] at ev
  simp only [lp, spAwake, asInt_int, asBool_bool, asStr_str, asSl_psl, asSl_nil, asAgg_agg, asTup_tup, asCons_cons, asNil_nil, asFlt_flt, asRef_ref, asWhole_whole, asOCons_cons, asONil_nil, asBox_box, asMade_made, asGone_dead, asGone_made, bind_some', onEx_exit, onEx_ret] at ev
  exact pc ev rfl

/-! ### Pages by turns -/
def runR (n : Nat) : Nat → Nat → Ck → Bool
  | 0, _, _ => true
  | k + 1, i, c => (touchS c ((i % (n + 1) : Nat) : Int)).2.2.2 == 0 && (touchS c ((i % (n + 1) : Nat) : Int)).2.2.1 == (if i ≥ n then (((i - n) % (n + 1) : Nat) : Int) else -1) && runR n k (i + 1) (touchS c ((i % (n + 1) : Nat) : Int)).1
theorem runR_le (n : Nat) : ∀ (k m i : Nat) (c : Ck), m ≤ k → runR n k i c = true → runR n m i c = true
  | _, 0, _, _, _, _ => rfl
  | 0, m + 1, _, _, h, _ => by omega
  | k + 1, m + 1, i, c, h, hr => by
    unfold runR at hr ⊢
    rw [Bool.and_eq_true] at hr ⊢
    exact ⟨hr.1, runR_le n k m _ _ (by omega) hr.2⟩
theorem runR_all : ∀ n : Fin 12, runR (n.1 + 1) 255 0 ⟨List.replicate (n.1 + 1) noSp, 0⟩ = true := by decide +kernel
theorem touchS_len (c : Ck) (page : Int) : (touchS c page).1.l.length ≤ c.l.length := by
  unfold touchS
  split
  · exact Nat.zero_le _
  · split
    · exact Nat.le_refl _
    · split
      · simp
      · split
        · rename_i i l h hq
          have := findS_len c.l c.h.toNat
          rw [hq] at this
          simp at this ⊢
          omega
        · exact Nat.le_refl _
theorem lpRounds (n r : Nat) (h1 : 1 ≤ n) (hn : n ≤ 12) (hr : r < 256) : ∀ (k i : Nat) (c : Ck), i + k = r → c.l.length ≤ 100 → runR n k i c = true → Lω 4 lcK4_6 0 (stK4_6 (r : Nat) (n : Nat) (i : Nat)) [.box true 24 [.psl false (c.l.map Sp.e), .int .i64 c.h]] = some (.exit 0, mkS 60 [], [])
  | 0, i, c, h, hl, hrun => by
    refine lw ?_
    rw [lqK4_6, wrap_i64 (by omega) (by omega), if_neg (by simp; omega)]
  | k + 1, i, c, h, hl, hrun => by
    refine lw ?_
    have ht := spTouch c ((i % (n + 1) : Nat) : Int) hl
    have hlen := touchS_len c ((i % (n + 1) : Nat) : Int)
    unfold runR at hrun
    generalize touchS c ((i % (n + 1) : Nat) : Int) = t at ht hrun hlen
    obtain ⟨c', a, was, e⟩ := t
    simp only [Bool.and_eq_true, beq_iff_eq] at hrun
    obtain ⟨⟨he, hw⟩, hrun⟩ := hrun
    subst he
    simp only [Ck.v, sps] at ht
    have hm : ∀ a b : Nat, ((a : Nat) : Int).tmod ((b : Nat) : Int) = ((a % b : Nat) : Int) := fun _ _ => rfl
    rw [lqK4_6, wrap_i64 (x := ((r : Nat) : Int)) (by omega) (by omega), if_pos (by simp; omega), wrap_succ (i := n) (by omega), remI _ (by omega), hm]
    simp only [bind_some', asInt_int, ht, asInt_int, asBool_bool, asStr_str, asSl_psl, asSl_nil, asAgg_agg, asTup_tup, asCons_cons, asNil_nil, asFlt_flt, asRef_ref, asWhole_whole, asOCons_cons, asONil_nil, asBox_box, asMade_made, asGone_dead, asGone_made, bind_some', onEx_exit, onEx_ret]
    by_cases c1 : i ≥ n
    · rw [if_pos c1] at hw
      rw [if_pos (by simp; omega), show ((i : Nat) : Int) - ((n : Nat) : Int) = ((i - n : Nat) : Int) by omega, wrap_i64 (x := ((i - n : Nat) : Int)) (by omega) (by omega), remI _ (by omega), hm]
      simp only [bind_some', asInt_int]
      rw [if_neg (by decide), if_neg (by rw [hw]; simp), wrap_succ (by omega)]
      exact lpRounds n r h1 hn hr k (i + 1) c' (by omega) (by simp only at hlen; omega) hrun
    · rw [if_neg c1] at hw
      rw [if_neg (by simp; omega), if_neg (by decide), if_neg (by rw [hw]; decide), wrap_succ (by omega)]
      exact lpRounds n r h1 hn hr k (i + 1) c' (by omega) (by simp only at hlen; omega) hrun
theorem lawRounds (a b : Nat) (ha : a < 256) (hb : b < 256) : pcall Cω 4 [.int .u8 (a : Nat), .int .u8 (b : Nat)] = some (.bool true) := by
  have ev := eqK4 Cω Lω (a : Nat) (b : Nat)
  have hn : IntKind.wrap .i64 (1 + IntKind.wrap .i64 (((a : Nat) : Int).tmod 12)) = ((a % 12 + 1 : Nat) : Int) := by
    rw [show ((a : Nat) : Int).tmod 12 = ((a % 12 : Nat) : Int) from rfl, wrap_i64 (x := ((a % 12 : Nat) : Int)) (by omega) (by omega), wrap_i64 (by omega) (by omega)]
    omega
  rw [hn] at ev
  have h0 := spNew ((a % 12 + 1 : Nat) : Int)
  unfold newS at h0
  rw [if_neg (by omega), Int.toNat_natCast] at h0
  simp only [Ck.v, sps] at h0
  have hrun := runR_le _ 255 b 0 _ (by omega) (runR_all ⟨a % 12, Nat.mod_lt _ (by decide)⟩)
  have lp := lpRounds (a % 12 + 1) b (by omega) (by omega) hb b 0 ⟨List.replicate (a % 12 + 1) noSp, 0⟩ (by omega) (by simp; omega) hrun
  rw [natz] at lp
  simp only [h0, asInt_int, asBool_bool, asStr_str, asSl_psl, asSl_nil, asAgg_agg, asTup_tup, asCons_cons, asNil_nil, asFlt_flt, asRef_ref, asWhole_whole, asOCons_cons, asONil_nil, asBox_box, asMade_made, asGone_dead, asGone_made, bind_some', onEx_exit, onEx_ret] at ev
  rw [if_neg (by decide)] at ev
  simp only [lp, spAwake, asInt_int, asBool_bool, asStr_str, asSl_psl, asSl_nil, asAgg_agg, asTup_tup, asCons_cons, asNil_nil, asFlt_flt, asRef_ref, asWhole_whole, asOCons_cons, asONil_nil, asBox_box, asMade_made, asGone_dead, asGone_made, bind_some', onEx_exit, onEx_ret] at ev
  exact pc ev rfl
end Go.Pvm.S
