/- Part of the proof: views: a number that is looked for by halves; whom a view sees. -/
import Derived.Test.YtkipbdbmeanffaaVmA
set_option linter.unusedSimpArgs false
set_option linter.unusedVariables false
set_option maxRecDepth 100000
namespace Go.Pvm.S
open Go.Pvm Go.Proofs
theorem spLess (a b : Int) : pcall Cω 28 [.int .i64 a, .int .i64 b] = some (.bool (decide (a < b))) := by
  have h : ∀ z, pcall Cω 41 [.int .i64 z] = some (.bool false) := fun z => pc (eqK41 Cω Lω z) (by show PV.bool (z != z) = _; rw [bne_self_eq_false])
  have ev := eqK28 Cω Lω a b
  rw [h] at ev
  simp only [asInt_int, asBool_bool, asStr_str, asSl_psl, asSl_nil, asAgg_agg, asTup_tup, asCons_cons, asNil_nil, asFlt_flt, asRef_ref, asWhole_whole, asView_view, asWv_whole, asWv_view, asFn_fn, asPref_pref, asOCons_cons, asONil_nil, asBox_box, asMade_made, asGone_dead, asGone_made, asCI_cons, asCB_cons, asCF_cons, asCS_psl, asCS_nil, asCW_cons, asCR_cons, asOM_cons, asOM_false, asOB_cons, asOB_false, asOG_dead, asOG_made, gS_mk, bind_some', onEx_exit, onEx_ret, Bool.false_eq_true, if_false] at ev
  exact pc ev rfl
theorem spNaN (z : Int) : pcall Cω 29 [.int .i64 z] = some (.bool false) := pc (eqK29 Cω Lω z) (by show PV.bool (z != z) = _; rw [bne_self_eq_false])
def Asc (l : List Int) : Prop := ∀ i j, i < j → j < l.length → l.getD i 0 < l.getD j 0
theorem lpBin (l : List Int) (x : Int) (hl : l.length < 1073741824) (hs : Asc l) : ∀ m lo hi : Nat, hi - lo ≤ m → lo ≤ hi → hi ≤ l.length → (∀ k, k < lo → l.getD k 0 < x) → (∀ k, hi ≤ k → k < l.length → x ≤ l.getD k 0) →
    ∃ p : Nat, p ≤ l.length ∧ (∀ k, k < p → l.getD k 0 < x) ∧ (∀ k, p ≤ k → k < l.length → x ≤ l.getD k 0) ∧
      Lω 22 lcK22_3 0 (stK22_3 (l.map ie) x (l.length : Nat) (lo : Nat) (hi : Nat)) [] = some (.exit 0, mkS 54 [(0, .psl false (l.map ie)), (1, .int .i64 x), (6, .int .i64 (l.length : Nat)), (7, .int .i64 (p : Nat))], []) := by
  intro m
  induction m with
  | zero =>
    intro lo hi hm h1 h2 h3 h4
    have : lo = hi := by omega
    subst this
    refine ⟨lo, h2, h3, h4, lw ?_⟩
    rw [lqK22_3, if_neg (by simp)]
  | succ m ih =>
    intro lo hi hm h1 h2 h3 h4
    by_cases hlt : lo < hi
    · have hh : (lo + hi) / 2 < l.length := by omega
      by_cases hc : l.getD ((lo + hi) / 2) 0 < x
      · obtain ⟨p, q1, q2, q3, q4⟩ := ih ((lo + hi) / 2 + 1) hi (by omega) (by omega) h2 (fun k hk => by
          by_cases hk' : k = (lo + hi) / 2
          · subst hk'; exact hc
          · have := hs k ((lo + hi) / 2) (by omega) hh; omega) h4
        refine ⟨p, q1, q2, q3, lw ?_⟩
        rw [lqK22_3, if_pos (by simp; omega), half (by omega), if_pos (by omega), Int.toNat_natCast, mapGet (getDL hh)]
        simp only [ie, asInt_int, asBool_bool, asStr_str, asSl_psl, asSl_nil, asAgg_agg, asTup_tup, asCons_cons, asNil_nil, asFlt_flt, asRef_ref, asWhole_whole, asView_view, asWv_whole, asWv_view, asFn_fn, asPref_pref, asOCons_cons, asONil_nil, asBox_box, asMade_made, asGone_dead, asGone_made, asCI_cons, asCB_cons, asCF_cons, asCS_psl, asCS_nil, asCW_cons, asCR_cons, asOM_cons, asOM_false, asOB_cons, asOB_false, asOG_dead, asOG_made, gS_mk, bind_some', onEx_exit, onEx_ret]
        rw [spLess, decide_eq_true hc]
        simp only [asInt_int, asBool_bool, asStr_str, asSl_psl, asSl_nil, asAgg_agg, asTup_tup, asCons_cons, asNil_nil, asFlt_flt, asRef_ref, asWhole_whole, asView_view, asWv_whole, asWv_view, asFn_fn, asPref_pref, asOCons_cons, asONil_nil, asBox_box, asMade_made, asGone_dead, asGone_made, asCI_cons, asCB_cons, asCF_cons, asCS_psl, asCS_nil, asCW_cons, asCR_cons, asOM_cons, asOM_false, asOB_cons, asOB_false, asOG_dead, asOG_made, gS_mk, bind_some', onEx_exit, onEx_ret, if_true]
        rw [wrap_succ (by omega)]
        exact q4
      · obtain ⟨p, q1, q2, q3, q4⟩ := ih lo ((lo + hi) / 2) (by omega) (by omega) (by omega) h3 (fun k hk hkl => by
          by_cases hk' : k = (lo + hi) / 2
          · subst hk'; omega
          · have := hs ((lo + hi) / 2) k (by omega) hkl; omega)
        refine ⟨p, q1, q2, q3, lw ?_⟩
        rw [lqK22_3, if_pos (by simp; omega), half (by omega), if_pos (by omega), Int.toNat_natCast, mapGet (getDL hh)]
        simp only [ie, asInt_int, asBool_bool, asStr_str, asSl_psl, asSl_nil, asAgg_agg, asTup_tup, asCons_cons, asNil_nil, asFlt_flt, asRef_ref, asWhole_whole, asView_view, asWv_whole, asWv_view, asFn_fn, asPref_pref, asOCons_cons, asONil_nil, asBox_box, asMade_made, asGone_dead, asGone_made, asCI_cons, asCB_cons, asCF_cons, asCS_psl, asCS_nil, asCW_cons, asCR_cons, asOM_cons, asOM_false, asOB_cons, asOB_false, asOG_dead, asOG_made, gS_mk, bind_some', onEx_exit, onEx_ret]
        rw [spLess, decide_eq_false hc]
        simp only [asInt_int, asBool_bool, asStr_str, asSl_psl, asSl_nil, asAgg_agg, asTup_tup, asCons_cons, asNil_nil, asFlt_flt, asRef_ref, asWhole_whole, asView_view, asWv_whole, asWv_view, asFn_fn, asPref_pref, asOCons_cons, asONil_nil, asBox_box, asMade_made, asGone_dead, asGone_made, asCI_cons, asCB_cons, asCF_cons, asCS_psl, asCS_nil, asCW_cons, asCR_cons, asOM_cons, asOM_false, asOB_cons, asOB_false, asOG_dead, asOG_made, gS_mk, bind_some', onEx_exit, onEx_ret, if_false, Bool.false_eq_true]
        exact q4
    · exact ih lo hi (by omega) h1 h2 h3 h4
theorem any_getD {l : List Int} {x : Int} : l.any (· == x) = true ↔ ∃ i, i < l.length ∧ l.getD i 0 = x := by
  rw [List.any_eq_true]
  constructor
  · rintro ⟨y, hy, e⟩
    obtain ⟨i, hi, e2⟩ := List.mem_iff_getElem.1 hy
    refine ⟨i, hi, ?_⟩
    rw [List.getD_eq_getElem?_getD, List.getElem?_eq_getElem hi, e2]
    exact eq_of_beq e
  · rintro ⟨i, hi, e⟩
    refine ⟨l[i], List.getElem_mem hi, ?_⟩
    rw [List.getD_eq_getElem?_getD, List.getElem?_eq_getElem hi] at e
    exact beq_iff_eq.2 e
theorem mk54 (a b c d : PV) : List.getD (mkS 54 [(0, a), (1, b), (6, c), (7, d)]) 0 .undef = a ∧ List.getD (mkS 54 [(0, a), (1, b), (6, c), (7, d)]) 1 .undef = b ∧ List.getD (mkS 54 [(0, a), (1, b), (6, c), (7, d)]) 6 .undef = c ∧ List.getD (mkS 54 [(0, a), (1, b), (6, c), (7, d)]) 7 .undef = d := ⟨rfl, rfl, rfl, rfl⟩
theorem spBin (l : List Int) (x : Int) (hl : l.length < 1073741824) (hs : Asc l) : ∃ p : Int, pcall Cω 22 [.psl false (l.map ie), .int .i64 x] = some (.tuple [.int .i64 p, .bool (l.any (· == x))]) := by
  obtain ⟨p, q1, q2, q3, q4⟩ := lpBin l x hl hs l.length 0 l.length (by omega) (by omega) (by omega) (fun k hk => by omega) (fun k h1 h2 => by omega)
  refine ⟨(p : Nat), ?_⟩
  have ev := eqK22 Cω Lω (l.map ie) x
  rw [natz] at q4
  rw [List.length_map, q4] at ev
  simp only [asInt_int, asBool_bool, asStr_str, asSl_psl, asSl_nil, asAgg_agg, asTup_tup, asCons_cons, asNil_nil, asFlt_flt, asRef_ref, asWhole_whole, asView_view, asWv_whole, asWv_view, asFn_fn, asPref_pref, asOCons_cons, asONil_nil, asBox_box, asMade_made, asGone_dead, asGone_made, asCI_cons, asCB_cons, asCF_cons, asCS_psl, asCS_nil, asCW_cons, asCR_cons, asOM_cons, asOM_false, asOB_cons, asOB_false, asOG_dead, asOG_made, gS_mk, bind_some', onEx_exit, onEx_ret, mk54, if_true] at ev
  by_cases h : p < l.length
  · rw [if_pos (by simpa using h), if_pos (by omega), Int.toNat_natCast, mapGet (getDL h)] at ev
    simp only [ie, asInt_int, asBool_bool, asStr_str, asSl_psl, asSl_nil, asAgg_agg, asTup_tup, asCons_cons, asNil_nil, asFlt_flt, asRef_ref, asWhole_whole, asView_view, asWv_whole, asWv_view, asFn_fn, asPref_pref, asOCons_cons, asONil_nil, asBox_box, asMade_made, asGone_dead, asGone_made, asCI_cons, asCB_cons, asCF_cons, asCS_psl, asCS_nil, asCW_cons, asCR_cons, asOM_cons, asOM_false, asOB_cons, asOB_false, asOG_dead, asOG_made, gS_mk, bind_some', onEx_exit, onEx_ret] at ev
    by_cases hx : l.getD p 0 = x
    · rw [if_pos (by simpa using hx)] at ev
      rw [any_getD.2 ⟨p, h, hx⟩]
      exact pc ev rfl
    · rw [if_neg (by simpa using hx), if_pos (by omega)] at ev
      rw [spNaN] at ev
      simp only [asInt_int, asBool_bool, asStr_str, asSl_psl, asSl_nil, asAgg_agg, asTup_tup, asCons_cons, asNil_nil, asFlt_flt, asRef_ref, asWhole_whole, asView_view, asWv_whole, asWv_view, asFn_fn, asPref_pref, asOCons_cons, asONil_nil, asBox_box, asMade_made, asGone_dead, asGone_made, asCI_cons, asCB_cons, asCF_cons, asCS_psl, asCS_nil, asCW_cons, asCR_cons, asOM_cons, asOM_false, asOB_cons, asOB_false, asOG_dead, asOG_made, gS_mk, bind_some', onEx_exit, onEx_ret, if_false, Bool.false_eq_true] at ev
      have : l.any (· == x) = false := Bool.eq_false_iff.2 fun ha => by
        obtain ⟨i, hi, e⟩ := any_getD.1 ha
        rcases Nat.lt_trichotomy i p with h1 | h1 | h1
        · have := q2 i h1; omega
        · subst h1; exact hx e
        · have := hs p i h1 hi; have := q3 p (Nat.le_refl _) h; omega
      rw [this]
      exact pc ev rfl
  · rw [if_neg (by simpa using h)] at ev
    have : l.any (· == x) = false := Bool.eq_false_iff.2 fun ha => by
      obtain ⟨i, hi, e⟩ := any_getD.1 ha
      have := q2 i (by omega); omega
    rw [this]
    exact pc ev rfl

/-! ### Whom a view sees -/
theorem okF_at {v : Vw} : ∀ {k i : Nat}, okF v k i = true → ∀ j, i ≤ j → j < i + k → fineAt v (v.a.getD j 0) j = true
  | 0, i, _, j, h1, h2 => by omega
  | k + 1, i, h, j, h1, h2 => by
    rw [okF] at h
    split at h
    · rename_i hf
      by_cases e : j = i
      · subst e; exact hf
      · exact okF_at h j (by omega) (by omega)
    · cases h
theorem okF_of {v : Vw} : ∀ {k i : Nat}, (∀ j, i ≤ j → j < i + k → fineAt v (v.a.getD j 0) j = true) → okF v k i = true
  | 0, i, _ => rfl
  | k + 1, i, h => by
    rw [okF, if_pos (h i (Nat.le_refl _) (by omega))]
    exact okF_of fun j h1 h2 => h j (by omega) (by omega)
theorem fine_iff {v : Vw} {t : Int} {i : Nat} : fineAt v t i = true ↔ 1 ≤ t ∧ t < v.n ∧ t ≠ v.s ∧ (0 < i → v.a.getD (i - 1) 0 < t) := by
  by_cases h1 : t < 1
  · rw [fine1 h1]; constructor
    · intro h; cases h
    · intro h; omega
  by_cases h2 : t ≥ v.n
  · rw [fine2 h2]; constructor
    · intro h; cases h
    · intro h; omega
  by_cases h3 : t = v.s
  · rw [fine3 h3]; constructor
    · intro h; cases h
    · intro h; exact absurd h3 h.2.2.1
  by_cases h4 : 0 < i
  · rw [fine4 h1 h2 h3 h4, decide_eq_true_iff]
    exact ⟨fun h => ⟨by omega, by omega, h3, fun _ => h⟩, fun h => h.2.2.2 h4⟩
  · rw [fine5 h1 h2 h3 h4]
    exact ⟨fun _ => ⟨by omega, by omega, h3, fun h => absurd h h4⟩, fun _ => rfl⟩
structure Vw.Ok (v : Vw) : Prop where
  s : 0 ≤ v.s ∧ v.s ≤ 2147483647
  n : 0 ≤ v.n ∧ v.n ≤ 2147483647
  l : v.a.length ≤ 64
  a : ∀ i, i < v.a.length → 1 ≤ v.a.getD i 0 ∧ v.a.getD i 0 < v.n ∧ v.a.getD i 0 ≠ v.s ∧ (0 < i → v.a.getD (i - 1) 0 < v.a.getD i 0)
theorem Vw.ok_iff {v : Vw} : v.ok = true ↔ v.Ok := by
  unfold Vw.ok
  simp only [Bool.and_eq_true, decide_eq_true_iff]
  constructor
  · rintro ⟨⟨⟨⟨⟨a, b⟩, c⟩, d⟩, e⟩, f⟩
    exact ⟨⟨a, b⟩, ⟨c, d⟩, e, fun i hi => fine_iff.1 (okF_at f i (by omega) (by omega))⟩
  · rintro ⟨⟨a, b⟩, ⟨c, d⟩, e, f⟩
    exact ⟨⟨⟨⟨⟨a, b⟩, c⟩, d⟩, e⟩, okF_of fun j _ h2 => fine_iff.2 (f j (by omega))⟩
theorem Vw.Ok.asc {v : Vw} (h : v.Ok) : Asc v.a := by
  have : ∀ d i, i + d + 1 < v.a.length → v.a.getD i 0 < v.a.getD (i + d + 1) 0 := by
    intro d
    induction d with
    | zero =>
      intro i hi
      have := (h.a (i + 0 + 1) hi).2.2.2 (by omega)
      exact this
    | succ d ih =>
      intro i hi
      have h1 := ih i (by omega)
      have h2 := (h.a (i + (d + 1) + 1) hi).2.2.2 (by omega)
      have e : i + (d + 1) + 1 - 1 = i + d + 1 := by omega
      rw [e] at h2
      omega
  intro i j hij hj
  have := this (j - i - 1) i (by omega)
  rw [show i + (j - i - 1) + 1 = j by omega] at this
  exact this
def sees (v : Vw) (w : Int) : Bool := if w = 0 then true else decide (0 < w) && (decide (w = v.s) || (decide (w < v.n) && !v.a.any (· == w)))
theorem spSees (v : Vw) (w : Int) (hl : v.a.length < 4611686018427387904) : pcall Cω 12 [.agg v.e, .int .i64 w] = some (.bool (v.ok && sees v w)) := by
  have ev := eqK12 Cω Lω v.s v.n (v.a.map ie) w
  have hc := spCheck v hl
  simp only [Vw.e] at hc ⊢
  rw [hc] at ev
  simp only [asInt_int, asBool_bool, asStr_str, asSl_psl, asSl_nil, asAgg_agg, asTup_tup, asCons_cons, asNil_nil, asFlt_flt, asRef_ref, asWhole_whole, asView_view, asWv_whole, asWv_view, asFn_fn, asPref_pref, asOCons_cons, asONil_nil, asBox_box, asMade_made, asGone_dead, asGone_made, asCI_cons, asCB_cons, asCF_cons, asCS_psl, asCS_nil, asCW_cons, asCR_cons, asOM_cons, asOM_false, asOB_cons, asOB_false, asOG_dead, asOG_made, gS_mk, bind_some', onEx_exit, onEx_ret] at ev
  by_cases h : v.ok = true
  · have ho := Vw.ok_iff.1 h
    obtain ⟨p, hb⟩ := spBin v.a w (by have := ho.l; omega) ho.asc
    simp only [h, if_true, hb, asInt_int, asBool_bool, asStr_str, asSl_psl, asSl_nil, asAgg_agg, asTup_tup, asCons_cons, asNil_nil, asFlt_flt, asRef_ref, asWhole_whole, asView_view, asWv_whole, asWv_view, asFn_fn, asPref_pref, asOCons_cons, asONil_nil, asBox_box, asMade_made, asGone_dead, asGone_made, asCI_cons, asCB_cons, asCF_cons, asCS_psl, asCS_nil, asCW_cons, asCR_cons, asOM_cons, asOM_false, asOB_cons, asOB_false, asOG_dead, asOG_made, gS_mk, bind_some', onEx_exit, onEx_ret] at ev
    rw [if_neg (by decide)] at ev
    rw [h, Bool.true_and]
    unfold sees
    by_cases h1 : w < 0
    · rw [if_pos (by simpa using h1)] at ev
      rw [if_neg (by omega), decide_eq_false (by omega)]
      exact pc ev rfl
    rw [if_neg (by simpa using h1)] at ev
    by_cases h2 : w = 0
    · rw [if_pos (by simpa using h2)] at ev
      rw [if_pos h2]
      exact pc ev rfl
    rw [if_neg (by simpa using h2)] at ev
    rw [if_neg h2, decide_eq_true (show 0 < w by omega), Bool.true_and]
    by_cases h3 : w = v.s
    · rw [if_pos (by simpa using h3)] at ev
      rw [decide_eq_true h3]
      exact pc ev rfl
    rw [if_neg (by simpa using h3)] at ev
    rw [decide_eq_false h3, Bool.false_or]
    by_cases h4 : w < v.n
    · rw [if_pos (by simpa using h4)] at ev
      rw [decide_eq_true h4, Bool.true_and]
      exact pc ev rfl
    · rw [if_neg (by simpa using h4)] at ev
      rw [decide_eq_false h4, Bool.false_and]
      exact pc ev rfl
  · rw [if_neg h, if_pos (by decide)] at ev
    rw [Bool.eq_false_iff.2 h, Bool.false_and]
    exact pc ev rfl
end Go.Pvm.S
