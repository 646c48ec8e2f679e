/- Part of the proof: two laws of views: whom any view sees; whom all views see. -/
import Derived.Test.YtkipbdbmeanffaaViewE
set_option linter.unusedSimpArgs false
set_option linter.unusedVariables false
set_option maxRecDepth 100000
namespace Go.Pvm.S
open Go.Pvm Go.Proofs
theorem spAwake : pcall Cω 7 [] = some (.bool true) := by
  have h0 : pcall Cω 8 [.int .i64 7, .int .i64 8, .psl false [[.int .i64 5]]] = some (.tuple [.agg [.int .i64 7, .int .i64 8, .psl false [[.int .i64 5]]], .int .i64 0]) :=
    spOf 7 8 [5] (by decide) (by decide) (by decide) (by decide)
  have se : ∀ (w : Int) (b : Bool), ((Vw.mk 7 8 [5]).ok && sees ⟨7, 8, [5]⟩ w) = b → pcall Cω 12 [.agg [.int .i64 7, .int .i64 8, .psl false [[.int .i64 5]]], .int .i64 w] = some (.bool b) := fun w b hb => by
    rw [← hb]; exact spSees ⟨7, 8, [5]⟩ w (by decide)
  have ev := eqK7 Cω Lω
  simp only [h0, asInt_int, asBool_bool, asStr_str, asSl_psl, asSl_nil, asAgg_agg, asTup_tup, asCons_cons, asNil_nil, asFlt_flt, asRef_ref, asWhole_whole, asView_view, asWv_whole, asWv_view, asFn_fn, asPref_pref, asOCons_cons, asONil_nil, asBox_box, asMade_made, asGone_dead, asGone_made, bind_some', onEx_exit, onEx_ret] at ev
  rw [if_pos (by decide), se 6 true (by decide), se 7 true (by decide), se 5 false (by decide), se 8 false (by decide)] at ev
  simp only [asInt_int, asBool_bool, asStr_str, asSl_psl, asSl_nil, asAgg_agg, asTup_tup, asCons_cons, asNil_nil, asFlt_flt, asRef_ref, asWhole_whole, asView_view, asWv_whole, asWv_view, asFn_fn, asPref_pref, asOCons_cons, asONil_nil, asBox_box, asMade_made, asGone_dead, asGone_made, bind_some', onEx_exit, onEx_ret, if_true, Bool.not_false] at ev
  exact pc ev rfl
theorem lawSees (v u : Vw) (w : Int) (hv : v.a.length < 4611686018427387904) (hu : u.a.length < 4611686018427387904) : pcall Cω 6 [.agg v.e, .agg u.e, .int .i64 w] = some (.bool true) := by
  have ev := eqK6 Cω Lω v.s v.n (v.a.map ie) u.s u.n (u.a.map ie) w
  have hs : Sml [v, u] := fun x hx => by
    rcases List.mem_cons.1 hx with rfl | hx
    · exact hv
    · rcases List.mem_cons.1 hx with rfl | hx
      · exact hu
      · cases hx
  have a1 := spMay v hv
  have a2 := spRAll [v, u] w (show 2 < 4611686018427387904 by decide) hs
  have a3 := spCheck v hv
  have a4 := spSees v w hv
  have a5 := spRSees v w hv
  have a6 := spAll [v, u] w (show 2 < 4611686018427387904 by decide) hs
  have a7 := spSame v u hv
  have a8 := spRSame v u hv
  simp only [List.map_cons, List.map_nil, Vw.e] at a1 a2 a3 a4 a5 a6 a7 a8 ⊢
  simp only [spAwake, a1, a2, a3, a4, a5, a6, a7, a8, asInt_int, asBool_bool, asStr_str, asSl_psl, asSl_nil, asAgg_agg, asTup_tup, asCons_cons, asNil_nil, asFlt_flt, asRef_ref, asWhole_whole, asView_view, asWv_whole, asWv_view, asFn_fn, asPref_pref, asOCons_cons, asONil_nil, asBox_box, asMade_made, asGone_dead, asGone_made, bind_some', onEx_exit, onEx_ret] at ev
  simp only [ite_self, beq_self_eq_true, if_true] at ev
  by_cases h1 : (decide (((List.length (v.a.map ie) : Nat) : Int) > 200)) = true
  · rw [if_pos h1] at ev
    exact pc ev rfl
  rw [if_neg h1] at ev
  by_cases h2 : (decide (((List.length (u.a.map ie) : Nat) : Int) > 200)) = true
  · rw [if_pos h2] at ev
    exact pc ev rfl
  rw [if_neg h2] at ev
  cases hk : v.ok with
  | true =>
    rw [hk] at ev
    simp only [if_true, Bool.true_and, beq_self_eq_true] at ev
    exact pc ev rfl
  | false =>
    rw [hk] at ev
    simp only [Bool.false_eq_true, if_false, Bool.false_and, beq_self_eq_true, if_true] at ev
    rw [if_pos (by decide)] at ev
    exact pc ev rfl
theorem mk51 (a b c : PV) : List.getD (mkS 51 [(0, a), (1, b), (5, c)]) 0 .undef = a ∧ List.getD (mkS 51 [(0, a), (1, b), (5, c)]) 1 .undef = b ∧ List.getD (mkS 51 [(0, a), (1, b), (5, c)]) 5 .undef = c := ⟨rfl, rfl, rfl⟩
/-- As far as twenty of them, and until a great one. -/
theorem lpLAll (l : List Vw) (w : Int) (hl : l.length < 4611686018427387904) (hs : Sml l) : ∀ k i : Nat, i + k = l.length → ∀ b : Bool, b = ((l.take i).all fun v => v.ok && sees v w) → i ≤ 20 →
    Lω 5 lcK5_3 0 (stK5_3 (l.map Vw.e) w b (i : Nat)) [] = some (.ret, mkS 51 [(4, .bool true)], []) ∨
    ∃ b' : Bool, (l.length ≤ 20 → b' = l.all fun v => v.ok && sees v w) ∧ Lω 5 lcK5_3 0 (stK5_3 (l.map Vw.e) w b (i : Nat)) [] = some (.exit 0, mkS 51 [(0, .psl false (l.map Vw.e)), (1, .int .i64 w), (5, .bool b')], [])
  | 0, i, h, b, hb, hi20 => by
    refine .inr ⟨b, fun _ => ?_, lw ?_⟩
    · rw [hb, List.take_of_length_le (by omega)]
    · rw [lqK5_3, if_neg (by simp; omega)]
  | k + 1, i, h, b, hb, hi20 => by
    have hi : i < l.length := by omega
    have hg := List.getElem?_eq_getElem hi
    by_cases h20 : i < 20
    · have hse := spSees l[i] w (hs _ (List.getElem_mem hi))
      have hst : ∀ r, stepLKK cfg kcfg Cω Lω 5 lcK5_3 0 (stK5_3 (l.map Vw.e) w b (i : Nat)) [] = r → _ := fun r h => h
      by_cases hlen : (l[i].a.map ie).length > 200
      · refine .inl (lw ?_)
        rw [lqK5_3, if_pos (by simp; omega), if_pos (by simp; omega), if_pos (by omega), Int.toNat_natCast, mapGet hg]
        simp only [Vw.e, asInt_int, asBool_bool, asStr_str, asSl_psl, asSl_nil, asAgg_agg, asTup_tup, asCons_cons, asNil_nil, asFlt_flt, asRef_ref, asWhole_whole, asView_view, asWv_whole, asWv_view, asFn_fn, asPref_pref, asOCons_cons, asONil_nil, asBox_box, asMade_made, asGone_dead, asGone_made, bind_some', onEx_exit, onEx_ret]
        rw [if_pos (by simp at hlen ⊢; omega), spAwake]
        simp only [asInt_int, asBool_bool, asStr_str, asSl_psl, asSl_nil, asAgg_agg, asTup_tup, asCons_cons, asNil_nil, asFlt_flt, asRef_ref, asWhole_whole, asView_view, asWv_whole, asWv_view, asFn_fn, asPref_pref, asOCons_cons, asONil_nil, asBox_box, asMade_made, asGone_dead, asGone_made, bind_some', onEx_exit, onEx_ret]
      · have step : ∀ b2 : Bool, b2 = ((l.take (i + 1)).all fun v => v.ok && sees v w) → stepLKK cfg kcfg Cω Lω 5 lcK5_3 0 (stK5_3 (l.map Vw.e) w b (i : Nat)) [] = Lω 5 lcK5_3 0 (stK5_3 (l.map Vw.e) w b2 ((i + 1 : Nat) : Int)) [] := fun b2 hb2 => by
          rw [lqK5_3, if_pos (by simp; omega), if_pos (by simp; omega), if_pos (by omega), Int.toNat_natCast, mapGet hg]
          simp only [Vw.e, asInt_int, asBool_bool, asStr_str, asSl_psl, asSl_nil, asAgg_agg, asTup_tup, asCons_cons, asNil_nil, asFlt_flt, asRef_ref, asWhole_whole, asView_view, asWv_whole, asWv_view, asFn_fn, asPref_pref, asOCons_cons, asONil_nil, asBox_box, asMade_made, asGone_dead, asGone_made, bind_some', onEx_exit, onEx_ret] at hse ⊢
          rw [if_neg (by simp at hlen ⊢; omega), wrap_succ (by omega)]
          rw [List.take_succ_eq_append_getElem hi, List.all_append, ← hb] at hb2
          cases b with
          | true =>
            rw [if_pos rfl, if_pos (by omega), hse]
            simp only [asInt_int, asBool_bool, asStr_str, asSl_psl, asSl_nil, asAgg_agg, asTup_tup, asCons_cons, asNil_nil, asFlt_flt, asRef_ref, asWhole_whole, asView_view, asWv_whole, asWv_view, asFn_fn, asPref_pref, asOCons_cons, asONil_nil, asBox_box, asMade_made, asGone_dead, asGone_made, bind_some', onEx_exit, onEx_ret]
            rw [hb2]
            simp only [List.all_cons, List.all_nil, Bool.and_true, Bool.true_and]
          | false =>
            rw [if_neg (by decide), hb2, Bool.false_and]
        rcases lpLAll l w hl hs k (i + 1) (by omega) ((l.take (i + 1)).all fun v => v.ok && sees v w) rfl (by omega) with q | ⟨b', q1, q2⟩
        · exact .inl (lw ((step _ rfl).trans q))
        · exact .inr ⟨b', q1, lw ((step _ rfl).trans q2)⟩
    · refine .inr ⟨b, fun hle => absurd hle (by omega), lw ?_⟩
      rw [lqK5_3, if_pos (by simp; omega), if_neg (by simp; omega)]
theorem lawAll (l : List Vw) (w : Int) (hl : l.length < 4611686018427387904) (hs : Sml l) : pcall Cω 5 [.psl false (l.map Vw.e), .int .i64 w] = some (.bool true) := by
  have ev := eqK5 Cω Lω (l.map Vw.e) w
  have a0 := spAll [] w (by decide) (fun v hv => by cases hv)
  have a1 := spAll l w hl hs
  simp only [List.map_nil, List.all_nil] at a0
  have lp := lpLAll l w hl hs l.length 0 (by omega) true rfl (by omega)
  rw [natz] at lp
  rcases lp with lp | ⟨b', q1, lp⟩
  · rw [lp] at ev
    simp only [asInt_int, asBool_bool, asStr_str, asSl_psl, asSl_nil, asAgg_agg, asTup_tup, asCons_cons, asNil_nil, asFlt_flt, asRef_ref, asWhole_whole, asView_view, asWv_whole, asWv_view, asFn_fn, asPref_pref, asOCons_cons, asONil_nil, asBox_box, asMade_made, asGone_dead, asGone_made, bind_some', onEx_exit, onEx_ret, getD_mkS (show 4 < 51 by decide)] at ev
    exact pc ev rfl
  · rw [lp] at ev
    simp only [asInt_int, asBool_bool, asStr_str, asSl_psl, asSl_nil, asAgg_agg, asTup_tup, asCons_cons, asNil_nil, asFlt_flt, asRef_ref, asWhole_whole, asView_view, asWv_whole, asWv_view, asFn_fn, asPref_pref, asOCons_cons, asONil_nil, asBox_box, asMade_made, asGone_dead, asGone_made, bind_some', onEx_exit, onEx_ret, mk51, if_true, a0, a1, spAwake] at ev
    by_cases h20 : l.length ≤ 20
    · rw [if_neg (by simp; omega), ← q1 h20] at ev
      simp only [beq_self_eq_true, if_true] at ev
      exact pc ev rfl
    · rw [if_pos (by simp; omega)] at ev
      exact pc ev rfl
end Go.Pvm.S
