/- Part of the proof: locks: alike by the document; who holds a key. -/
import Derived.Test.YtbhjbehdafcnoaaSirK
set_option linter.unusedSimpArgs false
set_option linter.unusedVariables false
set_option maxRecDepth 100000
namespace Go.Pvm.S
open Go.Pvm Go.Proofs
theorem spRSameAll (a b : List Lk) (hl : a.length < 1000000) : pcall Cω 16 [.psl false (a.map Lk.e), .psl false (b.map Lk.e)] = some (.bool (decide (a = b))) := by
  have ev := eqK16 Cω Lω (a.map Lk.e) (b.map Lk.e)
  rw [List.length_map, List.length_map] at ev
  by_cases h : a.length = b.length
  · rw [if_neg (by rw [neLen]; exact fun e => e h)] at ev
    have lp : Lω 16 lcK16_4 0 (stK16_4 (a.map Lk.e) (b.map Lk.e) 0) [] = _ :=
      loopCheck (fun i => stK16_4 (a.map Lk.e) (b.map Lk.e) (i : Nat)) [] a (fun i x => decide (b[i]? = some x)) (.ret, mkS 68 [(4, .bool false)], []) (.exit 0, mkS 68 [], []) (fun i x hg hi => by
        have hb : b[i]? = some b[i] := List.getElem?_eq_getElem (by omega)
        have hm := mapGet (f := Lk.e) hb
        have hs := spRSame x.q (b[i]).q
        have hdi : decide (((i : Nat) : Int) < (((a.map Lk.e).length : Nat) : Int)) = true := by rw [decide_eq_true_eq, List.length_map]; omega
        simp only [Lk.e] at hm
        rw [lqK16_4]
        simp only [hdi, nn, Int.toNat_natCast, bind_some', mapGet hg, hm, Lk.e, asInt_int, asBool_bool, asStr_str, asSl_psl, asSl_nil, asAgg_agg, asTup_tup, asCons_cons, asNil_nil, asFlt_flt, asRef_ref, asWhole_whole, asView_view, asWv_whole, asWv_view, asFn_fn, asPref_pref, asOCons_cons, asONil_nil, asBox_box, asMade_made, asGone_dead, asGone_made, bind_some', onEx_exit, onEx_ret, wrap_succ (show i < 4611686018427387904 by omega), hs, if_true, hb]
        clear hs hm
        by_cases hx : x = b[i]
        · subst hx
          simp only [bne_self_eq_false, beq_self_eq_true, Bool.not_true, Bool.false_eq_true, if_false, decide_true, if_true]
        · have hx' : ¬ b[i] = x := fun e => hx e.symm
          simp only [hx', Option.some.injEq, decide_false, Bool.false_eq_true, if_false]
          by_cases e1 : x.t = (b[i]).t
          · rw [if_neg (by rw [bne_iff_ne]; exact fun e => e e1)]
            by_cases e2 : x.k = (b[i]).k
            · rw [if_neg (by rw [bne_iff_ne]; exact fun e => e e2)]
              by_cases e3 : x.p = (b[i]).p
              · rw [if_neg (by rw [bne_iff_ne]; exact fun e => e e3)]
                have e4 : ¬ x.q = (b[i]).q := fun e4 => hx (Lk.ext'.2 ⟨e1, e2, e3, e4⟩)
                rw [beq_eq_false_iff_ne.2 e4, if_pos (by decide)]
              · rw [if_pos (by rw [bne_iff_ne]; exact e3)]
            · rw [if_pos (by rw [bne_iff_ne]; exact e2)]
          · rw [if_pos (by rw [bne_iff_ne]; exact e1)]) (by rw [lqK16_4]; simp only [List.length_map, Int.lt_irrefl, decide_false, Bool.false_eq_true, if_false])
    rw [lp, eqAll0 h] at ev
    by_cases h2 : a = b
    · simp only [h2, decide_true, if_true, asInt_int, asBool_bool, asStr_str, asSl_psl, asSl_nil, asAgg_agg, asTup_tup, asCons_cons, asNil_nil, asFlt_flt, asRef_ref, asWhole_whole, asView_view, asWv_whole, asWv_view, asFn_fn, asPref_pref, asOCons_cons, asONil_nil, asBox_box, asMade_made, asGone_dead, asGone_made, bind_some', onEx_exit, onEx_ret] at ev ⊢
      exact pc ev rfl
    · simp only [h2, decide_false, Bool.false_eq_true, if_false, asInt_int, asBool_bool, asStr_str, asSl_psl, asSl_nil, asAgg_agg, asTup_tup, asCons_cons, asNil_nil, asFlt_flt, asRef_ref, asWhole_whole, asView_view, asWv_whole, asWv_view, asFn_fn, asPref_pref, asOCons_cons, asONil_nil, asBox_box, asMade_made, asGone_dead, asGone_made, bind_some', onEx_exit, onEx_ret, mkS_hit, mkS_miss, ne_eq, not_false_eq_true, Nat.reduceLT, Nat.reduceEqDiff] at ev ⊢
      exact pc ev rfl
  · rw [if_pos (by rw [neLen]; exact h)] at ev
    have h2 : ¬ a = b := fun e => h (by rw [e])
    rw [decide_eq_false h2]
    exact pc ev rfl
theorem spInI (l : List Int) (n : Int) (hl : l.length < 1000000) : pcall Cω 25 [.psl false (l.map ie), .int .i64 n] = some (.bool (l.any fun a => a == n)) := by
  have ev := eqK25 Cω Lω (l.map ie) n
  have lp : Lω 25 lcK25_2 0 (stK25_2 (l.map ie) n 0) [] = _ :=
    loopFind (fun i => stK25_2 (l.map ie) n (i : Nat)) [] l (fun a => a == n) (fun _ _ => (.ret, mkS 18 [(4, .bool true)], [])) (.exit 0, mkS 18 [], []) (fun i a hg hi => by
      have hdi : decide (((i : Nat) : Int) < (((l.map ie).length : Nat) : Int)) = true := by rw [decide_eq_true_eq, List.length_map]; omega
      rw [lqK25_2]
      simp only [hdi, nn, Int.toNat_natCast, bind_some', mapGet hg, ie, asInt_int, asBool_bool, asStr_str, asSl_psl, asSl_nil, asAgg_agg, asTup_tup, asCons_cons, asNil_nil, asFlt_flt, asRef_ref, asWhole_whole, asView_view, asWv_whole, asWv_view, asFn_fn, asPref_pref, asOCons_cons, asONil_nil, asBox_box, asMade_made, asGone_dead, asGone_made, bind_some', onEx_exit, onEx_ret, wrap_succ (show i < 4611686018427387904 by omega), if_true]) (by rw [lqK25_2]; simp only [List.length_map, Int.lt_irrefl, decide_false, Bool.false_eq_true, if_false])
  rw [lp] at ev
  rw [← findI_any _ 0]
  cases hq : findI (fun a : Int => a == n) l 0 with
  | none =>
    rw [hq] at ev
    simp only [fndO_none, asInt_int, asBool_bool, asStr_str, asSl_psl, asSl_nil, asAgg_agg, asTup_tup, asCons_cons, asNil_nil, asFlt_flt, asRef_ref, asWhole_whole, asView_view, asWv_whole, asWv_view, asFn_fn, asPref_pref, asOCons_cons, asONil_nil, asBox_box, asMade_made, asGone_dead, asGone_made, bind_some', onEx_exit, onEx_ret, if_true] at ev
    exact pc ev rfl
  | some y =>
    rw [hq] at ev
    simp only [fndO_some, asInt_int, asBool_bool, asStr_str, asSl_psl, asSl_nil, asAgg_agg, asTup_tup, asCons_cons, asNil_nil, asFlt_flt, asRef_ref, asWhole_whole, asView_view, asWv_whole, asWv_view, asFn_fn, asPref_pref, asOCons_cons, asONil_nil, asBox_box, asMade_made, asGone_dead, asGone_made, bind_some', onEx_exit, onEx_ret, mkS_hit, mkS_miss, ne_eq, not_false_eq_true, Nat.reduceLT, Nat.reduceEqDiff] at ev
    exact pc ev rfl
theorem spContI (l : List Int) (n : Int) (hl : l.length < 1000000) : pcall Cω 44 [.psl false (l.map ie), .int .i64 n] = some (.bool (l.any fun a => n == a)) := by
  have e1 := eqK64 Cω Lω (l.map ie) n
  have lp : Lω 64 lcK64_2 0 (stK64_2 (l.map ie) n (l.length : Nat) 0) [] = _ :=
    loopFind (fun i => stK64_2 (l.map ie) n (l.length : Nat) (i : Nat)) [] l (fun a => n == a) (fun i _ => (.ret, mkS 19 [(4, .int .i64 (i : Nat))], [])) (.exit 0, mkS 19 [], []) (fun i a hg hi => by
      have hdi : decide (((i : Nat) : Int) < ((l.length : Nat) : Int)) = true := by rw [decide_eq_true_eq]; omega
      rw [lqK64_2]
      simp only [hdi, nn, Int.toNat_natCast, bind_some', mapGet hg, ie, asInt_int, asBool_bool, asStr_str, asSl_psl, asSl_nil, asAgg_agg, asTup_tup, asCons_cons, asNil_nil, asFlt_flt, asRef_ref, asWhole_whole, asView_view, asWv_whole, asWv_view, asFn_fn, asPref_pref, asOCons_cons, asONil_nil, asBox_box, asMade_made, asGone_dead, asGone_made, bind_some', onEx_exit, onEx_ret, wrap_succ (show i < 4611686018427387904 by omega), if_true]) (by rw [lqK64_2]; simp only [Int.lt_irrefl, decide_false, Bool.false_eq_true, if_false])
  have ev := eqK44 Cω Lω (l.map ie) n
  rw [List.length_map, lp] at e1
  rw [← findI_any _ 0]
  cases hq : findI (fun a : Int => n == a) l 0 with
  | none =>
    rw [hq] at e1
    simp only [fndO_none, asInt_int, asBool_bool, asStr_str, asSl_psl, asSl_nil, asAgg_agg, asTup_tup, asCons_cons, asNil_nil, asFlt_flt, asRef_ref, asWhole_whole, asView_view, asWv_whole, asWv_view, asFn_fn, asPref_pref, asOCons_cons, asONil_nil, asBox_box, asMade_made, asGone_dead, asGone_made, bind_some', onEx_exit, onEx_ret, if_true] at e1
    have h9 : pcall Cω 64 [.psl false (l.map ie), .int .i64 n] = some (.int .i64 (-1)) := pc e1 rfl
    rw [h9] at ev
    exact pc ev rfl
  | some y =>
    rw [hq] at e1
    simp only [fndO_some, asInt_int, asBool_bool, asStr_str, asSl_psl, asSl_nil, asAgg_agg, asTup_tup, asCons_cons, asNil_nil, asFlt_flt, asRef_ref, asWhole_whole, asView_view, asWv_whole, asWv_view, asFn_fn, asPref_pref, asOCons_cons, asONil_nil, asBox_box, asMade_made, asGone_dead, asGone_made, bind_some', onEx_exit, onEx_ret, mkS_hit, mkS_miss, ne_eq, not_false_eq_true, Nat.reduceLT, Nat.reduceEqDiff] at e1
    have h9 : pcall Cω 64 [.psl false (l.map ie), .int .i64 n] = some (.int .i64 (y.1 : Nat)) := pc e1 rfl
    rw [h9] at ev
    simp only [asInt_int, asBool_bool, asStr_str, asSl_psl, asSl_nil, asAgg_agg, asTup_tup, asCons_cons, asNil_nil, asFlt_flt, asRef_ref, asWhole_whole, asView_view, asWv_whole, asWv_view, asFn_fn, asPref_pref, asOCons_cons, asONil_nil, asBox_box, asMade_made, asGone_dead, asGone_made, bind_some', onEx_exit, onEx_ret, decide_eq_true (nn y.1)] at ev
    exact pc ev rfl
end Go.Pvm.S
