/- Part of the proof: locks: who holds a key. -/
import Derived.Test.YtbhjbehdafcnoaaSirL
set_option linter.unusedSimpArgs false
set_option linter.unusedVariables false
set_option maxRecDepth 100000
namespace Go.Pvm.S
open Go.Pvm Go.Proofs
theorem rm8 {n : Nat} (h : n < 4294967295) : (n + 1) * 8 ≤ 140737488355328 := by omega
def hG (q : Wd) : Nat → Lk → List Int → List Int := fun _ a out => if (covL a (kyL a.t q) && !(out.any fun b => a.t == b)) = true then out ++ [a.t] else out
def hold (l : List Lk) (q : Wd) : List Int := foldI (hG q) l 0 []
theorem spHolders (l : List Lk) (q : Wd) (hl : l.length < 100000) : pcall Cω 17 [.psl false (l.map Lk.e), .float .f64 q.toNat] = some (.psl false ((if mayL l = true then hold l q else []).map ie)) := by
  have ev := eqK17 Cω Lω (l.map Lk.e) q.toNat
  rw [spCheckL l (by omega), List.length_map] at ev
  simp only [asInt_int, asBool_bool, asStr_str, asSl_psl, asSl_nil, asAgg_agg, asTup_tup, asCons_cons, asNil_nil, asFlt_flt, asRef_ref, asWhole_whole, asView_view, asWv_whole, asWv_view, asFn_fn, asPref_pref, asOCons_cons, asONil_nil, asBox_box, asMade_made, asGone_dead, asGone_made, bind_some', onEx_exit, onEx_ret] at ev
  by_cases hm : mayL l = true
  case neg =>
    have hm' : mayL l = false := by simpa using hm
    simp only [hm', Bool.false_eq_true, if_false] at ev ⊢
    rw [if_pos (by decide)] at ev
    exact pc ev rfl
  simp only [hm, if_true] at ev ⊢
  rw [if_neg (by decide)] at ev
  have lp : Lω 17 lcK17_5 0 (stK17_5 q.toNat (l.map Lk.e) (l.length : Nat) 0) [.made true 1 []] = _ :=
    loopFold (fun i (_ : List Int) => stK17_5 q.toNat (l.map Lk.e) (l.length : Nat) (i : Nat)) (fun _ s => [.made true 1 (s.map ie)]) l (hG q)
      (fun s => (.exit 0, mkS 38 [(5, whole 0 1)], [.made true 1 (s.map ie)])) (fun i s => s.length ≤ i) (fun i a s hg hi hs => by
      refine ⟨?_, ?_⟩
      · unfold hG
        split
        · simp only [List.length_append, List.length_cons, List.length_nil]; omega
        · omega
      · have hc := spCovers a (kyL a.t q)
        have hk := spContI s a.t (by omega)
        have hdi : decide (((i : Nat) : Int) < ((l.length : Nat) : Int)) = true := by rw [decide_eq_true_eq]; omega
        have hs9 : s.length < 4294967295 := by omega
        have b1 : ((s.map ie).length + ([[.int .i64 a.t]] : List (List PV)).length) * 8 ≤ 140737488355328 := by rw [List.length_map]; exact rm8 hs9
        have m1 : s.map ie ++ ([[.int .i64 a.t]] : List (List PV)) = (s ++ [a.t]).map ie := map_app1 (f := ie) s a.t
        simp only [Lk.e] at hc
        have hc' : pcall Cω 32 [.agg [.int .i64 a.t, .int .i64 a.k, .float .f64 a.q.toNat, .int .i64 a.p], .agg [.int .i64 a.t, .int .i64 1, .float .f64 (keyV q).toNat, .int .i64 0]] = some (.bool (covL a (kyL a.t q))) := hc
        rw [lqK17_5]
        simp only [hdi, nn, Int.toNat_natCast, bind_some', mapGet hg, Lk.e, asInt_int, asBool_bool, asStr_str, asSl_psl, asSl_nil, asAgg_agg, asTup_tup, asCons_cons, asNil_nil, asFlt_flt, asRef_ref, asWhole_whole, asView_view, asWv_whole, asWv_view, asFn_fn, asPref_pref, asOCons_cons, asONil_nil, asBox_box, asMade_made, asGone_dead, asGone_made, bind_some', onEx_exit, onEx_ret, wrap_succ (show i < 4611686018427387904 by omega), if_true, spKey, hc', hk, b1]
        simp only [m1]
        unfold hG
        cases covL a (kyL a.t q) <;> cases (s.any fun b => a.t == b) <;> rfl) (fun s hs => by rw [lqK17_5]; simp only [Int.lt_irrefl, decide_false, Bool.false_eq_true, if_false]) [] (Nat.le_refl _)
  rw [lp] at ev
  simp only [asInt_int, asBool_bool, asStr_str, asSl_psl, asSl_nil, asAgg_agg, asTup_tup, asCons_cons, asNil_nil, asFlt_flt, asRef_ref, asWhole_whole, asView_view, asWv_whole, asWv_view, asFn_fn, asPref_pref, asOCons_cons, asONil_nil, asBox_box, asMade_made, asGone_dead, asGone_made, bind_some', onEx_exit, onEx_ret, if_true, mkS_hit, mkS_miss, ne_eq, not_false_eq_true, Nat.reduceLT, Nat.reduceEqDiff] at ev
  exact pc ev rfl
theorem ptInt (n : Int) : partOf Try.prog 3 (ie n) 0 = some (.int .i64 n) := by kernel_rfl
def lastI (out : List Int) : Int := out.getD (out.length - 1) 0
def rhG (q : Wd) : Nat → Lk → List Int → List Int := fun _ a out => if (covL a (kyL a.t q) && (decide (out.length = 0) || !(lastI out == a.t))) = true then out ++ [a.t] else out
theorem rhG_len (q : Wd) (i : Nat) (a : Lk) (s : List Int) (h : s.length ≤ i) : (rhG q i a s).length ≤ i + 1 := by
  unfold rhG
  split
  · simp only [List.length_append, List.length_cons, List.length_nil]; omega
  · omega
theorem spRHolders (l : List Lk) (q : Wd) (hl : l.length < 100000) (hg0 : ∀ a ∈ l, okL a = true) : pcall Cω 22 [.psl false (l.map Lk.e), .float .f64 q.toNat] = some (.psl false ((foldI (rhG q) l 0 []).map ie)) := by
  have ev := eqK22 Cω Lω (l.map Lk.e) q.toNat
  have lp : Lω 22 lcK22_3 0 (stK22_3 (l.map Lk.e) q.toNat 0) [.made true 1 []] = _ :=
    loopFold (fun i (_ : List Int) => stK22_3 (l.map Lk.e) q.toNat (i : Nat)) (fun _ s => [.made true 1 (s.map ie)]) l (rhG q)
      (fun s => (.exit 0, mkS 58 [(5, whole 0 1)], [.made true 1 (s.map ie)])) (fun i s => s.length ≤ i) (fun i a s hg hi hs => by
      refine ⟨rhG_len q i a s hs, ?_⟩
      have ham := List.mem_iff_getElem?.2 ⟨i, hg⟩
      have hc := spRCovers a (kyL a.t q)
      rw [cov_eq (okL_kind (hg0 a ham))] at hc
      have hdi : decide (((i : Nat) : Int) < (((l.map Lk.e).length : Nat) : Int)) = true := by rw [decide_eq_true_eq, List.length_map]; omega
      have hs9 : s.length < 4294967295 := by omega
      have b1 : ((s.map ie).length + ([[.int .i64 a.t]] : List (List PV)).length) * 8 ≤ 140737488355328 := by rw [List.length_map]; exact rm8 hs9
      have m1 : s.map ie ++ ([[.int .i64 a.t]] : List (List PV)) = (s ++ [a.t]).map ie := map_app1 (f := ie) s a.t
      simp only [Lk.e] at hc
      have hc' : pcall Cω 35 [.agg [.int .i64 a.t, .int .i64 a.k, .float .f64 a.q.toNat, .int .i64 a.p], .agg [.int .i64 a.t, .int .i64 1, .float .f64 (keyV q).toNat, .int .i64 0]] = some (.bool (covL a (kyL a.t q))) := hc
      rw [lqK22_3]
      simp only [hdi, nn, Int.toNat_natCast, bind_some', mapGet hg, Lk.e, asInt_int, asBool_bool, asStr_str, asSl_psl, asSl_nil, asAgg_agg, asTup_tup, asCons_cons, asNil_nil, asFlt_flt, asRef_ref, asWhole_whole, asView_view, asWv_whole, asWv_view, asFn_fn, asPref_pref, asOCons_cons, asONil_nil, asBox_box, asMade_made, asGone_dead, asGone_made, bind_some', onEx_exit, onEx_ret, wrap_succ (show i < 4611686018427387904 by omega), if_true, spRKey, hc', b1]
      simp only [m1]
      unfold rhG
      cases covL a (kyL a.t q)
      · rfl
      · simp only [if_true, Bool.true_and]
        by_cases h0 : s.length = 0
        · rw [if_pos (by rw [beq_iff_eq, List.length_map]; omega), decide_eq_true h0, Bool.true_or, if_pos rfl]
        · have hl1 : IntKind.wrap .i64 ((((s.map ie).length : Nat) : Int) - 1) = ((s.length - 1 : Nat) : Int) := by rw [List.length_map, wrap_pred (by omega) (by omega)]
          have hgl : s[s.length - 1]? = some (lastI s) := by
            unfold lastI
            rw [List.getD_eq_getElem?_getD, List.getElem?_eq_getElem (show s.length - 1 < s.length by omega)]; rfl
          rw [if_neg (by rw [beq_iff_eq, List.length_map]; omega), hl1, if_pos ⟨nn _, by rw [List.length_map]; omega⟩, Int.toNat_natCast, mapGet hgl, decide_eq_false h0, Bool.false_or]
          simp only [bind_some', ptInt, asInt_int]
          by_cases he : lastI s = a.t
          · rw [if_neg (by rw [bne_iff_ne]; exact fun e => e he), if_neg (by rw [he]; simp)]
          · rw [if_pos (by rw [bne_iff_ne]; exact he), if_pos (by rw [beq_eq_false_iff_ne.2 he]; rfl)]) (fun s hs => by rw [lqK22_3]; simp only [List.length_map, Int.lt_irrefl, decide_false, Bool.false_eq_true, if_false]) [] (Nat.le_refl _)
  rw [lp] at ev
  simp only [asInt_int, asBool_bool, asStr_str, asSl_psl, asSl_nil, asAgg_agg, asTup_tup, asCons_cons, asNil_nil, asFlt_flt, asRef_ref, asWhole_whole, asView_view, asWv_whole, asWv_view, asFn_fn, asPref_pref, asOCons_cons, asONil_nil, asBox_box, asMade_made, asGone_dead, asGone_made, bind_some', onEx_exit, onEx_ret, if_true, mkS_hit, mkS_miss, ne_eq, not_false_eq_true, Nat.reduceLT, Nat.reduceEqDiff] at ev
  exact pc ev rfl
end Go.Pvm.S
