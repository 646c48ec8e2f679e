/- Part of the proof: edges: one more, without somebody's: the program's and the document's. -/
import Derived.Test.YtgchbgaicgbebaaEdgeD
set_option linter.unusedSimpArgs false
set_option linter.unusedVariables false
set_option maxRecDepth 100000
namespace Go.Pvm.S
open Go.Pvm Go.Proofs
theorem rm1 {n : Nat} (h : n < 4294967295) : (n + 1) * 16 ≤ 140737488355328 := by omega
theorem rm2 {n : Nat} (h : n < 4294967295) : (n + 1 + 1) * 16 ≤ 140737488355328 := by omega
def hasE (l : List Ed) (x : Ed) : Bool := l.any fun a => a.f == x.f && a.t == x.t
theorem spRHas (l : List Ed) (x : Ed) (hl : l.length < 4611686018427387904) : pcall Cω 35 [.psl false (l.map Ed.e), .int .i64 x.f, .int .i64 x.t] = some (.bool (hasE l x)) := by
  have ev := eqK35 Cω Lω (l.map Ed.e) x.f x.t
  have lp : Lω 35 lcK35_2 0 (stK35_2 (l.map Ed.e) x.f x.t 0) [] = _ :=
    loopFind (fun i => stK35_2 (l.map Ed.e) x.f x.t (i : Nat)) [] l (fun a => a.f == x.f && a.t == x.t) (fun _ _ => (.ret, mkS 30 [(6, .bool true)], [])) (.exit 0, mkS 30 [], []) (fun i a hg hi => by
      rw [lqK35_2]
      simp only [decide_eq_true_eq, Int.ofNat_lt, List.length_map, if_true, nn, true_and, Int.toNat_natCast, bind_some', hi, mapGet hg, Ed.e, asInt_int, asBool_bool, asStr_str, asSl_psl, asSl_nil, asAgg_agg, asTup_tup, asCons_cons, asNil_nil, asFlt_flt, asRef_ref, asWhole_whole, asView_view, asWv_whole, asWv_view, asFn_fn, asPref_pref, asOCons_cons, asONil_nil, asBox_box, asMade_made, asGone_dead, asGone_made, bind_some', onEx_exit, onEx_ret, wrap_succ (show i < 4611686018427387904 by omega)]
      cases (a.f == x.f) <;> cases (a.t == x.t) <;> rfl) (by rw [lqK35_2]; simp only [decide_eq_true_eq, Int.ofNat_lt, List.length_map, if_true, nn, true_and, Int.toNat_natCast, bind_some', Nat.lt_irrefl, if_false])
  rw [lp] at ev
  unfold hasE
  rw [← findI_any _ 0]
  cases hq : findI (fun a : Ed => a.f == x.f && a.t == x.t) l 0 with
  | none =>
    rw [hq] at ev
    simp only [fndO_none, asInt_int, asBool_bool, asStr_str, asSl_psl, asSl_nil, asAgg_agg, asTup_tup, asCons_cons, asNil_nil, asFlt_flt, asRef_ref, asWhole_whole, asView_view, asWv_whole, asWv_view, asFn_fn, asPref_pref, asOCons_cons, asONil_nil, asBox_box, asMade_made, asGone_dead, asGone_made, bind_some', onEx_exit, onEx_ret, if_true] at ev
    exact pc ev rfl
  | some y =>
    rw [hq] at ev
    simp only [fndO_some, asInt_int, asBool_bool, asStr_str, asSl_psl, asSl_nil, asAgg_agg, asTup_tup, asCons_cons, asNil_nil, asFlt_flt, asRef_ref, asWhole_whole, asView_view, asWv_whole, asWv_view, asFn_fn, asPref_pref, asOCons_cons, asONil_nil, asBox_box, asMade_made, asGone_dead, asGone_made, bind_some', onEx_exit, onEx_ret, mkS_hit, mkS_miss, ne_eq, not_false_eq_true, Nat.reduceLT, Nat.reduceEqDiff] at ev
    exact pc ev rfl
/-- Behind it. -/
def bfE (x a : Ed) : Bool := decide (a.f > x.f) || (a.f == x.f && decide (a.t > x.t))
def addR (l : List Ed) (x : Ed) : List Ed × Int := if hasE l x = true then (l, 0) else if l.length = 600 then (l, 12) else (insB (bfE x) x l, 0)
theorem spRAdd (l : List Ed) (x : Ed) (hl : l.length < 1073741824) : pcall Cω 21 [.psl false (l.map Ed.e), .int .i64 x.f, .int .i64 x.t] = some (.tuple [.psl false ((addR l x).1.map Ed.e), .int .i64 (addR l x).2]) := by
  have ev := eqK21 Cω Lω (l.map Ed.e) x.f x.t
  rw [spRHas l x (by omega), List.length_map] at ev
  unfold addR
  by_cases h : hasE l x = true
  · simp only [h, asInt_int, asBool_bool, asStr_str, asSl_psl, asSl_nil, asAgg_agg, asTup_tup, asCons_cons, asNil_nil, asFlt_flt, asRef_ref, asWhole_whole, asView_view, asWv_whole, asWv_view, asFn_fn, asPref_pref, asOCons_cons, asONil_nil, asBox_box, asMade_made, asGone_dead, asGone_made, bind_some', onEx_exit, onEx_ret, if_true] at ev ⊢
    exact pc ev rfl
  have h' : hasE l x = false := by simpa using h
  by_cases h2 : l.length = 600
  · simp only [h', asInt_int, asBool_bool, asStr_str, asSl_psl, asSl_nil, asAgg_agg, asTup_tup, asCons_cons, asNil_nil, asFlt_flt, asRef_ref, asWhole_whole, asView_view, asWv_whole, asWv_view, asFn_fn, asPref_pref, asOCons_cons, asONil_nil, asBox_box, asMade_made, asGone_dead, asGone_made, bind_some', onEx_exit, onEx_ret, if_true, if_false, h2, Bool.false_eq_true] at ev ⊢
    rw [if_pos (by decide)] at ev
    exact pc ev rfl
  have lp : Lω 21 lcK21_8 0 (stK21_8 (l.map Ed.e) x.f x.t false 0) [.made true 2 []] = _ :=
    loopFold (fun i (s : Bool × List Ed) => stK21_8 (l.map Ed.e) x.f x.t s.1 (i : Nat)) (fun _ s => [.made true 2 (s.2.map Ed.e)]) l (insG (bfE x) x)
      (fun s => (.exit 0, mkS 78 [(1, .int .i64 x.f), (2, .int .i64 x.t), (8, whole 0 2), (9, .bool s.1)], [.made true 2 (s.2.map Ed.e)])) (fun i s => s.2.length ≤ 2 * i) (fun i a s hg hi hs => by
      refine ⟨?_, ?_⟩
      · unfold insG
        split
        · simp only [List.length_append, List.length_cons, List.length_nil]; omega
        · simp only [List.length_append, List.length_cons, List.length_nil]; omega
      · rw [lqK21_8]
        have hs9 : s.2.length < 4294967295 := by omega
        have b1 : ((s.2.map Ed.e).length + ([[(.int .i64 a.f), (.int .i64 a.t)]] : List (List PV)).length) * 16 ≤ 140737488355328 := by rw [List.length_map]; exact rm1 hs9
        have b2 : ((s.2.map Ed.e).length + ([[(.int .i64 x.f), (.int .i64 x.t)]] : List (List PV)).length) * 16 ≤ 140737488355328 := by rw [List.length_map]; exact rm1 hs9
        have b3 : ((s.2.map Ed.e ++ ([[(.int .i64 x.f), (.int .i64 x.t)]] : List (List PV))).length + ([[(.int .i64 a.f), (.int .i64 a.t)]] : List (List PV)).length) * 16 ≤ 140737488355328 := by rw [List.length_append, List.length_map]; exact rm2 hs9
        have m1 : s.2.map Ed.e ++ ([[(.int .i64 a.f), (.int .i64 a.t)]] : List (List PV)) = (s.2 ++ [a]).map Ed.e := map_app1 (f := Ed.e) s.2 a
        have m2 : s.2.map Ed.e ++ ([[(.int .i64 x.f), (.int .i64 x.t)]] : List (List PV)) ++ ([[(.int .i64 a.f), (.int .i64 a.t)]] : List (List PV)) = (s.2 ++ [x] ++ [a]).map Ed.e := (congrArg (fun z => z ++ [Ed.e a]) (map_app1 (f := Ed.e) s.2 x)).trans (map_app1 (f := Ed.e) (s.2 ++ [x]) a)
        unfold insG bfE
        obtain ⟨dn, out⟩ := s
        simp only at b1 b2 b3 m1 m2 ⊢
        simp only [gt_iff_lt, Int.ofNat_lt, List.length_map, if_true, nn, true_and, Int.toNat_natCast, bind_some', decide_true, hi, mapGet hg, Ed.e, asInt_int, asBool_bool, asStr_str, asSl_psl, asSl_nil, asAgg_agg, asTup_tup, asCons_cons, asNil_nil, asFlt_flt, asRef_ref, asWhole_whole, asView_view, asWv_whole, asWv_view, asFn_fn, asPref_pref, asOCons_cons, asONil_nil, asBox_box, asMade_made, asGone_dead, asGone_made, bind_some', onEx_exit, onEx_ret, wrap_succ (show i < 4611686018427387904 by omega)]
        simp only [List.length_map, Ed.e] at b1 b2 b3 m1 m2
        simp only [b1, b2, b3, m1, m2, if_true]
        cases dn <;> cases decide (x.f < a.f) <;> cases (a.f == x.f) <;> cases decide (x.t < a.t) <;> rfl) (fun s hs => by rw [lqK21_8]; simp only [decide_eq_true_eq, Int.ofNat_lt, List.length_map, if_true, nn, true_and, Int.toNat_natCast, bind_some', Nat.lt_irrefl, if_false]) (false, []) (Nat.le_refl _)
  have hi := foldI_ins (bf := bfE x) (x := x) l 0 []
  have hb := foldI_inv (g := insG (bfE x) x) (fun i s => s.2.length ≤ 2 * i) l 0 (false, []) (Nat.le_refl _) (fun j a s hs => by
    unfold insG
    split
    · simp only [List.length_append, List.length_cons, List.length_nil]; omega
    · simp only [List.length_append, List.length_cons, List.length_nil]; omega)
  rw [lp] at ev
  simp only [h', asInt_int, asBool_bool, asStr_str, asSl_psl, asSl_nil, asAgg_agg, asTup_tup, asCons_cons, asNil_nil, asFlt_flt, asRef_ref, asWhole_whole, asView_view, asWv_whole, asWv_view, asFn_fn, asPref_pref, asOCons_cons, asONil_nil, asBox_box, asMade_made, asGone_dead, asGone_made, bind_some', onEx_exit, onEx_ret, if_true, if_false, h2, Bool.false_eq_true, mkS_hit, mkS_miss, ne_eq, not_false_eq_true, Nat.reduceLT, Nat.reduceEqDiff] at ev ⊢
  rw [if_neg (by rw [beq_iff_eq]; omega)] at ev
  rw [List.nil_append] at hi
  rw [← hi]
  cases hq : foldI (insG (bfE x) x) l 0 (false, []) with
  | mk dn out =>
    rw [hq] at ev hb
    simp only at ev hb
    cases dn with
    | true =>
      simp only [Bool.not_true, Bool.false_eq_true, if_false, if_true] at ev ⊢
      exact pc ev rfl
    | false =>
      simp only [Bool.not_false, Bool.false_eq_true, if_false, if_true] at ev ⊢
      rw [if_pos (by simp only [List.length_map, List.length_cons, List.length_nil]; omega)] at ev
      rw [List.map_append]
      exact pc ev rfl
def dropE (l : List Ed) (x : Int) : List Ed := l.filter fun a => !(a.f == x || a.t == x)
theorem spRDrop (l : List Ed) (x : Int) (hl : l.length < 1073741824) : pcall Cω 18 [.psl false (l.map Ed.e), .int .i64 x] = some (.psl false ((dropE l x).map Ed.e)) := by
  have ev := eqK18 Cω Lω (l.map Ed.e) x
  have lp : Lω 18 lcK18_3 0 (stK18_3 (l.map Ed.e) x 0) [.made true 2 []] = _ :=
    loopFold (fun i (s : List Ed) => stK18_3 (l.map Ed.e) x (i : Nat)) (fun _ s => [.made true 2 (s.map Ed.e)]) l (fun _ a s => if (!(a.f == x || a.t == x)) = true then s ++ [a] else s)
      (fun s => (.exit 0, mkS 38 [(5, whole 0 2)], [.made true 2 (s.map Ed.e)])) (fun i s => s.length ≤ i) (fun i a s hg hi hs => by
      refine ⟨?_, ?_⟩
      · split
        · simp only [List.length_append, List.length_cons, List.length_nil]; omega
        · omega
      · rw [lqK18_3]
        have hs9 : s.length < 4294967295 := by omega
        have b1 : ((s.map Ed.e).length + ([[(.int .i64 a.f), (.int .i64 a.t)]] : List (List PV)).length) * 16 ≤ 140737488355328 := by rw [List.length_map]; exact rm1 hs9
        have m1 : s.map Ed.e ++ ([[(.int .i64 a.f), (.int .i64 a.t)]] : List (List PV)) = (s ++ [a]).map Ed.e := map_app1 (f := Ed.e) s a
        simp only [Int.ofNat_lt, List.length_map, if_true, nn, true_and, Int.toNat_natCast, bind_some', decide_true, hi, mapGet hg, Ed.e, asInt_int, asBool_bool, asStr_str, asSl_psl, asSl_nil, asAgg_agg, asTup_tup, asCons_cons, asNil_nil, asFlt_flt, asRef_ref, asWhole_whole, asView_view, asWv_whole, asWv_view, asFn_fn, asPref_pref, asOCons_cons, asONil_nil, asBox_box, asMade_made, asGone_dead, asGone_made, bind_some', onEx_exit, onEx_ret, wrap_succ (show i < 4611686018427387904 by omega)]
        simp only [List.length_map, Ed.e] at b1 m1
        simp only [b1, m1, if_true, bne]
        cases (a.f == x) <;> cases (a.t == x) <;> rfl) (fun s hs => by rw [lqK18_3]; simp only [decide_eq_true_eq, Int.ofNat_lt, List.length_map, if_true, nn, true_and, Int.toNat_natCast, bind_some', Nat.lt_irrefl, if_false]) [] (Nat.le_refl _)
  rw [lp, foldI_filter] at ev
  simp only [asInt_int, asBool_bool, asStr_str, asSl_psl, asSl_nil, asAgg_agg, asTup_tup, asCons_cons, asNil_nil, asFlt_flt, asRef_ref, asWhole_whole, asView_view, asWv_whole, asWv_view, asFn_fn, asPref_pref, asOCons_cons, asONil_nil, asBox_box, asMade_made, asGone_dead, asGone_made, bind_some', onEx_exit, onEx_ret, if_true, mkS_hit, mkS_miss, ne_eq, not_false_eq_true, Nat.reduceLT, Nat.reduceEqDiff] at ev
  exact pc ev rfl
theorem spDrop (l : List Ed) (x : Int) (hl : l.length < 1073741824) : pcall Cω 14 [.psl false (l.map Ed.e), .int .i64 x] = some (.psl false ((dropE l x).map Ed.e)) := by
  have ev := eqK14 Cω Lω (l.map Ed.e) x
  rw [cloneK_map l Ed.e_ok (by omega)] at ev
  simp only [bind_some', delE_sp l x hl] at ev
  unfold delE_res at ev
  unfold dropE
  by_cases h : l.any (fun a => a.f == x || a.t == x) = true
  · rw [if_pos h] at ev
    simp only [asInt_int, asBool_bool, asStr_str, asSl_psl, asSl_nil, asAgg_agg, asTup_tup, asCons_cons, asNil_nil, asFlt_flt, asRef_ref, asWhole_whole, asView_view, asWv_whole, asWv_view, asFn_fn, asPref_pref, asOCons_cons, asONil_nil, asBox_box, asMade_made, asGone_dead, asGone_made, bind_some', onEx_exit, onEx_ret] at ev
    refine pc ev ?_
    simp only [viewK, fzK]
    show PV.psl false _ = _
    simp only [List.drop_zero]
    rw [List.take_append_of_le_length (by rw [List.length_map]; exact Nat.le_refl _), List.take_of_length_le (by rw [List.length_map]; exact Nat.le_refl _)]
  · rw [if_neg h] at ev
    simp only [asInt_int, asBool_bool, asStr_str, asSl_psl, asSl_nil, asAgg_agg, asTup_tup, asCons_cons, asNil_nil, asFlt_flt, asRef_ref, asWhole_whole, asView_view, asWv_whole, asWv_view, asFn_fn, asPref_pref, asOCons_cons, asONil_nil, asBox_box, asMade_made, asGone_dead, asGone_made, bind_some', onEx_exit, onEx_ret] at ev
    have hf : l.filter (fun a => !(a.f == x || a.t == x)) = l := List.filter_eq_self.2 fun a ha => by
      have h' : l.any (fun a => a.f == x || a.t == x) = false := by simpa using h
      have := List.any_eq_false.1 h' a ha
      simpa using this
    rw [hf]
    exact pc ev rfl
/-! ### One more: the program's -/
theorem mayE_chain {l : List Ed} (h : mayE l = true) : ∀ i a b, l[i]? = some a → l[i + 1]? = some b → ordE a b < 0 := by
  unfold mayE at h
  rw [Bool.and_eq_true, allI_iff] at h
  intro i a b ha hb
  have h2 := h.2 (i + 1) b hb
  unfold okE at h2
  rw [Nat.zero_add] at h2
  simp only [Bool.and_eq_true, Bool.or_eq_true, Bool.not_eq_true', Bool.not_eq_true, Bool.false_eq_true, Bool.true_eq_false, decide_eq_true_eq, decide_eq_false_iff_not, beq_iff_eq, beq_eq_false_iff_ne, bne_iff_ne, ne_eq, ge_iff_le, gt_iff_lt, if_true, if_false, false_and, true_and, and_true, and_false, false_or, true_or, or_true, or_false, Bool.not_true, Bool.not_false, decide_true, decide_false, Bool.and_true, Bool.true_and, Bool.false_and, Bool.and_false, Bool.or_true, Bool.true_or, Bool.false_or, Bool.or_false, not_true, not_false_eq_true, Int.not_lt, Int.not_le, Decidable.not_not] at h2
  have h3 := h2.2.2.2
  rcases h3 with h3 | h3
  · omega
  · rw [Nat.add_sub_cancel, List.getD_eq_getElem?_getD, ha] at h3
    exact h3
theorem ordE_tr (a b c : Ed) (h1 : ordE a b < 0) (h2 : ordE b c < 0) : ordE a c < 0 := by
  rw [ordE_lt] at *
  omega
def ahdE (l : List Ed) (x : Ed) : Nat := (l.takeWhile fun a => decide (ordE a x < 0)).length
theorem ahdE_spec {l : List Ed} (h : mayE l = true) (x : Ed) : ahdE l x ≤ l.length ∧ ∀ k a, l[k]? = some a → (ordE a x < 0 ↔ k < ahdE l x) := by
  obtain ⟨h1, h2⟩ := front_spec (q := fun a => decide (ordE a x < 0)) (l := l) fun i j a b hij ha hb hq => by
    have := chain_lt (lt := fun a b => ordE a b < 0) ordE_tr (mayE_chain h) hij ha hb
    rw [decide_eq_true_eq] at hq ⊢
    exact ordE_tr _ _ _ this hq
  refine ⟨h1, fun k a hk => ?_⟩
  have h3 := h2 k a hk
  rw [decide_eq_true_eq] at h3
  exact h3
def addP (l : List Ed) (x : Ed) : List Ed × Int := if (mayE l && inn x.f && inn x.t && !(x.f == x.t)) = true then addR l x else ([], 1)
theorem hasE_mem {l : List Ed} {x : Ed} : hasE l x = true ↔ x ∈ l := by
  unfold hasE
  rw [List.any_eq_true]
  constructor
  · rintro ⟨a, ha, h⟩
    rw [Bool.and_eq_true, beq_iff_eq, beq_iff_eq] at h
    obtain ⟨f, t⟩ := a
    obtain ⟨g, u⟩ := x
    simp only at h
    rw [← h.1, ← h.2]; exact ha
  · intro h
    exact ⟨x, h, by simp⟩
theorem there_has {l : List Ed} (h : mayE l = true) (x : Ed) : (match l[ahdE l x]? with | some a => ordE a x == 0 | none => false) = hasE l x := by
  obtain ⟨h1, h2⟩ := ahdE_spec h x
  have key : (match l[ahdE l x]? with | some a => ordE a x == 0 | none => false) = true ↔ hasE l x = true := by
    rw [hasE_mem]
    constructor
    · intro hq
      cases hg : l[ahdE l x]? with
      | none => rw [hg] at hq; cases hq
      | some a =>
        rw [hg] at hq
        simp only [beq_iff_eq] at hq
        rw [ordE_eq] at hq
        subst hq
        exact List.mem_iff_getElem?.2 ⟨_, hg⟩
    · intro hm
      obtain ⟨k, hk⟩ := List.mem_iff_getElem?.1 hm
      have e0 : ordE x x = 0 := ordE_eq.2 rfl
      have hk1 : ¬ k < ahdE l x := fun hlt => by have := (h2 k x hk).2 hlt; omega
      have hk2 : k = ahdE l x := by
        by_cases hlt : ahdE l x < k
        · have hkl := (List.getElem?_eq_some_iff.1 hk).1
          have hg := List.getElem?_eq_getElem (show ahdE l x < l.length by omega)
          have := chain_lt (lt := fun a b => ordE a b < 0) ordE_tr (mayE_chain h) hlt hg hk
          have := (h2 _ _ hg).1 this
          omega
        · omega
      rw [← hk2, hk]
      simp [e0]
  exact Bool.eq_iff_iff.2 key
theorem insE_eq {l : List Ed} (h : mayE l = true) (x : Ed) (hx : ¬ hasE l x = true) : l.take (ahdE l x) ++ x :: l.drop (ahdE l x) = insB (bfE x) x l := by
  obtain ⟨h1, h2⟩ := ahdE_spec h x
  refine (insB_at h1 (fun k a hk hlt => ?_) (fun a ha => ?_)).symm
  · have := (h2 k a hk).2 hlt
    rw [ordE_lt] at this
    unfold bfE
    simp only [Bool.and_eq_true, Bool.or_eq_true, Bool.not_eq_true', Bool.not_eq_true, Bool.false_eq_true, Bool.true_eq_false, decide_eq_true_eq, decide_eq_false_iff_not, beq_iff_eq, beq_eq_false_iff_ne, bne_iff_ne, ne_eq, ge_iff_le, gt_iff_lt, if_true, if_false, false_and, true_and, and_true, and_false, false_or, true_or, or_true, or_false, Bool.not_true, Bool.not_false, decide_true, decide_false, Bool.and_true, Bool.true_and, Bool.false_and, Bool.and_false, Bool.or_true, Bool.true_or, Bool.false_or, Bool.or_false, not_true, not_false_eq_true, Int.not_lt, Int.not_le, Decidable.not_not]
    rcases this with h | ⟨h, h'⟩
    · have : ¬ a.f = x.f := by omega
      simp [this]; omega
    · simp [h]; omega
  · have h3 : ¬ ordE a x < 0 := fun hq => Nat.lt_irrefl _ ((h2 _ a ha).1 hq)
    have h4 : ¬ a = x := fun he => hx (hasE_mem.2 (by rw [← he]; exact List.mem_iff_getElem?.2 ⟨_, ha⟩))
    have h5 : ¬ (a.f = x.f ∧ a.t = x.t) := fun hh => h4 (by obtain ⟨f, t⟩ := a; obtain ⟨g, u⟩ := x; simp only at hh; rw [hh.1, hh.2])
    rw [ordE_lt] at h3
    unfold bfE
    simp only [Bool.and_eq_true, Bool.or_eq_true, Bool.not_eq_true', Bool.not_eq_true, Bool.false_eq_true, Bool.true_eq_false, decide_eq_true_eq, decide_eq_false_iff_not, beq_iff_eq, beq_eq_false_iff_ne, bne_iff_ne, ne_eq, ge_iff_le, gt_iff_lt, if_true, if_false, false_and, true_and, and_true, and_false, false_or, true_or, or_true, or_false, Bool.not_true, Bool.not_false, decide_true, decide_false, Bool.and_true, Bool.true_and, Bool.false_and, Bool.and_false, Bool.or_true, Bool.true_or, Bool.false_or, Bool.or_false, not_true, not_false_eq_true, Int.not_lt, Int.not_le, Decidable.not_not]
    omega
theorem spAdd (l : List Ed) (x : Ed) (hl : l.length < 1073741824) : pcall Cω 15 [.psl false (l.map Ed.e), .int .i64 x.f, .int .i64 x.t] = some (.tuple [.psl false ((addP l x).1.map Ed.e), .int .i64 (addP l x).2]) := by
  have ev := eqK15 Cω Lω (l.map Ed.e) x.f x.t
  rw [spCheck l (by omega)] at ev
  simp only [asInt_int, asBool_bool, asStr_str, asSl_psl, asSl_nil, asAgg_agg, asTup_tup, asCons_cons, asNil_nil, asFlt_flt, asRef_ref, asWhole_whole, asView_view, asWv_whole, asWv_view, asFn_fn, asPref_pref, asOCons_cons, asONil_nil, asBox_box, asMade_made, asGone_dead, asGone_made, bind_some', onEx_exit, onEx_ret, spInF] at ev
  unfold addP
  by_cases hm : mayE l = true
  case neg =>
    have hm' : mayE l = false := by simpa using hm
    simp only [hm', Bool.false_and, Bool.false_eq_true, if_false] at ev ⊢
    rw [if_pos (by decide)] at ev
    exact pc ev rfl
  simp only [hm, if_true, Bool.true_and] at ev ⊢
  rw [if_neg (by decide)] at ev
  by_cases h1 : inn x.f = true
  case neg =>
    have h1' : inn x.f = false := by simpa using h1
    simp only [h1', Bool.false_and, Bool.false_eq_true, if_false, if_true, Bool.not_false] at ev ⊢
    exact pc ev rfl
  by_cases h2 : inn x.t = true
  case neg =>
    have h2' : inn x.t = false := by simpa using h2
    simp only [h1, h2', Bool.false_and, Bool.and_false, Bool.true_and, Bool.false_eq_true, if_false, if_true, Bool.not_false, Bool.not_true] at ev ⊢
    exact pc ev rfl
  by_cases h3 : (x.f == x.t) = true
  · simp only [h1, h2, h3, Bool.false_and, Bool.and_false, Bool.true_and, Bool.false_eq_true, if_false, if_true, Bool.not_false, Bool.not_true] at ev ⊢
    exact pc ev rfl
  have h3' : (x.f == x.t) = false := by simpa using h3
  simp only [h1, h2, h3', Bool.false_and, Bool.and_false, Bool.true_and, Bool.false_eq_true, if_false, if_true, Bool.not_false, Bool.not_true] at ev ⊢
  obtain ⟨p1, p2⟩ := ahdE_spec hm x
  have hb : pcall Cω 31 [.psl false (l.map Ed.e), .agg [.int .i64 x.f, .int .i64 x.t], .func 32 []] = some (.tuple [.int .i64 (ahdE l x : Nat), .bool (hasE l x)]) := by
    rw [← there_has hm x]
    exact bfE_sp l x hl (ahdE l x) p1 p2
  rw [cloneK_map l Ed.e_ok (by omega)] at ev
  simp only [bind_some'] at ev
  rw [hb] at ev
  simp only [asInt_int, asBool_bool, asStr_str, asSl_psl, asSl_nil, asAgg_agg, asTup_tup, asCons_cons, asNil_nil, asFlt_flt, asRef_ref, asWhole_whole, asView_view, asWv_whole, asWv_view, asFn_fn, asPref_pref, asOCons_cons, asONil_nil, asBox_box, asMade_made, asGone_dead, asGone_made, bind_some', onEx_exit, onEx_ret, List.length_map] at ev
  unfold addR
  by_cases hh : hasE l x = true
  · simp only [hh, if_true] at ev ⊢
    exact pc ev rfl
  have hh' : hasE l x = false := by simpa using hh
  simp only [hh', Bool.false_eq_true, if_false] at ev ⊢
  by_cases h6 : l.length = 600
  · rw [if_pos (by rw [beq_iff_eq]; omega)] at ev
    rw [if_pos h6]
    exact pc ev rfl
  · rw [if_neg (by rw [beq_iff_eq]; omega), if_pos ⟨nn _, by rw [Int.toNat_natCast]; exact p1⟩, if_pos (by simp only [List.length_cons, List.length_nil]; omega)] at ev
    rw [if_neg h6]
    rw [← insE_eq hm x hh, List.map_append, List.map_cons, List.map_take, List.map_drop]
    refine pc ev ?_
    rw [Int.toNat_natCast]
    simp only [List.append_assoc]
    rfl
end Go.Pvm.S
