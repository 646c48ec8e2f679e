/- Part of the proof: locks: searched, struck; which may be: the program's and the document's. -/
import Derived.Test.YtbhjbehdafcnoaaSirB
set_option linter.unusedSimpArgs false
set_option linter.unusedVariables false
set_option maxRecDepth 100000
namespace Go.Pvm.S
open Go.Pvm Go.Proofs
theorem ptLk (a : Lk) : partOf Try.prog 46 a.e 0 = some (.agg a.e) := by
  obtain ⟨t, k, p, q⟩ := a
  kernel_rfl
/-! Searching by halves. -/
theorem bfL_lp (l : List Lk) (x : Lk) (hl : l.length < 1073741824) (p : Nat) (hp : p ≤ l.length) (hk : ∀ k a, l[k]? = some a → (ordL a x < 0 ↔ k < p)) : ∀ m lo hi : Nat, hi - lo ≤ m → lo ≤ p → p ≤ hi → hi ≤ l.length →
    Lω 69 lcK69_3_31 0 (stK69_3_31 (l.map Lk.e)  (l.length : Nat) (lo : Nat) (hi : Nat)) [.box true 46 [.int .i64 x.t, .int .i64 x.k, .float .f64 x.q.toNat, .int .i64 x.p]] = some (.exit 0, mkS 49 [(0, .psl false (l.map Lk.e)), (2, .func 31 []), (4, .ref 0 0 0), (8, .int .i64 (l.length : Nat)), (9, .int .i64 (p : Nat))], [.box true 46 [.int .i64 x.t, .int .i64 x.k, .float .f64 x.q.toNat, .int .i64 x.p]]) := by
  intro m
  induction m with
  | zero =>
    intro lo hi hm h1 h2 h3
    have : lo = hi := by omega
    subst this
    have : p = lo := by omega
    subst this
    refine lw ?_
    rw [lqK69_3_31, if_neg (by simp)]
  | succ m ih =>
    intro lo hi hm h1 h2 h3
    by_cases hlt : lo < hi
    · have hh : (lo + hi) / 2 < l.length := by omega
      have hg := List.getElem?_eq_getElem hh
      have hc := hk _ _ hg
      refine lw ?_
      rw [lqK69_3_31, if_pos (by simp; omega), half (by omega), if_pos (nn _), Int.toNat_natCast, mapGet hg]
      have hs := spOrdL l[(lo + hi) / 2] x
      simp only [Lk.e] at hs
      simp only [Lk.e, asInt_int, asBool_bool, asStr_str, asSl_psl, asSl_nil, asAgg_agg, asTup_tup, asCons_cons, asNil_nil, asFlt_flt, asRef_ref, asWhole_whole, asView_view, asWv_whole, asWv_view, asFn_fn, asPref_pref, asOCons_cons, asONil_nil, asBox_box, asMade_made, asGone_dead, asGone_made, bind_some', onEx_exit, onEx_ret, hs]
      by_cases hq : ordL l[(lo + hi) / 2] x < 0
      · rw [if_pos (by rw [decide_eq_true_eq]; exact hq), wrap_succ (by omega)]
        exact ih _ hi (by omega) (by have := hc.1 hq; omega) h2 h3
      · rw [if_neg (by rw [decide_eq_true_eq]; exact hq)]
        exact ih lo _ (by omega) h1 (by have : ¬ _ := fun h => hq (hc.2 h); omega) (by omega)
    · exact ih lo hi (by omega) h1 h2 h3
theorem bfL_sp (l : List Lk) (x : Lk) (hl : l.length < 1073741824) (p : Nat) (hp : p ≤ l.length) (hk : ∀ k a, l[k]? = some a → (ordL a x < 0 ↔ k < p)) :
    pcall Cω 69 [.psl false (l.map Lk.e), .agg x.e, .func 31 []] = some (.tuple [.int .i64 (p : Nat), .bool (match l[p]? with | some a => ordL a x == 0 | none => false)]) := by
  have ev := eqK69_31 Cω Lω (l.map Lk.e) x.t x.k x.q.toNat x.p
  have lp := bfL_lp l x hl p hp hk l.length 0 l.length (by omega) (by omega) hp (Nat.le_refl _)
  rw [natz] at lp
  try simp only [Lk.e] at lp
  rw [List.length_map] at ev
  try simp only [Lk.e] at ev
  try simp only [Lk.e]
  rw [lp] at ev
  simp only [asInt_int, asBool_bool, asStr_str, asSl_psl, asSl_nil, asAgg_agg, asTup_tup, asCons_cons, asNil_nil, asFlt_flt, asRef_ref, asWhole_whole, asView_view, asWv_whole, asWv_view, asFn_fn, asPref_pref, asOCons_cons, asONil_nil, asBox_box, asMade_made, asGone_dead, asGone_made, bind_some', onEx_exit, onEx_ret, mkS_hit, mkS_miss, ne_eq, not_false_eq_true, Nat.reduceLT, Nat.reduceEqDiff, if_true] at ev
  by_cases h : p < l.length
  · have hg := List.getElem?_eq_getElem h
    rw [if_pos (by rw [decide_eq_true_eq]; omega), if_pos (nn _), Int.toNat_natCast] at ev
    have hg2 := mapGet (f := Lk.e) hg
    simp only [Lk.e] at hg2
    rw [hg2] at ev
    have hs := spOrdL l[p] x
    simp only [Lk.e] at hs
    simp only [asInt_int, asBool_bool, asStr_str, asSl_psl, asSl_nil, asAgg_agg, asTup_tup, asCons_cons, asNil_nil, asFlt_flt, asRef_ref, asWhole_whole, asView_view, asWv_whole, asWv_view, asFn_fn, asPref_pref, asOCons_cons, asONil_nil, asBox_box, asMade_made, asGone_dead, asGone_made, bind_some', onEx_exit, onEx_ret, hs] at ev
    rw [hg]
    exact pc ev rfl
  · rw [if_neg (by rw [decide_eq_true_eq]; omega)] at ev
    rw [List.getElem?_eq_none (by omega)]
    exact pc ev rfl

theorem spSDropf (a : Lk) (x : Int) : pcall Cω 47 [.agg a.e, .pref [.int .i64 x]] = some (.bool (a.t == x)) := pc (eqK47 Cω Lω a.t a.k a.q.toNat a.p x) rfl
/-! The first that is so. -/
theorem delL_lpi (l : List Lk) (x : Int) (hl : l.length < 4611686018427387904) : Lω 65 lcK65_2_47 0 (stK65_2_47 (l.map Lk.e) x (l.length : Nat) 0) [] =
    some (fndO (findI (fun a => a.t == x) l 0) (fun i _ => (.ret, mkS 19 [(4, .int .i64 (i : Nat))], [])) (.exit 0, mkS 19 [], [])) :=
  loopFind (fun i => stK65_2_47 (l.map Lk.e) x (l.length : Nat) (i : Nat)) [] l (fun a => a.t == x) (fun i _ => (.ret, mkS 19 [(4, .int .i64 (i : Nat))], [])) (.exit 0, mkS 19 [], []) (fun i a hg hi => by
    have hs := spSDropf a x
    rw [lqK65_2_47]
    simp only [Lk.e] at hs
    simp only [decide_eq_true_eq, Int.ofNat_lt, List.length_map, if_true, nn, true_and, Int.toNat_natCast, bind_some', hi, mapGet hg, Lk.e, asInt_int, asBool_bool, asStr_str, asSl_psl, asSl_nil, asAgg_agg, asTup_tup, asCons_cons, asNil_nil, asFlt_flt, asRef_ref, asWhole_whole, asView_view, asWv_whole, asWv_view, asFn_fn, asPref_pref, asOCons_cons, asONil_nil, asBox_box, asMade_made, asGone_dead, asGone_made, bind_some', onEx_exit, onEx_ret, hs, wrap_succ (show i < 4611686018427387904 by omega)]) (by rw [lqK65_2_47]; simp only [decide_eq_true_eq, Int.ofNat_lt, List.length_map, if_true, nn, true_and, Int.toNat_natCast, bind_some', Nat.lt_irrefl, if_false])
theorem delL_idx (l : List Lk) (x : Int) (hl : l.length < 4611686018427387904) : pcall Cω 65 [.psl false (l.map Lk.e), .func 47 [.pref [.int .i64 x]]] = some (.int .i64 (fndO (findI (fun a => a.t == x) l 0) (fun i _ => ((i : Nat) : Int)) (-1))) := by
  have ev := eqK65_47 Cω Lω (l.map Lk.e) x
  have lp := delL_lpi l x hl
  rw [List.length_map, lp] at ev
  cases hq : findI (fun a => a.t == x) l 0 with
  | none =>
    rw [hq] at ev
    simp only [fndO_none, asInt_int, asBool_bool, asStr_str, asSl_psl, asSl_nil, asAgg_agg, asTup_tup, asCons_cons, asNil_nil, asFlt_flt, asRef_ref, asWhole_whole, asView_view, asWv_whole, asWv_view, asFn_fn, asPref_pref, asOCons_cons, asONil_nil, asBox_box, asMade_made, asGone_dead, asGone_made, bind_some', onEx_exit, onEx_ret, if_true] at ev
    exact pc ev rfl
  | some x =>
    rw [hq] at ev
    simp only [fndO_some, asInt_int, asBool_bool, asStr_str, asSl_psl, asSl_nil, asAgg_agg, asTup_tup, asCons_cons, asNil_nil, asFlt_flt, asRef_ref, asWhole_whole, asView_view, asWv_whole, asWv_view, asFn_fn, asPref_pref, asOCons_cons, asONil_nil, asBox_box, asMade_made, asGone_dead, asGone_made, bind_some', onEx_exit, onEx_ret, mkS_hit, mkS_miss, ne_eq, not_false_eq_true, Nat.reduceLT, Nat.reduceEqDiff] at ev
    exact pc ev rfl

/-! Struck where it lies. -/
def delL_res (l : List Lk) (x : Int) : PV × List KO := if l.any (fun a => a.t == x) = true
  then (viewK 0 4 0 (l.filter fun a => !(a.t == x)).length, [.made true 4 ((l.filter fun a => !(a.t == x)).map Lk.e ++ List.replicate (l.length - (l.filter fun a => !(a.t == x)).length) [.int .i64 0, .int .i64 0, .float .f64 0, .int .i64 0])])
  else (whole 0 4, [.made true 4 (l.map Lk.e)])
theorem delL_lp (l : List Lk) (x : Int) (hl : l.length < 4611686018427387904) (j : Nat) (K : List Lk) (hj : j ≤ l.length) (hK : K.length < j) : Lω 45 lcK45_5_47 1 (stK45_5_47 x (K.length : Nat) (j : Nat)) [.made true 4 ((K ++ l.drop K.length).map Lk.e)] =
    some (.exit 0, mkS 42 [(0, whole 0 4), (5, .int .i64 ((K ++ (l.drop j).filter fun a => !(a.t == x)).length : Nat))], [.made true 4 (((K ++ (l.drop j).filter fun a => !(a.t == x)) ++ l.drop (K ++ (l.drop j).filter fun a => !(a.t == x)).length).map Lk.e)]) := by
  have := loopG (fun j (K : List Lk) => stK45_5_47 x (K.length : Nat) (j : Nat)) (fun _ K => [.made true 4 ((K ++ l.drop K.length).map Lk.e)]) l (fun _ a K => .on (if (!(a.t == x)) = true then K ++ [a] else K))
    (fun K => (.exit 0, mkS 42 [(0, whole 0 4), (5, .int .i64 (K.length : Nat))], [.made true 4 ((K ++ l.drop K.length).map Lk.e)])) (fun j K => K.length < j) (f := 45) (cd := lcK45_5_47) (n0 := 1)
    (fun i a K hg hi hK => by
      have hlen : ((K ++ l.drop K.length).map Lk.e).length = l.length := by rw [List.length_map, List.length_append, List.length_drop]; omega
      have hgi : ((K ++ l.drop K.length).map Lk.e)[i]? = some (Lk.e a) := by
        refine mapGet ?_
        rw [List.getElem?_append_right (by omega), List.getElem?_drop, show K.length + (i - K.length) = i by omega]
        exact hg
      have hs := spSDropf a x
      simp only [Lk.e] at hs
      have hpt := ptLk a
      simp only [Lk.e] at hpt
      refine ⟨by split <;> (try simp only [List.length_append, List.length_cons, List.length_nil]) <;> omega, ?_⟩
      rw [lqK45_5_47]
      simp only [hlen, decide_eq_true_eq, Int.ofNat_lt, hi, if_true, nn, true_and, Int.toNat_natCast, hgi, bind_some', Lk.e, hpt, asInt_int, asBool_bool, asStr_str, asSl_psl, asSl_nil, asAgg_agg, asTup_tup, asCons_cons, asNil_nil, asFlt_flt, asRef_ref, asWhole_whole, asView_view, asWv_whole, asWv_view, asFn_fn, asPref_pref, asOCons_cons, asONil_nil, asBox_box, asMade_made, asGone_dead, asGone_made, bind_some', onEx_exit, onEx_ret, hs, wrap_succ (show i < 4611686018427387904 by omega)]
      by_cases hp : (!(a.t == x)) = true
      · rw [if_pos hp, if_pos hp, if_pos (by omega), if_pos (by omega), wrap_succ (by omega)]
        have hset : ((K ++ l.drop K.length).map Lk.e).set K.length (Lk.e a) = ((K ++ [a]) ++ l.drop (K ++ [a]).length).map Lk.e := by
          rw [← List.map_set]
          congr 1
          rw [List.set_append_right _ _ (Nat.le_refl _), Nat.sub_self, List.drop_eq_getElem_cons (by omega), List.set_cons_zero, List.append_assoc, List.length_append]
          rfl
        simp only [Lk.e] at hset
        rw [hset]
        simp only [List.length_append, List.length_cons, List.length_nil]
        try rfl
      · rw [if_neg hp, if_neg hp])
    (fun K hK => by
      have hlen : ((K ++ l.drop K.length).map Lk.e).length = l.length := by rw [List.length_map, List.length_append, List.length_drop]; omega
      rw [lqK45_5_47]
      simp only [hlen, decide_eq_true_eq, Nat.lt_irrefl, Int.ofNat_lt, if_false]) (l.length - j) j K (by omega) hK
  rw [this, runL_fold, foldI_filter]
theorem delL_sp (l : List Lk) (x : Int) (hl : l.length < 1073741824) : Cω 45 [whole 0 4, .func 47 [.pref [.int .i64 x]]] [.made true 4 (l.map Lk.e)] = some (delL_res l x) := by
  have ev := eqK45_47 Cω Lω x (l.map Lk.e) 
  have hx := delL_idx l x (by omega)
  simp only [hx, asInt_int, asBool_bool, asStr_str, asSl_psl, asSl_nil, asAgg_agg, asTup_tup, asCons_cons, asNil_nil, asFlt_flt, asRef_ref, asWhole_whole, asView_view, asWv_whole, asWv_view, asFn_fn, asPref_pref, asOCons_cons, asONil_nil, asBox_box, asMade_made, asGone_dead, asGone_made, bind_some', onEx_exit, onEx_ret] at ev
  unfold delL_res
  have hany := findI_any (p := fun a => a.t == x) l 0
  rw [← hany]
  cases hq : findI (fun a => a.t == x) l 0 with
  | none =>
    rw [hq] at ev
    simp only [fndO_none, beq_self_eq_true, if_true] at ev
    rw [if_neg (by decide)]
    exact cw ev
  | some y =>
    obtain ⟨i, b⟩ := y
    obtain ⟨_, hi, hb, hpb, hbe⟩ := findI_spec hq
    simp only [Nat.zero_add, Nat.sub_zero] at hi hb hbe
    rw [hq, fndO_some] at ev
    simp only at ev
    rw [if_neg (by rw [beq_iff_eq]; omega)] at ev
    have hil : i < l.length := by omega
    have hK0 : (l.take i).length = i := by rw [List.length_take]; omega
    have lp := delL_lp l x (by omega) (i + 1) (l.take i) (by omega) (by omega)
    rw [hK0, List.take_append_drop] at lp
    have hfl : l.take i ++ (l.drop (i + 1)).filter (fun a => !(a.t == x)) = l.filter (fun a => !(a.t == x)) := by
      conv => rhs; rw [← List.take_append_drop i l, List.filter_append, List.drop_eq_getElem_cons hil]
      have e1 : (l.take i).filter (fun a => !(a.t == x)) = l.take i := List.filter_eq_self.2 fun a ha => by
        obtain ⟨k, hk⟩ := List.mem_iff_getElem?.1 ha
        have hk2 : k < i := by have := (List.getElem?_eq_some_iff.1 hk).1; omega
        rw [List.getElem?_take_of_lt hk2] at hk
        have h9 : (a.t == x) = false := hbe k a hk2 hk
        rw [h9]; rfl
      have e2 : l[i] = b := by rw [List.getElem?_eq_getElem hil] at hb; exact Option.some.inj hb
      rw [e1, e2, List.filter_cons_of_neg (by have h9 : (fun a : Lk => a.t == x) b = true := hpb; show ¬ ((!((fun a : Lk => a.t == x) b)) = true); rw [h9]; decide)]
    rw [hfl] at lp
    rw [wrap_succ (by omega), lp] at ev
    have hfle : (l.filter fun a => !(a.t == x)).length ≤ l.length := List.length_filter_le _ _
    have hlen : (((l.filter fun a => !(a.t == x)) ++ l.drop (l.filter fun a => !(a.t == x)).length).map Lk.e).length = l.length := by rw [List.length_map, List.length_append, List.length_drop]; omega
    have hlt : (((l.filter fun a => !(a.t == x)) ++ l.drop (l.filter fun a => !(a.t == x)).length).map Lk.e).take (l.filter fun a => !(a.t == x)).length = (l.filter fun a => !(a.t == x)).map Lk.e := by
      rw [List.map_append, List.take_append_of_le_length (by rw [List.length_map]; exact Nat.le_refl _), List.take_of_length_le (by rw [List.length_map]; exact Nat.le_refl _)]
    simp only [asInt_int, asBool_bool, asStr_str, asSl_psl, asSl_nil, asAgg_agg, asTup_tup, asCons_cons, asNil_nil, asFlt_flt, asRef_ref, asWhole_whole, asView_view, asWv_whole, asWv_view, asFn_fn, asPref_pref, asOCons_cons, asONil_nil, asBox_box, asMade_made, asGone_dead, asGone_made, bind_some', onEx_exit, onEx_ret, mkS_hit, mkS_miss, ne_eq, not_false_eq_true, Nat.reduceLT, Nat.reduceEqDiff, if_true, numNat, hlen, hlt, Nat.le_refl, and_true, hfle] at ev
    have hd : (((l.filter fun a => !(a.t == x)) ++ l.drop (l.filter fun a => !(a.t == x)).length).map Lk.e).drop ((l.filter fun a => !(a.t == x)).length + (l.length - (l.filter fun a => !(a.t == x)).length)) = [] := List.drop_of_length_le (by rw [hlen]; omega)
    rw [hd, List.append_nil] at ev
    have hll : (List.map Lk.e (l.filter fun a => !(a.t == x)) ++ List.replicate (l.length - (l.filter fun a => !(a.t == x)).length) ([.int .i64 0, .int .i64 0, .float .f64 0, .int .i64 0] : List PV)).length = l.length := by rw [List.length_append, List.length_map, List.length_replicate]; omega
    rw [if_pos ⟨Nat.zero_le _, by rw [hll]; exact hfle⟩, Nat.sub_zero] at ev
    rw [if_pos (by rfl)]
    exact cw ev

theorem spPutc (a x : Lk) : pcall Cω 67 [.agg a.e, .pref x.e] = some (.bool (covL a x)) := by
  have ev := eqK67 Cω Lω a.t a.k a.q.toNat a.p x.t x.k x.q.toNat x.p
  have hs := spCovers a x
  simp only [Lk.e] at hs
  simp only [hs, asInt_int, asBool_bool, asStr_str, asSl_psl, asSl_nil, asAgg_agg, asTup_tup, asCons_cons, asNil_nil, asFlt_flt, asRef_ref, asWhole_whole, asView_view, asWv_whole, asWv_view, asFn_fn, asPref_pref, asOCons_cons, asONil_nil, asBox_box, asMade_made, asGone_dead, asGone_made, bind_some', onEx_exit, onEx_ret] at ev
  exact pc ev rfl
theorem spPutd (a x : Lk) : pcall Cω 68 [.agg a.e, .pref x.e] = some (.bool (covL x a)) := by
  have ev := eqK68 Cω Lω a.t a.k a.q.toNat a.p x.t x.k x.q.toNat x.p
  have hs := spCovers x a
  simp only [Lk.e] at hs
  simp only [hs, asInt_int, asBool_bool, asStr_str, asSl_psl, asSl_nil, asAgg_agg, asTup_tup, asCons_cons, asNil_nil, asFlt_flt, asRef_ref, asWhole_whole, asView_view, asWv_whole, asWv_view, asFn_fn, asPref_pref, asOCons_cons, asONil_nil, asBox_box, asMade_made, asGone_dead, asGone_made, bind_some', onEx_exit, onEx_ret] at ev
  exact pc ev rfl
/-! The first that is so. -/
theorem idxC_lpi (l : List Lk) (x : Lk) (hl : l.length < 4611686018427387904) : Lω 65 lcK65_2_67 0 (stK65_2_67 (l.map Lk.e) x.t x.k x.q.toNat x.p (l.length : Nat) 0) [] =
    some (fndO (findI (fun a => covL a x) l 0) (fun i _ => (.ret, mkS 19 [(4, .int .i64 (i : Nat))], [])) (.exit 0, mkS 19 [], [])) :=
  loopFind (fun i => stK65_2_67 (l.map Lk.e) x.t x.k x.q.toNat x.p (l.length : Nat) (i : Nat)) [] l (fun a => covL a x) (fun i _ => (.ret, mkS 19 [(4, .int .i64 (i : Nat))], [])) (.exit 0, mkS 19 [], []) (fun i a hg hi => by
    have hs := spPutc a x
    rw [lqK65_2_67]
    simp only [Lk.e] at hs
    simp only [decide_eq_true_eq, Int.ofNat_lt, List.length_map, if_true, nn, true_and, Int.toNat_natCast, bind_some', hi, mapGet hg, Lk.e, asInt_int, asBool_bool, asStr_str, asSl_psl, asSl_nil, asAgg_agg, asTup_tup, asCons_cons, asNil_nil, asFlt_flt, asRef_ref, asWhole_whole, asView_view, asWv_whole, asWv_view, asFn_fn, asPref_pref, asOCons_cons, asONil_nil, asBox_box, asMade_made, asGone_dead, asGone_made, bind_some', onEx_exit, onEx_ret, hs, wrap_succ (show i < 4611686018427387904 by omega)]) (by rw [lqK65_2_67]; simp only [decide_eq_true_eq, Int.ofNat_lt, List.length_map, if_true, nn, true_and, Int.toNat_natCast, bind_some', Nat.lt_irrefl, if_false])
theorem idxC_idx (l : List Lk) (x : Lk) (hl : l.length < 4611686018427387904) : pcall Cω 65 [.psl false (l.map Lk.e), .func 67 [.pref [.int .i64 x.t, .int .i64 x.k, .float .f64 x.q.toNat, .int .i64 x.p]]] = some (.int .i64 (fndO (findI (fun a => covL a x) l 0) (fun i _ => ((i : Nat) : Int)) (-1))) := by
  have ev := eqK65_67 Cω Lω (l.map Lk.e) x.t x.k x.q.toNat x.p
  have lp := idxC_lpi l x hl
  rw [List.length_map, lp] at ev
  cases hq : findI (fun a => covL a x) l 0 with
  | none =>
    rw [hq] at ev
    simp only [fndO_none, asInt_int, asBool_bool, asStr_str, asSl_psl, asSl_nil, asAgg_agg, asTup_tup, asCons_cons, asNil_nil, asFlt_flt, asRef_ref, asWhole_whole, asView_view, asWv_whole, asWv_view, asFn_fn, asPref_pref, asOCons_cons, asONil_nil, asBox_box, asMade_made, asGone_dead, asGone_made, bind_some', onEx_exit, onEx_ret, if_true] at ev
    exact pc ev rfl
  | some x =>
    rw [hq] at ev
    simp only [fndO_some, asInt_int, asBool_bool, asStr_str, asSl_psl, asSl_nil, asAgg_agg, asTup_tup, asCons_cons, asNil_nil, asFlt_flt, asRef_ref, asWhole_whole, asView_view, asWv_whole, asWv_view, asFn_fn, asPref_pref, asOCons_cons, asONil_nil, asBox_box, asMade_made, asGone_dead, asGone_made, bind_some', onEx_exit, onEx_ret, mkS_hit, mkS_miss, ne_eq, not_false_eq_true, Nat.reduceLT, Nat.reduceEqDiff] at ev
    exact pc ev rfl

/-! The first that is so. -/
theorem delP_lpi (l : List Lk) (x : Lk) (hl : l.length < 4611686018427387904) : Lω 65 lcK65_2_68 0 (stK65_2_68 (l.map Lk.e) x.t x.k x.q.toNat x.p (l.length : Nat) 0) [] =
    some (fndO (findI (fun a => covL x a) l 0) (fun i _ => (.ret, mkS 19 [(4, .int .i64 (i : Nat))], [])) (.exit 0, mkS 19 [], [])) :=
  loopFind (fun i => stK65_2_68 (l.map Lk.e) x.t x.k x.q.toNat x.p (l.length : Nat) (i : Nat)) [] l (fun a => covL x a) (fun i _ => (.ret, mkS 19 [(4, .int .i64 (i : Nat))], [])) (.exit 0, mkS 19 [], []) (fun i a hg hi => by
    have hs := spPutd a x
    rw [lqK65_2_68]
    simp only [Lk.e] at hs
    simp only [decide_eq_true_eq, Int.ofNat_lt, List.length_map, if_true, nn, true_and, Int.toNat_natCast, bind_some', hi, mapGet hg, Lk.e, asInt_int, asBool_bool, asStr_str, asSl_psl, asSl_nil, asAgg_agg, asTup_tup, asCons_cons, asNil_nil, asFlt_flt, asRef_ref, asWhole_whole, asView_view, asWv_whole, asWv_view, asFn_fn, asPref_pref, asOCons_cons, asONil_nil, asBox_box, asMade_made, asGone_dead, asGone_made, bind_some', onEx_exit, onEx_ret, hs, wrap_succ (show i < 4611686018427387904 by omega)]) (by rw [lqK65_2_68]; simp only [decide_eq_true_eq, Int.ofNat_lt, List.length_map, if_true, nn, true_and, Int.toNat_natCast, bind_some', Nat.lt_irrefl, if_false])
theorem delP_idx (l : List Lk) (x : Lk) (hl : l.length < 4611686018427387904) : pcall Cω 65 [.psl false (l.map Lk.e), .func 68 [.pref [.int .i64 x.t, .int .i64 x.k, .float .f64 x.q.toNat, .int .i64 x.p]]] = some (.int .i64 (fndO (findI (fun a => covL x a) l 0) (fun i _ => ((i : Nat) : Int)) (-1))) := by
  have ev := eqK65_68 Cω Lω (l.map Lk.e) x.t x.k x.q.toNat x.p
  have lp := delP_lpi l x hl
  rw [List.length_map, lp] at ev
  cases hq : findI (fun a => covL x a) l 0 with
  | none =>
    rw [hq] at ev
    simp only [fndO_none, asInt_int, asBool_bool, asStr_str, asSl_psl, asSl_nil, asAgg_agg, asTup_tup, asCons_cons, asNil_nil, asFlt_flt, asRef_ref, asWhole_whole, asView_view, asWv_whole, asWv_view, asFn_fn, asPref_pref, asOCons_cons, asONil_nil, asBox_box, asMade_made, asGone_dead, asGone_made, bind_some', onEx_exit, onEx_ret, if_true] at ev
    exact pc ev rfl
  | some x =>
    rw [hq] at ev
    simp only [fndO_some, asInt_int, asBool_bool, asStr_str, asSl_psl, asSl_nil, asAgg_agg, asTup_tup, asCons_cons, asNil_nil, asFlt_flt, asRef_ref, asWhole_whole, asView_view, asWv_whole, asWv_view, asFn_fn, asPref_pref, asOCons_cons, asONil_nil, asBox_box, asMade_made, asGone_dead, asGone_made, bind_some', onEx_exit, onEx_ret, mkS_hit, mkS_miss, ne_eq, not_false_eq_true, Nat.reduceLT, Nat.reduceEqDiff] at ev
    exact pc ev rfl

/-! Struck where it lies. -/
def delP_res (l : List Lk) (x : Lk) : PV × List KO := if l.any (fun a => covL x a) = true
  then (viewK 0 4 0 (l.filter fun a => !(covL x a)).length, [.made true 4 ((l.filter fun a => !(covL x a)).map Lk.e ++ List.replicate (l.length - (l.filter fun a => !(covL x a)).length) [.int .i64 0, .int .i64 0, .float .f64 0, .int .i64 0])])
  else (whole 0 4, [.made true 4 (l.map Lk.e)])
theorem delP_lp (l : List Lk) (x : Lk) (hl : l.length < 4611686018427387904) (j : Nat) (K : List Lk) (hj : j ≤ l.length) (hK : K.length < j) : Lω 45 lcK45_5_68 1 (stK45_5_68 x.t x.k x.q.toNat x.p (K.length : Nat) (j : Nat)) [.made true 4 ((K ++ l.drop K.length).map Lk.e)] =
    some (.exit 0, mkS 42 [(0, whole 0 4), (5, .int .i64 ((K ++ (l.drop j).filter fun a => !(covL x a)).length : Nat))], [.made true 4 (((K ++ (l.drop j).filter fun a => !(covL x a)) ++ l.drop (K ++ (l.drop j).filter fun a => !(covL x a)).length).map Lk.e)]) := by
  have := loopG (fun j (K : List Lk) => stK45_5_68 x.t x.k x.q.toNat x.p (K.length : Nat) (j : Nat)) (fun _ K => [.made true 4 ((K ++ l.drop K.length).map Lk.e)]) l (fun _ a K => .on (if (!(covL x a)) = true then K ++ [a] else K))
    (fun K => (.exit 0, mkS 42 [(0, whole 0 4), (5, .int .i64 (K.length : Nat))], [.made true 4 ((K ++ l.drop K.length).map Lk.e)])) (fun j K => K.length < j) (f := 45) (cd := lcK45_5_68) (n0 := 1)
    (fun i a K hg hi hK => by
      have hlen : ((K ++ l.drop K.length).map Lk.e).length = l.length := by rw [List.length_map, List.length_append, List.length_drop]; omega
      have hgi : ((K ++ l.drop K.length).map Lk.e)[i]? = some (Lk.e a) := by
        refine mapGet ?_
        rw [List.getElem?_append_right (by omega), List.getElem?_drop, show K.length + (i - K.length) = i by omega]
        exact hg
      have hs := spPutd a x
      simp only [Lk.e] at hs
      have hpt := ptLk a
      simp only [Lk.e] at hpt
      refine ⟨by split <;> (try simp only [List.length_append, List.length_cons, List.length_nil]) <;> omega, ?_⟩
      rw [lqK45_5_68]
      simp only [hlen, decide_eq_true_eq, Int.ofNat_lt, hi, if_true, nn, true_and, Int.toNat_natCast, hgi, bind_some', Lk.e, hpt, asInt_int, asBool_bool, asStr_str, asSl_psl, asSl_nil, asAgg_agg, asTup_tup, asCons_cons, asNil_nil, asFlt_flt, asRef_ref, asWhole_whole, asView_view, asWv_whole, asWv_view, asFn_fn, asPref_pref, asOCons_cons, asONil_nil, asBox_box, asMade_made, asGone_dead, asGone_made, bind_some', onEx_exit, onEx_ret, hs, wrap_succ (show i < 4611686018427387904 by omega)]
      by_cases hp : (!(covL x a)) = true
      · rw [if_pos hp, if_pos hp, if_pos (by omega), if_pos (by omega), wrap_succ (by omega)]
        have hset : ((K ++ l.drop K.length).map Lk.e).set K.length (Lk.e a) = ((K ++ [a]) ++ l.drop (K ++ [a]).length).map Lk.e := by
          rw [← List.map_set]
          congr 1
          rw [List.set_append_right _ _ (Nat.le_refl _), Nat.sub_self, List.drop_eq_getElem_cons (by omega), List.set_cons_zero, List.append_assoc, List.length_append]
          rfl
        simp only [Lk.e] at hset
        rw [hset]
        simp only [List.length_append, List.length_cons, List.length_nil]
        try rfl
      · rw [if_neg hp, if_neg hp])
    (fun K hK => by
      have hlen : ((K ++ l.drop K.length).map Lk.e).length = l.length := by rw [List.length_map, List.length_append, List.length_drop]; omega
      rw [lqK45_5_68]
      simp only [hlen, decide_eq_true_eq, Nat.lt_irrefl, Int.ofNat_lt, if_false]) (l.length - j) j K (by omega) hK
  rw [this, runL_fold, foldI_filter]
theorem delP_sp (l : List Lk) (x : Lk) (hl : l.length < 1073741824) : Cω 45 [whole 0 4, .func 68 [.pref [.int .i64 x.t, .int .i64 x.k, .float .f64 x.q.toNat, .int .i64 x.p]]] [.made true 4 (l.map Lk.e)] = some (delP_res l x) := by
  have ev := eqK45_68 Cω Lω x.t x.k x.q.toNat x.p (l.map Lk.e) 
  have hx := delP_idx l x (by omega)
  simp only [hx, asInt_int, asBool_bool, asStr_str, asSl_psl, asSl_nil, asAgg_agg, asTup_tup, asCons_cons, asNil_nil, asFlt_flt, asRef_ref, asWhole_whole, asView_view, asWv_whole, asWv_view, asFn_fn, asPref_pref, asOCons_cons, asONil_nil, asBox_box, asMade_made, asGone_dead, asGone_made, bind_some', onEx_exit, onEx_ret] at ev
  unfold delP_res
  have hany := findI_any (p := fun a => covL x a) l 0
  rw [← hany]
  cases hq : findI (fun a => covL x a) l 0 with
  | none =>
    rw [hq] at ev
    simp only [fndO_none, beq_self_eq_true, if_true] at ev
    rw [if_neg (by decide)]
    exact cw ev
  | some y =>
    obtain ⟨i, b⟩ := y
    obtain ⟨_, hi, hb, hpb, hbe⟩ := findI_spec hq
    simp only [Nat.zero_add, Nat.sub_zero] at hi hb hbe
    rw [hq, fndO_some] at ev
    simp only at ev
    rw [if_neg (by rw [beq_iff_eq]; omega)] at ev
    have hil : i < l.length := by omega
    have hK0 : (l.take i).length = i := by rw [List.length_take]; omega
    have lp := delP_lp l x (by omega) (i + 1) (l.take i) (by omega) (by omega)
    rw [hK0, List.take_append_drop] at lp
    have hfl : l.take i ++ (l.drop (i + 1)).filter (fun a => !(covL x a)) = l.filter (fun a => !(covL x a)) := by
      conv => rhs; rw [← List.take_append_drop i l, List.filter_append, List.drop_eq_getElem_cons hil]
      have e1 : (l.take i).filter (fun a => !(covL x a)) = l.take i := List.filter_eq_self.2 fun a ha => by
        obtain ⟨k, hk⟩ := List.mem_iff_getElem?.1 ha
        have hk2 : k < i := by have := (List.getElem?_eq_some_iff.1 hk).1; omega
        rw [List.getElem?_take_of_lt hk2] at hk
        have h9 : (covL x a) = false := hbe k a hk2 hk
        rw [h9]; rfl
      have e2 : l[i] = b := by rw [List.getElem?_eq_getElem hil] at hb; exact Option.some.inj hb
      rw [e1, e2, List.filter_cons_of_neg (by have h9 : (fun a : Lk => covL x a) b = true := hpb; show ¬ ((!((fun a : Lk => covL x a) b)) = true); rw [h9]; decide)]
    rw [hfl] at lp
    rw [wrap_succ (by omega), lp] at ev
    have hfle : (l.filter fun a => !(covL x a)).length ≤ l.length := List.length_filter_le _ _
    have hlen : (((l.filter fun a => !(covL x a)) ++ l.drop (l.filter fun a => !(covL x a)).length).map Lk.e).length = l.length := by rw [List.length_map, List.length_append, List.length_drop]; omega
    have hlt : (((l.filter fun a => !(covL x a)) ++ l.drop (l.filter fun a => !(covL x a)).length).map Lk.e).take (l.filter fun a => !(covL x a)).length = (l.filter fun a => !(covL x a)).map Lk.e := by
      rw [List.map_append, List.take_append_of_le_length (by rw [List.length_map]; exact Nat.le_refl _), List.take_of_length_le (by rw [List.length_map]; exact Nat.le_refl _)]
    simp only [asInt_int, asBool_bool, asStr_str, asSl_psl, asSl_nil, asAgg_agg, asTup_tup, asCons_cons, asNil_nil, asFlt_flt, asRef_ref, asWhole_whole, asView_view, asWv_whole, asWv_view, asFn_fn, asPref_pref, asOCons_cons, asONil_nil, asBox_box, asMade_made, asGone_dead, asGone_made, bind_some', onEx_exit, onEx_ret, mkS_hit, mkS_miss, ne_eq, not_false_eq_true, Nat.reduceLT, Nat.reduceEqDiff, if_true, numNat, hlen, hlt, Nat.le_refl, and_true, hfle] at ev
    have hd : (((l.filter fun a => !(covL x a)) ++ l.drop (l.filter fun a => !(covL x a)).length).map Lk.e).drop ((l.filter fun a => !(covL x a)).length + (l.length - (l.filter fun a => !(covL x a)).length)) = [] := List.drop_of_length_le (by rw [hlen]; omega)
    rw [hd, List.append_nil] at ev
    have hll : (List.map Lk.e (l.filter fun a => !(covL x a)) ++ List.replicate (l.length - (l.filter fun a => !(covL x a)).length) ([.int .i64 0, .int .i64 0, .float .f64 0, .int .i64 0] : List PV)).length = l.length := by rw [List.length_append, List.length_map, List.length_replicate]; omega
    rw [if_pos ⟨Nat.zero_le _, by rw [hll]; exact hfle⟩, Nat.sub_zero] at ev
    rw [if_pos (by rfl)]
    exact cw ev

theorem spCont (l : List Lk) (x : Lk) (hl : l.length < 4611686018427387904) : pcall Cω 66 [.psl false (l.map Lk.e), .func 67 [.pref x.e]] = some (.bool (l.any fun a => covL a x)) := by
  have ev := eqK66_67 Cω Lω (l.map Lk.e) x.t x.k x.q.toNat x.p
  have h := idxC_idx l x hl
  rw [h] at ev
  rw [← findI_any _ 0]
  simp only [asInt_int, asBool_bool, asStr_str, asSl_psl, asSl_nil, asAgg_agg, asTup_tup, asCons_cons, asNil_nil, asFlt_flt, asRef_ref, asWhole_whole, asView_view, asWv_whole, asWv_view, asFn_fn, asPref_pref, asOCons_cons, asONil_nil, asBox_box, asMade_made, asGone_dead, asGone_made, bind_some', onEx_exit, onEx_ret] at ev
  cases hq : findI (fun a => covL a x) l 0 with
  | none =>
    rw [hq] at ev
    exact pc ev rfl
  | some y =>
    rw [hq, fndO_some, decide_eq_true (nn _)] at ev
    exact pc ev rfl
/-! ### Which locks may be -/
def okC (l : List Lk) (i : Nat) (x : Lk) : Bool := okL x && ((decide (i = 0) || decide (ordL (l.getD (i - 1) x) x < 0)) && allI (fun k y => decide (k = i) || !covL y x) l 0)
def mayL (l : List Lk) : Bool := decide (l.length ≤ 64) && allI (okC l) l 0
theorem natNe (a b : Nat) : ((((a : Nat) : Int) != ((b : Nat) : Int)) = true) = (a ≠ b) := neLen
theorem lpCheckL1 (l : List Lk) (hl : l.length < 4611686018427387904) (i : Nat) (x : Lk) :
    Lω 9 lcK9_9 0 (stK9_9 (l.map Lk.e) (i : Nat) (l.map Lk.e) (l.length : Nat) (i : Nat) (l.map Lk.e) (l.length : Nat) 0) [.box true 46 x.e] =
    some (if allI (fun k y => decide (k = i) || !covL y x) l 0 = true then (.exit 2, mkS 51 [(0, .psl false (l.map Lk.e)), (10, .psl false (l.map Lk.e)), (11, .int .i64 (l.length : Nat)), (12, .int .i64 (i : Nat))], []) else (.ret, mkS 51 [(2, .int .i64 1)], [])) :=
  loopCheck (fun k => stK9_9 (l.map Lk.e) (i : Nat) (l.map Lk.e) (l.length : Nat) (i : Nat) (l.map Lk.e) (l.length : Nat) (k : Nat)) [.box true 46 x.e] l (fun k y => decide (k = i) || !covL y x) _ _ (fun k y hg hk => by
    have hs := spCovers y x
    simp only [Lk.e] at hs
    have hdi : decide (((k : Nat) : Int) < ((l.length : Nat) : Int)) = true := by rw [decide_eq_true_eq]; omega
    show stepLKK cfg kcfg Cω Lω _ _ _ _ [.box true 46 [.int .i64 x.t, .int .i64 x.k, .float .f64 x.q.toNat, .int .i64 x.p]] = _
    rw [lqK9_9]
    simp only [hdi, nn, Int.toNat_natCast, bind_some', mapGet hg, Lk.e, asInt_int, asBool_bool, asStr_str, asSl_psl, asSl_nil, asAgg_agg, asTup_tup, asCons_cons, asNil_nil, asFlt_flt, asRef_ref, asWhole_whole, asView_view, asWv_whole, asWv_view, asFn_fn, asPref_pref, asOCons_cons, asONil_nil, asBox_box, asMade_made, asGone_dead, asGone_made, bind_some', onEx_exit, onEx_ret, wrap_succ (show k < 4611686018427387904 by omega), hs, if_true]
    by_cases h : k = i
    · rw [if_neg (by rw [natNe]; exact fun e => e h), decide_eq_true h, Bool.true_or, if_pos rfl]
    · rw [if_pos (by rw [natNe]; exact h), decide_eq_false h, Bool.false_or]
      cases covL y x <;> rfl) (by
    show stepLKK cfg kcfg Cω Lω _ _ _ _ [.box true 46 [.int .i64 x.t, .int .i64 x.k, .float .f64 x.q.toNat, .int .i64 x.p]] = _
    rw [lqK9_9]; simp only [Int.lt_irrefl, decide_false, Bool.false_eq_true, if_false])
theorem lpCheckL (l : List Lk) (hl : l.length < 4611686018427387904) : Lω 9 lcK9_4 0 (stK9_4 (l.map Lk.e) (l.map Lk.e) (l.length : Nat) 0) [] =
    some (if allI (okC l) l 0 = true then (.exit 0, mkS 51 [], []) else (.ret, mkS 51 [(2, .int .i64 1)], [])) :=
  loopCheck (fun i => stK9_4 (l.map Lk.e) (l.map Lk.e) (l.length : Nat) (i : Nat)) [] l (okC l) _ _ (fun i x hg hi => by
    have hdi : decide (((i : Nat) : Int) < ((l.length : Nat) : Int)) = true := by rw [decide_eq_true_eq]; omega
    have hk := spLock x
    have ho := spOrdL (l.getD (i - 1) x) x
    have hin := lpCheckL1 l hl i x
    simp only [Lk.e] at hk ho
    rw [lqK9_4]
    simp only [List.length_map]
    simp only [hdi, nn, Int.toNat_natCast, bind_some', mapGet hg, Lk.e, asInt_int, asBool_bool, asStr_str, asSl_psl, asSl_nil, asAgg_agg, asTup_tup, asCons_cons, asNil_nil, asFlt_flt, asRef_ref, asWhole_whole, asView_view, asWv_whole, asWv_view, asFn_fn, asPref_pref, asOCons_cons, asONil_nil, asBox_box, asMade_made, asGone_dead, asGone_made, bind_some', onEx_exit, onEx_ret, hk, if_true]
    simp only [Lk.e] at hin
    rw [hin]
    unfold okC
    cases okL x
    · rfl
    · simp only [Bool.not_true, Bool.false_eq_true, if_false, Bool.true_and]
      by_cases h0 : 0 < i
      · have hd0 : decide (((i : Nat) : Int) > 0) = true := by rw [decide_eq_true_eq]; omega
        have hz : decide (i = 0) = false := decide_eq_false (by omega)
        obtain ⟨p1, p2⟩ := prevAt (e := Lk.e) x hi hl h0
        rw [hd0, if_pos rfl, if_pos p2, p1, hz, Bool.false_or]
        simp only [Lk.e, asInt_int, asBool_bool, asStr_str, asSl_psl, asSl_nil, asAgg_agg, asTup_tup, asCons_cons, asNil_nil, asFlt_flt, asRef_ref, asWhole_whole, asView_view, asWv_whole, asWv_view, asFn_fn, asPref_pref, asOCons_cons, asONil_nil, asBox_box, asMade_made, asGone_dead, asGone_made, bind_some', onEx_exit, onEx_ret, ho]
        by_cases hlt : ordL (l.getD (i - 1) x) x < 0
        · rw [decide_eq_true hlt, Bool.true_and, if_neg (by rw [decide_eq_true_eq]; omega)]
          cases allI (fun k y => decide (k = i) || !covL y x) l 0
          · simp only [Bool.false_eq_true, if_false, asInt_int, asBool_bool, asStr_str, asSl_psl, asSl_nil, asAgg_agg, asTup_tup, asCons_cons, asNil_nil, asFlt_flt, asRef_ref, asWhole_whole, asView_view, asWv_whole, asWv_view, asFn_fn, asPref_pref, asOCons_cons, asONil_nil, asBox_box, asMade_made, asGone_dead, asGone_made, bind_some', onEx_exit, onEx_ret, mkS_hit, mkS_miss, ne_eq, not_false_eq_true, Nat.reduceLT, Nat.reduceEqDiff]
          · simp only [if_true, asInt_int, asBool_bool, asStr_str, asSl_psl, asSl_nil, asAgg_agg, asTup_tup, asCons_cons, asNil_nil, asFlt_flt, asRef_ref, asWhole_whole, asView_view, asWv_whole, asWv_view, asFn_fn, asPref_pref, asOCons_cons, asONil_nil, asBox_box, asMade_made, asGone_dead, asGone_made, bind_some', onEx_exit, onEx_ret, mkS_hit, mkS_miss, ne_eq, not_false_eq_true, Nat.reduceLT, Nat.reduceEqDiff, wrap_succ (show i < 4611686018427387904 by omega)]
        · rw [decide_eq_false hlt, Bool.false_and, if_pos (by rw [decide_eq_true_eq]; omega), if_neg (by decide)]
      · have hi0 : i = 0 := by omega
        have hd0 : decide (((i : Nat) : Int) > 0) = false := by rw [decide_eq_false_iff_not]; omega
        rw [hd0, if_neg (by decide), decide_eq_true hi0, Bool.true_or, Bool.true_and]
        cases allI (fun k y => decide (k = i) || !covL y x) l 0
        · simp only [Bool.false_eq_true, if_false, asInt_int, asBool_bool, asStr_str, asSl_psl, asSl_nil, asAgg_agg, asTup_tup, asCons_cons, asNil_nil, asFlt_flt, asRef_ref, asWhole_whole, asView_view, asWv_whole, asWv_view, asFn_fn, asPref_pref, asOCons_cons, asONil_nil, asBox_box, asMade_made, asGone_dead, asGone_made, bind_some', onEx_exit, onEx_ret, mkS_hit, mkS_miss, ne_eq, not_false_eq_true, Nat.reduceLT, Nat.reduceEqDiff]
        · simp only [if_true, asInt_int, asBool_bool, asStr_str, asSl_psl, asSl_nil, asAgg_agg, asTup_tup, asCons_cons, asNil_nil, asFlt_flt, asRef_ref, asWhole_whole, asView_view, asWv_whole, asWv_view, asFn_fn, asPref_pref, asOCons_cons, asONil_nil, asBox_box, asMade_made, asGone_dead, asGone_made, bind_some', onEx_exit, onEx_ret, mkS_hit, mkS_miss, ne_eq, not_false_eq_true, Nat.reduceLT, Nat.reduceEqDiff, wrap_succ (show i < 4611686018427387904 by omega)]) (by
    rw [lqK9_4]; simp only [Int.lt_irrefl, decide_false, Bool.false_eq_true, if_false])
theorem spCheckL (l : List Lk) (hl : l.length < 4611686018427387904) : pcall Cω 9 [.psl false (l.map Lk.e)] = some (.int .i64 (if mayL l = true then 0 else 1)) := by
  have ev := eqK9 Cω Lω (l.map Lk.e)
  rw [List.length_map, lpCheckL l hl] at ev
  unfold mayL
  by_cases h : l.length ≤ 64
  · rw [if_neg (by rw [decide_eq_true_eq]; omega)] at ev
    simp only [decI h, Bool.true_and]
    by_cases h2 : allI (okC l) l 0 = true
    · simp only [h2, if_true, asInt_int, asBool_bool, asStr_str, asSl_psl, asSl_nil, asAgg_agg, asTup_tup, asCons_cons, asNil_nil, asFlt_flt, asRef_ref, asWhole_whole, asView_view, asWv_whole, asWv_view, asFn_fn, asPref_pref, asOCons_cons, asONil_nil, asBox_box, asMade_made, asGone_dead, asGone_made, bind_some', onEx_exit, onEx_ret] at ev ⊢
      exact pc ev rfl
    · simp only [h2, if_false, asInt_int, asBool_bool, asStr_str, asSl_psl, asSl_nil, asAgg_agg, asTup_tup, asCons_cons, asNil_nil, asFlt_flt, asRef_ref, asWhole_whole, asView_view, asWv_whole, asWv_view, asFn_fn, asPref_pref, asOCons_cons, asONil_nil, asBox_box, asMade_made, asGone_dead, asGone_made, bind_some', onEx_exit, onEx_ret, mkS_hit, mkS_miss, ne_eq, not_false_eq_true, Nat.reduceLT, Nat.reduceEqDiff] at ev ⊢
      exact pc ev rfl
  · rw [if_pos (by rw [decide_eq_true_eq]; omega)] at ev
    simp only [decide_eq_false h, Bool.false_and, Bool.false_eq_true, if_false]
    exact pc ev rfl
/-! ### The document's -/
def rokC (l : List Lk) (i : Nat) (x : Lk) : Bool := okL x && ((decide (i = 0) || decide (ordL (l.getD (i - 1) x) x < 0)) && allI (fun k y => decide (k = i) || !rcovL y x) l 0)
theorem lpRMayL1 (l : List Lk) (hl : l.length < 4611686018427387904) (i : Nat) (x : Lk) (hx : l[i]? = some x) :
    Lω 10 lcK10_7 0 (stK10_7 (l.map Lk.e) (i : Nat) 0) [] =
    some (if allI (fun k y => decide (k = i) || !rcovL y x) l 0 = true then (.exit 2, mkS 57 [(0, .psl false (l.map Lk.e)), (3, .int .i64 (i : Nat))], []) else (.ret, mkS 57 [(2, .bool false)], [])) :=
  loopCheck (fun k => stK10_7 (l.map Lk.e) (i : Nat) (k : Nat)) [] l (fun k y => decide (k = i) || !rcovL y x) _ _ (fun k y hg hk => by
    have hs := spRCovers y x
    simp only [Lk.e] at hs
    have hdi : decide (((k : Nat) : Int) < (((l.map Lk.e).length : Nat) : Int)) = true := by rw [decide_eq_true_eq, List.length_map]; omega
    rw [lqK10_7]
    simp only [hdi, nn, Int.toNat_natCast, bind_some', mapGet hg, mapGet hx, Lk.e, asInt_int, asBool_bool, asStr_str, asSl_psl, asSl_nil, asAgg_agg, asTup_tup, asCons_cons, asNil_nil, asFlt_flt, asRef_ref, asWhole_whole, asView_view, asWv_whole, asWv_view, asFn_fn, asPref_pref, asOCons_cons, asONil_nil, asBox_box, asMade_made, asGone_dead, asGone_made, bind_some', onEx_exit, onEx_ret, wrap_succ (show k < 4611686018427387904 by omega), hs, if_true]
    by_cases h : k = i
    · rw [if_neg (by rw [natNe]; exact fun e => e h.symm), decide_eq_true h, Bool.true_or, if_pos rfl]
    · rw [if_pos (by rw [natNe]; exact fun e => h e.symm), decide_eq_false h, Bool.false_or]
      cases rcovL y x <;> rfl) (by
    rw [lqK10_7]; simp only [List.length_map, Int.lt_irrefl, decide_false, Bool.false_eq_true, if_false])
theorem lpRMayL (l : List Lk) (hl : l.length < 4611686018427387904) : Lω 10 lcK10_2 0 (stK10_2 (l.map Lk.e) 0) [] =
    some (if allI (rokC l) l 0 = true then (.exit 0, mkS 57 [(0, .psl false (l.map Lk.e))], []) else (.ret, mkS 57 [(2, .bool false)], [])) :=
  loopCheck (fun i => stK10_2 (l.map Lk.e) (i : Nat)) [] l (rokC l) _ _ (fun i x hg hi => by
    have hdi : decide (((i : Nat) : Int) < (((l.map Lk.e).length : Nat) : Int)) = true := by rw [decide_eq_true_eq, List.length_map]; omega
    have hk := spRmay x
    have ho := spLessL (l.getD (i - 1) x) x
    have hin := lpRMayL1 l hl i x hg
    simp only [Lk.e] at hk ho
    rw [lqK10_2]
    rw [hin]
    simp only [hdi, nn, Int.toNat_natCast, bind_some', mapGet hg, Lk.e, asInt_int, asBool_bool, asStr_str, asSl_psl, asSl_nil, asAgg_agg, asTup_tup, asCons_cons, asNil_nil, asFlt_flt, asRef_ref, asWhole_whole, asView_view, asWv_whole, asWv_view, asFn_fn, asPref_pref, asOCons_cons, asONil_nil, asBox_box, asMade_made, asGone_dead, asGone_made, bind_some', onEx_exit, onEx_ret, hk, if_true]
    unfold rokC
    cases okL x
    · rfl
    · simp only [Bool.not_true, Bool.false_eq_true, if_false, Bool.true_and]
      by_cases h0 : 0 < i
      · have hd0 : decide (((i : Nat) : Int) > 0) = true := by rw [decide_eq_true_eq]; omega
        have hz : decide (i = 0) = false := decide_eq_false (by omega)
        obtain ⟨p1, p2⟩ := prevAt (e := Lk.e) x hi hl h0
        rw [hd0, if_pos rfl, if_pos p2, p1, hz, Bool.false_or]
        simp only [Lk.e, asInt_int, asBool_bool, asStr_str, asSl_psl, asSl_nil, asAgg_agg, asTup_tup, asCons_cons, asNil_nil, asFlt_flt, asRef_ref, asWhole_whole, asView_view, asWv_whole, asWv_view, asFn_fn, asPref_pref, asOCons_cons, asONil_nil, asBox_box, asMade_made, asGone_dead, asGone_made, bind_some', onEx_exit, onEx_ret, ho]
        by_cases hlt : ordL (l.getD (i - 1) x) x < 0
        · rw [decide_eq_true hlt, Bool.true_and, if_neg (by decide)]
          cases allI (fun k y => decide (k = i) || !rcovL y x) l 0
          · simp only [Bool.false_eq_true, if_false, asInt_int, asBool_bool, asStr_str, asSl_psl, asSl_nil, asAgg_agg, asTup_tup, asCons_cons, asNil_nil, asFlt_flt, asRef_ref, asWhole_whole, asView_view, asWv_whole, asWv_view, asFn_fn, asPref_pref, asOCons_cons, asONil_nil, asBox_box, asMade_made, asGone_dead, asGone_made, bind_some', onEx_exit, onEx_ret, mkS_hit, mkS_miss, ne_eq, not_false_eq_true, Nat.reduceLT, Nat.reduceEqDiff]
          · simp only [if_true, asInt_int, asBool_bool, asStr_str, asSl_psl, asSl_nil, asAgg_agg, asTup_tup, asCons_cons, asNil_nil, asFlt_flt, asRef_ref, asWhole_whole, asView_view, asWv_whole, asWv_view, asFn_fn, asPref_pref, asOCons_cons, asONil_nil, asBox_box, asMade_made, asGone_dead, asGone_made, bind_some', onEx_exit, onEx_ret, mkS_hit, mkS_miss, ne_eq, not_false_eq_true, Nat.reduceLT, Nat.reduceEqDiff, wrap_succ (show i < 4611686018427387904 by omega)]
        · rw [decide_eq_false hlt, Bool.false_and, if_pos (by decide), if_neg (by decide)]
      · have hi0 : i = 0 := by omega
        have hd0 : decide (((i : Nat) : Int) > 0) = false := by rw [decide_eq_false_iff_not]; omega
        rw [hd0, if_neg (by decide), decide_eq_true hi0, Bool.true_or, Bool.true_and]
        cases allI (fun k y => decide (k = i) || !rcovL y x) l 0
        · simp only [Bool.false_eq_true, if_false, asInt_int, asBool_bool, asStr_str, asSl_psl, asSl_nil, asAgg_agg, asTup_tup, asCons_cons, asNil_nil, asFlt_flt, asRef_ref, asWhole_whole, asView_view, asWv_whole, asWv_view, asFn_fn, asPref_pref, asOCons_cons, asONil_nil, asBox_box, asMade_made, asGone_dead, asGone_made, bind_some', onEx_exit, onEx_ret, mkS_hit, mkS_miss, ne_eq, not_false_eq_true, Nat.reduceLT, Nat.reduceEqDiff]
        · simp only [if_true, asInt_int, asBool_bool, asStr_str, asSl_psl, asSl_nil, asAgg_agg, asTup_tup, asCons_cons, asNil_nil, asFlt_flt, asRef_ref, asWhole_whole, asView_view, asWv_whole, asWv_view, asFn_fn, asPref_pref, asOCons_cons, asONil_nil, asBox_box, asMade_made, asGone_dead, asGone_made, bind_some', onEx_exit, onEx_ret, mkS_hit, mkS_miss, ne_eq, not_false_eq_true, Nat.reduceLT, Nat.reduceEqDiff, wrap_succ (show i < 4611686018427387904 by omega)]) (by
    rw [lqK10_2]; simp only [List.length_map, Int.lt_irrefl, decide_false, Bool.false_eq_true, if_false])
theorem okL_kind {x : Lk} (h : okL x = true) : x.k = 1 ∨ x.k = 2 ∨ x.k = 3 := by
  unfold okL at h
  rw [Bool.and_eq_true, Bool.and_eq_true] at h
  have h2 := h.2.2
  by_cases h1 : x.k = 1
  · exact .inl h1
  · by_cases h3 : x.k = 2
    · exact .inr (.inl h3)
    · by_cases h4 : x.k = 3
      · exact .inr (.inr h4)
      · rw [if_neg (by rw [beq_iff_eq]; exact h1), if_neg (by rw [beq_iff_eq]; exact h3), if_neg (by rw [beq_iff_eq]; exact h4)] at h2
        cases h2
theorem allI_congr {α : Type} {p q : Nat → α → Bool} : ∀ {l : List α} {i : Nat}, (∀ j a, l[j]? = some a → p (i + j) a = q (i + j) a) → allI p l i = allI q l i
  | [], i, _ => rfl
  | a :: l, i, h => by
    have h1 : p i a = q i a := h 0 a rfl
    have h2 : allI p l (i + 1) = allI q l (i + 1) := allI_congr fun j b hb => by
      have := h (j + 1) b hb
      rwa [show i + (j + 1) = i + 1 + j by omega] at this
    unfold allI
    rw [h1, h2]
theorem rmay_eq (l : List Lk) : allI (rokC l) l 0 = allI (okC l) l 0 := by
  by_cases hk : ∀ y ∈ l, okL y = true
  · refine allI_congr fun j x hx => ?_
    unfold rokC okC
    rw [allI_congr (p := fun k y => decide (k = 0 + j) || !rcovL y x) (q := fun k y => decide (k = 0 + j) || !covL y x) fun k y hy => by
      rw [cov_eq (okL_kind (hk y (List.mem_iff_getElem?.2 ⟨k, hy⟩)))]]
  · obtain ⟨y, hy⟩ := Classical.not_forall.1 hk
    obtain ⟨hm, hy⟩ := Classical.not_imp.1 hy
    obtain ⟨k, hg⟩ := List.mem_iff_getElem?.1 hm
    have hyf : okL y = false := by simpa using hy
    have h1 : ¬ allI (rokC l) l 0 = true := fun h => by
      have := allI_iff.1 h k y hg
      unfold rokC at this
      rw [hyf] at this
      cases this
    have h2 : ¬ allI (okC l) l 0 = true := fun h => by
      have := allI_iff.1 h k y hg
      unfold okC at this
      rw [hyf] at this
      cases this
    rw [Bool.eq_false_iff.2 h1, Bool.eq_false_iff.2 h2]
theorem spRMayL (l : List Lk) (hl : l.length < 4611686018427387904) : pcall Cω 10 [.psl false (l.map Lk.e)] = some (.bool (mayL l)) := by
  have ev := eqK10 Cω Lω (l.map Lk.e)
  have lp := lpRMayL l hl
  rw [lp, rmay_eq] at ev
  unfold mayL
  by_cases h2 : allI (okC l) l 0 = true
  · simp only [h2, if_true, asInt_int, asBool_bool, asStr_str, asSl_psl, asSl_nil, asAgg_agg, asTup_tup, asCons_cons, asNil_nil, asFlt_flt, asRef_ref, asWhole_whole, asView_view, asWv_whole, asWv_view, asFn_fn, asPref_pref, asOCons_cons, asONil_nil, asBox_box, asMade_made, asGone_dead, asGone_made, bind_some', onEx_exit, onEx_ret, mkS_hit, mkS_miss, ne_eq, not_false_eq_true, Nat.reduceLT, Nat.reduceEqDiff, List.length_map] at ev
    rw [h2, Bool.and_true]
    rw [show decide (((l.length : Nat) : Int) ≤ 64) = decide (l.length ≤ 64) from by rw [decide_eq_decide]; omega] at ev
    exact pc ev rfl
  · simp only [h2, if_false, asInt_int, asBool_bool, asStr_str, asSl_psl, asSl_nil, asAgg_agg, asTup_tup, asCons_cons, asNil_nil, asFlt_flt, asRef_ref, asWhole_whole, asView_view, asWv_whole, asWv_view, asFn_fn, asPref_pref, asOCons_cons, asONil_nil, asBox_box, asMade_made, asGone_dead, asGone_made, bind_some', onEx_exit, onEx_ret, mkS_hit, mkS_miss, ne_eq, not_false_eq_true, Nat.reduceLT, Nat.reduceEqDiff] at ev
    have h3 : allI (okC l) l 0 = false := by simpa using h2
    rw [h3, Bool.and_false]
    exact pc ev rfl
end Go.Pvm.S
