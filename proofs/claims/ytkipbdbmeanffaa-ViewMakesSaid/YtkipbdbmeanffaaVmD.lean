/- Part of the proof: the view of any numbers: sorted, doubles struck. -/
import Derived.Test.YtkipbdbmeanffaaVmC
set_option linter.unusedSimpArgs false
set_option linter.unusedVariables false
set_option maxRecDepth 100000
namespace Go.Pvm.S
open Go.Pvm Go.Proofs
/-! Doubles struck. -/
def dd : Int → List Int → List Int
  | _, [] => []
  | p, b :: l => if (b != p) = true then b :: dd b l else dd b l
def cmpct : List Int → List Int
  | [] => []
  | a :: l => a :: dd a l
theorem dd_len : ∀ (l : List Int) (p : Int), (dd p l).length ≤ l.length
  | [], _ => Nat.le_refl _
  | b :: l, p => by
    unfold dd
    have := dd_len l b
    split
    · simp only [List.length_cons]; omega
    · simp only [List.length_cons]; omega
theorem ptInt (n : Int) : partOf Try.prog 3 (ie n) 0 = some (.int .i64 n) := by kernel_rfl
theorem ptIntG {l : List Int} {i : Nat} {n : Int} (h : l[i]? = some n) : ((l.map ie)[i]?).bind (fun e => (partOf Try.prog 3 e 0).bind fun v => asInt .i64 v fun n => some n) = some n := by rw [mapGet h]; simp only [bind_some', ptInt, asInt_int]
theorem getA {α : Type} {K l : List α} {j : Nat} (h : K.length ≤ j) : (K ++ l.drop K.length)[j]? = l[j]? := by
  rw [List.getElem?_append_right h, List.getElem?_drop]
  congr 1; omega
theorem setA {α : Type} {K l : List α} {a : α} (h : K.length < l.length) : (K ++ l.drop K.length).set K.length a = (K ++ [a]) ++ l.drop (K ++ [a]).length := by
  rw [List.set_append_right _ _ (Nat.le_refl _), Nat.sub_self, List.drop_eq_getElem_cons h]
  show K ++ a :: l.drop (K.length + 1) = _
  rw [List.length_append, List.append_assoc]; rfl
theorem lenA {α : Type} {K l : List α} (h : K.length ≤ l.length) : (K ++ l.drop K.length).length = l.length := by rw [List.length_append, List.length_drop]; omega
theorem cmp_in (l : List Int) (hl : l.length < 1073741824) (k0 : Nat) (hk0 : k0 ≤ l.length) : ∀ (d j : Nat) (K : List Int) (p : Int), k0 + j + d = l.length → 1 ≤ j → K.length + 1 ≤ k0 + j → l[k0 + j - 1]? = some p →
    Lω 20 lcK20_9 1 (stK20_9 (K.length : Nat) k0 (l.length - k0) (j : Nat)) [.made true 1 ((K ++ l.drop K.length).map ie)] =
    some (.exit 2, mkS 61 [(0, whole 0 1), (3, .int .i64 ((K ++ dd p (l.drop (k0 + j))).length : Nat))], [.made true 1 (((K ++ dd p (l.drop (k0 + j))) ++ l.drop (K ++ dd p (l.drop (k0 + j))).length).map ie)])
  | 0, j, K, p, hd, hj, hK, hp => by
    refine lw ?_
    rw [lqK20_9, if_neg (by rw [decide_eq_true_eq]; omega), List.drop_of_length_le (show l.length ≤ k0 + j by omega)]
    rw [show dd p [] = [] from rfl, List.append_nil]
  | d + 1, j, K, p, hd, hj, hK, hp => by
    have hjl : k0 + j < l.length := by omega
    have hg := List.getElem?_eq_getElem hjl
    refine lw ?_
    have e1 : (K ++ l.drop K.length)[k0 + j]? = some l[k0 + j] := by rw [getA (by omega), hg]
    have e2 : (K ++ l.drop K.length)[k0 + (j - 1)]? = some p := by rw [getA (by omega), ← hp]; congr 1; omega
    have e3 : (K ++ l.drop K.length).length = l.length := lenA (by omega)
    rw [lqK20_9, if_pos (by rw [decide_eq_true_eq]; omega), if_pos ⟨nn _, by omega⟩, wrap_pred (by omega) (by omega), Int.toNat_natCast, Int.toNat_natCast, mapGet e1, mapGet e2]
    simp only [bind_some', ptInt, asInt_int]
    rw [if_pos ⟨nn _, by omega⟩]
    rw [List.drop_eq_getElem_cons hjl]
    unfold dd
    by_cases hne : (l[k0 + j] != p) = true
    · rw [if_pos hne, if_pos hne, if_pos ⟨nn _, by omega⟩, if_pos ⟨nn _, by rw [List.length_map, e3]; omega⟩, Int.toNat_natCast, if_pos (by rw [List.length_map, e3]; omega), wrap_succ (by omega), wrap_succ (by omega)]
      show Lω _ _ _ (stK20_9 ((K.length + 1 : Nat)) _ _ _) [.made true 1 (List.set ((K ++ l.drop K.length).map ie) K.length (ie l[k0 + j]))] = _
      rw [map_set, setA (show K.length < l.length by omega)]
      have ih := cmp_in l hl k0 hk0 d (j + 1) (K ++ [l[k0 + j]]) l[k0 + j] (by omega) (by omega) (by rw [List.length_append]; show K.length + 1 + 1 ≤ _; omega) (by rw [← hg]; congr 1)
      rw [show K ++ l[k0 + j] :: dd l[k0 + j] (l.drop (k0 + j + 1)) = (K ++ [l[k0 + j]]) ++ dd l[k0 + j] (l.drop (k0 + (j + 1))) from (by rw [List.append_assoc]; rfl)]
      have hn : (K ++ [l[k0 + j]]).length = K.length + 1 := by rw [List.length_append]; rfl
      rw [hn] at ih ⊢
      exact ih
    · rw [if_neg hne, if_neg hne, wrap_succ (by omega)]
      have ih := cmp_in l hl k0 hk0 d (j + 1) K l[k0 + j] (by omega) (by omega) (by omega) (by rw [← hg]; congr 1)
      exact ih
def cmp_res (l : List Int) (p : Int) (k : Nat) : Out :=
  (.ret, mkS 61 [(2, viewK 0 1 0 (l.take k ++ dd p (l.drop k)).length)], [.made true 1 ((l.take k ++ dd p (l.drop k)).map ie ++ List.replicate (l.length - (l.take k ++ dd p (l.drop k)).length) (ie 0))])
theorem cmp_out (l : List Int) (hl : l.length < 1073741824) : ∀ (d k : Nat) (p : Int), k + d = l.length → 1 ≤ k → l[k - 1]? = some p →
    ∃ r, Lω 20 lcK20_4 1 (stK20_4 (k : Nat)) [.made true 1 (l.map ie)] = some r ∧
    ((r = (.exit 0, mkS 61 [(0, whole 0 1)], [.made true 1 (l.map ie)]) ∧ dd p (l.drop k) = l.drop k) ∨ ∃ n tl, r = (.ret, mkS 61 [(2, viewK 0 1 0 n)], [.made true 1 ((l.take k ++ dd p (l.drop k)).map ie ++ tl)]) ∧ n = (l.take k ++ dd p (l.drop k)).length)
  | 0, k, p, hd, hk, hp => by
    refine ⟨_, lw (by rw [lqK20_4, List.length_map, if_neg (by rw [decide_eq_true_eq]; omega)]), .inl ⟨rfl, ?_⟩⟩
    rw [List.drop_of_length_le (by omega)]; rfl
  | d + 1, k, p, hd, hk, hp => by
    have hkl : k < l.length := by omega
    have hg := List.getElem?_eq_getElem hkl
    have ev := lqK20_4 Cω Lω (k : Nat) (l.map ie)
    rw [List.length_map, if_pos (by rw [decide_eq_true_eq]; omega), if_pos ⟨nn _, by omega⟩, wrap_pred (by omega) (by omega), Int.toNat_natCast, Int.toNat_natCast, mapGet hg, mapGet hp] at ev
    simp only [bind_some', ptInt, asInt_int] at ev
    rw [if_pos ⟨nn _, by omega⟩] at ev
    rw [List.drop_eq_getElem_cons hkl]
    unfold dd
    by_cases he : l[k] = p
    · rw [if_pos (by rw [beq_iff_eq]; exact he), numNat, bind_some', if_pos ⟨by omega, Nat.le_refl _⟩] at ev
      have hin := cmp_in l hl k (by omega) (d) 1 (l.take k) l[k] (by omega) (by omega) (by rw [List.length_take]; omega) (by rw [← hg]; congr 1)
      have hlt : (l.take k).length = k := by rw [List.length_take]; omega
      have htd : l.take k ++ l.drop (l.take k).length = l := by rw [hlt]; exact List.take_append_drop k l
      rw [htd, hlt] at hin
      rw [if_neg (by rw [bne_iff_ne]; exact fun h => h he)]
      have hM : (l.take k ++ dd l[k] (l.drop (k + 1))).length ≤ l.length := by
        rw [List.length_append, hlt]
        have := dd_len (l.drop (k + 1)) l[k]
        rw [List.length_drop] at this
        omega
      generalize hMd : l.take k ++ dd l[k] (l.drop (k + 1)) = M at hin hM ⊢
      have hlen : (((M ++ l.drop M.length).map ie)).length = l.length := by rw [List.length_map]; exact lenA hM
      have htk : ((M ++ l.drop M.length).map ie).take M.length = M.map ie := by
        rw [List.map_append, List.take_append_of_le_length (by rw [List.length_map]; exact Nat.le_refl _), List.take_of_length_le (by rw [List.length_map]; exact Nat.le_refl _)]
      rw [show (((1 : Nat) : Int)) = 1 from rfl] at hin
      rw [hin] at ev
      simp only [asInt_int, asBool_bool, asStr_str, asSl_psl, asSl_nil, asAgg_agg, asTup_tup, asCons_cons, asNil_nil, asFlt_flt, asRef_ref, asWhole_whole, asView_view, asWv_whole, asWv_view, asFn_fn, asPref_pref, asOCons_cons, asONil_nil, asBox_box, asMade_made, asGone_dead, asGone_made, asCI_cons, asCB_cons, asCF_cons, asCS_psl, asCS_nil, asCW_cons, asCR_cons, asOM_cons, asOM_false, asOB_cons, asOB_false, asOG_dead, asOG_made, gS_mk, bind_some', onEx_exit, onEx_ret, mkS_hit, mkS_miss, ne_eq, not_false_eq_true, Nat.reduceLT, Nat.reduceEqDiff, if_true, numNat, hlen, htk, hM, Nat.le_refl, and_true, true_and, Nat.zero_le, Nat.sub_zero] at ev
      rw [if_pos (by rw [List.length_append, List.length_append, List.length_map, List.length_replicate]; omega)] at ev
      refine ⟨_, lw ev, .inr ⟨M.length, List.replicate (l.length - M.length) (ie 0) ++ List.drop (M.length + (l.length - M.length)) ((M ++ l.drop M.length).map ie), ?_, rfl⟩⟩
      rw [← List.append_assoc]
      rfl
    · rw [if_neg (by rw [beq_iff_eq]; exact he), wrap_succ (by omega)] at ev
      obtain ⟨r, h1, h2⟩ := cmp_out l hl d (k + 1) l[k] (by omega) (by omega) (by rw [← hg]; congr 1)
      rw [if_pos (by rw [bne_iff_ne]; exact he)]
      have htk : l.take (k + 1) = l.take k ++ [l[k]] := List.take_succ_eq_append_getElem hkl
      rw [htk] at h2
      have hc : ∀ X : List Int, l.take k ++ [l[k]] ++ X = l.take k ++ l[k] :: X := fun X => by rw [List.append_assoc]; rfl
      rw [hc] at h2
      refine ⟨r, lw (ev.trans h1), ?_⟩
      rcases h2 with ⟨e, e2⟩ | h2
      · exact .inl ⟨e, by rw [e2]⟩
      · exact .inr h2
theorem cmpct_short : ∀ {l : List Int}, l.length < 2 → cmpct l = l
  | [], _ => rfl
  | [a], _ => rfl
  | a :: b :: l, h => by simp only [List.length_cons] at h; omega
theorem cmp_sp (l : List Int) (hl : l.length < 1073741824) : Cω 20 [whole 0 1] [.made true 1 (l.map ie)] = some (whole 1 1, [.dead, .made true 1 ((cmpct l).map ie)]) := by
  have ev := eqK20 Cω Lω (l.map ie)
  rw [List.length_map] at ev
  by_cases h : l.length < 2
  · rw [if_pos (by rw [decide_eq_true_eq]; omega)] at ev
    rw [cmpct_short h]
    exact cw ev
  · rw [if_neg (by rw [decide_eq_true_eq]; omega)] at ev
    cases l with
    | nil => exact absurd (Nat.zero_lt_succ 1) h
    | cons a t =>
      obtain ⟨r, h1, h2⟩ := cmp_out (a :: t) hl t.length 1 a (by rw [List.length_cons]; omega) (Nat.le_refl _) rfl
      rw [show (((1 : Nat) : Int)) = 1 from rfl] at h1
      rw [h1] at ev
      have e0 : (a :: t).take 1 ++ dd a ((a :: t).drop 1) = cmpct (a :: t) := rfl
      rw [e0] at h2
      rcases h2 with ⟨rfl, e⟩ | ⟨n, tl, rfl, rfl⟩
      · simp only [asInt_int, asBool_bool, asStr_str, asSl_psl, asSl_nil, asAgg_agg, asTup_tup, asCons_cons, asNil_nil, asFlt_flt, asRef_ref, asWhole_whole, asView_view, asWv_whole, asWv_view, asFn_fn, asPref_pref, asOCons_cons, asONil_nil, asBox_box, asMade_made, asGone_dead, asGone_made, asCI_cons, asCB_cons, asCF_cons, asCS_psl, asCS_nil, asCW_cons, asCR_cons, asOM_cons, asOM_false, asOB_cons, asOB_false, asOG_dead, asOG_made, gS_mk, bind_some', onEx_exit, onEx_ret, mkS_hit, mkS_miss, ne_eq, not_false_eq_true, Nat.reduceLT, Nat.reduceEqDiff, if_true] at ev
        rw [show cmpct (a :: t) = a :: t from (by show a :: dd a t = _; rw [show dd a t = t from e])]
        exact cw ev
      · simp only [asInt_int, asBool_bool, asStr_str, asSl_psl, asSl_nil, asAgg_agg, asTup_tup, asCons_cons, asNil_nil, asFlt_flt, asRef_ref, asWhole_whole, asView_view, asWv_whole, asWv_view, asFn_fn, asPref_pref, asOCons_cons, asONil_nil, asBox_box, asMade_made, asGone_dead, asGone_made, asCI_cons, asCB_cons, asCF_cons, asCS_psl, asCS_nil, asCW_cons, asCR_cons, asOM_cons, asOM_false, asOB_cons, asOB_false, asOG_dead, asOG_made, gS_mk, bind_some', onEx_exit, onEx_ret, mkS_hit, mkS_miss, ne_eq, not_false_eq_true, Nat.reduceLT, Nat.reduceEqDiff, if_true] at ev
        rw [List.take_append_of_le_length (by rw [List.length_map]; exact Nat.le_refl _), List.take_of_length_le (by rw [List.length_map]; exact Nat.le_refl _)] at ev
        exact cw ev

def keep (s n : Int) (t : Int) : Bool := decide (t < n) && !(t == s)
def low (l : List Int) : Bool := l.any fun t => decide (t < 1)
theorem lpOf (s n : Int) (l : List Int) (hl : l.length ≤ 200) : ∀ k i : Nat, i + k = l.length → ∀ acc : List Int, acc.length ≤ i → Lω 8 lcK8_3 0 (stK8_3 s n (l.map ie) (l.length : Nat) (i : Nat)) [.box true 25 [.int .i64 0, .int .i64 0, whole 2 1], .box true 25 [.int .i64 s, .int .i64 n, whole 3 1], .made true 1 [], .made true 1 (acc.map ie)] =
    some (if low (l.drop i) = true then (.ret, mkS 53 [(6, .ref 0 0 0), (7, .int .i64 1)], [.box true 25 [.int .i64 0, .int .i64 0, .nilsl]]) else (.exit 0, mkS 53 [(6, .ref 0 0 0), (8, .ref 1 0 0)], [.box true 25 [.int .i64 0, .int .i64 0, whole 2 1], .box true 25 [.int .i64 s, .int .i64 n, whole 3 1], .made true 1 [], .made true 1 ((acc ++ (l.drop i).filter (keep s n)).map ie)]))
  | 0, i, h, acc, ha => by
    refine lw ?_
    rw [lqK8_3, if_neg (by simp; omega), List.drop_of_length_le (by omega), List.filter_nil, List.append_nil]
    rfl
  | k + 1, i, h, acc, ha => by
    have hi : i < l.length := by omega
    have hg := List.getElem?_eq_getElem hi
    refine lw ?_
    rw [lqK8_3, if_pos (by simp; omega), if_pos (by omega), Int.toNat_natCast, mapGet hg]
    simp only [ie, asInt_int, asBool_bool, asStr_str, asSl_psl, asSl_nil, asAgg_agg, asTup_tup, asCons_cons, asNil_nil, asFlt_flt, asRef_ref, asWhole_whole, asView_view, asWv_whole, asWv_view, asFn_fn, asPref_pref, asOCons_cons, asONil_nil, asBox_box, asMade_made, asGone_dead, asGone_made, asCI_cons, asCB_cons, asCF_cons, asCS_psl, asCS_nil, asCW_cons, asCR_cons, asOM_cons, asOM_false, asOB_cons, asOB_false, asOG_dead, asOG_made, gS_mk, bind_some', onEx_exit, onEx_ret]
    rw [List.drop_eq_getElem_cons hi]
    unfold low
    rw [List.any_cons]
    by_cases c0 : l[i] < 1
    · rw [if_pos (by simpa using c0), if_pos (by rw [decide_eq_true c0]; rfl)]
    rw [if_neg (by simpa using c0), List.filter_cons, wrap_succ (by omega), decide_eq_false c0, Bool.false_or]
    have ie' : ∀ z : Int, [PV.int .i64 z] = ie z := fun _ => rfl
    by_cases c1 : l[i] < n
    · rw [if_pos (by simpa using c1)]
      by_cases c2 : l[i] = s
      · have hk : keep s n l[i] = false := by unfold keep; rw [beq_iff_eq.2 c2]; simp
        rw [if_neg (by simpa using c2), hk]
        exact lpOf s n l hl k (i + 1) (by omega) acc (by omega)
      · have hk : keep s n l[i] = true := by unfold keep; rw [beq_eq_false_iff_ne.2 c2, decide_eq_true c1]; rfl
        rw [if_pos (by simpa using c2), hk, if_pos (by simp; omega)]
        have ih := lpOf s n l hl k (i + 1) (by omega) (acc ++ [l[i]]) (by simp; omega)
        rw [List.append_assoc] at ih
        rw [List.map_append] at ih
        exact ih
    · have hk : keep s n l[i] = false := by unfold keep; rw [decide_eq_false c1]; rfl
      rw [if_neg (by simpa using c1), hk]
      exact lpOf s n l hl k (i + 1) (by omega) acc (by omega)
noncomputable def ofL (s n : Int) (l : List Int) : List Int := cmpct ((l.filter (keep s n)).mergeSort fun x y => decide (x ≤ y))
theorem cmpct_len (l : List Int) : (cmpct l).length ≤ l.length := by
  cases l with
  | nil => exact Nat.le_refl _
  | cons a l => have := dd_len l a; show (dd a l).length + 1 ≤ l.length + 1; omega
theorem ofL_len (s n : Int) (l : List Int) : (ofL s n l).length ≤ l.length := by
  unfold ofL
  have h1 := cmpct_len ((l.filter (keep s n)).mergeSort fun x y => decide (x ≤ y))
  have h2 := List.length_filter_le (keep s n) l
  rw [List.length_mergeSort] at h1
  omega
theorem g53 : List.getD (mkS 53 [(6, PV.ref 0 0 0), (8, .ref 1 0 0)]) 6 .undef = .ref 0 0 0 ∧ List.getD (mkS 53 [(6, PV.ref 0 0 0), (8, .ref 1 0 0)]) 8 .undef = .ref 1 0 0 ∧ List.getD (mkS 53 [(6, PV.ref 0 0 0), (7, .int .i64 1)]) 6 .undef = .ref 0 0 0 ∧ List.getD (mkS 53 [(6, PV.ref 0 0 0), (7, .int .i64 1)]) 7 .undef = .int .i64 1 := ⟨rfl, rfl, rfl, rfl⟩
/-- What a view of any numbers comes to. -/
theorem spOf (s n : Int) (l : List Int) (hl : l.length ≤ 200) : ∃ u, pcall Cω 8 [.int .i64 s, .int .i64 n, .psl false (l.map ie)] = some (.tuple [.agg [.int .i64 (if (!low l && (Vw.mk s n (ofL s n l)).ok) = true then s else 0), .int .i64 (if (!low l && (Vw.mk s n (ofL s n l)).ok) = true then n else 0), u], .int .i64 (if (!low l && (Vw.mk s n (ofL s n l)).ok) = true then 0 else 1)]) ∧ ((!low l && (Vw.mk s n (ofL s n l)).ok) = true ∧ u = .psl false ((ofL s n l).map ie) ∨ (!low l && (Vw.mk s n (ofL s n l)).ok) = false ∧ (u = .nilsl ∨ u = .psl false [])) := by
  have lp := lpOf s n l hl l.length 0 (by omega) [] (Nat.le_refl _)
  rw [List.drop_zero, natz, List.nil_append] at lp
  have ev := eqK8 Cω Lω s n (l.map ie)
  rw [List.length_map] at ev
  simp only [List.map_nil] at lp
  rw [lp] at ev
  obtain ⟨g1, g2, g3, g4⟩ := g53
  cases h0 : low l with
  | true =>
    rw [h0] at ev
    simp only [asInt_int, asBool_bool, asStr_str, asSl_psl, asSl_nil, asAgg_agg, asTup_tup, asCons_cons, asNil_nil, asFlt_flt, asRef_ref, asWhole_whole, asView_view, asWv_whole, asWv_view, asFn_fn, asPref_pref, asOCons_cons, asONil_nil, asBox_box, asMade_made, asGone_dead, asGone_made, asCI_cons, asCB_cons, asCF_cons, asCS_psl, asCS_nil, asCW_cons, asCR_cons, asOM_cons, asOM_false, asOB_cons, asOB_false, asOG_dead, asOG_made, gS_mk, bind_some', onEx_exit, onEx_ret, if_true, g3, g4] at ev
    exact ⟨.psl false [], pc ev rfl, .inr ⟨rfl, .inr rfl⟩⟩
  | false =>
    rw [h0] at ev
    have hfl : (l.filter (keep s n)).length ≤ 200 := Nat.le_trans (List.length_filter_le _ _) hl
    have hol := ofL_len s n l
    have hc := spCheck (Vw.mk s n (ofL s n l)) (by show (ofL s n l).length < _; omega)
    have hsp : Cω 20 [whole 0 1] [.made true 1 (((l.filter (keep s n)).mergeSort fun x y => decide (x ≤ y)).map ie)] = some (whole 1 1, [.dead, .made true 1 ((ofL s n l).map ie)]) := cmp_sp _ (by rw [List.length_mergeSort]; omega)
    simp only [asInt_int, asBool_bool, asStr_str, asSl_psl, asSl_nil, asAgg_agg, asTup_tup, asCons_cons, asNil_nil, asFlt_flt, asRef_ref, asWhole_whole, asView_view, asWv_whole, asWv_view, asFn_fn, asPref_pref, asOCons_cons, asONil_nil, asBox_box, asMade_made, asGone_dead, asGone_made, asCI_cons, asCB_cons, asCF_cons, asCS_psl, asCS_nil, asCW_cons, asCR_cons, asOM_cons, asOM_false, asOB_cons, asOB_false, asOG_dead, asOG_made, gS_mk, bind_some', onEx_exit, onEx_ret, if_true, Bool.false_eq_true, if_false, g1, g2, List.length_map, List.drop_zero, List.take_zero, List.nil_append, Nat.zero_add] at ev
    rw [if_pos (by omega), List.take_of_length_le (by rw [List.length_map]; exact Nat.le_refl _), intsOf_map, List.drop_of_length_le (by rw [List.length_map]; exact Nat.le_refl _), bind_some', List.append_nil, ie_row, hsp] at ev
    simp only [Vw.e] at hc
    simp only [asInt_int, asBool_bool, asStr_str, asSl_psl, asSl_nil, asAgg_agg, asTup_tup, asCons_cons, asNil_nil, asFlt_flt, asRef_ref, asWhole_whole, asView_view, asWv_whole, asWv_view, asFn_fn, asPref_pref, asOCons_cons, asONil_nil, asBox_box, asMade_made, asGone_dead, asGone_made, asCI_cons, asCB_cons, asCF_cons, asCS_psl, asCS_nil, asCW_cons, asCR_cons, asOM_cons, asOM_false, asOB_cons, asOB_false, asOG_dead, asOG_made, gS_mk, bind_some', onEx_exit, onEx_ret, hc] at ev
    cases h1 : (Vw.mk s n (ofL s n l)).ok with
    | true =>
      rw [h1] at ev
      rw [if_pos rfl, if_neg (by decide)] at ev
      exact ⟨_, pc ev rfl, .inl ⟨rfl, rfl⟩⟩
    | false =>
      rw [h1] at ev
      rw [if_pos (show (((if false = true then (0 : Int) else 1) != 0) = true) by decide)] at ev
      simp only [Bool.false_eq_true, if_false] at ev
      exact ⟨.psl false [], pc ev rfl, .inr ⟨rfl, .inr rfl⟩⟩
end Go.Pvm.S
