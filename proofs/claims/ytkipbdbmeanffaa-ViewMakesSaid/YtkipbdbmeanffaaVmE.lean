/- Part of the proof: the document's view of any numbers, and that both are one. -/
import Derived.Test.YtkipbdbmeanffaaVmD
set_option linter.unusedSimpArgs false
set_option linter.unusedVariables false
set_option maxRecDepth 100000
namespace Go.Pvm.S
open Go.Pvm Go.Proofs
/-! ### Rising lists -/
theorem asc_ext : ∀ (l m : List Int), l.Pairwise (· < ·) → m.Pairwise (· < ·) → (∀ v, v ∈ l ↔ v ∈ m) → l = m
  | [], [], _, _, _ => rfl
  | [], b :: m, _, _, h => by have := (h b).2 (List.mem_cons_self ..); cases this
  | a :: l, [], _, _, h => by have := (h a).1 (List.mem_cons_self ..); cases this
  | a :: l, b :: m, h1, h2, h => by
    rw [List.pairwise_cons] at h1 h2
    have hab : a = b := by
      rcases List.mem_cons.1 ((h a).1 (List.mem_cons_self ..)) with e | e
      · exact e
      · rcases List.mem_cons.1 ((h b).2 (List.mem_cons_self ..)) with e' | e'
        · exact e'.symm
        · have := h2.1 a e
          have := h1.1 b e'
          omega
    subst hab
    rw [asc_ext l m h1.2 h2.2 fun v => ?_]
    constructor
    · intro hv
      rcases List.mem_cons.1 ((h v).1 (List.mem_cons_of_mem _ hv)) with e | e
      · have := h1.1 v hv; omega
      · exact e
    · intro hv
      rcases List.mem_cons.1 ((h v).2 (List.mem_cons_of_mem _ hv)) with e | e
      · have := h2.1 v hv; omega
      · exact e
theorem dd_spec : ∀ (l : List Int) (p : Int), (p :: l).Pairwise (· ≤ ·) → (p :: dd p l).Pairwise (· < ·) ∧ ∀ v, v ∈ p :: dd p l ↔ v ∈ p :: l
  | [], p, _ => ⟨by simp [dd], fun v => Iff.rfl⟩
  | b :: l, p, h => by
    rw [List.pairwise_cons] at h
    obtain ⟨i1, i2⟩ := dd_spec l b h.2
    unfold dd
    by_cases hb : b = p
    · rw [if_neg (by rw [bne_iff_ne]; exact fun e => e hb)]
      subst hb
      refine ⟨i1, fun v => ?_⟩
      rw [i2 v]
      simp
    · rw [if_pos (by rw [bne_iff_ne]; exact hb)]
      have hpb : p < b := by have := h.1 b (List.mem_cons_self ..); omega
      refine ⟨List.pairwise_cons.2 ⟨fun v hv => ?_, i1⟩, fun v => ?_⟩
      · rw [i2 v] at hv
        rcases List.mem_cons.1 hv with e | e
        · omega
        · have := (List.pairwise_cons.1 h.2).1 v e; omega
      · constructor
        · intro hv
          rcases List.mem_cons.1 hv with e | e
          · rw [e]; exact List.mem_cons_self ..
          · exact List.mem_cons_of_mem _ ((i2 v).1 e)
        · intro hv
          rcases List.mem_cons.1 hv with e | e
          · rw [e]; exact List.mem_cons_self ..
          · exact List.mem_cons_of_mem _ ((i2 v).2 e)
theorem cmpct_spec (l : List Int) (h : l.Pairwise (· ≤ ·)) : (cmpct l).Pairwise (· < ·) ∧ ∀ v, v ∈ cmpct l ↔ v ∈ l := by
  cases l with
  | nil => exact ⟨.nil, fun v => Iff.rfl⟩
  | cons a l => exact dd_spec l a h
theorem srt_spec (l : List Int) : (l.mergeSort fun x y => decide (x ≤ y)).Pairwise (· ≤ ·) := by
  have := List.pairwise_mergeSort (le := fun x y : Int => decide (x ≤ y)) (fun a b c h1 h2 => by rw [decide_eq_true_eq] at *; omega) (fun a b => by rw [Bool.or_eq_true, decide_eq_true_eq, decide_eq_true_eq]; omega) l
  exact this.imp fun h => by rwa [decide_eq_true_eq] at h
/-- One more, ahead of the first that is not below it. -/
def rIns (acc : List Int) (t : Int) : List Int := acc.takeWhile (· < t) ++ t :: acc.dropWhile (· < t)
theorem rIns_len (acc : List Int) (t : Int) : (rIns acc t).length = acc.length + 1 := by
  have h := congrArg List.length (List.takeWhile_append_dropWhile (p := fun x : Int => decide (x < t)) (l := acc))
  rw [List.length_append] at h
  unfold rIns
  rw [List.length_append, List.length_cons]
  omega
theorem rIns_mem (acc : List Int) (t v : Int) : v ∈ rIns acc t ↔ v = t ∨ v ∈ acc := by
  have h := List.takeWhile_append_dropWhile (p := fun x : Int => decide (x < t)) (l := acc)
  unfold rIns
  conv => rhs; rw [← h]
  simp only [List.mem_append, List.mem_cons]
  constructor
  · rintro (h | h | h)
    · exact .inr (.inl h)
    · exact .inl h
    · exact .inr (.inr h)
  · rintro (h | h | h)
    · exact .inr (.inl h)
    · exact .inl h
    · exact .inr (.inr h)
theorem rIns_asc : ∀ (acc : List Int) (t : Int), acc.Pairwise (· < ·) → t ∉ acc → (rIns acc t).Pairwise (· < ·)
  | [], t, _, _ => by simp [rIns]
  | a :: acc, t, h, hn => by
    rw [List.pairwise_cons] at h
    have hat : a ≠ t := fun e => hn (by rw [e]; exact List.mem_cons_self ..)
    by_cases c : a < t
    · have e : rIns (a :: acc) t = a :: rIns acc t := by
        unfold rIns
        rw [List.takeWhile_cons, List.dropWhile_cons]
        simp [c]
      rw [e, List.pairwise_cons]
      refine ⟨fun v hv => ?_, rIns_asc acc t h.2 fun hm => hn (List.mem_cons_of_mem _ hm)⟩
      rcases (rIns_mem acc t v).1 hv with rfl | hv
      · exact c
      · exact h.1 v hv
    · have e : rIns (a :: acc) t = t :: a :: acc := by
        unfold rIns
        rw [List.takeWhile_cons, List.dropWhile_cons]
        simp [c]
      rw [e, List.pairwise_cons, List.pairwise_cons]
      refine ⟨fun v hv => ?_, h⟩
      rcases List.mem_cons.1 hv with rfl | hv
      · omega
      · have := h.1 v hv; omega
def rStep (s n : Int) (acc : List Int) (t : Int) : List Int := if (keep s n t && !acc.any (· == t)) = true then rIns acc t else acc
def rofL (s n : Int) (l : List Int) : List Int := l.foldl (rStep s n) []
theorem rof_spec (s n : Int) : ∀ (l acc : List Int), acc.Pairwise (· < ·) → (l.foldl (rStep s n) acc).Pairwise (· < ·) ∧ ∀ v, v ∈ l.foldl (rStep s n) acc ↔ v ∈ acc ∨ v ∈ l.filter (keep s n)
  | [], acc, h => ⟨h, fun v => by simp⟩
  | t :: l, acc, h => by
    rw [List.foldl_cons, List.filter_cons]
    have hstep : (rStep s n acc t).Pairwise (· < ·) ∧ ∀ v, v ∈ rStep s n acc t ↔ v ∈ acc ∨ (keep s n t = true ∧ v = t) := by
      unfold rStep
      cases hk : keep s n t with
      | false => exact ⟨by simpa using h, fun v => by simp⟩
      | true =>
        by_cases hm : acc.any (· == t) = true
        · rw [if_neg (by rw [hm]; decide)]
          refine ⟨h, fun v => ⟨.inl, ?_⟩⟩
          rintro (hv | ⟨_, rfl⟩)
          · exact hv
          · rw [List.any_eq_true] at hm
            obtain ⟨x, hx, e⟩ := hm
            rw [beq_iff_eq] at e
            rw [← e]; exact hx
        · have hm' : acc.any (· == t) = false := Bool.eq_false_iff.2 hm
          rw [if_pos (by rw [hm']; rfl)]
          refine ⟨rIns_asc _ _ h fun hin => ?_, fun v => ?_⟩
          · rw [List.any_eq_false] at hm'
            exact hm' t hin (beq_self_eq_true t)
          · rw [rIns_mem]
            simp only [true_and]
            exact Or.comm
    obtain ⟨i1, i2⟩ := rof_spec s n l (rStep s n acc t) hstep.1
    refine ⟨i1, fun v => ?_⟩
    rw [i2 v, hstep.2 v]
    cases hk : keep s n t with
    | false => simp
    | true =>
      simp only [if_true, List.mem_cons, true_and]
      constructor
      · rintro ((h | h) | h)
        · exact .inl h
        · exact .inr (.inl h)
        · exact .inr (.inr h)
      · rintro (h | h | h)
        · exact .inl (.inl h)
        · exact .inl (.inr h)
        · exact .inr h
/-- Both are one. -/
theorem of_eq (s n : Int) (l : List Int) : ofL s n l = rofL s n l := by
  obtain ⟨h1, h2⟩ := cmpct_spec _ (srt_spec (l.filter (keep s n)))
  obtain ⟨h3, h4⟩ := rof_spec s n l [] .nil
  refine asc_ext _ _ h1 h3 fun v => ?_
  refine (h2 v).trans (Iff.trans ?_ (h4 v).symm)
  rw [List.mem_mergeSort]
  simp

/-! ### The document's -/
theorem tw_at : ∀ (acc : List Int) (t : Int) (i : Nat), (∀ k a, k < i → acc[k]? = some a → a < t) → i ≤ acc.length → (∀ a, acc[i]? = some a → ¬ a < t) → acc.takeWhile (· < t) = acc.take i ∧ acc.dropWhile (· < t) = acc.drop i
  | [], t, i, _, h, _ => by
    have : i = 0 := by simpa using h
    subst this; exact ⟨rfl, rfl⟩
  | a :: acc, t, 0, h1, h2, h3 => by
    have := h3 a rfl
    rw [List.takeWhile_cons, List.dropWhile_cons]
    simp [this]
  | a :: acc, t, i + 1, h1, h2, h3 => by
    have h := h1 0 a (by omega) rfl
    obtain ⟨i1, i2⟩ := tw_at acc t i (fun k b hk hb => h1 (k + 1) b (by omega) (by simpa using hb)) (by simpa using h2) (fun b hb => h3 b (by simpa using hb))
    rw [List.takeWhile_cons, List.dropWhile_cons]
    simp [h, i1, i2]
theorem ptI (n : Int) : partOf Try.prog 3 (ie n) 0 = some (.int .i64 n) := by kernel_rfl
theorem lpAt (s n : Int) (l : List Int) (j : Int) (t : Int) (acc : List Int) (hl : acc.length ≤ 400) : ∀ k i : Nat, i + k = acc.length → (∀ k a, k < i → acc[k]? = some a → a < t) → ∃ p : Nat, p ≤ acc.length ∧ acc.takeWhile (· < t) = acc.take p ∧ acc.dropWhile (· < t) = acc.drop p ∧
    Lω 9 lcK9_10 0 (stK9_10 s n (l.map ie) j t (i : Nat)) [.box true 25 [.int .i64 0, .int .i64 0, whole 2 1], .box true 25 [.int .i64 s, .int .i64 n, whole 3 1], .made true 1 [], .made true 1 (acc.map ie)] =
    some (.exit 2, mkS 78 [(0, .int .i64 s), (1, .int .i64 n), (2, .psl false (l.map ie)), (6, .ref 0 0 0), (8, .ref 1 0 0), (9, .int .i64 j), (10, .int .i64 t), (11, .int .i64 (p : Nat))], [.box true 25 [.int .i64 0, .int .i64 0, whole 2 1], .box true 25 [.int .i64 s, .int .i64 n, whole 3 1], .made true 1 [], .made true 1 (acc.map ie)])
  | 0, i, h, hb => by
    obtain ⟨q1, q2⟩ := tw_at acc t i hb (by omega) (fun a ha => by rw [List.getElem?_eq_none (by omega)] at ha; cases ha)
    refine ⟨i, by omega, q1, q2, lw ?_⟩
    rw [lqK9_10, if_neg (by simp; omega)]
  | k + 1, i, h, hb => by
    have hi : i < acc.length := by omega
    have hg := List.getElem?_eq_getElem hi
    have ev := lqK9_10 Cω Lω s n (l.map ie) j t (i : Nat) 0 0 s n [] (acc.map ie)
    rw [List.length_map, if_pos (by rw [decide_eq_true_eq]; omega), if_pos ⟨nn _, by omega⟩, Int.toNat_natCast, mapGet hg] at ev
    simp only [bind_some', ptI, asInt_int] at ev
    by_cases c : acc[i] < t
    · rw [if_pos (by simpa using c), wrap_succ (by omega)] at ev
      obtain ⟨p, p1, p2, p3, p4⟩ := lpAt s n l j t acc hl k (i + 1) (by omega) (fun q a hq ha => by
        rcases Nat.lt_or_ge q i with h1 | h1
        · exact hb q a h1 ha
        · have : q = i := by omega
          subst this
          rw [hg] at ha; cases ha; exact c)
      exact ⟨p, p1, p2, p3, lw (ev.trans p4)⟩
    · rw [if_neg (by simpa using c)] at ev
      obtain ⟨q1, q2⟩ := tw_at acc t i hb (by omega) (fun a ha => by rw [hg] at ha; cases ha; exact c)
      exact ⟨i, by omega, q1, q2, lw ev⟩
theorem lpROf (s n : Int) (l : List Int) (hl : l.length ≤ 200) : ∀ k i : Nat, i + k = l.length → ∀ acc : List Int, acc.length ≤ i → Lω 9 lcK9_3 0 (stK9_3 s n (l.map ie) (i : Nat)) [.box true 25 [.int .i64 0, .int .i64 0, whole 2 1], .box true 25 [.int .i64 s, .int .i64 n, whole 3 1], .made true 1 [], .made true 1 (acc.map ie)] =
    some (if low (l.drop i) = true then (.ret, mkS 78 [(6, .ref 0 0 0), (7, .bool false)], [.box true 25 [.int .i64 0, .int .i64 0, .nilsl]]) else (.exit 0, mkS 78 [(6, .ref 0 0 0), (8, .ref 1 0 0)], [.box true 25 [.int .i64 0, .int .i64 0, whole 2 1], .box true 25 [.int .i64 s, .int .i64 n, whole 3 1], .made true 1 [], .made true 1 (((l.drop i).foldl (rStep s n) acc).map ie)]))
  | 0, i, h, acc, ha => by
    refine lw ?_
    rw [lqK9_3, if_neg (by simp; omega), List.drop_of_length_le (by omega)]
    rfl
  | k + 1, i, h, acc, ha => by
    have hi : i < l.length := by omega
    have hg := List.getElem?_eq_getElem hi
    have ev := lqK9_3 Cω Lω s n (l.map ie) (i : Nat) 0 0 s n [] (acc.map ie)
    rw [if_pos (by simp; omega), if_pos (by omega), Int.toNat_natCast, mapGet hg, bind_some'] at ev
    rw [List.drop_eq_getElem_cons hi]
    unfold low
    rw [List.any_cons, List.foldl_cons]
    simp only [show ∀ z, ie z = [PV.int .i64 z] from fun _ => rfl, asCI_cons, asNil_nil] at ev
    have iex : (fun z => [PV.int .i64 z]) = ie := rfl
    by_cases c0 : l[i] < 1
    · rw [if_pos (by simpa using c0)] at ev
      rw [if_pos (by rw [decide_eq_true c0]; rfl)]
      exact lw ev
    rw [if_neg (by simpa using c0), wrap_succ (by omega)] at ev
    rw [decide_eq_false c0, Bool.false_or]
    by_cases c1 : l[i] ≥ n
    · have hk : rStep s n acc l[i] = acc := by unfold rStep keep; rw [decide_eq_false (show ¬ l[i] < n by omega)]; rfl
      rw [if_pos (by simpa using c1)] at ev
      rw [hk]
      exact lw (ev.trans (lpROf s n l hl k (i + 1) (by omega) acc (by omega)))
    rw [if_neg (by simpa using c1)] at ev
    by_cases c2 : l[i] = s
    · have hk : rStep s n acc l[i] = acc := by unfold rStep keep; rw [beq_iff_eq.2 c2]; simp
      rw [if_pos (by simpa using c2)] at ev
      rw [hk]
      exact lw (ev.trans (lpROf s n l hl k (i + 1) (by omega) acc (by omega)))
    rw [if_neg (by simpa using c2)] at ev
    have hin := spIn acc l[i] (by omega)
    rw [hin, bind_some', asBool_bool] at ev
    by_cases c3 : acc.any (· == l[i]) = true
    · have hk : rStep s n acc l[i] = acc := by unfold rStep; rw [c3]; simp
      rw [if_pos c3] at ev
      rw [hk]
      exact lw (ev.trans (lpROf s n l hl k (i + 1) (by omega) acc (by omega)))
    have hk : rStep s n acc l[i] = rIns acc l[i] := by
      unfold rStep keep
      rw [decide_eq_true (show l[i] < n by omega), beq_eq_false_iff_ne.2 c2]
      rw [Bool.eq_false_iff.2 c3]
      rfl
    rw [if_neg c3] at ev
    obtain ⟨p, p1, p2, p3, p4⟩ := lpAt s n l (i : Nat) l[i] acc (by omega) acc.length 0 (by omega) (fun k a h => by omega)
    rw [natz] at p4
    rw [p4, bind_some'] at ev
    simp only [asInt_int, asBool_bool, asStr_str, asSl_psl, asSl_nil, asAgg_agg, asTup_tup, asCons_cons, asNil_nil, asFlt_flt, asRef_ref, asWhole_whole, asView_view, asWv_whole, asWv_view, asFn_fn, asPref_pref, asOCons_cons, asONil_nil, asBox_box, asMade_made, asGone_dead, asGone_made, asCI_cons, asCB_cons, asCF_cons, asCS_psl, asCS_nil, asCW_cons, asCR_cons, asOM_cons, asOM_false, asOB_cons, asOB_false, asOG_dead, asOG_made, gS_mk, bind_some', onEx_exit, onEx_ret, mkS_hit, mkS_miss, ne_eq, not_false_eq_true, Nat.reduceLT, Nat.reduceEqDiff, if_true, numNat, List.length_map, List.drop_zero, Nat.sub_zero, List.nil_append, List.length_nil, Nat.zero_add, Nat.zero_le, true_and] at ev
    have hr1 : rowsPl 1 ((acc.map ie).take p) = true := by rw [← List.map_take]; exact plain_of ie_ok _
    have hr2 : rowsPl 1 (((acc.map ie).drop p).take (acc.length - p)) = true := by rw [← List.map_drop, ← List.map_take]; exact plain_of ie_ok _
    have hx : List.take (acc.length - p) (List.drop p (acc.map ie)) = List.drop p (acc.map ie) := List.take_of_length_le (by simp)
    rw [if_pos p1, hr1, if_neg (by decide), if_pos (by rw [List.length_take, List.length_map]; omega), if_pos (by rw [List.length_take, List.length_map]; simp; omega), if_pos ⟨p1, Nat.le_refl _⟩, hr2, if_neg (by decide), hx, if_pos (by rw [List.length_append, List.length_take, List.length_drop, List.length_map]; simp; omega), wrap_succ (by omega)] at ev
    rw [hk]
    have ih := lpROf s n l hl k (i + 1) (by omega) (rIns acc l[i]) (by rw [rIns_len]; omega)
    have hrow : (rIns acc l[i]).map ie = (acc.map ie).take p ++ [[.int .i64 l[i]]] ++ (acc.map ie).drop p := by
      unfold rIns
      rw [p2, p3, List.map_append, List.map_cons, List.map_take, List.map_drop, List.append_assoc]
      rfl
    rw [hrow] at ih
    exact lw (ev.trans ih)
theorem g78 : List.getD (mkS 78 [(6, PV.ref 0 0 0), (8, .ref 1 0 0)]) 6 .undef = .ref 0 0 0 ∧ List.getD (mkS 78 [(6, PV.ref 0 0 0), (8, .ref 1 0 0)]) 8 .undef = .ref 1 0 0 ∧ List.getD (mkS 78 [(6, PV.ref 0 0 0), (7, .bool false)]) 6 .undef = .ref 0 0 0 ∧ List.getD (mkS 78 [(6, PV.ref 0 0 0), (7, .bool false)]) 7 .undef = .bool false := ⟨rfl, rfl, rfl, rfl⟩
theorem rofL_len (s n : Int) (l : List Int) : (rofL s n l).length ≤ l.length := by rw [← of_eq]; exact ofL_len s n l
theorem spROf (s n : Int) (l : List Int) (hl : l.length ≤ 200) : ∃ u, pcall Cω 9 [.int .i64 s, .int .i64 n, .psl false (l.map ie)] = some (.tuple [.agg [.int .i64 (if (!low l && (Vw.mk s n (ofL s n l)).ok) = true then s else 0), .int .i64 (if (!low l && (Vw.mk s n (ofL s n l)).ok) = true then n else 0), u], .bool (!low l && (Vw.mk s n (ofL s n l)).ok)]) ∧ ((!low l && (Vw.mk s n (ofL s n l)).ok) = true ∧ u = .psl false ((ofL s n l).map ie) ∨ (!low l && (Vw.mk s n (ofL s n l)).ok) = false ∧ (u = .nilsl ∨ u = .psl false [])) := by
  have lp := lpROf s n l hl l.length 0 (by omega) [] (Nat.le_refl _)
  rw [List.drop_zero, natz] at lp
  have ev := eqK9 Cω Lω s n (l.map ie)
  simp only [List.map_nil] at lp
  rw [lp] at ev
  obtain ⟨g1, g2, g3, g4⟩ := g78
  cases h0 : low l with
  | true =>
    rw [h0] at ev
    simp only [asInt_int, asBool_bool, asStr_str, asSl_psl, asSl_nil, asAgg_agg, asTup_tup, asCons_cons, asNil_nil, asFlt_flt, asRef_ref, asWhole_whole, asView_view, asWv_whole, asWv_view, asFn_fn, asPref_pref, asOCons_cons, asONil_nil, asBox_box, asMade_made, asGone_dead, asGone_made, asCI_cons, asCB_cons, asCF_cons, asCS_psl, asCS_nil, asCW_cons, asCR_cons, asOM_cons, asOM_false, asOB_cons, asOB_false, asOG_dead, asOG_made, gS_mk, bind_some', onEx_exit, onEx_ret, if_true, g3, g4] at ev
    exact ⟨.psl false [], pc ev rfl, .inr ⟨rfl, .inr rfl⟩⟩
  | false =>
    rw [h0] at ev
    have hol := rofL_len s n l
    have he : l.foldl (rStep s n) [] = ofL s n l := (of_eq s n l).symm
    have hc := spMay (Vw.mk s n (ofL s n l)) (by show (ofL s n l).length < _; have := ofL_len s n l; omega)
    simp only [Vw.e] at hc
    simp only [asInt_int, asBool_bool, asStr_str, asSl_psl, asSl_nil, asAgg_agg, asTup_tup, asCons_cons, asNil_nil, asFlt_flt, asRef_ref, asWhole_whole, asView_view, asWv_whole, asWv_view, asFn_fn, asPref_pref, asOCons_cons, asONil_nil, asBox_box, asMade_made, asGone_dead, asGone_made, asCI_cons, asCB_cons, asCF_cons, asCS_psl, asCS_nil, asCW_cons, asCR_cons, asOM_cons, asOM_false, asOB_cons, asOB_false, asOG_dead, asOG_made, gS_mk, bind_some', onEx_exit, onEx_ret, if_true, Bool.false_eq_true, if_false, g1, g2, he, hc] at ev
    cases h1 : (Vw.mk s n (ofL s n l)).ok with
    | true =>
      rw [h1] at ev
      rw [if_neg (by decide)] at ev
      exact ⟨_, pc ev rfl, .inl ⟨rfl, rfl⟩⟩
    | false =>
      rw [h1] at ev
      rw [if_pos (by decide)] at ev
      exact ⟨.psl false [], pc ev rfl, .inr ⟨rfl, .inr rfl⟩⟩
end Go.Pvm.S
