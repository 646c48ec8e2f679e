/- Part of the proof: the theorem of views. -/
import Derived.Test.YtkipbdbmeanffaaViewF
set_option linter.unusedSimpArgs false
set_option linter.unusedVariables false
set_option maxRecDepth 100000
namespace Go.Pvm.S
open Go.Pvm Go.Proofs
def ue (n : Int) : List PV := [.int .u8 n]
theorem mk110 (a b c d e f g h : PV) : List.getD (mkS 110 [(0, a), (1, b), (5, c), (6, d), (7, e), (8, f), (10, g), (11, h)]) 0 .undef = a ∧ List.getD (mkS 110 [(0, a), (1, b), (5, c), (6, d), (7, e), (8, f), (10, g), (11, h)]) 1 .undef = b ∧ List.getD (mkS 110 [(0, a), (1, b), (5, c), (6, d), (7, e), (8, f), (10, g), (11, h)]) 5 .undef = c ∧ List.getD (mkS 110 [(0, a), (1, b), (5, c), (6, d), (7, e), (8, f), (10, g), (11, h)]) 6 .undef = d ∧ List.getD (mkS 110 [(0, a), (1, b), (5, c), (6, d), (7, e), (8, f), (10, g), (11, h)]) 7 .undef = e ∧ List.getD (mkS 110 [(0, a), (1, b), (5, c), (6, d), (7, e), (8, f), (10, g), (11, h)]) 8 .undef = f ∧ List.getD (mkS 110 [(0, a), (1, b), (5, c), (6, d), (7, e), (8, f), (10, g), (11, h)]) 10 .undef = g ∧ List.getD (mkS 110 [(0, a), (1, b), (5, c), (6, d), (7, e), (8, f), (10, g), (11, h)]) 11 .undef = h := ⟨rfl, rfl, rfl, rfl, rfl, rfl, rfl, rfl⟩
theorem numN (k d : Nat) : numOf (some (.int .i64 ((k : Nat) : Int))) d = some k := by
  show (if (0 : Int) ≤ ((k : Nat) : Int) then some (((k : Nat) : Int).toNat) else none) = _
  rw [if_pos (by omega)]; rfl
theorem rowsI (l : List Int) : rowsPl 1 (l.map ie) = true := rowsPl_map l fun _ => ⟨rfl, rfl⟩
theorem appI (l : List Int) (x : Int) : l.map ie ++ [[PV.int .i64 x]] = (l ++ [x]).map ie := by simp [ie]
theorem consI (l : List Int) (x : Int) : [[PV.int .i64 x]] ++ l.map ie = (x :: l).map ie := rfl
def kk (b : Int) (L : List Int) : Nat := (b / 2).toNat % L.length
theorem remK {b : Int} {L : List Int} (h : 0 ≤ b ∧ b ≤ 255) (hL : L.length ≠ 0) : binv Try.prog .rem 3 (.int .i64 (IntKind.wrap .i64 (IntKind.wrap .u8 (Int.tdiv b 2)))) (.int .i64 ((L.length : Nat) : Int)) = some (.int .i64 ((kk b L : Nat) : Int)) := by
  rw [Int.tdiv_eq_ediv_of_nonneg h.1, wrap_u8 (by omega) (by omega), wrap_i64 (by omega) (by omega)]
  show (if ((L.length : Nat) : Int) = 0 then none else some (PV.int .i64 (Int.tmod (b / 2) ((L.length : Nat) : Int)))) = _
  rw [if_neg (by omega), Int.tmod_eq_emod_of_nonneg (by omega)]
  unfold kk
  have : ((b / 2).toNat : Int) = b / 2 := Int.toNat_of_nonneg (by omega)
  rw [← this, ← Int.natCast_emod]
  rfl
/-- What is seen is what was seen. -/
def SeenAs (v : Vw) (S : List Int) : Prop := 0 < v.n → ∀ t : Int, 1 ≤ t → (v.ok && sees v t) = S.any (· == t)
theorem inn (l : List Int) (a1 : Int) (N0 i : Nat) (v : Vw) (S L E : List Int) (h : SeenAs v S ∧ v.a.length ≤ 64 ∧ S.length ≤ 100) : ∀ N : Nat, 1 ≤ N → N < 1000 → Lω 4 lcK4_22 0 (stK4_22 (l.map ue) a1 (N : Nat) (i : Nat) 1) [.made false 1 (L.map ie), .made true 1 (E.map ie), .box true 25 v.e, .made true 1 (S.map ie)] =
    some (.exit 2, mkS 110 [(0, .psl false (l.map ue)), (1, .int .u8 a1), (5, .int .i64 (N : Nat)), (6, whole 0 1), (7, whole 1 1), (8, .ref 2 0 0), (10, whole 3 1), (11, .int .i64 (i : Nat))], [.made false 1 (L.map ie), .made true 1 (E.map ie), .box true 25 v.e, .made true 1 (S.map ie)]) := by
  intro N hN hN2
  have go : ∀ k t : Nat, 1 ≤ t → t + k = N → Lω 4 lcK4_22 0 (stK4_22 (l.map ue) a1 (N : Nat) (i : Nat) (t : Nat)) [.made false 1 (L.map ie), .made true 1 (E.map ie), .box true 25 v.e, .made true 1 (S.map ie)] =
    some (.exit 2, mkS 110 [(0, .psl false (l.map ue)), (1, .int .u8 a1), (5, .int .i64 (N : Nat)), (6, whole 0 1), (7, whole 1 1), (8, .ref 2 0 0), (10, whole 3 1), (11, .int .i64 (i : Nat))], [.made false 1 (L.map ie), .made true 1 (E.map ie), .box true 25 v.e, .made true 1 (S.map ie)]) := by
    intro k
    induction k with
    | zero =>
      intro t h1 h2
      refine lw ?_
      simp only [Vw.e]
      rw [lqK4_22, if_neg (by simp; omega)]
    | succ k ihk =>
      intro t h1 h2
      have ih := ihk (t + 1) (by omega) (by omega)
      refine lw ?_
      have hs := spSees v ((t : Nat) : Int) (by omega)
      have hin := spIn S ((t : Nat) : Int) (by omega)
      simp only [Vw.e] at ih hs ⊢
      rw [lqK4_22, if_pos (by simp; omega)]
      by_cases hn : 0 < v.n
      · rw [if_pos (by simpa using hn), hs]
        simp only [asInt_int, asBool_bool, asStr_str, asSl_psl, asSl_nil, asAgg_agg, asTup_tup, asCons_cons, asNil_nil, asFlt_flt, asRef_ref, asWhole_whole, asView_view, asWv_whole, asWv_view, asFn_fn, asPref_pref, asOCons_cons, asONil_nil, asBox_box, asMade_made, asGone_dead, asGone_made, bind_some', onEx_exit, onEx_ret]
        rw [hin]
        simp only [asInt_int, asBool_bool, asStr_str, asSl_psl, asSl_nil, asAgg_agg, asTup_tup, asCons_cons, asNil_nil, asFlt_flt, asRef_ref, asWhole_whole, asView_view, asWv_whole, asWv_view, asFn_fn, asPref_pref, asOCons_cons, asONil_nil, asBox_box, asMade_made, asGone_dead, asGone_made, bind_some', onEx_exit, onEx_ret]
        rw [h.1 hn _ (by omega), beq_self_eq_true, if_neg (by decide), wrap_succ (by omega)]
        exact ih
      · rw [if_neg (by simpa using hn)]
  exact go (N - 1) 1 (by omega) (by omega)
/-- Each that began is either live or ended. -/
structure Began (N : Nat) (L E : List Int) : Prop where
  pw : L.Pairwise (· < ·)
  lo : ∀ t ∈ L, 1 ≤ t ∧ t < (N : Nat)
  el : ∀ t ∈ E, 1 ≤ t ∧ t < (N : Nat)
  part : ∀ t : Int, 1 ≤ t → t < (N : Nat) → (t ∈ L ↔ t ∉ E)
section
variable {N : Nat} {L E : List Int}
theorem Began.begin (h : Began N L E) (hN : 1 ≤ N) : Began (N + 1) (L ++ [((N : Nat) : Int)]) E where
  pw := List.pairwise_append.2 ⟨h.pw, List.pairwise_singleton _ _, fun a ha b hb => by rw [List.mem_singleton.1 hb]; exact (h.lo a ha).2⟩
  lo := fun t ht => by
    rcases List.mem_append.1 ht with ht | ht
    · have := h.lo t ht; omega
    · rw [List.mem_singleton.1 ht]; omega
  el := fun t ht => by have := h.el t ht; omega
  part := fun t h1 h2 => by
    by_cases e : t = (N : Nat)
    · subst e
      exact ⟨fun _ he => by have := h.el _ he; omega, fun _ => by simp⟩
    · have := h.part t h1 (by omega)
      rw [← this]
      constructor
      · intro hm
        rcases List.mem_append.1 hm with hm | hm
        · exact hm
        · exact absurd (List.mem_singleton.1 hm) e
      · intro hm
        exact List.mem_append_left _ hm
theorem Began.finish (h : Began N L E) {k : Nat} (hk : k < L.length) : Began N (L.take k ++ (L.drop (k + 1)).take (L.length - (k + 1))) (E ++ [L.getD k 0]) := by
  have e1 : (L.drop (k + 1)).take (L.length - (k + 1)) = L.drop (k + 1) := List.take_of_length_le (by simp)
  have e2 : L = L.take k ++ L.getD k 0 :: L.drop (k + 1) := by
    have : L.drop k = L.getD k 0 :: L.drop (k + 1) := by rw [List.drop_eq_getElem_cons hk, List.getD_eq_getElem?_getD, List.getElem?_eq_getElem hk]; rfl
    rw [← this, List.take_append_drop]
  rw [e1]
  generalize hx : L.getD k 0 = x at e2
  generalize L.take k = A at e2
  generalize L.drop (k + 1) = B at e2
  subst e2
  have hp := List.pairwise_append.1 h.pw
  have hp2 := List.pairwise_cons.1 hp.2.1
  refine ⟨List.pairwise_append.2 ⟨hp.1, hp2.2, fun a ha b hb => hp.2.2 a ha b (List.mem_cons_of_mem _ hb)⟩, fun t ht => h.lo t ?_, fun t ht => ?_, fun t h1 h2 => ?_⟩
  · rcases List.mem_append.1 ht with ht | ht
    · exact List.mem_append_left _ ht
    · exact List.mem_append_right _ (List.mem_cons_of_mem _ ht)
  · rcases List.mem_append.1 ht with ht | ht
    · exact h.el t ht
    · rw [List.mem_singleton.1 ht]
      exact h.lo x (List.mem_append_right _ (List.mem_cons_self ..))
  · have hq := h.part t h1 h2
    by_cases e : t = x
    · subst e
      constructor
      · intro hm
        rcases List.mem_append.1 hm with hm | hm
        · have := hp.2.2 t hm t (List.mem_cons_self ..); omega
        · have := hp2.1 t hm; omega
      · intro hm
        exact absurd (List.mem_append_right _ (List.mem_singleton.2 rfl)) hm
    · rw [List.mem_append, List.mem_append, List.mem_singleton]
      rw [List.mem_append, List.mem_cons] at hq
      constructor
      · intro hm hm2
        rcases hm2 with hm2 | hm2
        · exact hq.1 (by rcases hm with hm | hm <;> simp [hm]) hm2
        · exact e hm2
      · intro hm
        rcases hq.2 (fun hh => hm (.inl hh)) with hh | hh | hh
        · exact .inl hh
        · exact absurd hh e
        · exact .inr hh
theorem Began.view (h : Began N L E) (hN : 1 ≤ N) (hN2 : N < 1000) (hL : L.length ≤ 64) : (Vw.mk (N : Nat) ((N + 1 : Nat) : Int) L).ok = true ∧ SeenAs (Vw.mk (N : Nat) ((N + 1 : Nat) : Int) L) (((N : Nat) : Int) :: E) := by
  have ho : (Vw.mk (N : Nat) ((N + 1 : Nat) : Int) L).ok = true := by
    refine Vw.ok_iff.2 ⟨⟨by show (0 : Int) ≤ (N : Nat); omega, by show ((N : Nat) : Int) ≤ _; omega⟩, ⟨by show (0 : Int) ≤ ((N + 1 : Nat) : Int); omega, by show ((N + 1 : Nat) : Int) ≤ _; omega⟩, hL, fun i hi => ?_⟩
    have hm : L.getD i 0 ∈ L := List.mem_of_getElem? (getDL hi)
    have h1 := h.lo _ hm
    have h2 : L.getD i 0 < ((N + 1 : Nat) : Int) := by omega
    have h3 : L.getD i 0 ≠ ((N : Nat) : Int) := by omega
    refine ⟨h1.1, h2, h3, fun h0 => ?_⟩
    exact asc_of h.pw (i - 1) i (by omega) hi
  refine ⟨ho, fun _ t h1 => ?_⟩
  rw [ho, Bool.true_and, List.any_cons]
  unfold sees
  rw [if_neg (by omega), decide_eq_true (show 0 < t by omega), Bool.true_and]
  show (decide (t = ((N : Nat) : Int)) || (decide (t < ((N + 1 : Nat) : Int)) && !L.any (· == t))) = _
  by_cases e : t = (N : Nat)
  · rw [decide_eq_true e, beq_iff_eq.2 e.symm]; rfl
  · rw [decide_eq_false e, beq_eq_false_iff_ne.2 (fun q => e q.symm), Bool.false_or, Bool.false_or]
    by_cases h2 : t < (N : Nat)
    · rw [decide_eq_true (show t < ((N + 1 : Nat) : Int) by omega), Bool.true_and]
      have hp := h.part t h1 h2
      have m1 : ∀ l : List Int, l.any (· == t) = decide (t ∈ l) := fun l => by
        rw [Bool.eq_iff_iff, List.any_eq_true, decide_eq_true_iff]
        exact ⟨fun ⟨x, hx, e⟩ => by rw [← eq_of_beq e]; exact hx, fun hx => ⟨t, hx, beq_self_eq_true t⟩⟩
      rw [m1, m1]
      by_cases hE : t ∈ E
      · rw [decide_eq_true hE, decide_eq_false (fun q => hp.1 q hE)]; rfl
      · rw [decide_eq_false hE, decide_eq_true (hp.2 hE)]; rfl
    · rw [decide_eq_false (show ¬ t < ((N + 1 : Nat) : Int) by omega), Bool.false_and]
      refine (Bool.eq_false_iff.2 fun ha => ?_).symm
      obtain ⟨x, hx, q⟩ := List.any_eq_true.1 ha
      have := h.el x hx
      have := eq_of_beq q
      omega
end
theorem lpKeeps (l : List Int) (a1 : Int) (hl : l.length < 4611686018427387904) (hb : ∀ b ∈ l, 0 ≤ b ∧ b ≤ 255) : ∀ k i : Nat, i + k = l.length → ∀ (N : Nat) (L E : List Int) (v : Vw) (S : List Int), L.length ≤ i → E.length ≤ i → 1 ≤ N → N ≤ 2 * i + 2 → i ≤ 60 → (SeenAs v S ∧ v.a.length ≤ 64 ∧ S.length ≤ 100) → (((i : Nat) : Int) ≤ IntKind.wrap .i64 (Int.tmod a1 60) → Began N L E) →
    Lω 4 lcK4_7 0 (stK4_7 (l.map ue) a1 (N : Nat) (i : Nat)) [.made false 1 (L.map ie), .made true 1 (E.map ie), .box true 25 v.e, .made true 1 (S.map ie)] = some (.exit 0, mkS 110 [], [])
  | 0, i, h, N, L, E, v, S, hLi, hEi, hN1, hN2, hi60, ⟨hse, hva, hS⟩, hbe => by
    refine lw ?_
    simp only [Vw.e]
    rw [lqK4_7, if_neg (by simp; omega)]
  | k + 1, i, h, N, L, E, v, S, hLi, hEi, hN1, hN2, hi60, ⟨hse, hva, hS⟩, hbe => by
    have hi : i < l.length := by omega
    have hg := List.getElem?_eq_getElem hi
    by_cases hi6 : i < 60
    · have ih := lpKeeps l a1 hl hb k (i + 1) (by omega)
      refine lw ?_
      simp only [Vw.e]
      rw [lqK4_7, if_pos (by simp; omega), if_pos (by simp; omega)]
      by_cases hq : (((i : Nat) : Int) == IntKind.wrap .i64 (Int.tmod a1 60)) = true
      · have hB := hbe (Int.le_of_eq (eq_of_beq hq))
        have hqe := eq_of_beq hq
        obtain ⟨hv1, hv2⟩ := hB.view hN1 (by omega) (by omega)
        have hf : L.filter (keep (N : Nat) ((N + 1 : Nat) : Int)) = L := List.filter_eq_self.2 fun t ht => by
          have := hB.lo t ht
          unfold keep
          rw [decide_eq_true (by omega), beq_eq_false_iff_ne.2 (by omega)]; rfl
        have hO := spOf (N : Nat) ((N + 1 : Nat) : Int) L (by omega) (fun t ht => (hB.lo t ht).1) hB.pw (by rw [hf]; exact hv1)
        rw [hf] at hO
        simp only [Vw.e] at hO
        rw [if_pos hq, wrap_succ (by omega), hO]
        simp only [asInt_int, asBool_bool, asStr_str, asSl_psl, asSl_nil, asAgg_agg, asTup_tup, asCons_cons, asNil_nil, asFlt_flt, asRef_ref, asWhole_whole, asView_view, asWv_whole, asWv_view, asFn_fn, asPref_pref, asOCons_cons, asONil_nil, asBox_box, asMade_made, asGone_dead, asGone_made, bind_some', onEx_exit, onEx_ret]
        rw [if_neg (by decide), rowsI, if_neg (by decide), if_pos (by simp; omega), consI]
        rw [if_pos (by omega), Int.toNat_natCast, mapGet hg]
        simp only [ue, asInt_int, asBool_bool, asStr_str, asSl_psl, asSl_nil, asAgg_agg, asTup_tup, asCons_cons, asNil_nil, asFlt_flt, asRef_ref, asWhole_whole, asView_view, asWv_whole, asWv_view, asFn_fn, asPref_pref, asOCons_cons, asONil_nil, asBox_box, asMade_made, asGone_dead, asGone_made, bind_some', onEx_exit, onEx_ret]
        by_cases c1 : ((Int.tmod l[i] 2) == 0) = true
        · rw [if_pos c1, if_pos (by simp; omega), wrap_succ (by omega), appI]
          have hin := inn l a1 (N + 1) i (Vw.mk (N : Nat) ((N + 1 : Nat) : Int) L) (((N : Nat) : Int) :: E) (L ++ [(((N + 1) : Nat) : Int)]) E ⟨hv2, by show L.length ≤ 64; omega, by simp; omega⟩
          simp only [Vw.e] at hin
          rw [hin ((N + 1) + 1) (by omega) (by omega)]
          simp only [asInt_int, asBool_bool, asStr_str, asSl_psl, asSl_nil, asAgg_agg, asTup_tup, asCons_cons, asNil_nil, asFlt_flt, asRef_ref, asWhole_whole, asView_view, asWv_whole, asWv_view, asFn_fn, asPref_pref, asOCons_cons, asONil_nil, asBox_box, asMade_made, asGone_dead, asGone_made, bind_some', onEx_exit, onEx_ret, mk110, if_true]
          rw [wrap_succ (by omega)]
          exact ih ((N + 1) + 1) (L ++ [(((N + 1) : Nat) : Int)]) E (Vw.mk (N : Nat) ((N + 1 : Nat) : Int) L) (((N : Nat) : Int) :: E) (by simp; omega) (by omega) (by omega) (by omega) (by omega) ⟨hv2, by show L.length ≤ 64; omega, by simp; omega⟩ (fun hq => absurd hq (by omega))
        rw [if_neg c1]
        by_cases c2 : (((L.length : Nat) : Int) == 0) = true
        · rw [List.length_map, if_pos c2, if_pos (by simp; omega), wrap_succ (by omega), appI]
          have hin := inn l a1 (N + 1) i (Vw.mk (N : Nat) ((N + 1 : Nat) : Int) L) (((N : Nat) : Int) :: E) (L ++ [(((N + 1) : Nat) : Int)]) E ⟨hv2, by show L.length ≤ 64; omega, by simp; omega⟩
          simp only [Vw.e] at hin
          rw [hin ((N + 1) + 1) (by omega) (by omega)]
          simp only [asInt_int, asBool_bool, asStr_str, asSl_psl, asSl_nil, asAgg_agg, asTup_tup, asCons_cons, asNil_nil, asFlt_flt, asRef_ref, asWhole_whole, asView_view, asWv_whole, asWv_view, asFn_fn, asPref_pref, asOCons_cons, asONil_nil, asBox_box, asMade_made, asGone_dead, asGone_made, bind_some', onEx_exit, onEx_ret, mk110, if_true]
          rw [wrap_succ (by omega)]
          exact ih ((N + 1) + 1) (L ++ [(((N + 1) : Nat) : Int)]) E (Vw.mk (N : Nat) ((N + 1 : Nat) : Int) L) (((N : Nat) : Int) :: E) (by simp; omega) (by omega) (by omega) (by omega) (by omega) ⟨hv2, by show L.length ≤ 64; omega, by simp; omega⟩ (fun hq => absurd hq (by omega))
        have hL0 : L.length ≠ 0 := fun h0 => c2 (by rw [h0]; rfl)
        have hk : kk l[i] L < L.length := Nat.mod_lt _ (by omega)
        rw [List.length_map, if_neg c2, if_pos (by omega)]
        rw [remK (hb _ (List.getElem_mem hi)) hL0]
        simp only [asInt_int, asBool_bool, asStr_str, asSl_psl, asSl_nil, asAgg_agg, asTup_tup, asCons_cons, asNil_nil, asFlt_flt, asRef_ref, asWhole_whole, asView_view, asWv_whole, asWv_view, asFn_fn, asPref_pref, asOCons_cons, asONil_nil, asBox_box, asMade_made, asGone_dead, asGone_made, bind_some', onEx_exit, onEx_ret]
        rw [if_pos (by omega), Int.toNat_natCast, mapGet (getDL hk)]
        simp only [bind_some', part1, asInt_int]
        rw [if_pos (by simp; omega), numN]
        simp only [asInt_int, asBool_bool, asStr_str, asSl_psl, asSl_nil, asAgg_agg, asTup_tup, asCons_cons, asNil_nil, asFlt_flt, asRef_ref, asWhole_whole, asView_view, asWv_whole, asWv_view, asFn_fn, asPref_pref, asOCons_cons, asONil_nil, asBox_box, asMade_made, asGone_dead, asGone_made, bind_some', onEx_exit, onEx_ret]
        rw [if_pos (by omega)]
        simp only [Nat.sub_zero, List.drop_zero, ← List.map_take]
        rw [rowsI, if_neg (by decide), if_pos (by simp; omega), wrap_succ (by omega), numN]
        simp only [asInt_int, asBool_bool, asStr_str, asSl_psl, asSl_nil, asAgg_agg, asTup_tup, asCons_cons, asNil_nil, asFlt_flt, asRef_ref, asWhole_whole, asView_view, asWv_whole, asWv_view, asFn_fn, asPref_pref, asOCons_cons, asONil_nil, asBox_box, asMade_made, asGone_dead, asGone_made, bind_some', onEx_exit, onEx_ret]
        rw [if_pos (by omega)]
        simp only [← List.map_drop, ← List.map_take]
        rw [rowsI, if_neg (by decide), if_pos (by simp; omega), List.nil_append, ← List.map_append, appI]
        have hin := inn l a1 (N + 1) i (Vw.mk (N : Nat) ((N + 1 : Nat) : Int) L) (((N : Nat) : Int) :: E) (L.take (kk l[i] L) ++ (L.drop (kk l[i] L + 1)).take (L.length - (kk l[i] L + 1))) (E ++ [L.getD (kk l[i] L) 0]) ⟨hv2, by show L.length ≤ 64; omega, by simp; omega⟩
        simp only [Vw.e] at hin
        rw [hin (N + 1) (by omega) (by omega)]
        simp only [asInt_int, asBool_bool, asStr_str, asSl_psl, asSl_nil, asAgg_agg, asTup_tup, asCons_cons, asNil_nil, asFlt_flt, asRef_ref, asWhole_whole, asView_view, asWv_whole, asWv_view, asFn_fn, asPref_pref, asOCons_cons, asONil_nil, asBox_box, asMade_made, asGone_dead, asGone_made, bind_some', onEx_exit, onEx_ret, mk110, if_true]
        rw [wrap_succ (by omega)]
        exact ih (N + 1) _ _ (Vw.mk (N : Nat) ((N + 1 : Nat) : Int) L) (((N : Nat) : Int) :: E) (by simp; omega) (by simp; omega) (by omega) (by omega) (by omega) ⟨hv2, by show L.length ≤ 64; omega, by simp; omega⟩ (fun hq => absurd hq (by omega))
      · have hq' : ((i : Nat) : Int) ≠ IntKind.wrap .i64 (Int.tmod a1 60) := fun e => hq (beq_iff_eq.2 e)
        rw [if_neg hq]
        rw [if_pos (by omega), Int.toNat_natCast, mapGet hg]
        simp only [ue, asInt_int, asBool_bool, asStr_str, asSl_psl, asSl_nil, asAgg_agg, asTup_tup, asCons_cons, asNil_nil, asFlt_flt, asRef_ref, asWhole_whole, asView_view, asWv_whole, asWv_view, asFn_fn, asPref_pref, asOCons_cons, asONil_nil, asBox_box, asMade_made, asGone_dead, asGone_made, bind_some', onEx_exit, onEx_ret]
        by_cases c1 : ((Int.tmod l[i] 2) == 0) = true
        · rw [if_pos c1, if_pos (by simp; omega), wrap_succ (by omega), appI]
          have hin := inn l a1 N i v S (L ++ [((N : Nat) : Int)]) E ⟨hse, hva, hS⟩
          simp only [Vw.e] at hin
          rw [hin (N + 1) (by omega) (by omega)]
          simp only [asInt_int, asBool_bool, asStr_str, asSl_psl, asSl_nil, asAgg_agg, asTup_tup, asCons_cons, asNil_nil, asFlt_flt, asRef_ref, asWhole_whole, asView_view, asWv_whole, asWv_view, asFn_fn, asPref_pref, asOCons_cons, asONil_nil, asBox_box, asMade_made, asGone_dead, asGone_made, bind_some', onEx_exit, onEx_ret, mk110, if_true]
          rw [wrap_succ (by omega)]
          exact ih (N + 1) (L ++ [((N : Nat) : Int)]) E v S (by simp; omega) (by omega) (by omega) (by omega) (by omega) ⟨hse, hva, hS⟩ (fun hq => (hbe (by omega)).begin hN1)
        rw [if_neg c1]
        by_cases c2 : (((L.length : Nat) : Int) == 0) = true
        · rw [List.length_map, if_pos c2, if_pos (by simp; omega), wrap_succ (by omega), appI]
          have hin := inn l a1 N i v S (L ++ [((N : Nat) : Int)]) E ⟨hse, hva, hS⟩
          simp only [Vw.e] at hin
          rw [hin (N + 1) (by omega) (by omega)]
          simp only [asInt_int, asBool_bool, asStr_str, asSl_psl, asSl_nil, asAgg_agg, asTup_tup, asCons_cons, asNil_nil, asFlt_flt, asRef_ref, asWhole_whole, asView_view, asWv_whole, asWv_view, asFn_fn, asPref_pref, asOCons_cons, asONil_nil, asBox_box, asMade_made, asGone_dead, asGone_made, bind_some', onEx_exit, onEx_ret, mk110, if_true]
          rw [wrap_succ (by omega)]
          exact ih (N + 1) (L ++ [((N : Nat) : Int)]) E v S (by simp; omega) (by omega) (by omega) (by omega) (by omega) ⟨hse, hva, hS⟩ (fun hq => (hbe (by omega)).begin hN1)
        have hL0 : L.length ≠ 0 := fun h0 => c2 (by rw [h0]; rfl)
        have hk : kk l[i] L < L.length := Nat.mod_lt _ (by omega)
        rw [List.length_map, if_neg c2, if_pos (by omega)]
        rw [remK (hb _ (List.getElem_mem hi)) hL0]
        simp only [asInt_int, asBool_bool, asStr_str, asSl_psl, asSl_nil, asAgg_agg, asTup_tup, asCons_cons, asNil_nil, asFlt_flt, asRef_ref, asWhole_whole, asView_view, asWv_whole, asWv_view, asFn_fn, asPref_pref, asOCons_cons, asONil_nil, asBox_box, asMade_made, asGone_dead, asGone_made, bind_some', onEx_exit, onEx_ret]
        rw [if_pos (by omega), Int.toNat_natCast, mapGet (getDL hk)]
        simp only [bind_some', part1, asInt_int]
        rw [if_pos (by simp; omega), numN]
        simp only [asInt_int, asBool_bool, asStr_str, asSl_psl, asSl_nil, asAgg_agg, asTup_tup, asCons_cons, asNil_nil, asFlt_flt, asRef_ref, asWhole_whole, asView_view, asWv_whole, asWv_view, asFn_fn, asPref_pref, asOCons_cons, asONil_nil, asBox_box, asMade_made, asGone_dead, asGone_made, bind_some', onEx_exit, onEx_ret]
        rw [if_pos (by omega)]
        simp only [Nat.sub_zero, List.drop_zero, ← List.map_take]
        rw [rowsI, if_neg (by decide), if_pos (by simp; omega), wrap_succ (by omega), numN]
        simp only [asInt_int, asBool_bool, asStr_str, asSl_psl, asSl_nil, asAgg_agg, asTup_tup, asCons_cons, asNil_nil, asFlt_flt, asRef_ref, asWhole_whole, asView_view, asWv_whole, asWv_view, asFn_fn, asPref_pref, asOCons_cons, asONil_nil, asBox_box, asMade_made, asGone_dead, asGone_made, bind_some', onEx_exit, onEx_ret]
        rw [if_pos (by omega)]
        simp only [← List.map_drop, ← List.map_take]
        rw [rowsI, if_neg (by decide), if_pos (by simp; omega), List.nil_append, ← List.map_append, appI]
        have hin := inn l a1 N i v S (L.take (kk l[i] L) ++ (L.drop (kk l[i] L + 1)).take (L.length - (kk l[i] L + 1))) (E ++ [L.getD (kk l[i] L) 0]) ⟨hse, hva, hS⟩
        simp only [Vw.e] at hin
        rw [hin N (by omega) (by omega)]
        simp only [asInt_int, asBool_bool, asStr_str, asSl_psl, asSl_nil, asAgg_agg, asTup_tup, asCons_cons, asNil_nil, asFlt_flt, asRef_ref, asWhole_whole, asView_view, asWv_whole, asWv_view, asFn_fn, asPref_pref, asOCons_cons, asONil_nil, asBox_box, asMade_made, asGone_dead, asGone_made, bind_some', onEx_exit, onEx_ret, mk110, if_true]
        rw [wrap_succ (by omega)]
        exact ih N _ _ v S (by simp; omega) (by simp; omega) (by omega) (by omega) (by omega) ⟨hse, hva, hS⟩ (fun hq => (hbe (by omega)).finish hk)
    · refine lw ?_
      simp only [Vw.e]
      rw [lqK4_7, if_pos (by simp; omega), if_neg (by simp; omega)]
theorem lawKeeps (l : List Int) (a1 : Int) (hl : l.length < 4611686018427387904) (hb : ∀ b ∈ l, 0 ≤ b ∧ b ≤ 255) : pcall Cω 4 [.psl false (l.map ue), .int .u8 a1] = some (.bool true) := by
  have ev := eqK4 Cω Lω (l.map ue) a1
  have lp := lpKeeps l a1 hl hb l.length 0 (by omega) 1 [] [] ⟨0, 0, []⟩ [] (by simp) (by simp) (by omega) (by omega) (by omega) ⟨fun h => absurd h (by decide), by decide, by decide⟩ (fun _ => ⟨.nil, (fun t ht => by cases ht), (fun t ht => by cases ht), fun t h1 h2 => absurd h2 (by omega)⟩)
  rw [natz] at lp
  have c1 : ((1 : Nat) : Int) = 1 := rfl
  rw [c1] at lp
  simp only [Vw.e, List.map_nil] at lp
  rw [lp] at ev
  simp only [asInt_int, asBool_bool, asStr_str, asSl_psl, asSl_nil, asAgg_agg, asTup_tup, asCons_cons, asNil_nil, asFlt_flt, asRef_ref, asWhole_whole, asView_view, asWv_whole, asWv_view, asFn_fn, asPref_pref, asOCons_cons, asONil_nil, asBox_box, asMade_made, asGone_dead, asGone_made, bind_some', onEx_exit, onEx_ret, if_true, spAwake] at ev
  exact pc ev rfl
end Go.Pvm.S
