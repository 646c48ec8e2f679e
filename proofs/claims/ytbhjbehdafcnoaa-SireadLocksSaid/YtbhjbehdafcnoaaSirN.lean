/- Part of the proof: locks: the program's holders are the document's: plain. -/
import Derived.Test.YtbhjbehdafcnoaaSirM
set_option linter.unusedSimpArgs false
set_option linter.unusedVariables false
namespace Go.Pvm.S
open Go.Pvm Go.Proofs
theorem ordL_t {a b : Lk} (h : ordL a b < 0) : a.t ≤ b.t := by
  rw [ordL_lt] at h; omega
theorem lastI_mem {out : List Int} (h : out.length ≠ 0) : lastI out ∈ out := by
  unfold lastI
  rw [List.getD_eq_getElem?_getD, List.getElem?_eq_getElem (show out.length - 1 < out.length by omega)]
  exact List.getElem_mem _
theorem lastI_max {out : List Int} (hp : out.Pairwise (· < ·)) (h : out.length ≠ 0) : ∀ b ∈ out, b ≤ lastI out := fun b hb => by
  obtain ⟨k, hk⟩ := List.mem_iff_getElem?.1 hb
  obtain ⟨hkl, rfl⟩ := List.getElem?_eq_some_iff.1 hk
  unfold lastI
  rw [List.getD_eq_getElem?_getD, List.getElem?_eq_getElem (show out.length - 1 < out.length by omega)]
  show out[k] ≤ out[out.length - 1]
  by_cases e : k = out.length - 1
  · subst e; exact Int.le_refl _
  · exact Int.le_of_lt (List.pairwise_iff_getElem.1 hp k (out.length - 1) hkl (by omega) (by omega))
theorem hold_eq' (q : Wd) : ∀ (l : List Lk) (i j : Nat) (out : List Int), Srt l → out.Pairwise (· < ·) → (∀ b ∈ out, ∀ a ∈ l, b ≤ a.t) → foldI (hG q) l i out = foldI (rhG q) l j out
  | [], i, j, out, _, _, _ => rfl
  | a :: l, i, j, out, hs, hp, hle => by
    have hs' := List.pairwise_cons.1 hs
    rw [foldI_cons, foldI_cons]
    have hcond : (!(out.any fun b => a.t == b)) = (decide (out.length = 0) || !(lastI out == a.t)) := by
      by_cases h0 : out.length = 0
      · rw [List.eq_nil_of_length_eq_zero h0]; rfl
      · rw [decide_eq_false h0, Bool.false_or]
        have hm := lastI_mem h0
        by_cases he : lastI out = a.t
        · have h1 : (out.any fun b => a.t == b) = true := List.any_eq_true.2 ⟨lastI out, hm, by rw [he]; simp⟩
          rw [h1, he]; simp
        · have h1 : (out.any fun b => a.t == b) = false := List.any_eq_false.2 fun b hb => by
            have h2 := lastI_max hp h0 b hb
            have h3 := hle _ hm a (List.mem_cons_self ..)
            rw [beq_iff_eq]; omega
          rw [h1, beq_eq_false_iff_ne.2 he]
    have hG1 : hG q i a out = rhG q j a out := by
      unfold hG rhG
      rw [hcond]
    rw [hG1]
    refine hold_eq' q l (i + 1) (j + 1) _ hs'.2 ?_ fun b hb c hc => ?_
    · unfold rhG
      split
      · rename_i h
        rw [← hcond, Bool.and_eq_true, Bool.not_eq_true', List.any_eq_false] at h
        refine List.pairwise_append.2 ⟨hp, List.pairwise_singleton .., fun b hb c hc => ?_⟩
        rw [List.mem_singleton.1 hc]
        have h2 := h.2 b hb
        rw [beq_iff_eq] at h2
        have := hle b hb a (List.mem_cons_self ..)
        omega
      · exact hp
    · unfold rhG at hb
      split at hb
      · rcases List.mem_append.1 hb with e | e
        · exact hle b e c (List.mem_cons_of_mem _ hc)
        · rw [List.mem_singleton.1 e]
          exact ordL_t (hs'.1 c hc)
      · exact hle b hb c (List.mem_cons_of_mem _ hc)
theorem hold_eq {l : List Lk} (hs : Srt l) (q : Wd) : hold l q = foldI (rhG q) l 0 [] := hold_eq' q l 0 0 [] hs .nil (fun b hb => by cases hb)
/-- Who covers a key holds it. -/
theorem hG_mem (q : Wd) : ∀ (l : List Lk) (i : Nat) (out : List Int) (t : Int), (t ∈ out ∨ ∃ a ∈ l, a.t = t ∧ covL a (kyL t q) = true) → t ∈ foldI (hG q) l i out
  | [], i, out, t, h => by
    rcases h with h | ⟨a, ha, _⟩
    · exact h
    · cases ha
  | a :: l, i, out, t, h => by
    rw [foldI_cons]
    refine hG_mem q l (i + 1) _ t ?_
    rcases h with h | ⟨b, hb, h1, h2⟩
    · left
      unfold hG
      split
      · exact List.mem_append_left _ h
      · exact h
    · rcases List.mem_cons.1 hb with e | e
      · left
        subst e
        unfold hG
        rw [h1, h2, Bool.true_and]
        cases hc : (out.any fun c => t == c) with
        | false => simp
        | true =>
          obtain ⟨c, hcm, hce⟩ := List.any_eq_true.1 hc
          rw [beq_iff_eq] at hce
          simp only [Bool.not_true, Bool.false_eq_true, if_false]
          rw [hce]; exact hcm
      · exact .inr ⟨b, e, h1, h2⟩
theorem hold_mem {l : List Lk} {q : Wd} {t : Int} (h : Cvd l (kyL t q)) : t ∈ hold l q := by
  obtain ⟨a, ha, hc⟩ := h
  exact hG_mem q l 0 [] t (.inr ⟨a, ha, covL_t hc, hc⟩)
theorem hold_len (q : Wd) : ∀ (l : List Lk) (i : Nat) (out : List Int), (foldI (hG q) l i out).length ≤ out.length + l.length
  | [], i, out => Nat.le_refl _
  | a :: l, i, out => by
    rw [foldI_cons]
    have := hold_len q l (i + 1) (hG q i a out)
    have h2 : (hG q i a out).length ≤ out.length + 1 := by
      unfold hG
      split
      · rw [List.length_append]; exact Nat.le_refl _
      · omega
    rw [List.length_cons]
    omega
/-- A range of all covers every key. -/
theorem rngL_cvd {t : Int} (ht : 1 ≤ t ∧ t ≤ 2147483647) {y : Lk} : ∀ (n p : Nat) (l : List Lk), p + n ≤ 8 → (Cvd l y ∨ ∃ j, p ≤ j ∧ j < p + n ∧ covL (pgL t j) y = true) → Cvd (rngL n p l t) y
  | 0, p, l, _, h => by
    rcases h with h | ⟨j, h1, h2, _⟩
    · exact h
    · omega
  | n + 1, p, l, hp, h => by
    refine rngL_cvd ht n (p + 1) _ (by omega) ?_
    rcases h with h | ⟨j, h1, h2, h3⟩
    · exact .inl h.lockL
    · by_cases e : j = p
      · subst e
        left
        obtain ⟨a, ha, hc⟩ := Cvd.lockH (l := l) (okL_pg ht (show j < 8 by omega))
        exact ⟨a, ha, covL_tr hc h3⟩
      · exact .inr ⟨j, by omega, by omega, h3⟩
end Go.Pvm.S
