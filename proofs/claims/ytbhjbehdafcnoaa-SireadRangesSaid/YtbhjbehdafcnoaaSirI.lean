/- Part of the proof: locks: how many there are; what stays covered: plain. -/
import Derived.Test.YtbhjbehdafcnoaaSirH
set_option linter.unusedSimpArgs false
set_option linter.unusedVariables false
namespace Go.Pvm.S
open Go.Pvm Go.Proofs
/-- How many are somebody else's. -/
def oth (l : List Lk) (t : Int) : Nat := (l.filter fun a => a.t != t).length
theorem oth_put {l : List Lk} {x : Lk} : oth (putL l x) x.t = oth l x.t := by
  unfold putL oth
  split
  · rfl
  · rw [insB_filter (p := fun a : Lk => a.t != x.t) (by simp)]
    rw [List.filter_filter]
    congr 1
    refine List.filter_congr fun a _ => ?_
    cases hc : covL x a with
    | false => simp
    | true =>
      have := covL_t hc
      rw [this]; simp
theorem len_oth (l : List Lk) (t : Int) : l.length = oth l t + (l.filter fun a => a.t == t).length := by
  unfold oth
  induction l with
  | nil => rfl
  | cons a l ih =>
    by_cases h : a.t = t
    · rw [List.filter_cons_of_neg (p := fun a : Lk => a.t != t) (by simp [h]), List.filter_cons_of_pos (p := fun a : Lk => a.t == t) (by simp [h]), List.length_cons, List.length_cons]; omega
    · rw [List.filter_cons_of_pos (p := fun a : Lk => a.t != t) (by simp [h]), List.filter_cons_of_neg (p := fun a : Lk => a.t == t) (by simp [h]), List.length_cons, List.length_cons]; omega
theorem one_le : ∀ {l : List Lk} {a : Lk}, Srt l → (∀ b ∈ l, b = a) → l.length ≤ 1
  | [], _, _, _ => Nat.zero_le _
  | [_], _, _, _ => Nat.le_refl _
  | b :: c :: l, a, h, ha => by
    have h1 := (List.pairwise_cons.1 h).1 c (List.mem_cons_self ..)
    rw [ha b (List.mem_cons_self ..), ha c (List.mem_cons_of_mem _ (List.mem_cons_self ..))] at h1
    exact absurd h1 (ordL_irr a)
theorem tb_len {l : List Lk} (hg : Good l) {t : Int} (h : ∃ a ∈ l, a.t = t ∧ a.k = 3) : l.length ≤ oth l t + 1 := by
  obtain ⟨a, ha, h1, h2⟩ := h
  rw [len_oth l t]
  have := one_le (l := l.filter fun b => b.t == t) (a := a) (hg.srt.filter _) fun b hb => by
    rw [List.mem_filter, beq_iff_eq] at hb
    refine (hg.nc a ha b hb.1 ?_).symm
    unfold covL
    rw [if_neg (by rw [bne_iff_ne]; exact fun e => e (h1.trans hb.2.symm)), h2]; rfl
  omega
theorem oth_lockR {t : Int} : ∀ (n : Nat) (l : List Lk), oth (lockR n l t) t = oth l t
  | 0, l => rfl
  | n + 1, l => by
    unfold lockR
    cases hc : crw l t with
    | some j =>
      simp only
      rw [oth_lockR n]
      exact oth_put (x := pgL t j)
    | none =>
      simp only
      split
      · exact oth_put (x := tbL t)
      · rfl
theorem len_lockR {t : Int} (ht : 1 ≤ t ∧ t ≤ 2147483647) : ∀ (n : Nat) (l : List Lk), nCrw l t < n → Good l → oth l t < 64 → (lockR n l t).length ≤ 64
  | 0, l, h, _, _ => absurd h (Nat.not_lt_zero _)
  | n + 1, l, h, hg, ho => by
    unfold lockR
    cases hc : crw l t with
    | some j =>
      obtain ⟨h1, h2⟩ := crw_some hc
      have e : oth (putL l (pgL t j)) t = oth l t := oth_put (x := pgL t j)
      exact len_lockR ht n _ (by have := nCrw_put hg h1 h2; omega) (hg.put (okL_pg ht h1)) (by omega)
    | none =>
      simp only
      split
      · have e : oth (putL l (tbL t)) t = oth l t := oth_put (x := tbL t)
        have := tb_len (hg.put (okL_tb ht)) (tb_in hg (t := t))
        omega
      · omega
theorem lockL_oth (l : List Lk) (x : Lk) : oth (lockL l x) x.t = oth l x.t := by
  unfold lockL
  rw [oth_lockR]
  exact oth_put
theorem lockL_len {l : List Lk} {x : Lk} (hx : okL x = true) (ht : 1 ≤ x.t ∧ x.t ≤ 2147483647) (hg : Good l) (ho : oth l x.t < 64) : (lockL l x).length ≤ 64 :=
  len_lockR ht 9 _ (by have := nCrw_le (putL l x) x.t; omega) (hg.put hx) (by rw [oth_put]; exact ho)
/-! ### What stays covered -/
theorem covL_tr {a b c : Lk} (h1 : covL a b = true) (h2 : covL b c = true) : covL a c = true := by
  have t1 := covL_t h1
  have t2 := covL_t h2
  unfold covL at h1 ⊢
  rw [if_neg (by rw [bne_iff_ne]; exact fun e => e t1)] at h1
  rw [if_neg (by rw [bne_iff_ne]; exact fun e => e (t1.trans t2))]
  by_cases k3 : (a.k == 3) = true
  · rw [if_pos k3]
  · rw [if_neg k3] at h1 ⊢
    by_cases k2 : (a.k == 2) = true
    · rw [if_pos k2] at h1 ⊢
      unfold covL at h2
      rw [if_neg (by rw [bne_iff_ne]; exact fun e => e t2)] at h2
      rw [Bool.or_eq_true, Bool.and_eq_true, Bool.and_eq_true, beq_iff_eq, beq_iff_eq, beq_iff_eq, beq_iff_eq] at h1
      rcases h1 with ⟨b2, bp⟩ | ⟨b1, bp⟩
      · rw [b2, if_neg (by decide), if_pos (by decide), bp] at h2
        exact h2
      · rw [b1, if_neg (by decide), if_neg (by decide), decide_eq_true_eq] at h2
        rw [← h2, b1, bp]
        simp
    · rw [if_neg k2] at h1 ⊢
      rw [decide_eq_true_eq] at h1
      subst h1
      unfold covL at h2
      rw [if_neg (by rw [bne_iff_ne]; exact fun e => e t2), if_neg k3, if_neg k2] at h2
      exact h2
def Cvd (l : List Lk) (y : Lk) : Prop := ∃ a ∈ l, covL a y = true
theorem covL_refl {x : Lk} (hx : okL x = true) : covL x x = true := covL_self hx hx rfl rfl rfl rfl
theorem Cvd.put {l : List Lk} {x y : Lk} (h : Cvd l y) : Cvd (putL l x) y := by
  unfold putL
  split
  · exact h
  · obtain ⟨a, ha, hc⟩ := h
    cases hxa : covL x a with
    | true => exact ⟨x, insB_mem.2 (.inl rfl), covL_tr hxa hc⟩
    | false => exact ⟨a, insB_mem.2 (.inr (List.mem_filter.2 ⟨ha, by rw [hxa]; rfl⟩)), hc⟩
theorem Cvd.here {l : List Lk} {x : Lk} (hx : okL x = true) : Cvd (putL l x) x := by
  unfold putL
  split
  · rename_i h
    obtain ⟨a, ha, hc⟩ := List.any_eq_true.1 h
    exact ⟨a, ha, hc⟩
  · exact ⟨x, insB_mem.2 (.inl rfl), covL_refl hx⟩
theorem Cvd.lockR {y : Lk} {t : Int} : ∀ (n : Nat) {l : List Lk}, Cvd l y → Cvd (lockR n l t) y
  | 0, l, h => h
  | n + 1, l, h => by
    unfold S.lockR
    cases hc : crw l t with
    | some j => exact Cvd.lockR n h.put
    | none =>
      simp only
      split
      · exact h.put
      · exact h
theorem Cvd.lockL {l : List Lk} {x y : Lk} (h : Cvd l y) : Cvd (S.lockL l x) y := Cvd.lockR 9 h.put
theorem Cvd.lockH {l : List Lk} {x : Lk} (hx : okL x = true) : Cvd (S.lockL l x) x := Cvd.lockR 9 (Cvd.here hx)
end Go.Pvm.S
