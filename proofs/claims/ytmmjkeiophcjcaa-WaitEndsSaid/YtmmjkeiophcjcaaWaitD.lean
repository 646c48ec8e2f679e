/- Part of the proof: the law of lines of waits. -/
import Derived.Test.YtmmjkeiophcjcaaWaitC
set_option linter.unusedSimpArgs false
set_option linter.unusedVariables false
set_option maxRecDepth 100000
namespace Go.Pvm.Wait
open Go.Pvm Go.Proofs

/-! ### Chains: plain -/
def chain (k : Nat) : List W := (List.range k).map fun i => (((i + 1 : Nat) : Int), ((i + 2 : Nat) : Int))
theorem chain_len (k : Nat) : (chain k).length = k := by simp [chain]
theorem chain_get {k i : Nat} (h : i < k) : (chain k)[i]? = some (((i + 1 : Nat) : Int), ((i + 2 : Nat) : Int)) := by
  unfold chain
  rw [List.getElem?_map, List.getElem?_range h]
  rfl
theorem chain_succ (k : Nat) : chain (k + 1) = chain k ++ [(((k + 1 : Nat) : Int), ((k + 2 : Nat) : Int))] := by
  simp [chain, List.range_succ]
theorem at_chain {k n : Nat} (h1 : 1 ≤ n) (h2 : n ≤ k) : at_ (chain k) (n : Nat) = some (n - 1) := by
  unfold at_
  rw [List.findIdx?_eq_some_iff_getElem]
  refine ⟨by rw [chain_len]; omega, ?_, fun j hj => ?_⟩
  · have := chain_get (k := k) (i := n - 1) (by omega)
    rw [List.getElem?_eq_getElem (by rw [chain_len]; omega)] at this
    rw [Option.some.inj this]
    simp
    omega
  · have := chain_get (k := k) (i := j) (by omega)
    rw [List.getElem?_eq_getElem (by rw [chain_len]; omega)] at this
    rw [Option.some.inj this]
    simp
    omega
theorem at_chain_none {k : Nat} {n : Int} (h : n < 1 ∨ (k : Nat) < n) : at_ (chain k) n = none := by
  unfold at_
  rw [List.findIdx?_eq_none_iff]
  intro w hw
  unfold chain at hw
  obtain ⟨i, hi, rfl⟩ := List.mem_map.1 hw
  simp at hi ⊢
  omega

/-- Backwards nobody comes. -/
theorem leads_back {k : Nat} {b : Int} : ∀ (m : Nat) (a : Nat), 1 ≤ a → b < (a : Nat) → (leadsR (chain k) b m (a : Nat)).getD false = false
  | 0, _, _, _ => rfl
  | m + 1, a, h1, h2 => by
    unfold leadsR
    rw [if_neg (by omega)]
    rcases Nat.lt_or_ge k a with h | h
    · rw [at_chain_none (.inr (by omega))]; rfl
    · rw [at_chain h1 h]
      simp only
      have hg : ((chain k).getD (a - 1) (0, 0)).2 = ((a + 1 : Nat) : Int) := by
        rw [List.getD_eq_getElem?_getD, chain_get (by omega)]
        simp
        omega
      rw [hg]
      exact leads_back m (a + 1) (by omega) (by omega)
/-- Forwards one comes as far as the end. -/
theorem leads_on {k b : Nat} (hb : b ≤ k + 1) : ∀ (m : Nat) (a : Nat), 1 ≤ a → a ≤ b → b - a < m → (leadsR (chain k) (b : Nat) m (a : Nat)).getD false = true
  | 0, _, _, _, h => absurd h (Nat.not_lt_zero _)
  | m + 1, a, h1, h2, h3 => by
    unfold leadsR
    by_cases hab : a = b
    · subst hab; rw [if_pos rfl]; rfl
    · rw [if_neg (by omega), at_chain h1 (by omega)]
      simp only
      have hg : ((chain k).getD (a - 1) (0, 0)).2 = ((a + 1 : Nat) : Int) := by
        rw [List.getD_eq_getElem?_getD, chain_get (by omega)]
        simp
        omega
      rw [hg]
      exact leads_on hb m (a + 1) (by omega) (by omega) (by omega)

theorem inR_nat {n : Nat} (h1 : 1 ≤ n) (h2 : n ≤ 1000) : inR (n : Nat) = true := by
  unfold inR
  simp
  omega
theorem ck_chain {k : Nat} (hk : k ≤ 64) : ∀ (r i : Nat), i + r = k → ckF (chain k) i ((chain k).drop i) = true
  | 0, i, hi => by rw [List.drop_eq_nil_of_le (by rw [chain_len]; omega)]; rfl
  | r + 1, i, hi => by
    have hd : (chain k).drop i = (((i + 1 : Nat) : Int), ((i + 2 : Nat) : Int)) :: (chain k).drop (i + 1) := by
      rw [List.drop_eq_getElem_cons (by rw [chain_len]; omega)]
      have := chain_get (k := k) (i := i) (by omega)
      rw [List.getElem?_eq_getElem (by rw [chain_len]; omega)] at this
      rw [Option.some.inj this]
    rw [hd, ckF, ck_chain hk r (i + 1) (by omega), Bool.and_true]
    unfold okAt
    simp only [inR_nat (n := i + 1) (by omega) (by omega), inR_nat (n := i + 2) (by omega) (by omega), at_chain (k := k) (n := i + 1) (by omega) (by omega), Bool.true_and]
    have : leads (chain k) ((i + 2 : Nat) : Int) ((i + 1 : Nat) : Int) = false := leads_back _ (i + 2) (by omega) (by omega)
    rw [this]
    simp
theorem check_chain {k : Nat} (hk : k ≤ 64) : check (chain k) = true := by
  unfold check
  rw [chain_len, show ckF (chain k) 0 (chain k) = true from by simpa using ck_chain hk k 0 (by omega)]
  simpa using hk
theorem add_chain {k : Nat} (hk : k ≤ 63) : addW (chain k) ((k + 1 : Nat) : Int) ((k + 2 : Nat) : Int) = (chain (k + 1), 0) := by
  unfold addW
  have : leads (chain k) ((k + 2 : Nat) : Int) ((k + 1 : Nat) : Int) = false := leads_back _ (k + 2) (by omega) (by omega)
  rw [if_pos (check_chain (by omega)), if_pos ⟨inR_nat (by omega) (by omega), inR_nat (by omega) (by omega)⟩, if_pos (at_chain_none (.inr (by omega))), this, if_neg (by decide), if_neg (by rw [chain_len]; omega), chain_succ]
theorem add_cycle {k m : Nat} (hk : k ≤ 63) (h1 : 1 ≤ m) (h2 : m ≤ k + 1) : (addW (chain k) ((k + 1 : Nat) : Int) (m : Nat)).2 = 15 := by
  unfold addW
  have : leads (chain k) (m : Nat) ((k + 1 : Nat) : Int) = true := leads_on (Nat.le_refl _) _ m h1 h2 (by rw [chain_len]; omega)
  rw [if_pos (check_chain (by omega)), if_pos ⟨inR_nat (by omega) (by omega), inR_nat (by omega) (by omega)⟩, if_pos (at_chain_none (.inr (by omega))), this, if_pos rfl]

/-! ### The program -/
section
variable {v : PV} {l : List W} {σ : Store}
theorem cE6 (h : IsW v l) (a b : Int) (hl : l.length < 4611686018427387904) (σ : Store) : ∃ v', callE cfg (callω cfg) 6 [v, .int .i64 a, .int .i64 b] σ = some (.tuple [v', .int .i64 (addW l a b).2], σ) ∧ IsW v' (addW l a b).1 := by
  obtain ⟨v', h1, h2⟩ := sp6 h a b hl
  exact ⟨v', callE_pure rfl en6 (by simp only [List.map_cons, List.map_nil, h.frz, frz_int]) h1 (.inr (by simp [PV.lf.lfs, PV.lf, h.lf])), h2⟩

theorem sp7 : pureω cfg 7 [] = some (.bool true) := by
  have ev := eq7 (callω cfg) (loopω cfg) .empty
  obtain ⟨v1, h1, i1⟩ := cE6 (v := .nilsl) (l := []) (.inl ⟨rfl, rfl⟩) 1 2 (by simp) .empty
  have a1 : addW [] 1 2 = ([(1, 2)], 0) := by decide
  rw [a1] at h1 i1
  obtain ⟨v2, h2, i2⟩ := cE6 i1 2 3 (by simp) .empty
  have a2 : addW [(1, 2)] 2 3 = ([(1, 2), (2, 3)], 0) := by decide
  simp only at i1
  rw [show addW ([(1, 2)], (0 : Int)).1 2 3 = ([(1, 2), (2, 3)], 0) from a2] at h2 i2
  obtain ⟨v3, h3, i3⟩ := cE6 i2 3 1 (by simp) .empty
  have a3 : addW [(1, 2), (2, 3)] 3 1 = ([(1, 2), (2, 3)], 15) := by decide
  rw [show addW ([(1, 2), (2, 3)], (0 : Int)).1 3 1 = ([(1, 2), (2, 3)], 15) from a3] at h3 i3
  simp only [h1, bind_some', tupv_0, tupv_1, asInt_int, h2, h3, i2.len] at ev
  exact pureω_of hT ev rfl
theorem cE7 (σ : Store) : callE cfg (callω cfg) 7 [] σ = some (.bool true, σ) := callE_pure rfl en7 rfl sp7 (.inl rfl)
end
end Go.Pvm.Wait
