/- Part of the proof: the arguments of a row, as values alone. -/
import Derived.Test.YtkipbdbmeanffaaK9
import Derived.Test.YtkipbdbmeanffaaV28
set_option linter.unusedSimpArgs false
set_option linter.unusedVariables false
namespace Go.Pvm
/-- A type's cells stand for things. -/
def ArgK {α : Type} (P : Program) (t : TypeId) (e : α → List PV) (Q : α → Prop) : Prop := ∀ top n c, WT P top n t c → ∃ a, VFs (e a) c ∧ Q a
theorem VFss.of_each {α : Type} {e : α → List PV} {Q : α → Prop} : ∀ (es : List (List PV)), (∀ c ∈ es, ∃ a, VFs (e a) c ∧ Q a) → ∃ l : List α, l.length = es.length ∧ VFss (l.map e) es ∧ ∀ a ∈ l, Q a
  | [], _ => ⟨[], rfl, .nil, fun a ha => by cases ha⟩
  | c :: es, h => by
    obtain ⟨a, h1, h2⟩ := h c (List.mem_cons_self ..)
    obtain ⟨l, h3, h4, h5⟩ := VFss.of_each es fun c hc => h c (List.mem_cons_of_mem _ hc)
    refine ⟨a :: l, by simp [h3], .cons h1 h4, fun b hb => ?_⟩
    rcases List.mem_cons.1 hb with rfl | hb
    · exact h2
    · exact h5 b hb
theorem ArgK.int {P : Program} {t : TypeId} {k : IntKind} (h : P.underlying t = some (.int k)) : ArgK P t (fun n : Int => [.int k n]) (fun n => k.min ≤ n ∧ n ≤ k.max) := fun top n c hw => by
  obtain ⟨x, rfl, hx⟩ := wt_int h hw
  exact ⟨x, .cons (.base _ rfl) .nil, hx⟩
theorem ArgK.slice {α : Type} {P : Program} {t el : TypeId} {e : α → List PV} {Q : α → Prop} (hu : P.underlying t = some (.slice el)) (h0 : P.cellsOf el ≠ 0) (he : ArgK P el e Q) :
    ArgK P t (fun l : List α => [.psl false (l.map e)]) (fun l => l.length * P.bytesOf el ≤ reachBytes ∧ ∀ a ∈ l, Q a) := fun top n c h => by
  cases n with
  | zero => exact h.elim
  | succ n =>
    unfold WT at h
    rw [hu] at h
    rcases h with h | ⟨es, h1, _, h2, h3⟩ | ⟨_, h1, _⟩
    · exact ⟨[], by rw [h]; exact .cons (.nl false) .nil, by simp, fun a ha => by cases ha⟩
    · obtain ⟨l, q1, q2, q3⟩ := VFss.of_each (e := e) (Q := Q) es fun c hc => he _ n c (h3 c hc).2
      exact ⟨l, by rw [h1]; exact .cons (.psl _ _ q2) .nil, by rw [q1]; exact h2, q3⟩
    · exact absurd h1 h0
/-- An argument that is one cell. -/
theorem ArgK.one {α : Type} {P : Program} {t : TypeId} {e : α → PV} {Q : α → Prop} (he : ArgK P t (fun a => [e a]) Q) (hs : aggD ((P.underlying t).getD .bool) = false) {v : PV} (h : WTV P t v) : ∃ a, VF (e a) v ∧ Q a := by
  obtain ⟨n, h⟩ := h
  rw [hs] at h
  obtain ⟨a, h1, h2⟩ := he _ _ _ h
  cases h1 with
  | cons h1 _ => exact ⟨a, h1, h2⟩
/-- An argument that is many. -/
theorem ArgK.many {α : Type} {P : Program} {t : TypeId} {e : α → List PV} {Q : α → Prop} (he : ArgK P t e Q) (hs : aggD ((P.underlying t).getD .bool) = true) {v : PV} (h : WTV P t v) : ∃ a, VF (.agg (e a)) v ∧ Q a := by
  obtain ⟨n, h⟩ := h
  rw [hs] at h
  obtain ⟨cs, rfl, h⟩ := h
  obtain ⟨a, h1, h2⟩ := he _ _ _ h
  exact ⟨a, .agg h1, h2⟩
theorem VFs.append {a b c d : List PV} (h : VFs a b) (h' : VFs c d) : VFs (a ++ c) (b ++ d) := by
  cases h with
  | nil => exact h'
  | cons h t => exact .cons h (VFs.append t h')
end Go.Pvm
