/- Part of the proof: locks: all that is told, and what is its own. -/
import Derived.Test.YtbhjbehdafcnoaaSirS
set_option linter.unusedSimpArgs false
set_option linter.unusedVariables false
set_option maxRecDepth 100000
namespace Go.Pvm.S
open Go.Pvm Go.Proofs
theorem toldOk : ∀ f u, toldOf f = some u → ToldOk Try.prog f (wordv Try.prog u) := by
  intro f u h
  unfold toldOf at h
  split at h
  all_goals first | (cases h; done) | (cases h; first | exact insLock_told)
theorem hT : Tolds cfg := fun f g h => by
  have h' : (toldOf f).map (wordv Try.prog) = some g := h
  rw [Option.map_eq_some_iff] at h'
  obtain ⟨u, hu, rfl⟩ := h'
  exact toldOk f u hu
theorem ownOk : OwnOk kcfg Try.prog (callω cfg) where
  own := by
    intro g sz h hg args es he
    have hg' : ownOf g = some (sz, h) := hg
    unfold ownOf at hg'
    split at hg'
    all_goals first | (cases hg'; done) | (cases hg'; first | exact cloneLock_own args es he)
  told := fun g u hu args σ => callω_told (by show (toldOf g).map (wordv Try.prog) = _; rw [show toldOf g = some u from hu]; rfl) args σ

end Go.Pvm.S
