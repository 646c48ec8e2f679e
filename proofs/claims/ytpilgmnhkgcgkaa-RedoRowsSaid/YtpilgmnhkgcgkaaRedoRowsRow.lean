/- The groups of any bytes, whatever the input. -/
import Derived.Test.YtpilgmnhkgcgkaaRedoArgs
set_option linter.unusedSimpArgs false
set_option linter.unusedVariables false
set_option maxRecDepth 100000
namespace Go.Proofs.Ytpilgmnhkgcgkaa
open Go.ChangeShapes Go.WideShapes Go.ChangeAt Go.RowKit Go.Pvm

theorem redoRowsOwn : ownKnob Try.prog.godebug = none := by kernel_rfl
theorem redoRowsLaidOut : laidOutB Try.prog = true := by kernel_rfl

theorem redoRows_lifted (os : Os) (started : os.Started) (H : Type) (enc : TypeId × Value → H) :
    ReturnsInHanded {} Try.checked os 5 .any (Rows.redoRowsSpec.pre6 enc Try.prog Try.f5 Rows.redoRowsRow.domain false) (Rows.redoRowsSpec.post enc Try.prog Try.f5 false true false false) := by
  refine row_lifted (C := Try.checked) (cfg := S.cfg) (tb := 4) rfl S.hT redoRowsLaidOut redoRowsOwn started (by kernel_rfl) Try.func5 (by kernel_rfl) (by kernel_rfl) (by kernel_rfl) rfl ?_
    (ChangeSpec.witness6 (enc := enc) (C := Try.checked) false ⟨#[], #[.slice none 0 0], []⟩ 8 (by kernel_rfl) (by kernel_rfl) (by kernel_rfl) (by kernel_rfl)) ?_
  · intro H ds hl
    have hsz : Try.f5.params.size = 1 := by kernel_rfl
    rw [hsz] at hl
    match ds, hl with
    | [d1], _ => rfl
  · intro pvs h
    have hp : Try.f5.params.toList = [24] := by kernel_rfl
    have h' : WTArgs Try.prog Try.f5.params.toList pvs := h
    rw [hp] at h'
    match pvs, h' with
    | [x], ⟨hx, _⟩ => exact redoRows_args hx

theorem redoRows_holds : Rows.RedoRowsSaid :=
  OpenClaim.holds_of_wide 5 Try.f5 rfl rfl rfl rfl rfl rfl rfl ⟨rfl, rfl, rfl, rfl, rfl⟩ rfl rfl rfl rfl rfl (by kernel_rfl) Try.func5 (by kernel_rfl)
    (of_decide_eq_true (by kernel_rfl)) (by unfold Func.isWrapper; first | (rw [if_pos (by decide +kernel)]; kernel_rfl) | (rw [if_neg (by decide +kernel)]; exact ⟨rfl, rfl⟩))
    (fun os started H enc _ => redoRows_lifted os started H enc)

#print axioms redoRows_holds
end Go.Proofs.Ytpilgmnhkgcgkaa

