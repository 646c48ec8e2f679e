/- The law of lines of waits, whatever the input. -/
import Derived.Test.YtmmjkeiophcjcaaWaitE
import Derived.Test.YtmmjkeiophcjcaaRows
set_option linter.unusedSimpArgs false
set_option linter.unusedVariables false
set_option maxRecDepth 100000
namespace Go.Proofs.Ytmmjkeiophcjcaa
open Go.ChangeShapes Go.WideShapes Go.ChangeAt Go.RowKit Go.Pvm

theorem wlOwn : ownKnob Try.prog.godebug = none := by kernel_rfl
theorem wlLaidOut : laidOutB Try.prog = true := by kernel_rfl

theorem waitLines_lifted (os : Os) (started : os.Started) (H : Type) (enc : TypeId × Value → H) :
    ReturnsInHanded {} Try.checked os 3 .any (Rows.waitLinesSpec.pre6 enc Try.prog Try.f3 Rows.waitLinesRow.domain false) (Rows.waitLinesSpec.post enc Try.prog Try.f3 false true false false) := by
  refine row_lifted (C := Try.checked) (cfg := Wait.cfg) (tb := 4) rfl Wait.hT wlLaidOut wlOwn started (by kernel_rfl) Try.func3 (by kernel_rfl) (by kernel_rfl) (by kernel_rfl) rfl ?_
    (ChangeSpec.witness6 (enc := enc) (C := Try.checked) false ⟨#[], #[.int .u8 0, .int .u8 0], []⟩ 8 (by kernel_rfl) (by kernel_rfl) (by kernel_rfl) (by kernel_rfl)) ?_
  · intro H ds hl
    have hsz : Try.f3.params.size = 2 := by kernel_rfl
    rw [hsz] at hl
    match ds, hl with
    | [d1, d2], _ => rfl
  · intro pvs h
    have hp : Try.f3.params.toList = [5, 5] := by kernel_rfl
    have h' : WTArgs Try.prog Try.f3.params.toList pvs := h
    rw [hp] at h'
    match pvs, h' with
    | [x, y], ⟨hx, hy, _⟩ =>
      have ht : Try.prog.underlying 5 = some (.int .u8) := by kernel_rfl
      obtain ⟨a, rfl, a1, a2⟩ := wtv_int ht hx
      obtain ⟨b, rfl, b1, b2⟩ := wtv_int ht hy
      exact Wait.sp3 ⟨a1, a2⟩ ⟨b1, b2⟩

theorem waitLines_holds : Rows.WaitLinesSaid :=
  OpenClaim.holds_of_wide 3 Try.f3 rfl rfl rfl rfl rfl rfl rfl ⟨rfl, rfl, rfl, rfl, rfl⟩ rfl rfl rfl rfl rfl (by kernel_rfl) Try.func3 (by kernel_rfl)
    (of_decide_eq_true (by kernel_rfl)) (by unfold Func.isWrapper; first | (rw [if_pos (by decide +kernel)]; kernel_rfl) | (rw [if_neg (by decide +kernel)]; exact ⟨rfl, rfl⟩))
    (fun os started H enc _ => waitLines_lifted os started H enc)

#print axioms waitLines_holds
end Go.Proofs.Ytmmjkeiophcjcaa
