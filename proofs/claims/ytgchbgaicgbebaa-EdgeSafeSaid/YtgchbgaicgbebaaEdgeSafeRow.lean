/- The theorem of victims, whatever the input. -/
import Derived.Test.YtgchbgaicgbebaaEdgeArgs
set_option linter.unusedSimpArgs false
set_option linter.unusedVariables false
set_option maxRecDepth 100000
namespace Go.Proofs.Ytgchbgaicgbebaa
open Go.ChangeShapes Go.WideShapes Go.ChangeAt Go.RowKit Go.Pvm
theorem edgeSafe_args {x y : PV} (hx : WTV Try.prog 22 x) (hy : WTV Try.prog 23 y) : ∃ σ', callω S.cfg 5 [x, y] .empty = some (.bool true, σ') := by
  obtain ⟨l, l1, l2⟩ := S.argEs hx
  obtain ⟨s, s1, s2⟩ := S.argSs hy
  obtain ⟨p, τ, h1, h2⟩ := pcall_sound S.hT S.ownOk (S.lawSafe l s l2 s2) (.cons l1 (.cons s1 .nil))
  rw [bool_of_fz h2] at h1
  exact ⟨τ, h1⟩
end Go.Proofs.Ytgchbgaicgbebaa
namespace Go.Proofs.Ytgchbgaicgbebaa
open Go.ChangeShapes Go.WideShapes Go.ChangeAt Go.RowKit Go.Pvm

theorem edgeSafeOwn : ownKnob Try.prog.godebug = none := by kernel_rfl
theorem edgeSafeLaidOut : laidOutB Try.prog = true := by kernel_rfl

theorem edgeSafe_lifted (os : Os) (started : os.Started) (H : Type) (enc : TypeId × Value → H) :
    ReturnsInHanded {} Try.checked os 5 .any (Rows.edgeSafeSpec.pre6 enc Try.prog Try.f5 Rows.edgeSafeRow.domain false) (Rows.edgeSafeSpec.post enc Try.prog Try.f5 false true false false) := by
  refine row_lifted (C := Try.checked) (cfg := S.cfg) (tb := 4) rfl S.hT edgeSafeLaidOut edgeSafeOwn started (by kernel_rfl) Try.func5 (by kernel_rfl) (by kernel_rfl) (by kernel_rfl) rfl ?_
    (ChangeSpec.witness6 (enc := enc) (C := Try.checked) false ⟨#[], #[.slice none 0 0, .slice none 0 0], []⟩ 8 (by kernel_rfl) (by kernel_rfl) (by kernel_rfl) (by kernel_rfl)) ?_
  · intro H ds hl
    have hsz : Try.f5.params.size = 2 := by kernel_rfl
    rw [hsz] at hl
    match ds, hl with
    | [d1, d2], _ => rfl
  · intro pvs h
    have hp : Try.f5.params.toList = [22, 23] := by kernel_rfl
    have h' : WTArgs Try.prog Try.f5.params.toList pvs := h
    rw [hp] at h'
    match pvs, h' with
    | [x, y], ⟨hx, hy, _⟩ => exact edgeSafe_args hx hy

theorem edgeSafe_holds : Rows.EdgeSafeSaid :=
  OpenClaim.holds_of_wide 5 Try.f5 rfl rfl rfl rfl rfl rfl rfl ⟨rfl, rfl, rfl, rfl, rfl⟩ rfl rfl rfl rfl rfl (by kernel_rfl) Try.func5 (by kernel_rfl)
    (of_decide_eq_true (by kernel_rfl)) (by unfold Func.isWrapper; first | (rw [if_pos (by decide +kernel)]; kernel_rfl) | (rw [if_neg (by decide +kernel)]; exact ⟨rfl, rfl⟩))
    (fun os started H enc _ => edgeSafe_lifted os started H enc)

#print axioms edgeSafe_holds
end Go.Proofs.Ytgchbgaicgbebaa

