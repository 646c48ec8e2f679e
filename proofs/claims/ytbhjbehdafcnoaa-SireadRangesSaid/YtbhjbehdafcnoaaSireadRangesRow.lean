/- A range of all keys holds each, and one without room locks nothing, whatever the input. -/
import Derived.Test.YtbhjbehdafcnoaaSirO
import Derived.Test.YtbhjbehdafcnoaaSirT
import Derived.Test.YtbhjbehdafcnoaaLockArgs
set_option linter.unusedSimpArgs false
set_option linter.unusedVariables false
set_option maxRecDepth 100000
namespace Go.Proofs.Ytbhjbehdafcnoaa
open Go.ChangeShapes Go.WideShapes Go.ChangeAt Go.RowKit Go.Pvm
theorem sireadRanges_args {x y z : PV} (hx : WTV Try.prog 22 x) (hy : WTV Try.prog 3 y) (hz : WTV Try.prog 23 z) : ∃ σ', callω S.cfg 5 [x, y, z] .empty = some (.bool true, σ') := by
  obtain ⟨l, l1, l2⟩ := S.argLs hx
  obtain ⟨t, t1⟩ := S.argIL hy
  obtain ⟨q, q1⟩ := S.argF hz
  obtain ⟨p, τ, h1, h2⟩ := pcall_sound S.hT S.ownOk (S.lawRanges l t q l2) (.cons l1 (.cons t1 (.cons q1 .nil)))
  rw [bool_of_fz h2] at h1
  exact ⟨τ, h1⟩
end Go.Proofs.Ytbhjbehdafcnoaa
namespace Go.Proofs.Ytbhjbehdafcnoaa
open Go.ChangeShapes Go.WideShapes Go.ChangeAt Go.RowKit Go.Pvm

theorem sireadRangesOwn : ownKnob Try.prog.godebug = none := by kernel_rfl
theorem sireadRangesLaidOut : laidOutB Try.prog = true := by kernel_rfl

theorem sireadRanges_lifted (os : Os) (started : os.Started) (H : Type) (enc : TypeId × Value → H) :
    ReturnsInHanded {} Try.checked os 5 .any (Rows.sireadRangesSpec.pre6 enc Try.prog Try.f5 Rows.sireadRangesRow.domain false) (Rows.sireadRangesSpec.post enc Try.prog Try.f5 false true false false) := by
  refine row_lifted (C := Try.checked) (cfg := S.cfg) (tb := 4) rfl S.hT sireadRangesLaidOut sireadRangesOwn started (by kernel_rfl) Try.func5 (by kernel_rfl) (by kernel_rfl) (by kernel_rfl) rfl ?_
    (ChangeSpec.witness6 (enc := enc) (C := Try.checked) false ⟨#[], #[.slice none 0 0, .int .i64 0, .float .f64 0], []⟩ 8 (by kernel_rfl) (by kernel_rfl) (by kernel_rfl) (by kernel_rfl)) ?_
  · intro H ds hl
    have hsz : Try.f5.params.size = 3 := by kernel_rfl
    rw [hsz] at hl
    match ds, hl with
    | [d1, d2, d3], _ => rfl
  · intro pvs h
    have hp : Try.f5.params.toList = [22, 3, 23] := by kernel_rfl
    have h' : WTArgs Try.prog Try.f5.params.toList pvs := h
    rw [hp] at h'
    match pvs, h' with
    | [x, y, z], ⟨hx, hy, hz, _⟩ => exact sireadRanges_args hx hy hz

theorem sireadRanges_holds : Rows.SireadRangesSaid :=
  OpenClaim.holds_of_wide 5 Try.f5 rfl rfl rfl rfl rfl rfl rfl ⟨rfl, rfl, rfl, rfl, rfl⟩ rfl rfl rfl rfl rfl (by kernel_rfl) Try.func5 (by kernel_rfl)
    (of_decide_eq_true (by kernel_rfl)) (by unfold Func.isWrapper; first | (rw [if_pos (by decide +kernel)]; kernel_rfl) | (rw [if_neg (by decide +kernel)]; exact ⟨rfl, rfl⟩))
    (fun os started H enc _ => sireadRanges_lifted os started H enc)

#print axioms sireadRanges_holds
end Go.Proofs.Ytbhjbehdafcnoaa

