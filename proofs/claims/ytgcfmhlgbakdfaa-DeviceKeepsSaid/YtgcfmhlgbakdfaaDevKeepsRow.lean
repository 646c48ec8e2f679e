/- The theorem of sectors, whatever the input. -/
import Derived.Test.YtgcfmhlgbakdfaaDevL
import Derived.Test.YtgcfmhlgbakdfaaDevArgs
set_option linter.unusedSimpArgs false
set_option linter.unusedVariables false
set_option maxRecDepth 100000
namespace Go.Proofs.Ytgcfmhlgbakdfaa
open Go.ChangeShapes Go.WideShapes Go.ChangeAt Go.RowKit Go.Pvm
theorem deviceKeeps_args {x y z : PV} (hx : WTV Try.prog 22 x) (hy : WTV Try.prog 3 y) (hz : WTV Try.prog 23 z) : ∃ σ', callω S.cfg 3 [x, y, z] .empty = some (.bool true, σ') := by
  obtain ⟨a, b, rfl, h1, h2⟩ := S.argTwo hx
  obtain ⟨n, rfl, n1, n2⟩ := S.argI hy
  obtain ⟨p, p1, _⟩ := S.argBools hz
  exact S.spKeeps h1 h2 ⟨n1, n2⟩ p1
end Go.Proofs.Ytgcfmhlgbakdfaa
namespace Go.Proofs.Ytgcfmhlgbakdfaa
open Go.ChangeShapes Go.WideShapes Go.ChangeAt Go.RowKit Go.Pvm

theorem deviceKeepsOwn : ownKnob Try.prog.godebug = none := by kernel_rfl
theorem deviceKeepsLaidOut : laidOutB Try.prog = true := by kernel_rfl

theorem deviceKeeps_lifted (os : Os) (started : os.Started) (H : Type) (enc : TypeId × Value → H) :
    ReturnsInHanded {} Try.checked os 3 .any (Rows.deviceKeepsSpec.pre6 enc Try.prog Try.f3 Rows.deviceKeepsRow.domain false) (Rows.deviceKeepsSpec.post enc Try.prog Try.f3 false true false false) := by
  refine row_lifted (C := Try.checked) (cfg := S.cfg) (tb := 4) rfl S.hT deviceKeepsLaidOut deviceKeepsOwn started (by kernel_rfl) Try.func3 (by kernel_rfl) (by kernel_rfl) (by kernel_rfl) rfl ?_
    (ChangeSpec.witness6 (enc := enc) (C := Try.checked) false ⟨#[], #[.agg #[.int .u8 0, .int .u8 0], .int .i64 0, .slice none 0 0], []⟩ 8 (by kernel_rfl) (by kernel_rfl) (by kernel_rfl) (by kernel_rfl)) ?_
  · intro H ds hl
    have hsz : Try.f3.params.size = 3 := by kernel_rfl
    rw [hsz] at hl
    match ds, hl with
    | [d1, d2, d3], _ => rfl
  · intro pvs h
    have hp : Try.f3.params.toList = [22, 3, 23] := by kernel_rfl
    have h' : WTArgs Try.prog Try.f3.params.toList pvs := h
    rw [hp] at h'
    match pvs, h' with
    | [x, y, z], ⟨hx, hy, hz, _⟩ => exact deviceKeeps_args hx hy hz

theorem deviceKeeps_holds : Rows.DeviceKeepsSaid :=
  OpenClaim.holds_of_wide 3 Try.f3 rfl rfl rfl rfl rfl rfl rfl ⟨rfl, rfl, rfl, rfl, rfl⟩ rfl rfl rfl rfl rfl (by kernel_rfl) Try.func3 (by kernel_rfl)
    (of_decide_eq_true (by kernel_rfl)) (by unfold Func.isWrapper; first | (rw [if_pos (by decide +kernel)]; kernel_rfl) | (rw [if_neg (by decide +kernel)]; exact ⟨rfl, rfl⟩))
    (fun os started H enc _ => deviceKeeps_lifted os started H enc)

#print axioms deviceKeeps_holds
end Go.Proofs.Ytgcfmhlgbakdfaa

