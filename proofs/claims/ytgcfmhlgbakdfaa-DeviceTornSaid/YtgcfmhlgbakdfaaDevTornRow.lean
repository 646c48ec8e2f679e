/- The theorem of torn streams, whatever the input. -/
import Derived.Test.YtgcfmhlgbakdfaaDevM
import Derived.Test.YtgcfmhlgbakdfaaDevArgs
set_option linter.unusedSimpArgs false
set_option linter.unusedVariables false
set_option maxRecDepth 100000
namespace Go.Proofs.Ytgcfmhlgbakdfaa
open Go.ChangeShapes Go.WideShapes Go.ChangeAt Go.RowKit Go.Pvm
theorem deviceTorn_args {x y z : PV} (hx : WTV Try.prog 30 x) (hy : WTV Try.prog 30 y) (hz : WTV Try.prog 3 z) : ∃ σ', callω S.cfg 4 [x, y, z] .empty = some (.bool true, σ') := by
  obtain ⟨a, a1, a2⟩ := S.argBytes hx
  obtain ⟨b, b1, b2⟩ := S.argBytes hy
  obtain ⟨n, rfl, n1, n2⟩ := S.argI hz
  exact S.spTorn a1 b1 a2 b2 ⟨n1, n2⟩
end Go.Proofs.Ytgcfmhlgbakdfaa
namespace Go.Proofs.Ytgcfmhlgbakdfaa
open Go.ChangeShapes Go.WideShapes Go.ChangeAt Go.RowKit Go.Pvm

theorem deviceTornOwn : ownKnob Try.prog.godebug = none := by kernel_rfl
theorem deviceTornLaidOut : laidOutB Try.prog = true := by kernel_rfl

theorem deviceTorn_lifted (os : Os) (started : os.Started) (H : Type) (enc : TypeId × Value → H) :
    ReturnsInHanded {} Try.checked os 4 .any (Rows.deviceTornSpec.pre6 enc Try.prog Try.f4 Rows.deviceTornRow.domain false) (Rows.deviceTornSpec.post enc Try.prog Try.f4 false true false false) := by
  refine row_lifted (C := Try.checked) (cfg := S.cfg) (tb := 4) rfl S.hT deviceTornLaidOut deviceTornOwn started (by kernel_rfl) Try.func4 (by kernel_rfl) (by kernel_rfl) (by kernel_rfl) rfl ?_
    (ChangeSpec.witness6 (enc := enc) (C := Try.checked) false ⟨#[], #[.slice none 0 0, .slice none 0 0, .int .i64 0], []⟩ 8 (by kernel_rfl) (by kernel_rfl) (by kernel_rfl) (by kernel_rfl)) ?_
  · intro H ds hl
    have hsz : Try.f4.params.size = 3 := by kernel_rfl
    rw [hsz] at hl
    match ds, hl with
    | [d1, d2, d3], _ => rfl
  · intro pvs h
    have hp : Try.f4.params.toList = [30, 30, 3] := by kernel_rfl
    have h' : WTArgs Try.prog Try.f4.params.toList pvs := h
    rw [hp] at h'
    match pvs, h' with
    | [x, y, z], ⟨hx, hy, hz, _⟩ => exact deviceTorn_args hx hy hz

theorem deviceTorn_holds : Rows.DeviceTornSaid :=
  OpenClaim.holds_of_wide 4 Try.f4 rfl rfl rfl rfl rfl rfl rfl ⟨rfl, rfl, rfl, rfl, rfl⟩ rfl rfl rfl rfl rfl (by kernel_rfl) Try.func4 (by kernel_rfl)
    (of_decide_eq_true (by kernel_rfl)) (by unfold Func.isWrapper; first | (rw [if_pos (by decide +kernel)]; kernel_rfl) | (rw [if_neg (by decide +kernel)]; exact ⟨rfl, rfl⟩))
    (fun os started H enc _ => deviceTorn_lifted os started H enc)

#print axioms deviceTorn_holds
end Go.Proofs.Ytgcfmhlgbakdfaa

