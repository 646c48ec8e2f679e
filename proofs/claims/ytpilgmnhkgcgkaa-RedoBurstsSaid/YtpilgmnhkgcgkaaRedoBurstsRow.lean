/- A turned record is none, whatever the input. -/
import Derived.Test.YtpilgmnhkgcgkaaRedoArgs
import Derived.Test.YtpilgmnhkgcgkaaRedoG
set_option linter.unusedSimpArgs false
set_option linter.unusedVariables false
set_option maxRecDepth 100000
namespace Go.Proofs.Ytpilgmnhkgcgkaa
open Go.ChangeShapes Go.WideShapes Go.ChangeAt Go.RowKit Go.Pvm
theorem redoBursts_args {x y z : PV} (hx : WTV Try.prog 24 x) (hy : WTV Try.prog 40 y) (hz : WTV Try.prog 41 z) : ∃ σ', callω S.cfg 4 [x, y, z] .empty = some (.bool true, σ') := by
  obtain ⟨b, b1, b2⟩ := S.argBytes hx
  obtain ⟨c, rfl, c1, c2⟩ := wtv_int (show Try.prog.underlying 40 = some (.int .u16) by kernel_rfl) hy
  obtain ⟨p, rfl, p1, p2⟩ := wtv_int (show Try.prog.underlying 41 = some (.int .u32) by kernel_rfl) hz
  exact S.spBursts b1 b2 ⟨c1, c2⟩ ⟨p1, p2⟩
end Go.Proofs.Ytpilgmnhkgcgkaa
namespace Go.Proofs.Ytpilgmnhkgcgkaa
open Go.ChangeShapes Go.WideShapes Go.ChangeAt Go.RowKit Go.Pvm

theorem redoBurstsOwn : ownKnob Try.prog.godebug = none := by kernel_rfl
theorem redoBurstsLaidOut : laidOutB Try.prog = true := by kernel_rfl

theorem redoBursts_lifted (os : Os) (started : os.Started) (H : Type) (enc : TypeId × Value → H) :
    ReturnsInHanded {} Try.checked os 4 .any (Rows.redoBurstsSpec.pre6 enc Try.prog Try.f4 Rows.redoBurstsRow.domain false) (Rows.redoBurstsSpec.post enc Try.prog Try.f4 false true false false) := by
  refine row_lifted (C := Try.checked) (cfg := S.cfg) (tb := 4) rfl S.hT redoBurstsLaidOut redoBurstsOwn started (by kernel_rfl) Try.func4 (by kernel_rfl) (by kernel_rfl) (by kernel_rfl) rfl ?_
    (ChangeSpec.witness6 (enc := enc) (C := Try.checked) false ⟨#[], #[.slice none 0 0, .int .u16 0, .int .u32 0], []⟩ 8 (by kernel_rfl) (by kernel_rfl) (by kernel_rfl) (by kernel_rfl)) ?_
  · intro H ds hl
    have hsz : Try.f4.params.size = 3 := by kernel_rfl
    rw [hsz] at hl
    match ds, hl with
    | [d1, d2, d3], _ => rfl
  · intro pvs h
    have hp : Try.f4.params.toList = [24, 40, 41] := by kernel_rfl
    have h' : WTArgs Try.prog Try.f4.params.toList pvs := h
    rw [hp] at h'
    match pvs, h' with
    | [x, y, z], ⟨hx, hy, hz, _⟩ => exact redoBursts_args hx hy hz

theorem redoBursts_holds : Rows.RedoBurstsSaid :=
  OpenClaim.holds_of_wide 4 Try.f4 rfl rfl rfl rfl rfl rfl rfl ⟨rfl, rfl, rfl, rfl, rfl⟩ rfl rfl rfl rfl rfl (by kernel_rfl) Try.func4 (by kernel_rfl)
    (of_decide_eq_true (by kernel_rfl)) (by unfold Func.isWrapper; first | (rw [if_pos (by decide +kernel)]; kernel_rfl) | (rw [if_neg (by decide +kernel)]; exact ⟨rfl, rfl⟩))
    (fun os started H enc _ => redoBursts_lifted os started H enc)

#print axioms redoBursts_holds
end Go.Proofs.Ytpilgmnhkgcgkaa

