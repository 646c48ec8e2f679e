/- The theorem of groups, whatever the input: records one behind the other, cut anywhere. -/
import Derived.Test.YtpilgmnhkgcgkaaRedoArgs
import Derived.Test.YtpilgmnhkgcgkaaRedoF
set_option linter.unusedSimpArgs false
set_option linter.unusedVariables false
set_option maxRecDepth 100000
namespace Go.Proofs.Ytpilgmnhkgcgkaa
open Go.ChangeShapes Go.WideShapes Go.ChangeAt Go.RowKit Go.Pvm
theorem redoCuts_args {x y z : PV} (hx : WTV Try.prog 49 x) (hy : WTV Try.prog 23 y) (hz : WTV Try.prog 40 z) : ∃ σ', callω S.cfg 6 [x, y, z] .empty = some (.bool true, σ') := by
  obtain ⟨pss, p1, p2, _⟩ := wtv_sliceR S.TNN (by kernel_rfl) (by kernel_rfl) (argSlice S.TN (by kernel_rfl) (by kernel_rfl) (argInt (by kernel_rfl))) hx
  obtain ⟨bs, b1, b2, b3⟩ := S.argBBs hy
  obtain ⟨c, rfl, c1, c2⟩ := wtv_int (show Try.prog.underlying 40 = some (.int .u16) by kernel_rfl) hz
  have := reach62
  exact S.spCuts p1 b1 (by omega) b3 ⟨c1, c2⟩
end Go.Proofs.Ytpilgmnhkgcgkaa
namespace Go.Proofs.Ytpilgmnhkgcgkaa
open Go.ChangeShapes Go.WideShapes Go.ChangeAt Go.RowKit Go.Pvm

theorem redoCutsOwn : ownKnob Try.prog.godebug = none := by kernel_rfl
theorem redoCutsLaidOut : laidOutB Try.prog = true := by kernel_rfl

theorem redoCuts_lifted (os : Os) (started : os.Started) (H : Type) (enc : TypeId × Value → H) :
    ReturnsInHanded {} Try.checked os 6 .any (Rows.redoCutsSpec.pre6 enc Try.prog Try.f6 Rows.redoCutsRow.domain false) (Rows.redoCutsSpec.post enc Try.prog Try.f6 false true false false) := by
  refine row_lifted (C := Try.checked) (cfg := S.cfg) (tb := 4) rfl S.hT redoCutsLaidOut redoCutsOwn started (by kernel_rfl) Try.func6 (by kernel_rfl) (by kernel_rfl) (by kernel_rfl) rfl ?_
    (ChangeSpec.witness6 (enc := enc) (C := Try.checked) false ⟨#[], #[.slice none 0 0, .slice none 0 0, .int .u16 0], []⟩ 8 (by kernel_rfl) (by kernel_rfl) (by kernel_rfl) (by kernel_rfl)) ?_
  · intro H ds hl
    have hsz : Try.f6.params.size = 3 := by kernel_rfl
    rw [hsz] at hl
    match ds, hl with
    | [d1, d2, d3], _ => rfl
  · intro pvs h
    have hp : Try.f6.params.toList = [49, 23, 40] := by kernel_rfl
    have h' : WTArgs Try.prog Try.f6.params.toList pvs := h
    rw [hp] at h'
    match pvs, h' with
    | [x, y, z], ⟨hx, hy, hz, _⟩ => exact redoCuts_args hx hy hz

theorem redoCuts_holds : Rows.RedoCutsSaid :=
  OpenClaim.holds_of_wide 6 Try.f6 rfl rfl rfl rfl rfl rfl rfl ⟨rfl, rfl, rfl, rfl, rfl⟩ rfl rfl rfl rfl rfl (by kernel_rfl) Try.func6 (by kernel_rfl)
    (of_decide_eq_true (by kernel_rfl)) (by unfold Func.isWrapper; first | (rw [if_pos (by decide +kernel)]; kernel_rfl) | (rw [if_neg (by decide +kernel)]; exact ⟨rfl, rfl⟩))
    (fun os started H enc _ => redoCuts_lifted os started H enc)

#print axioms redoCuts_holds
end Go.Proofs.Ytpilgmnhkgcgkaa

