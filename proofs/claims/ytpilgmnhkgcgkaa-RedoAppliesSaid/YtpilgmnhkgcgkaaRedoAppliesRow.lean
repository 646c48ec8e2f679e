/- Images behind a group, whatever the input; done twice it is done once. -/
import Derived.Test.YtpilgmnhkgcgkaaRdH
import Derived.Test.YtpilgmnhkgcgkaaRows
set_option linter.unusedSimpArgs false
set_option linter.unusedVariables false
set_option maxRecDepth 100000
namespace Go.Pvm.S
open Go.Pvm Go.Proofs Go.Pvm.Crc
theorem argInts {v : PV} (h : WTV Try.prog 22 v) : ∃ l, IsS RN v l ∧ l.length < 4611686018427387904 := by
  obtain ⟨l, h1, h2, _⟩ := wtv_sliceR TN (by kernel_rfl) (by kernel_rfl) (argInt (by kernel_rfl)) h
  have := reach62
  exact ⟨l, h1, by omega⟩
theorem argBBs {v : PV} (h : WTV Try.prog 23 v) : ∃ l, IsS RBB v l ∧ l.length < 4611686018427387904 ∧ ∀ b ∈ l, b.length < 4611686018427387904 := by
  obtain ⟨l, h1, h2, h3⟩ := wtv_sliceR TBB (by kernel_rfl) (by kernel_rfl) (argSlice TB (by kernel_rfl) (by kernel_rfl) (argByte uB)) h
  have := reach62
  exact ⟨l, h1, by omega, fun b hb => by have := (h3 b hb).1; omega⟩
end Go.Pvm.S
namespace Go.Proofs.Ytpilgmnhkgcgkaa
open Go.ChangeShapes Go.WideShapes Go.ChangeAt Go.RowKit Go.Pvm
theorem redoApplies_args {x y z : PV} (hx : WTV Try.prog 22 x) (hy : WTV Try.prog 23 y) (hz : WTV Try.prog 22 z) : ∃ σ', callω S.cfg 7 [x, y, z] .empty = some (.bool true, σ') := by
  obtain ⟨ps, p1, _⟩ := S.argInts hx
  obtain ⟨bs, b1, b2, b3⟩ := S.argBBs hy
  obtain ⟨qs, q1, _⟩ := S.argInts hz
  exact S.spApplies p1 b1 q1 b3
end Go.Proofs.Ytpilgmnhkgcgkaa
namespace Go.Proofs.Ytpilgmnhkgcgkaa
open Go.ChangeShapes Go.WideShapes Go.ChangeAt Go.RowKit Go.Pvm

theorem redoAppliesOwn : ownKnob Try.prog.godebug = none := by kernel_rfl
theorem redoAppliesLaidOut : laidOutB Try.prog = true := by kernel_rfl

theorem redoApplies_lifted (os : Os) (started : os.Started) (H : Type) (enc : TypeId × Value → H) :
    ReturnsInHanded {} Try.checked os 7 .any (Rows.redoAppliesSpec.pre6 enc Try.prog Try.f7 Rows.redoAppliesRow.domain false) (Rows.redoAppliesSpec.post enc Try.prog Try.f7 false true false false) := by
  refine row_lifted (C := Try.checked) (cfg := S.cfg) (tb := 4) rfl S.hTo redoAppliesLaidOut redoAppliesOwn started (by kernel_rfl) Try.func7 (by kernel_rfl) (by kernel_rfl) (by kernel_rfl) rfl ?_
    (ChangeSpec.witness6 (enc := enc) (C := Try.checked) false ⟨#[], #[.slice none 0 0, .slice none 0 0, .slice none 0 0], []⟩ 8 (by kernel_rfl) (by kernel_rfl) (by kernel_rfl) (by kernel_rfl)) ?_
  · intro H ds hl
    have hsz : Try.f7.params.size = 3 := by kernel_rfl
    rw [hsz] at hl
    match ds, hl with
    | [d1, d2, d3], _ => rfl
  · intro pvs h
    have hp : Try.f7.params.toList = [22, 23, 22] := by kernel_rfl
    have h' : WTArgs Try.prog Try.f7.params.toList pvs := h
    rw [hp] at h'
    match pvs, h' with
    | [x, y, z], ⟨hx, hy, hz, _⟩ => exact redoApplies_args hx hy hz

theorem redoApplies_holds : Rows.RedoAppliesSaid :=
  OpenClaim.holds_of_wide 7 Try.f7 rfl rfl rfl rfl rfl rfl rfl ⟨rfl, rfl, rfl, rfl, rfl⟩ rfl rfl rfl rfl rfl (by kernel_rfl) Try.func7 (by kernel_rfl)
    (of_decide_eq_true (by kernel_rfl)) (by unfold Func.isWrapper; first | (rw [if_pos (by decide +kernel)]; kernel_rfl) | (rw [if_neg (by decide +kernel)]; exact ⟨rfl, rfl⟩))
    (fun os started H enc _ => redoApplies_lifted os started H enc)

#print axioms redoApplies_holds
end Go.Proofs.Ytpilgmnhkgcgkaa

