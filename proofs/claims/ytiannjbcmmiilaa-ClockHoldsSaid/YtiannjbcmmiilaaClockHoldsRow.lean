/- What is pinned stays, whatever the input. -/
import Derived.Test.YtiannjbcmmiilaaClkS
import Derived.Test.YtiannjbcmmiilaaRows
set_option linter.unusedSimpArgs false
set_option linter.unusedVariables false
set_option maxRecDepth 100000
namespace Go.Proofs.Ytiannjbcmmiilaa
open Go.ChangeShapes Go.WideShapes Go.ChangeAt Go.RowKit Go.Pvm
theorem holds_bytes {v : PV} (h : WTV Try.prog 35 v) : ∃ l, S.SB v l := by
  obtain ⟨l, h1, h2, _⟩ := wtv_sliceR S.TB (by kernel_rfl) (by kernel_rfl) (argByte (by kernel_rfl)) h
  exact ⟨l, h1⟩
theorem clockHolds_args {x y z : PV} (hx : WTV Try.prog 5 x) (hy : WTV Try.prog 35 y) (hz : WTV Try.prog 35 z) : ∃ σ', callω S.cfg 5 [x, y, z] .empty = some (.bool true, σ') := by
  obtain ⟨n, rfl, n1, n2⟩ := wtv_int (k := .u8) (by kernel_rfl) hx
  have n1 : (0 : Int) ≤ n := n1
  have n2 : n ≤ 255 := n2
  obtain ⟨l, hl⟩ := holds_bytes hy
  obtain ⟨l', hl'⟩ := holds_bytes hz
  have h := S.lawHolds n.toNat (by omega) hl hl'
  rw [show ((n.toNat : Nat) : Int) = n by omega] at h
  exact h
end Go.Proofs.Ytiannjbcmmiilaa
namespace Go.Proofs.Ytiannjbcmmiilaa
open Go.ChangeShapes Go.WideShapes Go.ChangeAt Go.RowKit Go.Pvm

theorem clockHoldsOwn : ownKnob Try.prog.godebug = none := by kernel_rfl
theorem clockHoldsLaidOut : laidOutB Try.prog = true := by kernel_rfl

theorem clockHolds_lifted (os : Os) (started : os.Started) (H : Type) (enc : TypeId × Value → H) :
    ReturnsInHanded {} Try.checked os 5 .any (Rows.clockHoldsSpec.pre6 enc Try.prog Try.f5 Rows.clockHoldsRow.domain false) (Rows.clockHoldsSpec.post enc Try.prog Try.f5 false true false false) := by
  refine row_lifted (C := Try.checked) (cfg := S.cfg) (tb := 4) rfl S.hT clockHoldsLaidOut clockHoldsOwn started (by kernel_rfl) Try.func5 (by kernel_rfl) (by kernel_rfl) (by kernel_rfl) rfl ?_
    (ChangeSpec.witness6 (enc := enc) (C := Try.checked) false ⟨#[], #[.int .u8 0, .slice none 0 0, .slice none 0 0], []⟩ 8 (by kernel_rfl) (by kernel_rfl) (by kernel_rfl) (by kernel_rfl)) ?_
  · intro H ds hl
    have hsz : Try.f5.params.size = 3 := by kernel_rfl
    rw [hsz] at hl
    match ds, hl with
    | [d1, d2, d3], _ => rfl
  · intro pvs h
    have hp : Try.f5.params.toList = [5, 35, 35] := by kernel_rfl
    have h' : WTArgs Try.prog Try.f5.params.toList pvs := h
    rw [hp] at h'
    match pvs, h' with
    | [x, y, z], ⟨hx, hy, hz, _⟩ => exact clockHolds_args hx hy hz

theorem clockHolds_holds : Rows.ClockHoldsSaid :=
  OpenClaim.holds_of_wide 5 Try.f5 rfl rfl rfl rfl rfl rfl rfl ⟨rfl, rfl, rfl, rfl, rfl⟩ rfl rfl rfl rfl rfl (by kernel_rfl) Try.func5 (by kernel_rfl)
    (of_decide_eq_true (by kernel_rfl)) (by unfold Func.isWrapper; first | (rw [if_pos (by decide +kernel)]; kernel_rfl) | (rw [if_neg (by decide +kernel)]; exact ⟨rfl, rfl⟩))
    (fun os started H enc _ => clockHolds_lifted os started H enc)

#print axioms clockHolds_holds
end Go.Proofs.Ytiannjbcmmiilaa

