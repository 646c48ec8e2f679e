/- How many bytes a stream takes, whatever the input. -/
import Derived.Test.YtgcfmhlgbakdfaaDevN
import Derived.Test.YtgcfmhlgbakdfaaDevArgs
set_option linter.unusedSimpArgs false
set_option linter.unusedVariables false
set_option maxRecDepth 100000
namespace Go.Pvm.S
open Go.Pvm Go.Proofs
theorem argU16 {v : PV} (h : WTV Try.prog 43 v) : ∃ x : Nat, v = .int .u16 (x : Nat) ∧ x < 65536 := by
  obtain ⟨x, rfl, h2, h3⟩ := wtv_int (k := .u16) (by kernel_rfl) h
  have h2 : (0 : Int) ≤ x := h2
  have h3 : x ≤ 65535 := h3
  exact ⟨x.toNat, by rw [show ((x.toNat : Nat) : Int) = x by omega], by omega⟩
end Go.Pvm.S
namespace Go.Proofs.Ytgcfmhlgbakdfaa
open Go.ChangeShapes Go.WideShapes Go.ChangeAt Go.RowKit Go.Pvm
theorem deviceFull_args {x y z : PV} (hx : WTV Try.prog 43 x) (hy : WTV Try.prog 43 y) (hz : WTV Try.prog 43 z) : ∃ σ', callω S.cfg 5 [x, y, z] .empty = some (.bool true, σ') := by
  obtain ⟨a, rfl, a1⟩ := S.argU16 hx
  obtain ⟨b, rfl, b1⟩ := S.argU16 hy
  obtain ⟨c, rfl, c1⟩ := S.argU16 hz
  exact S.spFullD a1 b1 c1
end Go.Proofs.Ytgcfmhlgbakdfaa
namespace Go.Proofs.Ytgcfmhlgbakdfaa
open Go.ChangeShapes Go.WideShapes Go.ChangeAt Go.RowKit Go.Pvm

theorem deviceFullOwn : ownKnob Try.prog.godebug = none := by kernel_rfl
theorem deviceFullLaidOut : laidOutB Try.prog = true := by kernel_rfl

theorem deviceFull_lifted (os : Os) (started : os.Started) (H : Type) (enc : TypeId × Value → H) :
    ReturnsInHanded {} Try.checked os 5 .any (Rows.deviceFullSpec.pre6 enc Try.prog Try.f5 Rows.deviceFullRow.domain false) (Rows.deviceFullSpec.post enc Try.prog Try.f5 false true false false) := by
  refine row_lifted (C := Try.checked) (cfg := S.cfg) (tb := 4) rfl S.hT deviceFullLaidOut deviceFullOwn started (by kernel_rfl) Try.func5 (by kernel_rfl) (by kernel_rfl) (by kernel_rfl) rfl ?_
    (ChangeSpec.witness6 (enc := enc) (C := Try.checked) false ⟨#[], #[.int .u16 0, .int .u16 0, .int .u16 0], []⟩ 8 (by kernel_rfl) (by kernel_rfl) (by kernel_rfl) (by kernel_rfl)) ?_
  · intro H ds hl
    have hsz : Try.f5.params.size = 3 := by kernel_rfl
    rw [hsz] at hl
    match ds, hl with
    | [d1, d2, d3], _ => rfl
  · intro pvs h
    have hp : Try.f5.params.toList = [43, 43, 43] := by kernel_rfl
    have h' : WTArgs Try.prog Try.f5.params.toList pvs := h
    rw [hp] at h'
    match pvs, h' with
    | [x, y, z], ⟨hx, hy, hz, _⟩ => exact deviceFull_args hx hy hz

theorem deviceFull_holds : Rows.DeviceFullSaid :=
  OpenClaim.holds_of_wide 5 Try.f5 rfl rfl rfl rfl rfl rfl rfl ⟨rfl, rfl, rfl, rfl, rfl⟩ rfl rfl rfl rfl rfl (by kernel_rfl) Try.func5 (by kernel_rfl)
    (of_decide_eq_true (by kernel_rfl)) (by unfold Func.isWrapper; first | (rw [if_pos (by decide +kernel)]; kernel_rfl) | (rw [if_neg (by decide +kernel)]; exact ⟨rfl, rfl⟩))
    (fun os started H enc _ => deviceFull_lifted os started H enc)

#print axioms deviceFull_holds
end Go.Proofs.Ytgcfmhlgbakdfaa

