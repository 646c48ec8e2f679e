/- What any acts leave, step by step, whatever the input. -/
import Derived.Test.YtgcfmhlgbakdfaaDraArgs
set_option linter.unusedSimpArgs false
set_option linter.unusedVariables false
set_option maxRecDepth 100000
namespace Go.Proofs.Ytgcfmhlgbakdfaa
open Go.ChangeShapes Go.WideShapes Go.ChangeAt Go.RowKit Go.Pvm
theorem deviceActs_args {x y : PV} (hx : WTV Try.prog 3 x) (hy : WTV Try.prog 46 y) : ∃ σ', callω S.cfg 6 [x, y] .empty = some (.bool true, σ') := by
  obtain ⟨n, rfl⟩ := S.argN hx
  obtain ⟨l, l1, l2, l3⟩ := S.argActs hy
  exact S.spActs n l1 l2 l3
end Go.Proofs.Ytgcfmhlgbakdfaa
namespace Go.Proofs.Ytgcfmhlgbakdfaa
open Go.ChangeShapes Go.WideShapes Go.ChangeAt Go.RowKit Go.Pvm

theorem deviceActsOwn : ownKnob Try.prog.godebug = none := by kernel_rfl
theorem deviceActsLaidOut : laidOutB Try.prog = true := by kernel_rfl

theorem deviceActs_lifted (os : Os) (started : os.Started) (H : Type) (enc : TypeId × Value → H) :
    ReturnsInHanded {} Try.checked os 6 .any (Rows.deviceActsSpec.pre6 enc Try.prog Try.f6 Rows.deviceActsRow.domain false) (Rows.deviceActsSpec.post enc Try.prog Try.f6 false true false false) := by
  refine row_lifted (C := Try.checked) (cfg := S.cfg) (tb := 4) rfl (.none S.hT) deviceActsLaidOut deviceActsOwn started (by kernel_rfl) Try.func6 (by kernel_rfl) (by kernel_rfl) (by kernel_rfl) rfl ?_
    (ChangeSpec.witness6 (enc := enc) (C := Try.checked) false ⟨#[], #[.int .i64 0, .slice none 0 0], []⟩ 8 (by kernel_rfl) (by kernel_rfl) (by kernel_rfl) (by kernel_rfl)) ?_
  · intro H ds hl
    have hsz : Try.f6.params.size = 2 := by kernel_rfl
    rw [hsz] at hl
    match ds, hl with
    | [d1, d2], _ => rfl
  · intro pvs h
    have hp : Try.f6.params.toList = [3, 46] := by kernel_rfl
    have h' : WTArgs Try.prog Try.f6.params.toList pvs := h
    rw [hp] at h'
    match pvs, h' with
    | [x, y], ⟨hx, hy, _⟩ => exact deviceActs_args hx hy

theorem deviceActs_holds : Rows.DeviceActsSaid :=
  OpenClaim.holds_of_wide 6 Try.f6 rfl rfl rfl rfl rfl rfl rfl ⟨rfl, rfl, rfl, rfl, rfl⟩ rfl rfl rfl rfl rfl (by kernel_rfl) Try.func6 (by kernel_rfl)
    (of_decide_eq_true (by kernel_rfl)) (by unfold Func.isWrapper; first | (rw [if_pos (by decide +kernel)]; kernel_rfl) | (rw [if_neg (by decide +kernel)]; exact ⟨rfl, rfl⟩))
    (fun os started H enc _ => deviceActs_lifted os started H enc)

#print axioms deviceActs_holds
end Go.Proofs.Ytgcfmhlgbakdfaa

