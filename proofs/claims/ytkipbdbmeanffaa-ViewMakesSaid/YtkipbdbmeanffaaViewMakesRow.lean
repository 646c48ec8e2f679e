/- The view of any numbers, whatever the input. -/
import Derived.Test.YtkipbdbmeanffaaVmArgs
set_option linter.unusedSimpArgs false
set_option linter.unusedVariables false
set_option maxRecDepth 100000
namespace Go.Proofs.Ytkipbdbmeanffaa
open Go.ChangeShapes Go.WideShapes Go.ChangeAt Go.RowKit Go.Pvm
theorem viewMakes_args {x y z : PV} (hx : WTV Try.prog 3 x) (hy : WTV Try.prog 3 y) (hz : WTV Try.prog 22 z) : ∃ σ', callω S.cfg 3 [x, y, z] .empty = some (.bool true, σ') := by
  obtain ⟨s, s1, _⟩ := S.argI hx
  obtain ⟨n, n1, _⟩ := S.argI hy
  obtain ⟨l, l1, l2⟩ := S.argInts hz
  obtain ⟨p, τ, h1, h2⟩ := pcall_sound S.hT S.ownOk (S.lawMakes s n l l2) (.cons s1 (.cons n1 (.cons l1 .nil)))
  rw [bool_of_fz h2] at h1
  exact ⟨τ, h1⟩
end Go.Proofs.Ytkipbdbmeanffaa
namespace Go.Proofs.Ytkipbdbmeanffaa
open Go.ChangeShapes Go.WideShapes Go.ChangeAt Go.RowKit Go.Pvm

theorem viewMakesOwn : ownKnob Try.prog.godebug = none := by kernel_rfl
theorem viewMakesLaidOut : laidOutB Try.prog = true := by kernel_rfl

theorem viewMakes_lifted (os : Os) (started : os.Started) (H : Type) (enc : TypeId × Value → H) :
    ReturnsInHanded {} Try.checked os 3 .any (Rows.viewMakesSpec.pre6 enc Try.prog Try.f3 Rows.viewMakesRow.domain false) (Rows.viewMakesSpec.post enc Try.prog Try.f3 false true false false) := by
  refine row_lifted (C := Try.checked) (cfg := S.cfg) (tb := 4) rfl S.hT viewMakesLaidOut viewMakesOwn started (by kernel_rfl) Try.func3 (by kernel_rfl) (by kernel_rfl) (by kernel_rfl) rfl ?_
    (ChangeSpec.witness6 (enc := enc) (C := Try.checked) false ⟨#[], #[.int .i64 0, .int .i64 0, .slice none 0 0], []⟩ 8 (by kernel_rfl) (by kernel_rfl) (by kernel_rfl) (by kernel_rfl)) ?_
  · intro H ds hl
    have hsz : Try.f3.params.size = 3 := by kernel_rfl
    rw [hsz] at hl
    match ds, hl with
    | [d1, d2, d3], _ => rfl
  · intro pvs h
    have hp : Try.f3.params.toList = [3, 3, 22] := by kernel_rfl
    have h' : WTArgs Try.prog Try.f3.params.toList pvs := h
    rw [hp] at h'
    match pvs, h' with
    | [x, y, z], ⟨hx, hy, hz, _⟩ => exact viewMakes_args hx hy hz

theorem viewMakes_holds : Rows.ViewMakesSaid :=
  OpenClaim.holds_of_wide 3 Try.f3 rfl rfl rfl rfl rfl rfl rfl ⟨rfl, rfl, rfl, rfl, rfl⟩ rfl rfl rfl rfl rfl (by kernel_rfl) Try.func3 (by kernel_rfl)
    (of_decide_eq_true (by kernel_rfl)) (by unfold Func.isWrapper; first | (rw [if_pos (by decide +kernel)]; kernel_rfl) | (rw [if_neg (by decide +kernel)]; exact ⟨rfl, rfl⟩))
    (fun os started H enc _ => viewMakes_lifted os started H enc)

#print axioms viewMakes_holds
end Go.Proofs.Ytkipbdbmeanffaa

