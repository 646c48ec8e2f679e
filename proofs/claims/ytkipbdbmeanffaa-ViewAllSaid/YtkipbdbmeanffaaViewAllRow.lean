/- Whom all views see, whatever the input. -/
import Derived.Test.YtkipbdbmeanffaaViewArgs
set_option linter.unusedSimpArgs false
set_option linter.unusedVariables false
set_option maxRecDepth 100000
namespace Go.Proofs.Ytkipbdbmeanffaa
open Go.ChangeShapes Go.WideShapes Go.ChangeAt Go.RowKit Go.Pvm
theorem viewAll_args {x y : PV} (hx : WTV Try.prog 38 x) (hy : WTV Try.prog 3 y) : ∃ σ', callω S.cfg 5 [x, y] .empty = some (.bool true, σ') := by
  obtain ⟨l, l1, l2, l3⟩ := S.argViews hx
  obtain ⟨w, w1, _⟩ := S.argI hy
  obtain ⟨p, τ, h1, h2⟩ := pcall_sound S.hT S.ownOk (S.lawAll l w l2 l3) (.cons l1 (.cons w1 .nil))
  rw [bool_of_fz h2] at h1
  exact ⟨τ, h1⟩
end Go.Proofs.Ytkipbdbmeanffaa
namespace Go.Proofs.Ytkipbdbmeanffaa
open Go.ChangeShapes Go.WideShapes Go.ChangeAt Go.RowKit Go.Pvm

theorem viewAllOwn : ownKnob Try.prog.godebug = none := by kernel_rfl
theorem viewAllLaidOut : laidOutB Try.prog = true := by kernel_rfl

theorem viewAll_lifted (os : Os) (started : os.Started) (H : Type) (enc : TypeId × Value → H) :
    ReturnsInHanded {} Try.checked os 5 .any (Rows.viewAllSpec.pre6 enc Try.prog Try.f5 Rows.viewAllRow.domain false) (Rows.viewAllSpec.post enc Try.prog Try.f5 false true false false) := by
  refine row_lifted (C := Try.checked) (cfg := S.cfg) (tb := 4) rfl S.hT viewAllLaidOut viewAllOwn started (by kernel_rfl) Try.func5 (by kernel_rfl) (by kernel_rfl) (by kernel_rfl) rfl ?_
    (ChangeSpec.witness6 (enc := enc) (C := Try.checked) false ⟨#[], #[.slice none 0 0, .int .i64 0], []⟩ 8 (by kernel_rfl) (by kernel_rfl) (by kernel_rfl) (by kernel_rfl)) ?_
  · intro H ds hl
    have hsz : Try.f5.params.size = 2 := by kernel_rfl
    rw [hsz] at hl
    match ds, hl with
    | [d1, d2], _ => rfl
  · intro pvs h
    have hp : Try.f5.params.toList = [38, 3] := by kernel_rfl
    have h' : WTArgs Try.prog Try.f5.params.toList pvs := h
    rw [hp] at h'
    match pvs, h' with
    | [x, y], ⟨hx, hy, _⟩ => exact viewAll_args hx hy

theorem viewAll_holds : Rows.ViewAllSaid :=
  OpenClaim.holds_of_wide 5 Try.f5 rfl rfl rfl rfl rfl rfl rfl ⟨rfl, rfl, rfl, rfl, rfl⟩ rfl rfl rfl rfl rfl (by kernel_rfl) Try.func5 (by kernel_rfl)
    (of_decide_eq_true (by kernel_rfl)) (by unfold Func.isWrapper; first | (rw [if_pos (by decide +kernel)]; kernel_rfl) | (rw [if_neg (by decide +kernel)]; exact ⟨rfl, rfl⟩))
    (fun os started H enc _ => viewAll_lifted os started H enc)

#print axioms viewAll_holds
end Go.Proofs.Ytkipbdbmeanffaa

