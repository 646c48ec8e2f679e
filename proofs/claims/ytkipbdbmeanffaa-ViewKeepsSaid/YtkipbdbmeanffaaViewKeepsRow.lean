/- The theorem of views, whatever the input. -/
import Derived.Test.YtkipbdbmeanffaaViewG
import Derived.Test.YtkipbdbmeanffaaKArgs
import Derived.Test.YtkipbdbmeanffaaRows
set_option linter.unusedSimpArgs false
set_option linter.unusedVariables false
set_option maxRecDepth 100000
namespace Go.Proofs.Ytkipbdbmeanffaa
open Go.ChangeShapes Go.WideShapes Go.ChangeAt Go.RowKit Go.Pvm
theorem aByte : ArgK Try.prog 5 S.ue (fun n => (0 : Int) ≤ n ∧ n ≤ 255) := ArgK.int (k := .u8) (by kernel_rfl)
theorem aBytes : ArgK Try.prog 34 (fun l : List Int => [.psl false (l.map S.ue)]) (fun l => l.length * Try.prog.bytesOf 5 ≤ reachBytes ∧ ∀ a ∈ l, (0 : Int) ≤ a ∧ a ≤ 255) := ArgK.slice (by kernel_rfl) (by rw [show Try.prog.cellsOf 5 = 1 from by kernel_rfl]; decide) aByte
theorem viewKeeps_args {x y : PV} (hx : WTV Try.prog 34 x) (hy : WTV Try.prog 5 y) : ∃ σ', callω S.cfg 4 [x, y] .empty = some (.bool true, σ') := by
  obtain ⟨l, l1, l2, l3⟩ := ArgK.one (e := fun l : List Int => .psl false (l.map S.ue)) aBytes (by kernel_rfl) hx
  obtain ⟨n, n1, _⟩ := ArgK.one (e := fun n : Int => .int .u8 n) aByte (by kernel_rfl) hy
  rw [show Try.prog.bytesOf 5 = 1 from by kernel_rfl] at l2
  have := reach62
  obtain ⟨p, τ, h1, h2⟩ := pcall_sound S.hT S.ownOk (S.lawKeeps l n (by omega) l3) (.cons l1 (.cons n1 .nil))
  rw [bool_of_fz h2] at h1
  exact ⟨τ, h1⟩
end Go.Proofs.Ytkipbdbmeanffaa
namespace Go.Proofs.Ytkipbdbmeanffaa
open Go.ChangeShapes Go.WideShapes Go.ChangeAt Go.RowKit Go.Pvm

theorem viewKeepsOwn : ownKnob Try.prog.godebug = none := by kernel_rfl
theorem viewKeepsLaidOut : laidOutB Try.prog = true := by kernel_rfl

theorem viewKeeps_lifted (os : Os) (started : os.Started) (H : Type) (enc : TypeId × Value → H) :
    ReturnsInHanded {} Try.checked os 4 .any (Rows.viewKeepsSpec.pre6 enc Try.prog Try.f4 Rows.viewKeepsRow.domain false) (Rows.viewKeepsSpec.post enc Try.prog Try.f4 false true false false) := by
  refine row_lifted (C := Try.checked) (cfg := S.cfg) (tb := 4) rfl S.hT viewKeepsLaidOut viewKeepsOwn started (by kernel_rfl) Try.func4 (by kernel_rfl) (by kernel_rfl) (by kernel_rfl) rfl ?_
    (ChangeSpec.witness6 (enc := enc) (C := Try.checked) false ⟨#[], #[.slice none 0 0, .int .u8 0], []⟩ 8 (by kernel_rfl) (by kernel_rfl) (by kernel_rfl) (by kernel_rfl)) ?_
  · intro H ds hl
    have hsz : Try.f4.params.size = 2 := by kernel_rfl
    rw [hsz] at hl
    match ds, hl with
    | [d1, d2], _ => rfl
  · intro pvs h
    have hp : Try.f4.params.toList = [34, 5] := by kernel_rfl
    have h' : WTArgs Try.prog Try.f4.params.toList pvs := h
    rw [hp] at h'
    match pvs, h' with
    | [x, y], ⟨hx, hy, _⟩ => exact viewKeeps_args hx hy

theorem viewKeeps_holds : Rows.ViewKeepsSaid :=
  OpenClaim.holds_of_wide 4 Try.f4 rfl rfl rfl rfl rfl rfl rfl ⟨rfl, rfl, rfl, rfl, rfl⟩ rfl rfl rfl rfl rfl (by kernel_rfl) Try.func4 (by kernel_rfl)
    (of_decide_eq_true (by kernel_rfl)) (by unfold Func.isWrapper; first | (rw [if_pos (by decide +kernel)]; kernel_rfl) | (rw [if_neg (by decide +kernel)]; exact ⟨rfl, rfl⟩))
    (fun os started H enc _ => viewKeeps_lifted os started H enc)

#print axioms viewKeeps_holds
end Go.Proofs.Ytkipbdbmeanffaa

