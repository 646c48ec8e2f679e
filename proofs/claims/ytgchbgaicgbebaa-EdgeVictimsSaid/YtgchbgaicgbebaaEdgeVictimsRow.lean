/- Which spans may be, and the victims, whatever the input. -/
import Derived.Test.YtgchbgaicgbebaaEdgeArgs
set_option linter.unusedSimpArgs false
set_option linter.unusedVariables false
set_option maxRecDepth 100000
namespace Go.Proofs.Ytgchbgaicgbebaa
open Go.ChangeShapes Go.WideShapes Go.ChangeAt Go.RowKit Go.Pvm
theorem edgeVictims_args {x y : PV} (hx : WTV Try.prog 22 x) (hy : WTV Try.prog 23 y) : ∃ σ', callω S.cfg 3 [x, y] .empty = some (.bool true, σ') := by
  obtain ⟨l, l1, l2⟩ := S.argEs hx
  obtain ⟨s, s1, s2⟩ := S.argSs hy
  obtain ⟨p, τ, h1, h2⟩ := pcall_sound S.hT S.ownOk (S.lawVictims l s l2 s2) (.cons l1 (.cons s1 .nil))
  rw [bool_of_fz h2] at h1
  exact ⟨τ, h1⟩
end Go.Proofs.Ytgchbgaicgbebaa
namespace Go.Proofs.Ytgchbgaicgbebaa
open Go.ChangeShapes Go.WideShapes Go.ChangeAt Go.RowKit Go.Pvm

theorem edgeVictimsOwn : ownKnob Try.prog.godebug = none := by kernel_rfl
theorem edgeVictimsLaidOut : laidOutB Try.prog = true := by kernel_rfl

theorem edgeVictims_lifted (os : Os) (started : os.Started) (H : Type) (enc : TypeId × Value → H) :
    ReturnsInHanded {} Try.checked os 3 .any (Rows.edgeVictimsSpec.pre6 enc Try.prog Try.f3 Rows.edgeVictimsRow.domain false) (Rows.edgeVictimsSpec.post enc Try.prog Try.f3 false true false false) := by
  refine row_lifted (C := Try.checked) (cfg := S.cfg) (tb := 4) rfl S.hT edgeVictimsLaidOut edgeVictimsOwn started (by kernel_rfl) Try.func3 (by kernel_rfl) (by kernel_rfl) (by kernel_rfl) rfl ?_
    (ChangeSpec.witness6 (enc := enc) (C := Try.checked) false ⟨#[], #[.slice none 0 0, .slice none 0 0], []⟩ 8 (by kernel_rfl) (by kernel_rfl) (by kernel_rfl) (by kernel_rfl)) ?_
  · intro H ds hl
    have hsz : Try.f3.params.size = 2 := by kernel_rfl
    rw [hsz] at hl
    match ds, hl with
    | [d1, d2], _ => rfl
  · intro pvs h
    have hp : Try.f3.params.toList = [22, 23] := by kernel_rfl
    have h' : WTArgs Try.prog Try.f3.params.toList pvs := h
    rw [hp] at h'
    match pvs, h' with
    | [x, y], ⟨hx, hy, _⟩ => exact edgeVictims_args hx hy

theorem edgeVictims_holds : Rows.EdgeVictimsSaid :=
  OpenClaim.holds_of_wide 3 Try.f3 rfl rfl rfl rfl rfl rfl rfl ⟨rfl, rfl, rfl, rfl, rfl⟩ rfl rfl rfl rfl rfl (by kernel_rfl) Try.func3 (by kernel_rfl)
    (of_decide_eq_true (by kernel_rfl)) (by unfold Func.isWrapper; first | (rw [if_pos (by decide +kernel)]; kernel_rfl) | (rw [if_neg (by decide +kernel)]; exact ⟨rfl, rfl⟩))
    (fun os started H enc _ => edgeVictims_lifted os started H enc)

#print axioms edgeVictims_holds
end Go.Proofs.Ytgchbgaicgbebaa

