/- Which edges may be, any with one more, and without somebody's, whatever the input. -/
import Derived.Test.YtgchbgaicgbebaaEdgeArgs
set_option linter.unusedSimpArgs false
set_option linter.unusedVariables false
set_option maxRecDepth 100000
namespace Go.Proofs.Ytgchbgaicgbebaa
open Go.ChangeShapes Go.WideShapes Go.ChangeAt Go.RowKit Go.Pvm
theorem edgeAdds_args {x y z : PV} (hx : WTV Try.prog 22 x) (hy : WTV Try.prog 3 y) (hz : WTV Try.prog 3 z) : ∃ σ', callω S.cfg 6 [x, y, z] .empty = some (.bool true, σ') := by
  obtain ⟨l, l1, l2⟩ := S.argEs hx
  obtain ⟨f, f1⟩ := S.argI hy
  obtain ⟨t, t1⟩ := S.argI hz
  obtain ⟨p, τ, h1, h2⟩ := pcall_sound S.hT S.ownOk (S.lawAdds l f t l2) (.cons l1 (.cons f1 (.cons t1 .nil)))
  rw [bool_of_fz h2] at h1
  exact ⟨τ, h1⟩
end Go.Proofs.Ytgchbgaicgbebaa
namespace Go.Proofs.Ytgchbgaicgbebaa
open Go.ChangeShapes Go.WideShapes Go.ChangeAt Go.RowKit Go.Pvm

theorem edgeAddsOwn : ownKnob Try.prog.godebug = none := by kernel_rfl
theorem edgeAddsLaidOut : laidOutB Try.prog = true := by kernel_rfl

theorem edgeAdds_lifted (os : Os) (started : os.Started) (H : Type) (enc : TypeId × Value → H) :
    ReturnsInHanded {} Try.checked os 6 .any (Rows.edgeAddsSpec.pre6 enc Try.prog Try.f6 Rows.edgeAddsRow.domain false) (Rows.edgeAddsSpec.post enc Try.prog Try.f6 false true false false) := by
  refine row_lifted (C := Try.checked) (cfg := S.cfg) (tb := 4) rfl S.hT edgeAddsLaidOut edgeAddsOwn started (by kernel_rfl) Try.func6 (by kernel_rfl) (by kernel_rfl) (by kernel_rfl) rfl ?_
    (ChangeSpec.witness6 (enc := enc) (C := Try.checked) false ⟨#[], #[.slice none 0 0, .int .i64 0, .int .i64 0], []⟩ 8 (by kernel_rfl) (by kernel_rfl) (by kernel_rfl) (by kernel_rfl)) ?_
  · intro H ds hl
    have hsz : Try.f6.params.size = 3 := by kernel_rfl
    rw [hsz] at hl
    match ds, hl with
    | [d1, d2, d3], _ => rfl
  · intro pvs h
    have hp : Try.f6.params.toList = [22, 3, 3] := by kernel_rfl
    have h' : WTArgs Try.prog Try.f6.params.toList pvs := h
    rw [hp] at h'
    match pvs, h' with
    | [x, y, z], ⟨hx, hy, hz, _⟩ => exact edgeAdds_args hx hy hz

theorem edgeAdds_holds : Rows.EdgeAddsSaid :=
  OpenClaim.holds_of_wide 6 Try.f6 rfl rfl rfl rfl rfl rfl rfl ⟨rfl, rfl, rfl, rfl, rfl⟩ rfl rfl rfl rfl rfl (by kernel_rfl) Try.func6 (by kernel_rfl)
    (of_decide_eq_true (by kernel_rfl)) (by unfold Func.isWrapper; first | (rw [if_pos (by decide +kernel)]; kernel_rfl) | (rw [if_neg (by decide +kernel)]; exact ⟨rfl, rfl⟩))
    (fun os started H enc _ => edgeAdds_lifted os started H enc)

#print axioms edgeAdds_holds
end Go.Proofs.Ytgchbgaicgbebaa

