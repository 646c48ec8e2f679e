/- The law of one wait more, whatever the input. -/
import Derived.Test.YtmmjkeiophcjcaaWaitL
import Derived.Test.YtmmjkeiophcjcaaRows
set_option linter.unusedSimpArgs false
set_option linter.unusedVariables false
set_option maxRecDepth 100000
namespace Go.Proofs.Ytmmjkeiophcjcaa
open Go.ChangeShapes Go.WideShapes Go.ChangeAt Go.RowKit Go.Pvm

theorem waOwn : ownKnob Try.prog.godebug = none := by kernel_rfl
theorem waLaidOut : laidOutB Try.prog = true := by kernel_rfl

theorem waitAdds_lifted (os : Os) (started : os.Started) (H : Type) (enc : TypeId × Value → H) :
    ReturnsInHanded {} Try.checked os 4 .any (Rows.waitAddsSpec.pre6 enc Try.prog Try.f4 Rows.waitAddsRow.domain false) (Rows.waitAddsSpec.post enc Try.prog Try.f4 false true false false) := by
  refine row_lifted (C := Try.checked) (cfg := Wait.cfg) (tb := 4) rfl Wait.hT waLaidOut waOwn started (by kernel_rfl) Try.func4 (by kernel_rfl) (by kernel_rfl) (by kernel_rfl) rfl ?_
    (ChangeSpec.witness6 (enc := enc) (C := Try.checked) false ⟨#[], #[.slice none 0 0, .int .i64 0, .int .i64 0], []⟩ 8 (by kernel_rfl) (by kernel_rfl) (by kernel_rfl) (by kernel_rfl)) ?_
  · intro H ds hl
    have hsz : Try.f4.params.size = 3 := by kernel_rfl
    rw [hsz] at hl
    match ds, hl with
    | [d1, d2, d3], _ => rfl
  · intro pvs h
    have hp : Try.f4.params.toList = [22, 3, 3] := by kernel_rfl
    have h' : WTArgs Try.prog Try.f4.params.toList pvs := h
    rw [hp] at h'
    match pvs, h' with
    | [v, x, y], ⟨hv, hx, hy, _⟩ =>
      have ht : Try.prog.underlying 3 = some (.int .i64) := by kernel_rfl
      obtain ⟨a, rfl, a1, a2⟩ := wtv_int ht hx
      obtain ⟨b, rfl, b1, b2⟩ := wtv_int ht hy
      rcases wtv_slice Wait.u22 hv with rfl | ⟨es, n, rfl, _, hlen, hes⟩
      · exact Wait.sp4 (l := []) (.inl ⟨rfl, rfl⟩) a b (by simp)
      · obtain ⟨l, rfl⟩ := Wait.wt_list es hes
        refine Wait.sp4 (l := l) (.inr ⟨false, rfl⟩) a b ?_
        have h1 : reachBytes < 4611686018427387904 := by decide
        have h2 : Try.prog.bytesOf 38 = 16 := by kernel_rfl
        rw [h2, List.length_map] at hlen
        omega

theorem waitAdds_holds : Rows.WaitAddsSaid :=
  OpenClaim.holds_of_wide 4 Try.f4 rfl rfl rfl rfl rfl rfl rfl ⟨rfl, rfl, rfl, rfl, rfl⟩ rfl rfl rfl rfl rfl (by kernel_rfl) Try.func4 (by kernel_rfl)
    (of_decide_eq_true (by kernel_rfl)) (by unfold Func.isWrapper; first | (rw [if_pos (by decide +kernel)]; kernel_rfl) | (rw [if_neg (by decide +kernel)]; exact ⟨rfl, rfl⟩))
    (fun os started H enc _ => waitAdds_lifted os started H enc)

#print axioms waitAdds_holds
end Go.Proofs.Ytmmjkeiophcjcaa
