/- The theorem of waiting, whatever the input. -/
import Derived.Test.YtmmjkeiophcjcaaWaitO
import Derived.Test.YtmmjkeiophcjcaaRows
set_option linter.unusedSimpArgs false
set_option linter.unusedVariables false
set_option maxRecDepth 100000
namespace Go.Proofs.Ytmmjkeiophcjcaa
open Go.ChangeShapes Go.WideShapes Go.ChangeAt Go.RowKit Go.Pvm

theorem weOwn : ownKnob Try.prog.godebug = none := by kernel_rfl
theorem weLaidOut : laidOutB Try.prog = true := by kernel_rfl

theorem waitEnds_lifted (os : Os) (started : os.Started) (H : Type) (enc : TypeId × Value → H) :
    ReturnsInHanded {} Try.checked os 5 .any (Rows.waitEndsSpec.pre6 enc Try.prog Try.f5 Rows.waitEndsRow.domain false) (Rows.waitEndsSpec.post enc Try.prog Try.f5 false true false false) := by
  refine row_lifted (C := Try.checked) (cfg := Wait.cfg) (tb := 4) rfl Wait.hT weLaidOut weOwn started (by kernel_rfl) Try.func5 (by kernel_rfl) (by kernel_rfl) (by kernel_rfl) rfl ?_
    (ChangeSpec.witness6 (enc := enc) (C := Try.checked) false ⟨#[], #[.slice none 0 0], []⟩ 8 (by kernel_rfl) (by kernel_rfl) (by kernel_rfl) (by kernel_rfl)) ?_
  · intro H ds hl
    have hsz : Try.f5.params.size = 1 := by kernel_rfl
    rw [hsz] at hl
    match ds, hl with
    | [d1], _ => rfl
  · intro pvs h
    have hp : Try.f5.params.toList = [33] := by kernel_rfl
    have h' : WTArgs Try.prog Try.f5.params.toList pvs := h
    rw [hp] at h'
    match pvs, h' with
    | [v], ⟨hv, _⟩ =>
      rcases wtv_slice Wait.u33 hv with rfl | ⟨es, n, rfl, _, hlen, hes⟩
      · exact Wait.sp5 (ps := []) (.inl ⟨rfl, rfl⟩) (by simp) (by simp)
      · obtain ⟨l, rfl, hl⟩ := Wait.wt_pairs es hes
        refine Wait.sp5 (ps := l) (.inr ⟨false, rfl⟩) hl ?_
        have h1 : reachBytes < 4611686018427387904 := by decide
        have h2 : Try.prog.bytesOf 34 = 2 := by kernel_rfl
        rw [h2, List.length_map] at hlen
        omega

theorem waitEnds_holds : Rows.WaitEndsSaid :=
  OpenClaim.holds_of_wide 5 Try.f5 rfl rfl rfl rfl rfl rfl rfl ⟨rfl, rfl, rfl, rfl, rfl⟩ rfl rfl rfl rfl rfl (by kernel_rfl) Try.func5 (by kernel_rfl)
    (of_decide_eq_true (by kernel_rfl)) (by unfold Func.isWrapper; first | (rw [if_pos (by decide +kernel)]; kernel_rfl) | (rw [if_neg (by decide +kernel)]; exact ⟨rfl, rfl⟩))
    (fun os started H enc _ => waitEnds_lifted os started H enc)

#print axioms waitEnds_holds
end Go.Proofs.Ytmmjkeiophcjcaa
