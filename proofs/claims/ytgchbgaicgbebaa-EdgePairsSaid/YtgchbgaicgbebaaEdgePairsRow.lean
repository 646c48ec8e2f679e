/- Two that each read what the other one wrote over, whatever the input. -/
import Derived.Test.YtgchbgaicgbebaaEdgeArgs
set_option linter.unusedSimpArgs false
set_option linter.unusedVariables false
set_option maxRecDepth 100000
namespace Go.Proofs.Ytgchbgaicgbebaa
open Go.ChangeShapes Go.WideShapes Go.ChangeAt Go.RowKit Go.Pvm
theorem aArr : ArgK Try.prog 33 (fun p : Int × Int => [.int .u8 p.1, .int .u8 p.2]) (fun p => (0 ≤ p.1 ∧ p.1 ≤ 255) ∧ (0 ≤ p.2 ∧ p.2 ≤ 255)) := fun top n c h => by
  obtain ⟨m, parts, rfl, hl, hp⟩ := wt_array (k := 2) (e := 5) (by kernel_rfl) h
  have hB : Try.prog.underlying 5 = some (.int .u8) := by kernel_rfl
  match parts, hl with
  | [a, b], _ =>
    obtain ⟨x, rfl, hx⟩ := wt_int hB (hp a (List.mem_cons_self ..)).2
    obtain ⟨y, rfl, hy⟩ := wt_int hB (hp b (List.mem_cons_of_mem _ (List.mem_cons_self ..))).2
    exact ⟨(x, y), .cons (.base _ rfl) (.cons (.base _ rfl) .nil), hx, hy⟩
theorem edgePairs_args {x y : PV} (hx : WTV Try.prog 33 x) (hy : WTV Try.prog 33 y) : ∃ σ', callω S.cfg 4 [x, y] .empty = some (.bool true, σ') := by
  obtain ⟨p, p1, p2, p3⟩ := aArr.many (by kernel_rfl) hx
  obtain ⟨q, q1, q2, q3⟩ := aArr.many (by kernel_rfl) hy
  obtain ⟨w, τ, h1, h2⟩ := pcall_sound S.hT S.ownOk (S.lawPairs p.1 p.2 q.1 q.2 p2 p3 q2 q3) (.cons p1 (.cons q1 .nil))
  rw [bool_of_fz h2] at h1
  exact ⟨τ, h1⟩
end Go.Proofs.Ytgchbgaicgbebaa
namespace Go.Proofs.Ytgchbgaicgbebaa
open Go.ChangeShapes Go.WideShapes Go.ChangeAt Go.RowKit Go.Pvm

theorem edgePairsOwn : ownKnob Try.prog.godebug = none := by kernel_rfl
theorem edgePairsLaidOut : laidOutB Try.prog = true := by kernel_rfl

theorem edgePairs_lifted (os : Os) (started : os.Started) (H : Type) (enc : TypeId × Value → H) :
    ReturnsInHanded {} Try.checked os 4 .any (Rows.edgePairsSpec.pre6 enc Try.prog Try.f4 Rows.edgePairsRow.domain false) (Rows.edgePairsSpec.post enc Try.prog Try.f4 false true false false) := by
  refine row_lifted (C := Try.checked) (cfg := S.cfg) (tb := 4) rfl S.hT edgePairsLaidOut edgePairsOwn started (by kernel_rfl) Try.func4 (by kernel_rfl) (by kernel_rfl) (by kernel_rfl) rfl ?_
    (ChangeSpec.witness6 (enc := enc) (C := Try.checked) false ⟨#[], #[.agg #[.int .u8 0, .int .u8 0], .agg #[.int .u8 0, .int .u8 0]], []⟩ 8 (by kernel_rfl) (by kernel_rfl) (by kernel_rfl) (by kernel_rfl)) ?_
  · intro H ds hl
    have hsz : Try.f4.params.size = 2 := by kernel_rfl
    rw [hsz] at hl
    match ds, hl with
    | [d1, d2], _ => rfl
  · intro pvs h
    have hp : Try.f4.params.toList = [33, 33] := by kernel_rfl
    have h' : WTArgs Try.prog Try.f4.params.toList pvs := h
    rw [hp] at h'
    match pvs, h' with
    | [x, y], ⟨hx, hy, _⟩ => exact edgePairs_args hx hy

theorem edgePairs_holds : Rows.EdgePairsSaid :=
  OpenClaim.holds_of_wide 4 Try.f4 rfl rfl rfl rfl rfl rfl rfl ⟨rfl, rfl, rfl, rfl, rfl⟩ rfl rfl rfl rfl rfl (by kernel_rfl) Try.func4 (by kernel_rfl)
    (of_decide_eq_true (by kernel_rfl)) (by unfold Func.isWrapper; first | (rw [if_pos (by decide +kernel)]; kernel_rfl) | (rw [if_neg (by decide +kernel)]; exact ⟨rfl, rfl⟩))
    (fun os started H enc _ => edgePairs_lifted os started H enc)

#print axioms edgePairs_holds
end Go.Proofs.Ytgchbgaicgbebaa

