/- Which new clocks there may be, whatever the input. -/
import Derived.Test.YtiannjbcmmiilaaClockD
import Derived.Test.YtiannjbcmmiilaaRows
set_option linter.unusedSimpArgs false
set_option linter.unusedVariables false
set_option maxRecDepth 100000
namespace Go.Proofs.Ytiannjbcmmiilaa
open Go.ChangeShapes Go.WideShapes Go.ChangeAt Go.RowKit Go.Pvm
theorem clockNew_args {x : PV} (hx : WTV Try.prog 3 x) : ∃ σ', callω S.cfg 3 [x] .empty = some (.bool true, σ') := by
  obtain ⟨n, rfl, _, _⟩ := wtv_int (k := .i64) (by kernel_rfl) hx
  obtain ⟨p, τ, h1, h2⟩ := pcall_sound S.hT S.ownOk (S.lawNew n) (.cons (.base _ rfl) .nil)
  rw [bool_of_fz h2] at h1
  exact ⟨τ, h1⟩
end Go.Proofs.Ytiannjbcmmiilaa
namespace Go.Proofs.Ytiannjbcmmiilaa
open Go.ChangeShapes Go.WideShapes Go.ChangeAt Go.RowKit Go.Pvm

theorem clockNewOwn : ownKnob Try.prog.godebug = none := by kernel_rfl
theorem clockNewLaidOut : laidOutB Try.prog = true := by kernel_rfl

theorem clockNew_lifted (os : Os) (started : os.Started) (H : Type) (enc : TypeId × Value → H) :
    ReturnsInHanded {} Try.checked os 3 .any (Rows.clockNewSpec.pre6 enc Try.prog Try.f3 Rows.clockNewRow.domain false) (Rows.clockNewSpec.post enc Try.prog Try.f3 false true false false) := by
  refine row_lifted (C := Try.checked) (cfg := S.cfg) (tb := 4) rfl S.hT clockNewLaidOut clockNewOwn started (by kernel_rfl) Try.func3 (by kernel_rfl) (by kernel_rfl) (by kernel_rfl) rfl ?_
    (ChangeSpec.witness6 (enc := enc) (C := Try.checked) false ⟨#[], #[.int .i64 0], []⟩ 8 (by kernel_rfl) (by kernel_rfl) (by kernel_rfl) (by kernel_rfl)) ?_
  · intro H ds hl
    have hsz : Try.f3.params.size = 1 := by kernel_rfl
    rw [hsz] at hl
    match ds, hl with
    | [d1], _ => rfl
  · intro pvs h
    have hp : Try.f3.params.toList = [3] := by kernel_rfl
    have h' : WTArgs Try.prog Try.f3.params.toList pvs := h
    rw [hp] at h'
    match pvs, h' with
    | [x], ⟨hx, _⟩ => exact clockNew_args hx

theorem clockNew_holds : Rows.ClockNewSaid :=
  OpenClaim.holds_of_wide 3 Try.f3 rfl rfl rfl rfl rfl rfl rfl ⟨rfl, rfl, rfl, rfl, rfl⟩ rfl rfl rfl rfl rfl (by kernel_rfl) Try.func3 (by kernel_rfl)
    (of_decide_eq_true (by kernel_rfl)) (by unfold Func.isWrapper; first | (rw [if_pos (by decide +kernel)]; kernel_rfl) | (rw [if_neg (by decide +kernel)]; exact ⟨rfl, rfl⟩))
    (fun os started H enc _ => clockNew_lifted os started H enc)

#print axioms clockNew_holds
end Go.Proofs.Ytiannjbcmmiilaa

