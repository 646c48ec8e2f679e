/- Pages that come by turns, whatever the input. -/
import Derived.Test.YtiannjbcmmiilaaClockD
import Derived.Test.YtiannjbcmmiilaaRows
set_option linter.unusedSimpArgs false
set_option linter.unusedVariables false
set_option maxRecDepth 100000
namespace Go.Proofs.Ytiannjbcmmiilaa
open Go.ChangeShapes Go.WideShapes Go.ChangeAt Go.RowKit Go.Pvm
theorem clockRounds_args {x y : PV} (hx : WTV Try.prog 5 x) (hy : WTV Try.prog 5 y) : ∃ σ', callω S.cfg 4 [x, y] .empty = some (.bool true, σ') := by
  obtain ⟨n, rfl, n1, n2⟩ := wtv_int (k := .u8) (by kernel_rfl) hx
  obtain ⟨m, rfl, m1, m2⟩ := wtv_int (k := .u8) (by kernel_rfl) hy
  have n1 : (0 : Int) ≤ n := n1
  have n2 : n ≤ 255 := n2
  have m1 : (0 : Int) ≤ m := m1
  have m2 : m ≤ 255 := m2
  have h := S.lawRounds n.toNat m.toNat (by omega) (by omega)
  rw [show ((n.toNat : Nat) : Int) = n by omega, show ((m.toNat : Nat) : Int) = m by omega] at h
  obtain ⟨p, τ, h1, h2⟩ := pcall_sound S.hT S.ownOk h (.cons (.base _ rfl) (.cons (.base _ rfl) .nil))
  rw [bool_of_fz h2] at h1
  exact ⟨τ, h1⟩
end Go.Proofs.Ytiannjbcmmiilaa
namespace Go.Proofs.Ytiannjbcmmiilaa
open Go.ChangeShapes Go.WideShapes Go.ChangeAt Go.RowKit Go.Pvm

theorem clockRoundsOwn : ownKnob Try.prog.godebug = none := by kernel_rfl
theorem clockRoundsLaidOut : laidOutB Try.prog = true := by kernel_rfl

theorem clockRounds_lifted (os : Os) (started : os.Started) (H : Type) (enc : TypeId × Value → H) :
    ReturnsInHanded {} Try.checked os 4 .any (Rows.clockRoundsSpec.pre6 enc Try.prog Try.f4 Rows.clockRoundsRow.domain false) (Rows.clockRoundsSpec.post enc Try.prog Try.f4 false true false false) := by
  refine row_lifted (C := Try.checked) (cfg := S.cfg) (tb := 4) rfl S.hT clockRoundsLaidOut clockRoundsOwn started (by kernel_rfl) Try.func4 (by kernel_rfl) (by kernel_rfl) (by kernel_rfl) rfl ?_
    (ChangeSpec.witness6 (enc := enc) (C := Try.checked) false ⟨#[], #[.int .u8 0, .int .u8 0], []⟩ 8 (by kernel_rfl) (by kernel_rfl) (by kernel_rfl) (by kernel_rfl)) ?_
  · intro H ds hl
    have hsz : Try.f4.params.size = 2 := by kernel_rfl
    rw [hsz] at hl
    match ds, hl with
    | [d1, d2], _ => rfl
  · intro pvs h
    have hp : Try.f4.params.toList = [5, 5] := by kernel_rfl
    have h' : WTArgs Try.prog Try.f4.params.toList pvs := h
    rw [hp] at h'
    match pvs, h' with
    | [x, y], ⟨hx, hy, _⟩ => exact clockRounds_args hx hy

theorem clockRounds_holds : Rows.ClockRoundsSaid :=
  OpenClaim.holds_of_wide 4 Try.f4 rfl rfl rfl rfl rfl rfl rfl ⟨rfl, rfl, rfl, rfl, rfl⟩ rfl rfl rfl rfl rfl (by kernel_rfl) Try.func4 (by kernel_rfl)
    (of_decide_eq_true (by kernel_rfl)) (by unfold Func.isWrapper; first | (rw [if_pos (by decide +kernel)]; kernel_rfl) | (rw [if_neg (by decide +kernel)]; exact ⟨rfl, rfl⟩))
    (fun os started H enc _ => clockRounds_lifted os started H enc)

#print axioms clockRounds_holds
end Go.Proofs.Ytiannjbcmmiilaa

