/- Part of the proof: what a row's arguments are, for devices. -/
import Derived.Test.YtgcfmhlgbakdfaaDevH
import Derived.Test.YtgcfmhlgbakdfaaRows
set_option linter.unusedSimpArgs false
set_option linter.unusedVariables false
set_option maxRecDepth 100000
namespace Go.Pvm.S
open Go.Pvm Go.Proofs
theorem argBytes {v : PV} (h : WTV Try.prog 30 v) : ∃ l, IsS RB v l ∧ l.length < 4611686018427387904 := by
  obtain ⟨l, h1, h2, _⟩ := wtv_sliceR TB (by kernel_rfl) (by kernel_rfl) (argByte uB) h
  have := reach62
  exact ⟨l, h1, by omega⟩
theorem argBool {P : Program} {t : TypeId} (h : P.underlying t = some .bool) : ArgR P t RBo (fun _ => True) := fun n c _ hw => by
  obtain ⟨x, rfl⟩ := wt_bool h hw
  exact ⟨x, rfl, trivial⟩
theorem argBools {v : PV} (h : WTV Try.prog 23 v) : ∃ l, IsS RBo v l ∧ l.length < 4611686018427387904 := by
  obtain ⟨l, h1, h2, _⟩ := wtv_sliceR TBo (by kernel_rfl) (by kernel_rfl) (argBool (by kernel_rfl)) h
  have := reach62
  exact ⟨l, h1, by omega⟩
theorem uAB : Try.prog.underlying 22 = some (.array 2 5) := by kernel_rfl
theorem argTwo {v : PV} (h : WTV Try.prog 22 v) : ∃ x y : Nat, v = .agg [.int .u8 (x : Nat), .int .u8 (y : Nat)] ∧ x < 256 ∧ y < 256 := by
  obtain ⟨n, h⟩ := h
  rw [uAB] at h
  simp only [Option.getD_some, aggD] at h
  obtain ⟨cs, rfl, h⟩ := h
  obtain ⟨m, parts, rfl, hl, hp⟩ := wt_array uAB h
  match parts, hl with
  | [a, b], _ =>
    obtain ⟨x, rfl, x1, x2⟩ := wt_int uB (hp a (.head _)).2
    obtain ⟨y, rfl, y1, y2⟩ := wt_int uB (hp b (.tail _ (.head _))).2
    have x1 : (0 : Int) ≤ x := x1
    have x2 : x ≤ 255 := x2
    have y1 : (0 : Int) ≤ y := y1
    have y2 : y ≤ 255 := y2
    refine ⟨x.toNat, y.toNat, ?_, by omega, by omega⟩
    rw [show ((x.toNat : Nat) : Int) = x by omega, show ((y.toNat : Nat) : Int) = y by omega]
    rfl
theorem argI {v : PV} (h : WTV Try.prog 3 v) : ∃ x, v = .int .i64 x ∧ -9223372036854775808 ≤ x ∧ x ≤ 9223372036854775807 := by
  obtain ⟨x, h1, h2, h3⟩ := wtv_int (k := .i64) (by kernel_rfl) h
  exact ⟨x, h1, h2, h3⟩
end Go.Pvm.S
