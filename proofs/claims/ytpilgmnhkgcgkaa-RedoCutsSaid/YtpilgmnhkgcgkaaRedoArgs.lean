/- Part of the proof: what a row's arguments are: bytes, numbers, rows of them. -/
import Derived.Test.YtpilgmnhkgcgkaaRedoE
import Derived.Test.YtpilgmnhkgcgkaaRows
set_option linter.unusedSimpArgs false
set_option linter.unusedVariables false
set_option maxRecDepth 100000
namespace Go.Pvm.S
open Go.Pvm Go.Proofs Go.Pvm.Crc
theorem argBytes {v : PV} (h : WTV Try.prog 24 v) : ∃ l, IsS RB v l ∧ l.length < 4611686018427387904 := by
  obtain ⟨l, h1, h2, _⟩ := wtv_sliceR TB (by kernel_rfl) (by kernel_rfl) (argByte uB) h
  have := reach62
  exact ⟨l, h1, by omega⟩
theorem argInts {v : PV} (h : WTV Try.prog 22 v) : ∃ l, IsS RN v l ∧ l.length < 4611686018427387904 := by
  obtain ⟨l, h1, h2, _⟩ := wtv_sliceR TN (by kernel_rfl) (by kernel_rfl) (argInt (by kernel_rfl)) h
  have := reach62
  exact ⟨l, h1, by omega⟩
theorem argBBs {v : PV} (h : WTV Try.prog 23 v) : ∃ l, IsS RBB v l ∧ l.length < 4611686018427387904 ∧ ∀ b ∈ l, b.length < 4611686018427387904 := by
  obtain ⟨l, h1, h2, h3⟩ := wtv_sliceR TBB (by kernel_rfl) (by kernel_rfl) (argSlice TB (by kernel_rfl) (by kernel_rfl) (argByte uB)) h
  have := reach62
  exact ⟨l, h1, by omega, fun b hb => by have := (h3 b hb).1; omega⟩
end Go.Pvm.S
namespace Go.Proofs.Ytpilgmnhkgcgkaa
open Go.ChangeShapes Go.WideShapes Go.ChangeAt Go.RowKit Go.Pvm
theorem redoCodes_args {x y z : PV} (hx : WTV Try.prog 22 x) (hy : WTV Try.prog 23 y) (hz : WTV Try.prog 24 z) : ∃ σ', callω S.cfg 3 [x, y, z] .empty = some (.bool true, σ') := by
  obtain ⟨ps, p1, _⟩ := S.argInts hx
  obtain ⟨bs, b1, b2, b3⟩ := S.argBBs hy
  obtain ⟨o, o1, _⟩ := S.argBytes hz
  exact S.spCodes p1 b1 b2 b3 o1
theorem redoRows_args {x : PV} (hx : WTV Try.prog 24 x) : ∃ σ', callω S.cfg 5 [x] .empty = some (.bool true, σ') := by
  obtain ⟨o, o1, o2⟩ := S.argBytes hx
  exact S.spRows o1 o2
end Go.Proofs.Ytpilgmnhkgcgkaa
