/- Part of the proof: the pool: what is in, what is dirty. -/
import Derived.Test.YtceokplopachgaaPolI
set_option linter.unusedSimpArgs false
set_option linter.unusedVariables false
set_option maxRecDepth 100000
namespace Go.Pvm.S
open Go.Pvm Go.Proofs
theorem zcw : Try.prog.underlying 50 = some (.slice 3) := by kernel_rfl
theorem zth : OneT Try.prog 27 := .of (by kernel_rfl) (by kernel_rfl)
section
variable {g g' : Nat → Nat} {σ τ : Store} {pid did mid : Nat} {p : Po} {vs v : PV} {ids : List Nat}
end
end Go.Pvm.S
