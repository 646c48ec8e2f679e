/- Part of the proof: numbers that may be; numbers alike. -/
import Derived.Test.YtjfgklgcbogejaaGreatCmpK
set_option linter.unusedSimpArgs false
set_option linter.unusedVariables false
set_option maxRecDepth 100000
namespace Go.Pvm.S
open Go.Pvm Go.Proofs
def inn (n : Int) : Bool := decide (n ≥ 1) && decide (n ≤ 2147483647)
theorem inn_iff {n : Int} : inn n = true ↔ 1 ≤ n ∧ n ≤ 2147483647 := by
 unfold inn
 rw [Bool.and_eq_true,decide_eq_true_eq,decide_eq_true_eq]
theorem rm8 {n : Nat} (h : n < 4294967295) : (n + 1) * 8 ≤ 140737488355328 := by omega
end Go.Pvm.S
