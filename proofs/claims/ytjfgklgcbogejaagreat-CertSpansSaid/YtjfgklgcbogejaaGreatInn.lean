/- Part of the proof: numbers that may be; numbers alike. -/
import Derived.Test.YtjfgklgcbogejaaGreatCmpK
set_option linter.unusedSimpArgs false
set_option linter.unusedVariables false
set_option maxRecDepth 100000
namespace Go.Pvm.S
open Go.Pvm Go.Proofs
def inn (n : Int) : Bool := decide (n ≥ 1) && decide (n ≤ 2147483647)
theorem z5j (n : Int) : yn Cω 12 [.int .i64 n] = some (.bool (inn n)) := by
 have ev := z67 Cω Lω n
 have h2 : decide (n < 2147483648) = decide (n ≤ 2147483647) := by rw [decide_eq_decide]; omega
 unfold inn
 rw [← h2]
 by_cases h : n ≥ 1
 ·simp only [decide_eq_true_eq,h,if_true] at ev
  rw [decide_eq_true h,Bool.true_and]
  exact pc ev rfl
 ·simp only [decide_eq_true_eq,h,if_false] at ev
  rw [decide_eq_false h,Bool.false_and]
  exact pc ev rfl
theorem inn_iff {n : Int} : inn n = true ↔ 1 ≤ n ∧ n ≤ 2147483647 := by
 unfold inn
 rw [Bool.and_eq_true,decide_eq_true_eq,decide_eq_true_eq]
theorem rm8 {n : Nat} (h : n < 4294967295) : (n + 1) * 8 ≤ 140737488355328 := by omega
end Go.Pvm.S
