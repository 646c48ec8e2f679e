/- Part of the proof: what each function of the program comes to, spelled out (printed by a program of this repo, from the program's code). -/
import Derived.Test.YtceokplopachgaaEq
import Derived.Test.YtceokplopachgaaProg
import Derived.KernelRfl
set_option linter.unusedVariables false
set_option maxRecDepth 100000
namespace Go.Pvm.S
open Go.Pvm Go.Proofs
set_option maxHeartbeats 4000000
theorem z0j (C : z7) (L : xg) (σ : Store) (a0 : PV) : qa cfg C L 77 [a0] σ =
  (jd Try.prog .len [33] [a0]).bind fun v0 => asInt .i64 v0 fun n1 => (jd Try.prog .len [33] [a0]).bind fun v2 => asInt .i64 v2 fun n3 => (zai Try.prog 33 a0 none (some (.int .i64 n1)) (some (.int .i64 n3))).bind fun v4 => some (v4,σ) := by kernel_rfl
end Go.Pvm.S
