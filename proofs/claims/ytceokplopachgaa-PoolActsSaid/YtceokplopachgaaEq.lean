/- Part of the proof: what each function of the program comes to, spelled out (printed by a program of this repo, from the program's code). -/
import Derived.Test.YtceokplopachgaaEqK
import Derived.Test.YtceokplopachgaaP4
import Derived.Test.YtceokplopachgaaProg
import Derived.KernelRfl
set_option linter.unusedVariables false
set_option maxRecDepth 100000
namespace Go.Pvm.S
open Go.Pvm Go.Proofs
set_option maxHeartbeats 4000000
noncomputable def zmv : Cfg := { cfg with strict := true,calmA := [3,12,21] }
end Go.Pvm.S
