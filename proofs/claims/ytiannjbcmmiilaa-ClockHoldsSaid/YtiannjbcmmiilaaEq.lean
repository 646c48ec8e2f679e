/- Part of the proof: what each function of the program comes to, spelled out (printed by a program of this repo, from the program's code). -/
import Derived.Test.YtiannjbcmmiilaaEqK
import Derived.Test.YtiannjbcmmiilaaP4
import Derived.Test.YtiannjbcmmiilaaProg
import Derived.KernelRfl
set_option linter.unusedVariables false
set_option maxRecDepth 100000
namespace Go.Pvm.S
open Go.Pvm Go.Proofs
set_option maxHeartbeats 4000000

noncomputable def cfgC : Cfg := { cfg with strict := true, calm := true }

end Go.Pvm.S
