/- Part of the proof: what each function of the program comes to, spelled out (printed by a program of this repo, from the program's code). -/
import Derived.Test.YtpilgmnhkgcgkaaEqK
import Derived.Test.YtpilgmnhkgcgkaaP4
import Derived.Test.YtpilgmnhkgcgkaaProg
import Derived.KernelRfl
set_option linter.unusedVariables false
set_option maxRecDepth 100000
namespace Go.Pvm.S
open Go.Pvm Go.Proofs
set_option maxHeartbeats 4000000

noncomputable def cfgC : Cfg := { cfg with strict := true, calm := true }
noncomputable def cfgD3_15 : Cfg := { cfg with strict := true, calmA := [7, 82, 99] }
noncomputable def cfgD17_14 : Cfg := { cfg with strict := true, calmA := [7, 66, 70] }

end Go.Pvm.S
