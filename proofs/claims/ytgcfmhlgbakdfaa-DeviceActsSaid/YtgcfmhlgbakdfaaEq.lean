/- Part of the proof: what each function of the program comes to, spelled out (printed by a program of this repo, from the program's code). -/
import Derived.Test.YtgcfmhlgbakdfaaEqK
import Derived.Test.YtgcfmhlgbakdfaaP4
import Derived.Test.YtgcfmhlgbakdfaaProg
import Derived.KernelRfl
set_option linter.unusedVariables false
set_option maxRecDepth 100000
namespace Go.Pvm.S
open Go.Pvm Go.Proofs
set_option maxHeartbeats 4000000

noncomputable def cfgC : Cfg := { cfg with strict := true, calm := true }
noncomputable def cfg9C : Cfg := { cfg9 with strict := true, calm := true }
noncomputable def cfg15C : Cfg := { cfg15 with strict := true, calm := true }
noncomputable def cfgD33_2 : Cfg := { cfg with strict := true, calmA := [3, 12, 21] }
noncomputable def cfgD35_10 : Cfg := { cfg with strict := true, calmA := [6] }
noncomputable def cfgD36_10 : Cfg := { cfg with strict := true, calmA := [3, 51] }

end Go.Pvm.S
