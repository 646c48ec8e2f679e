/- Part of the proof: what each function of the program comes to, spelled out (printed by a program of this repo, from the program's code). -/
import Derived.Test.YtgcfmhlgbakdfaaV22
import Derived.Test.YtgcfmhlgbakdfaaProg
import Derived.KernelRfl
set_option linter.unusedVariables false
set_option maxRecDepth 100000
namespace Go.Pvm.S
open Go.Pvm Go.Proofs
set_option maxHeartbeats 4000000

def modeOf (f : FuncId) : Pvm.Mode := match f with
  | 7 | 9 | 11 | 12 | 13 | 14 | 15 | 17 | 18 | 31 | 32 | 33 => .live
  | 30 => .own
  | 42 => .blind
  | _ => .pure
def maskOf : FuncId → Nat → Option (List Nat × List (Nat × TypeId) × List (Nat × TypeId))
  | 3, 8 => some ([1, 2, 9, 11, 12, 13], [(2, 23), (9, 24), (11, 3), (12, 3)], [])
  | 3, 19 => some ([11, 12, 14, 16], [], [(6, 4)])
  | 6, 10 => some ([0, 1, 5, 7, 8], [], [(4, 4)])
  | 9, 6 => some ([0, 1, 2, 22], [], [])
  | 10, 3 => some ([0, 3, 4], [(3, 30)], [])
  | 11, 2 => some ([0, 17, 18, 19], [(0, 24)], [])
  | 11, 7 => some ([0, 32, 33, 34], [(0, 24)], [])
  | 13, 2 => some ([0, 1, 2, 16, 17, 18], [(0, 24), (2, 3)], [])
  | 13, 8 => some ([0, 2, 44, 45, 46], [(0, 24)], [])
  | 16, 5 => some ([0, 4, 12, 13, 14], [(0, 24), (4, 3)], [])
  | 19, 3 => some ([0, 3, 4], [], [(2, 4)])
  | 22, 3 => some ([0, 3, 4], [(3, 30)], [])
  | 23, 6 => some ([1, 2, 3, 6, 8], [(3, 0), (6, 0)], [])
  | 28, 4 => some ([1, 2, 3, 6, 7, 8, 9], [(6, 0), (7, 0)], [])
  | 29, 8 => some ([0, 2, 7, 14], [(0, 24), (2, 3)], [(6, 4)])
  | 40, 3 => some ([1, 4, 5, 6], [(4, 3), (5, 3)], [])
  | _, _ => none
def closeOf : FuncId → Nat → Option (Bool × List Nat)
  | 15, 0 => some (false, [1])
  | 33, 2 => some (false, [3])
  | 35, 10 => some (false, [6])
  | 36, 10 => some (false, [3])
  | _, _ => none
def modeOf9 (f : FuncId) : Pvm.Mode := match f with
  | 30 => .pure
  | f => modeOf f
def modeOf15 (f : FuncId) : Pvm.Mode := match f with
  | 30 => .pure
  | f => modeOf f
def altOf : FuncId → Option (FuncId → Mode)
  | 9 => some modeOf9
  | 15 => some modeOf15
  | _ => none
noncomputable def cfg : Cfg := { P := Try.prog, mode := modeOf, alt := altOf, mask := maskOf, close := closeOf, told := fun _ => none }
noncomputable def cfgS : Cfg := { cfg with strict := true }
noncomputable def cfgC : Cfg := { cfg with strict := true, calm := true }
noncomputable def cfg9 : Cfg := { cfg with mode := modeOf9 }
noncomputable def cfg9S : Cfg := { cfg9 with strict := true }
noncomputable def cfg9C : Cfg := { cfg9 with strict := true, calm := true }
noncomputable def cfg15 : Cfg := { cfg with mode := modeOf15 }
noncomputable def cfg15S : Cfg := { cfg15 with strict := true }
noncomputable def cfg15C : Cfg := { cfg15 with strict := true, calm := true }
noncomputable def cfgD33_2 : Cfg := { cfg with strict := true, calmA := [3, 12, 21] }
noncomputable def cfgD35_10 : Cfg := { cfg with strict := true, calmA := [6] }
noncomputable def cfgD36_10 : Cfg := { cfg with strict := true, calmA := [3, 51] }


end Go.Pvm.S
