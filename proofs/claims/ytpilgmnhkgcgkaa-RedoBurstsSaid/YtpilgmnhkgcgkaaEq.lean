/- Part of the proof: what each function of the program comes to, spelled out (printed by a program of this repo, from the program's code). -/
import Derived.Test.YtpilgmnhkgcgkaaV22
import Derived.Test.YtpilgmnhkgcgkaaProg
import Derived.KernelRfl
set_option linter.unusedVariables false
set_option maxRecDepth 100000
namespace Go.Pvm.S
open Go.Pvm Go.Proofs
set_option maxHeartbeats 4000000

def modeOf (f : FuncId) : Mode := match f with
  | 8 | 10 | 31 | 33 | 34 | 35 | 37 | 38 => .live
  | _ => .pure
def maskOf : FuncId → Nat → Option (List Nat × List (Nat × TypeId) × List (Nat × TypeId))
  | 3, 5 => some ([1, 7, 8], [(7, 25)], [(6, 4)])
  | 4, 9 => some ([2, 7, 9, 10, 11], [(7, 24), (9, 4)], [])
  | 5, 10 => some ([9, 11, 13], [], [(2, 4)])
  | 6, 5 => some ([0, 1, 2, 7, 8, 9, 10], [(2, 40), (7, 24), (8, 22), (9, 45)], [(6, 4)])
  | 6, 17 => some ([7, 8, 9, 14, 15], [(7, 24), (9, 45), (14, 3), (15, 3)], [])
  | 6, 23 => some ([9, 15, 16, 18], [], [(6, 4)])
  | 8, 3 => some ([0, 1, 5, 6], [(5, 25)], [])
  | 10, 6 => some ([5, 17, 18, 19], [(5, 24)], [])
  | 11, 4 => some ([0, 13, 14, 15], [], [(2, 30)])
  | 12, 2 => some ([0, 3], [(0, 25)], [(2, 4)])
  | 13, 13 => some ([5, 6, 8], [(5, 3), (8, 25)], [])
  | 14, 3 => some ([0, 3, 4], [(3, 24)], [])
  | 15, 4 => some ([0, 1, 5], [], [(4, 4)])
  | 16, 3 => some ([0, 3, 4], [(3, 24)], [])
  | 17, 11 => some ([0, 5, 6, 7, 8], [(0, 24), (5, 3), (7, 25)], [])
  | 18, 3 => some ([0, 4, 5], [], [(2, 45), (3, 3)])
  | 19, 4 => some ([0, 4, 5, 6], [(4, 45), (5, 3)], [(2, 45), (3, 3)])
  | 20, 3 => some ([5, 13, 14, 15], [(5, 25)], [])
  | 21, 2 => some ([0, 1, 5], [(0, 25)], [])
  | 21, 7 => some ([0, 1, 5, 6, 7, 8], [(1, 25), (5, 3), (6, 25), (7, 4)], [])
  | 27, 3 => some ([0, 3, 4], [(3, 61)], [])
  | 28, 3 => some ([0, 3, 9, 10, 11], [(0, 45), (3, 3)], [])
  | 28, 11 => some ([6, 25, 26, 27], [(6, 25)], [])
  | 29, 3 => some ([0, 1, 2, 8, 9, 10], [(0, 25), (1, 3), (2, 59), (8, 3), (9, 3)], [])
  | 36, 2 => some ([0, 8, 9, 10], [(0, 41)], [])
  | 36, 6 => some ([0, 8, 9, 10, 19], [(0, 41), (8, 24), (9, 3), (10, 3)], [])
  | 38, 1 => some ([0, 2, 3], [], [])
  | _, _ => none
def closeOf : FuncId → Nat → Option (Bool × List Nat)
  | 3, 15 => some (false, [7])
  | 6, 8 => some (false, [11])
  | 10, 8 => some (true, [7])
  | 17, 14 => some (false, [7])
  | _, _ => none
noncomputable def cfg : Cfg := { P := Try.prog, mode := modeOf, mask := maskOf, close := closeOf, told := fun _ => none }
noncomputable def cfgS : Cfg := { cfg with strict := true }
noncomputable def cfgC : Cfg := { cfg with strict := true, calm := true }


end Go.Pvm.S
