/- Part of the proof: what each function of the program comes to over values alone, spelled out (printed by a program of this repo, from the program's code). -/
import Derived.Test.YtpilgmnhkgcgkaaQ2
import Derived.Test.YtpilgmnhkgcgkaaProg
import Derived.KernelRfl
set_option linter.unusedVariables false
set_option maxRecDepth 100000
namespace Go.Pvm.S
open Go.Pvm Go.Proofs
set_option maxHeartbeats 4000000

def modeOf (f : FuncId) : Pvm.Mode := match f with
  | 8 | 10 | 31 | 33 | 35 | 37 | 38 => .live
  | _ => .pure
def maskOf : FuncId → Nat → Option (List Nat × List (Nat × TypeId) × List (Nat × TypeId))
  | 3, 5 => some ([1, 7, 8], [(7, 25)], [(6, 4)])
  | 4, 9 => some ([2, 7, 9, 10, 11], [(7, 24), (9, 4)], [])
  | 5, 10 => some ([9, 11, 13], [], [(2, 4)])
  | 6, 5 => some ([0, 1, 2, 7, 8, 9, 10], [(2, 40), (7, 24), (8, 22), (9, 45)], [(6, 4)])
  | 6, 17 => some ([7, 8, 9, 14, 15], [(7, 24), (9, 45), (14, 3), (15, 3)], [])
  | 6, 23 => some ([9, 15, 16, 18], [], [(6, 4)])
  | 8, 3 => some ([0, 1, 5, 6], [(5, 25)], [])
  | 10, 6 => some ([5, 17, 18, 19], [(5, 24)], [])
  | 11, 4 => some ([0, 13, 14, 15], [], [(2, 30)])
  | 12, 2 => some ([0, 3], [(0, 25)], [(2, 4)])
  | 13, 13 => some ([5, 6, 8], [(5, 3), (8, 25)], [])
  | 14, 3 => some ([0, 3, 4], [(3, 24)], [])
  | 15, 4 => some ([0, 1, 5], [], [(4, 4)])
  | 16, 3 => some ([0, 3, 4], [(3, 24)], [])
  | 17, 11 => some ([0, 5, 6, 7, 8], [(0, 24), (5, 3), (7, 25)], [])
  | 18, 3 => some ([0, 4, 5], [], [(2, 45), (3, 3)])
  | 19, 4 => some ([0, 4, 5, 6], [(4, 45), (5, 3)], [(2, 45), (3, 3)])
  | 20, 3 => some ([5, 13, 14, 15], [(5, 25)], [])
  | 21, 2 => some ([0, 1, 5], [(0, 25)], [])
  | 21, 7 => some ([0, 1, 5, 6, 7, 8], [(1, 25), (5, 3), (6, 25), (7, 4)], [])
  | 27, 3 => some ([0, 3, 4], [(3, 61)], [])
  | 28, 3 => some ([0, 3, 9, 10, 11], [(0, 45), (3, 3)], [])
  | 28, 11 => some ([6, 25, 26, 27], [(6, 25)], [])
  | 29, 3 => some ([0, 1, 2, 8, 9, 10], [(0, 25), (1, 3), (2, 59), (8, 3), (9, 3)], [])
  | 36, 2 => some ([0, 8, 9, 10], [(0, 41)], [])
  | 36, 6 => some ([0, 8, 9, 10, 19], [(0, 41), (8, 24), (9, 3), (10, 3)], [])
  | 38, 1 => some ([0, 2, 3], [], [])
  | _, _ => none
def closeOf : FuncId → Nat → Option (Bool × List Nat)
  | 3, 15 => some (false, [7])
  | 6, 8 => some (false, [11])
  | 10, 8 => some (true, [7])
  | 17, 14 => some (false, [7])
  | 21, 16 => some (false, [6])
  | _, _ => none
def floOf : FuncId → Nat → List Nat
  | _, _ => []
def altOf : FuncId → Option (FuncId → Mode)
  | _ => none
def toldOf : FuncId → Option Word
  | 31 => some (.insert 25)
  | _ => none
noncomputable def cfg : Cfg := { P := Try.prog, mode := modeOf, alt := altOf, mask := maskOf, close := closeOf, flo := floOf, told := fun f => (toldOf f).map (wordv Try.prog) }
noncomputable def cfgI : Cfg := { cfg with told := fun _ => none }
noncomputable def cfgIS : Cfg := { cfgI with strict := true }
noncomputable def cfgS : Cfg := { cfg with strict := true }

def htyOf : FuncId → Nat → List (Nat × TypeId)
  | 20, 3 => [(5, 25), (13, 25)]
  | 21, 7 => [(0, 25), (1, 25), (6, 25)]
  | 21, 2 => [(0, 25), (1, 25)]
  | 15, 4 => [(0, 25), (1, 25)]
  | 12, 2 => [(0, 25)]
  | 8, 3 => [(0, 22), (1, 23), (5, 25)]
  | 29, 3 => [(0, 25)]
  | 16, 3 => [(0, 24), (3, 24)]
  | _, _ => []
def hwkOf : FuncId → Nat → Nat → List Nat × List Nat
  | _, _, _ => ([], [])
def fslOf : FuncId → Nat → List Nat
  | _, _ => []
def oskOf : FuncId → Nat → Nat → List Nat → List (Nat × Sk) × List OSk
  | 20, 3, _, _ => ([(5, (.whole 0 2))], [(.made true 2)])
  | 21, 7, _, _ => ([(1, .psl), (5, (.int .i64)), (6, (.whole 0 2)), (7, .bool)], [(.made true 2)])
  | 21, 2, _, _ => ([(0, .psl)], [])
  | 15, 4, _, _ => ([], [])
  | 12, 2, _, _ => ([(0, .psl)], [])
  | 8, 3, _, _ => ([(5, (.whole 0 2))], [(.made true 2)])
  | 29, 3, _, _ => ([(0, .psl), (1, (.int .i64)), (2, (.fn 30 [])), (8, (.int .i64)), (9, (.int .i64))], [])
  | 16, 3, _, _ => ([(3, (.whole 0 1))], [(.made true 1)])
  | _, _, _, _ => ([], [])
def noexOf : FuncId → Nat → Bool
  | _, _ => false
def rskOf : FuncId → Nat → Nat → List Nat → List (Nat × Sk) × List OSk
  | 15, 4, _, _ => ([(4, .bool)], [])
  | 12, 2, _, _ => ([(2, .bool)], [])
  | _, _, _, _ => ([], [])
def lskOf : FuncId → Sk × List OSk
  | _ => (.any, [])
def ownOf : FuncId → Option (Nat × (List PV → Option (List (List PV))))
  | _ => none
def nretOf : FuncId → List Nat
  | _ => []
def purOf : FuncId → Option (List PV → Option (List (List PV)))
  | 24 => some (cloneK 1 1)
  | 28 => some (concatK 2 32)
  | _ => none
def kcfg : KCfg := { own := ownOf, hty := htyOf, hwk := hwkOf, fsl := fslOf, osk := oskOf, rsk := rskOf, lsk := lskOf, noex := noexOf, told := toldOf, nret := nretOf, pur := purOf }



end Go.Pvm.S
