/- Part of the proof: what each function of the program comes to over values alone, spelled out (printed by a program of this repo, from the program's code). -/
import Derived.Test.YtkipbdbmeanffaaQ2
import Derived.Test.YtkipbdbmeanffaaProg
import Derived.KernelRfl
set_option linter.unusedVariables false
set_option maxRecDepth 100000
namespace Go.Pvm.S
open Go.Pvm Go.Proofs
set_option maxHeartbeats 4000000

def modeOf (f : FuncId) : Pvm.Mode := match f with
  | 19 | 20 | 26 | 31 | 32 | 33 | 34 | 35 | 36 | 37 | 38 | 42 | 44 | 45 | 46 | 47 => .live
  | _ => .pure
def maskOf : FuncId → Nat → Option (List Nat × List (Nat × TypeId) × List (Nat × TypeId))
  | 4, 7 => some ([0, 1, 5, 6, 7, 8, 10, 11], [], [(4, 4)])
  | 4, 22 => some ([0, 1, 5, 6, 7, 8, 10, 11, 13], [(0, 34), (1, 5), (5, 3), (6, 22), (7, 22), (8, 0), (10, 22), (11, 3)], [(4, 4)])
  | 5, 3 => some ([0, 1, 5, 6], [(0, 38), (1, 3), (5, 4)], [(4, 4)])
  | 8, 3 => some ([0, 1, 6, 8, 15, 16, 17], [(6, 0), (8, 0)], [(6, 0), (7, 26)])
  | 9, 3 => some ([0, 1, 2, 6, 8, 9], [(6, 0), (8, 0)], [(6, 0), (7, 4)])
  | 9, 10 => some ([0, 1, 2, 6, 8, 9, 10, 11], [(0, 3), (1, 3), (2, 22), (6, 0), (8, 0), (9, 3), (10, 3), (11, 3)], [])
  | 11, 4 => some ([1, 30, 31, 32], [], [(2, 26)])
  | 13, 2 => some ([0, 1, 5], [], [(4, 4)])
  | 15, 2 => some ([1, 3], [(1, 0)], [(2, 4)])
  | 16, 2 => some ([0, 1, 5], [], [(4, 4)])
  | 20, 4 => some ([0, 3], [(0, 22)], [(2, 22)])
  | 20, 9 => some ([0, 3, 4, 5], [(0, 22), (3, 3)], [])
  | 21, 4 => some ([0, 1, 5], [], [(4, 4)])
  | 22, 3 => some ([0, 1, 6, 7, 8], [(0, 22), (1, 3), (6, 3), (7, 3)], [])
  | 25, 4 => some ([0, 1, 12, 13], [], [(4, 4)])
  | 26, 2 => some ([0, 1, 2, 3, 8, 9], [], [(100000, 0)])
  | 30, 2 => some ([0, 1, 7, 8], [], [(4, 3)])
  | 31, 1 => some ([0, 1, 2, 6], [], [])
  | 31, 4 => some ([0, 1, 2, 6, 7], [(0, 22), (1, 3), (2, 3), (6, 3)], [])
  | 32, 4 => some ([0, 6, 7, 8, 9], [(0, 22), (6, 3), (7, 3), (8, 3)], [])
  | 32, 8 => some ([0, 6, 7, 10], [], [])
  | 33, 5 => some ([0, 1, 6, 7, 8, 9], [], [])
  | 35, 2 => some ([0, 6, 7], [], [])
  | 36, 3 => some ([0, 1, 2, 7, 8], [], [(6, 4)])
  | 36, 5 => some ([0, 1, 2, 7, 8], [(0, 22), (1, 3), (2, 3), (7, 3), (8, 3)], [])
  | 36, 14 => some ([0, 1, 2, 7, 8, 9], [(0, 22), (1, 3), (2, 3), (7, 3), (8, 3)], [])
  | 36, 20 => some ([0, 1, 2, 7, 8, 10], [(0, 22), (1, 3), (2, 3), (7, 3), (8, 3)], [])
  | 37, 1003 => some ([0, 1, 9, 10], [(9, 3)], [])
  | 37, 3 => some ([0, 1, 9, 10], [(0, 22), (1, 3), (9, 3), (10, 3)], [])
  | 37, 5 => some ([0, 1, 9, 10], [(0, 22), (1, 3), (9, 3), (10, 3)], [])
  | 38, 3 => some ([0, 1, 10, 11], [(0, 22), (1, 3), (10, 3), (11, 3)], [])
  | 38, 5 => some ([0, 1, 10, 11], [(0, 22), (1, 3), (10, 3), (11, 3)], [])
  | 38, 1013 => some ([0, 1, 10, 11], [(0, 22), (1, 3), (11, 3)], [])
  | 38, 13 => some ([0, 1, 10, 11], [(0, 22), (1, 3), (10, 3), (11, 3)], [])
  | 38, 15 => some ([0, 1, 10, 11], [(0, 22), (1, 3), (10, 3), (11, 3)], [])
  | 42, 1 => some ([0, 2, 3, 8], [], [(100000, 0)])
  | _, _ => none
def closeOf : FuncId → Nat → Option (Bool × List Nat)
  | _, _ => none
def floOf : FuncId → Nat → List Nat
  | 9, 12 => [8]
  | _, _ => []
def altOf : FuncId → Option (FuncId → Mode)
  | _ => none
def toldOf : FuncId → Option Word
  | 19 => some .sort
  | _ => none
noncomputable def cfg : Cfg := { P := Try.prog, mode := modeOf, alt := altOf, mask := maskOf, close := closeOf, flo := floOf, told := fun f => (toldOf f).map (wordv Try.prog) }
noncomputable def cfgI : Cfg := { cfg with told := fun _ => none }
noncomputable def cfgIS : Cfg := { cfgI with strict := true }
noncomputable def cfgS : Cfg := { cfg with strict := true }

def htyOf : FuncId → Nat → List (Nat × TypeId)
  | 8, 3 => [(15, 22)]
  | 20, 9 => [(0, 22), (4, 22)]
  | 20, 4 => [(0, 22)]
  | 9, 10 => [(2, 22)]
  | 9, 3 => [(2, 22)]
  | 11, 4 => [(30, 22)]
  | 13, 2 => [(0, 22)]
  | 21, 4 => [(0, 22), (1, 22)]
  | 22, 3 => [(0, 22)]
  | _, _ => []
def hwkOf : FuncId → Nat → Nat → List Nat × List Nat
  | _, _, _ => ([], [])
def fslOf : FuncId → Nat → List Nat
  | _, _ => []
def oskOf : FuncId → Nat → Nat → List Nat → List (Nat × Sk) × List OSk
  | 8, 3, _, _ => ([(6, (.ref 0 0 0)), (8, (.ref 1 0 0))], [(.box true 25 [(.int .i64), (.int .i64), (.whole 2 1)]), (.box true 25 [(.int .i64), (.int .i64), (.whole 3 1)]), (.made true 1), (.made true 1)])
  | 20, 9, _, _ => ([(0, (.whole 0 1)), (3, (.int .i64))], [(.made true 1)])
  | 20, 4, _, _ => ([(0, (.whole 0 1))], [(.made true 1)])
  | 9, 10, _, _ => ([(0, (.int .i64)), (1, (.int .i64)), (2, .psl), (6, (.ref 0 0 0)), (8, (.ref 1 0 0)), (9, (.int .i64)), (10, (.int .i64)), (11, (.int .i64))], [(.box true 25 [(.int .i64), (.int .i64), (.whole 2 1)]), (.box true 25 [(.int .i64), (.int .i64), (.whole 3 1)]), (.made true 1), (.made true 1)])
  | 9, 3, _, _ => ([(6, (.ref 0 0 0)), (8, (.ref 1 0 0))], [(.box true 25 [(.int .i64), (.int .i64), (.whole 2 1)]), (.box true 25 [(.int .i64), (.int .i64), (.whole 3 1)]), (.made true 1), (.made true 1)])
  | 11, 4, _, _ => ([], [])
  | 13, 2, _, _ => ([], [])
  | 15, 2, _, _ => ([(1, (.ref 0 0 0))], [(.box true 25 [(.int .i64), (.int .i64), .psl])])
  | 21, 4, _, _ => ([], [])
  | 22, 3, _, _ => ([(0, .psl), (1, (.int .i64)), (6, (.int .i64)), (7, (.int .i64))], [])
  | _, _, _, _ => ([], [])
def noexOf : FuncId → Nat → Bool
  | _, _ => false
def rskOf : FuncId → Nat → Nat → List Nat → List (Nat × Sk) × List OSk
  | 8, 3, _, _ => ([(6, (.ref 0 0 0)), (7, (.int .i64))], [(.box true 25 [(.int .i64), (.int .i64), .psl])])
  | 20, 4, _, _ => ([(2, (.view 0 1))], [(.made true 1)])
  | 9, 3, _, _ => ([(6, (.ref 0 0 0)), (7, .bool)], [(.box true 25 [(.int .i64), (.int .i64), .psl])])
  | 11, 4, _, _ => ([(2, (.int .i64))], [])
  | 13, 2, _, _ => ([(4, .bool)], [])
  | 15, 2, _, _ => ([(2, .bool)], [])
  | 21, 4, _, _ => ([(4, .bool)], [])
  | _, _, _, _ => ([], [])
def lskOf : FuncId → Sk × List OSk
  | 20 => ((.whole 1 1), [.dead, (.made true 1)])
  | _ => (.any, [])
def ownOf : FuncId → Option (Nat × (List PV → Option (List (List PV))))
  | _ => none
def nretOf : FuncId → List Nat
  | 20 => [1]
  | _ => []
def kcfg : KCfg := { own := ownOf, hty := htyOf, hwk := hwkOf, fsl := fslOf, osk := oskOf, rsk := rskOf, lsk := lskOf, noex := noexOf, told := toldOf, nret := nretOf }



end Go.Pvm.S
