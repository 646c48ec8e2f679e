/- Part of the proof: what each function of the program comes to over values alone, spelled out (printed by a program of this repo, from the program's code). -/
import Derived.Test.YtgcfmhlgbakdfaaQ2
import Derived.Test.YtgcfmhlgbakdfaaProg
import Derived.KernelRfl
set_option linter.unusedVariables false
set_option maxRecDepth 100000
namespace Go.Pvm.S
open Go.Pvm Go.Proofs
set_option maxHeartbeats 4000000

def modeOf (f : FuncId) : Pvm.Mode := match f with
  | 7 | 9 | 11 | 12 | 13 | 14 | 15 | 17 | 18 | 29 | 31 | 32 | 33 => .live
  | 30 => .own
  | 42 => .blind
  | _ => .pure
def maskOf : FuncId → Nat → Option (List Nat × List (Nat × TypeId) × List (Nat × TypeId))
  | 3, 8 => some ([1, 2, 9, 11, 12, 13], [(2, 23), (9, 24), (11, 3), (12, 3)], [])
  | 3, 19 => some ([11, 12, 14, 16], [], [(6, 4)])
  | 6, 10 => some ([0, 1, 5, 7, 8], [], [(4, 4)])
  | 9, 6 => some ([0, 1, 2, 22], [], [])
  | 10, 3 => some ([0, 3, 4], [(3, 30)], [])
  | 11, 2 => some ([0, 17, 18, 19], [(0, 24)], [])
  | 11, 7 => some ([0, 32, 33, 34], [(0, 24)], [])
  | 13, 2 => some ([0, 1, 2, 16, 17, 18], [(0, 24), (2, 3)], [])
  | 13, 8 => some ([0, 2, 44, 45, 46], [(0, 24)], [])
  | 16, 5 => some ([0, 4, 12, 13, 14], [(0, 24), (4, 3)], [])
  | 19, 3 => some ([0, 3, 4], [], [(2, 4)])
  | 22, 3 => some ([0, 3, 4], [(3, 30)], [])
  | 23, 6 => some ([1, 2, 3, 6, 8], [(3, 0), (6, 0)], [])
  | 28, 4 => some ([1, 2, 3, 6, 7, 8, 9], [(6, 0), (7, 0)], [])
  | 29, 8 => some ([0, 2, 7, 14], [(0, 24), (2, 3)], [(6, 4)])
  | 40, 3 => some ([1, 4, 5, 6], [(4, 3), (5, 3)], [])
  | _, _ => none
def closeOf : FuncId → Nat → Option (Bool × List Nat)
  | 15, 0 => some (false, [1])
  | 33, 2 => some (false, [3])
  | 35, 10 => some (false, [6])
  | 36, 10 => some (false, [3])
  | _, _ => none
def floOf : FuncId → Nat → List Nat
  | _, _ => []
def modeOf9 (f : FuncId) : Pvm.Mode := match f with
  | 30 => .pure
  | f => modeOf f
def modeOf15 (f : FuncId) : Pvm.Mode := match f with
  | 30 => .pure
  | f => modeOf f
def altOf : FuncId → Option (FuncId → Mode)
  | 9 => some modeOf9
  | 15 => some modeOf15
  | _ => none
def toldOf : FuncId → Option Word
  | _ => none
noncomputable def cfg : Cfg := { P := Try.prog, mode := modeOf, alt := altOf, mask := maskOf, close := closeOf, flo := floOf, told := fun f => (toldOf f).map (wordv Try.prog) }
noncomputable def cfgI : Cfg := { cfg with told := fun _ => none }
noncomputable def cfgIS : Cfg := { cfgI with strict := true }
noncomputable def cfgS : Cfg := { cfg with strict := true }
noncomputable def cfg9 : Cfg := { cfg with mode := modeOf9 }
noncomputable def cfg9S : Cfg := { cfg9 with strict := true }
noncomputable def cfg15 : Cfg := { cfg with mode := modeOf15 }
noncomputable def cfg15S : Cfg := { cfg15 with strict := true }

def htyOf : FuncId → Nat → List (Nat × TypeId)
  | 23, 6 => [(2, 30)]
  | 28, 4 => [(1, 23)]
  | 22, 3 => [(0, 30), (3, 30)]
  | 19, 3 => [(0, 46)]
  | _, _ => []
def hwkOf : FuncId → Nat → Nat → List Nat × List Nat
  | _, _, _ => ([], [])
def fslOf : FuncId → Nat → List Nat
  | _, _ => []
def oskOf : FuncId → Nat → Nat → List Nat → List (Nat × Sk) × List OSk
  | 23, 6, _, _ => ([(3, (.ref 0 0 0)), (6, (.ref 1 0 0))], [(.box true 53 [.psl, (.int .i64), .psl, .psl, (.int .i64), .psl, .psl, .bool, (.int .i64)]), (.box true 53 [(.whole 2 1), (.int .i64), (.whole 3 1), (.whole 4 1), (.int .i64), (.whole 5 1), (.whole 6 4), .bool, (.int .i64)]), (.made true 1), (.made true 1), (.made true 1), (.made true 1), (.made true 4)])
  | 28, 4, _, _ => ([(6, (.ref 0 0 0)), (7, (.ref 1 0 0))], [(.box true 53 [(.whole 2 1), (.int .i64), (.whole 3 1), (.whole 4 1), (.int .i64), (.whole 5 1), (.whole 6 4), .bool, (.int .i64)]), (.box true 50 [.psl, (.int .i64), .psl]), (.made true 1), (.made true 1), (.made true 1), (.made true 1), (.made true 4)])
  | 40, 3, _, _ => ([(4, (.int .i64)), (5, (.int .i64))], [])
  | 22, 3, _, _ => ([(3, (.whole 0 1))], [(.made true 1)])
  | 19, 3, _, _ => ([], [])
  | _, _, _, _ => ([], [])
def noexOf : FuncId → Nat → Bool
  | _, _ => false
def rskOf : FuncId → Nat → Nat → List Nat → List (Nat × Sk) × List OSk
  | 19, 3, _, _ => ([(2, .bool)], [])
  | _, _, _, _ => ([], [])
def lskOf : FuncId → Sk × List OSk
  | _ => (.any, [])
def ownOf : FuncId → Option (Nat × (List PV → Option (List (List PV)))) := fun _ => none
def nretOf : FuncId → List Nat
  | _ => []
def kcfg : KCfg := { own := ownOf, hty := htyOf, hwk := hwkOf, fsl := fslOf, osk := oskOf, rsk := rskOf, lsk := lskOf, noex := noexOf, told := toldOf, nret := nretOf }

end Go.Pvm.S
