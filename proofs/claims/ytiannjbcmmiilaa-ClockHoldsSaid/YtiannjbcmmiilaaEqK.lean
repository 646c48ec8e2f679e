/- Part of the proof: what each function of the program comes to over values alone, spelled out (printed by a program of this repo, from the program's code). -/
import Derived.Test.YtiannjbcmmiilaaQ2
import Derived.Test.YtiannjbcmmiilaaProg
import Derived.KernelRfl
set_option linter.unusedVariables false
set_option maxRecDepth 100000
namespace Go.Pvm.S
open Go.Pvm Go.Proofs
set_option maxHeartbeats 4000000

def modeOf (f : FuncId) : Pvm.Mode := match f with
  | 12 | 14 => .live
  | 16 => .own
  | _ => .pure
def maskOf : FuncId → Nat → Option (List Nat × List (Nat × TypeId) × List (Nat × TypeId))
  | 3, 7 => some ([0, 3, 5], [], [(2, 4)])
  | 4, 6 => some ([1, 5, 6, 8], [], [(4, 4)])
  | 5, 7 => some ([1, 2, 7, 8, 10, 11], [(2, 35), (7, 3), (8, 0), (10, 36)], [(6, 4)])
  | 5, 17 => some ([2, 7, 8, 10, 19], [], [(6, 4)])
  | 5, 29 => some ([2, 7, 8, 10, 19, 23, 29], [(2, 35), (7, 3), (8, 0), (10, 36), (19, 3), (23, 0)], [(6, 4)])
  | 10, 8 => some ([7, 8], [(7, 22)], [])
  | 11, 5 => some ([1, 28, 29, 30], [], [(2, 25)])
  | 14, 6 => some ([0, 5, 21, 22], [], [(2, 3), (3, 4)])
  | 17, 2 => some ([0, 1, 7, 8], [], [(4, 3)])
  | _, _ => none
def closeOf : FuncId → Nat → Option (Bool × List Nat)
  | _, _ => none
def floOf : FuncId → Nat → List Nat
  | _, _ => []
def altOf : FuncId → Option (FuncId → Mode)
  | _ => none
def toldOf : FuncId → Option Word
  | _ => none
noncomputable def cfg : Cfg := { P := Try.prog, mode := modeOf, alt := altOf, mask := maskOf, close := closeOf, flo := floOf, told := fun f => (toldOf f).map (wordv Try.prog) }
noncomputable def cfgI : Cfg := { cfg with told := fun _ => none }
noncomputable def cfgIS : Cfg := { cfgI with strict := true }
noncomputable def cfgS : Cfg := { cfg with strict := true }

def htyOf : FuncId → Nat → List (Nat × TypeId)
  | 10, 8 => [(7, 22)]
  | 11, 5 => [(28, 22)]
  | 17, 2 => [(0, 22)]
  | _, _ => []
def hwkOf : FuncId → Nat → Nat → List Nat × List Nat
  | _, _, _ => ([], [])
def fslOf : FuncId → Nat → List Nat
  | _, _ => []
def oskOf : FuncId → Nat → Nat → List Nat → List (Nat × Sk) × List OSk
  | 14, 6, _, _ => ([], [(.box true 24 [(.whole 1 3), (.int .i64)]), (.made true 3)])
  | 10, 8, _, _ => ([(7, (.whole 0 3))], [(.made true 3)])
  | 11, 5, _, _ => ([], [])
  | 17, 2, _, _ => ([], [])
  | _, _, _, _ => ([], [])
def noexOf : FuncId → Nat → Bool
  | _, _ => false
def rskOf : FuncId → Nat → Nat → List Nat → List (Nat × Sk) × List OSk
  | 14, 6, _, _ => ([(2, (.int .i64)), (3, .bool)], [(.box true 24 [(.whole 1 3), (.int .i64)]), (.made true 3)])
  | 11, 5, _, _ => ([(2, (.int .i64))], [])
  | 17, 2, _, _ => ([(4, (.int .i64))], [])
  | _, _, _, _ => ([], [])
def lskOf : FuncId → Sk × List OSk
  | 12 => ((.agg [(.whole 0 3), (.int .i64)]), [(.made true 3)])
  | 14 => ((.tup [(.int .i64), .bool]), [(.box true 24 [(.whole 1 3), (.int .i64)]), (.made true 3)])
  | _ => (.any, [])
def ownOf : FuncId → Option (Nat × (List PV → Option (List (List PV))))
  | 16 => some (3, cloneK 3 16)
  | _ => none
def nretOf : FuncId → List Nat
  | _ => []
def kcfg : KCfg := { own := ownOf, hty := htyOf, hwk := hwkOf, fsl := fslOf, osk := oskOf, rsk := rskOf, lsk := lskOf, noex := noexOf, told := toldOf, nret := nretOf }

theorem eq16 (C : CallO) (L : LoopO) (σ : Store) (a0 : PV) : stepK cfg C L 16 [a0] σ =
    (binv Try.prog .eql 22 a0 .nilsl).bind fun v0 => asBool v0 fun b1 => if b1 = true then (some (.nilsl, σ)) else ((buildSlv Try.prog σ 22 0 []).bind fun r2 => (writeB Try.prog r2.2 .append [22, 22] [r2.1, a0]).bind fun r3 => some (r3.1, r3.2)) := by kernel_rfl


end Go.Pvm.S
