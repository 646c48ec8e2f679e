/- Part of the proof: what each function of the program comes to over values alone, spelled out (printed by a program of this repo, from the program's code). -/
import Derived.Test.YtbhjbehdafcnoaaQ2
import Derived.Test.YtbhjbehdafcnoaaProg
import Derived.KernelRfl
set_option linter.unusedVariables false
set_option maxRecDepth 100000
namespace Go.Pvm.S
open Go.Pvm Go.Proofs
set_option maxHeartbeats 4000000

def modeOf (f : FuncId) : Pvm.Mode := match f with
  | 26 | 27 | 45 | 52 | 70 | 76 | 77 | 78 => .live
  | 46 => .own
  | 40 | 60 => .blind
  | _ => .pure
def maskOf : FuncId → Nat → Option (List Nat × List (Nat × TypeId) × List (Nat × TypeId))
  | 8, 5 => some ([0, 1, 3, 11], [(0, 22)], [])
  | 9, 4 => some ([0, 10, 11, 12], [], [(2, 26)])
  | 9, 9 => some ([0, 3, 4, 10, 11, 12, 34, 35, 36], [(0, 22), (10, 22), (11, 3), (12, 3)], [(2, 26)])
  | 10, 2 => some ([0, 3], [(0, 22)], [(2, 4)])
  | 10, 7 => some ([0, 3, 4], [(0, 22), (3, 3)], [(2, 4)])
  | 15, 4 => some ([0, 1, 2, 3, 10], [(0, 22)], [])
  | 16, 4 => some ([0, 1, 5], [], [(4, 4)])
  | 17, 5 => some ([1, 5, 11, 12, 13], [(5, 36)], [])
  | 19, 3 => some ([0, 1, 5, 6], [(5, 22)], [])
  | 21, 4 => some ([0, 1, 5], [], [(4, 4)])
  | 22, 3 => some ([0, 1, 5, 6], [(5, 36)], [])
  | 25, 2 => some ([0, 1, 5], [], [(4, 4)])
  | 27, 2 => some ([0, 3], [], [(4, 22)])
  | 38, 3 => some ([0, 1, 5, 6], [(5, 3)], [])
  | 39, 3 => some ([0, 3, 5], [(0, 22)], [])
  | 39, 8 => some ([0, 3, 5, 6, 7, 8], [(0, 22), (3, 0), (5, 3), (6, 0), (7, 3)], [])
  | 39, 15 => some ([0, 3, 5, 6, 7, 9], [(0, 22), (3, 0), (5, 3), (7, 3), (9, 3)], [])
  | 45, 5 => some ([0, 1, 5, 6], [(0, 22), (5, 3)], [])
  | 48, 4 => some ([1, 2, 15, 16, 17], [], [(6, 4)])
  | 50, 3 => some ([1, 2, 7, 10, 11, 12], [(7, 3)], [])
  | 53, 2 => some ([0, 1, 6], [], [(4, 3)])
  | 58, 3 => some ([3, 6, 7, 8], [(3, 3)], [(2, 3)])
  | 61, 4 => some ([0, 3, 5, 6, 7], [(3, 0), (5, 22), (6, 4)], [(4, 22)])
  | 64, 2 => some ([0, 1, 7, 8], [], [(4, 3)])
  | 65, 2 => some ([0, 1, 7, 8], [], [(4, 3)])
  | 69, 3 => some ([0, 2, 4, 8, 9, 10], [(0, 22), (2, 52), (4, 0), (8, 3), (9, 3)], [])
  | 78, 1 => some ([0, 2, 3], [], [])
  | _, _ => none
def closeOf : FuncId → Nat → Option (Bool × List Nat)
  | 18, 1 => some (false, [3])
  | 52, 1 => some (false, [3])
  | _, _ => none
def altOf : FuncId → Option (FuncId → Mode)
  | _ => none
def toldOf : FuncId → Option Word
  | 70 => some (.insert 22)
  | _ => none
noncomputable def cfg : Cfg := { P := Try.prog, mode := modeOf, alt := altOf, mask := maskOf, close := closeOf, told := fun f => (toldOf f).map (wordv Try.prog) }
noncomputable def cfgI : Cfg := { cfg with told := fun _ => none }
noncomputable def cfgIS : Cfg := { cfgI with strict := true }
noncomputable def cfgS : Cfg := { cfg with strict := true }

def htyOf : FuncId → Nat → List (Nat × TypeId)
  | 27, 2 => [(0, 22)]
  | 8, 5 => [(0, 22)]
  | 9, 9 => [(0, 22), (10, 22), (34, 22)]
  | 9, 4 => [(0, 22), (10, 22)]
  | 10, 7 => [(0, 22)]
  | 10, 2 => [(0, 22)]
  | 15, 4 => [(0, 22)]
  | 16, 4 => [(0, 22), (1, 22)]
  | 17, 5 => [(5, 36), (11, 22)]
  | 19, 3 => [(0, 22), (5, 22)]
  | 22, 3 => [(0, 22), (5, 36)]
  | 21, 4 => [(0, 36), (1, 36)]
  | 25, 2 => [(0, 36)]
  | 50, 3 => [(10, 22)]
  | 53, 2 => [(0, 22)]
  | 38, 3 => [(0, 22)]
  | 39, 8 => [(0, 22)]
  | 39, 15 => [(0, 22)]
  | 39, 3 => [(0, 22)]
  | 45, 5 => [(0, 22)]
  | 48, 4 => [(1, 22), (15, 22)]
  | 69, 3 => [(0, 22)]
  | 58, 3 => [(6, 36)]
  | 61, 4 => [(0, 22), (5, 22)]
  | 64, 2 => [(0, 36)]
  | 65, 2 => [(0, 22)]
  | _, _ => []
def hwkOf : FuncId → Nat → List Nat × List Nat
  | _, _ => ([], [])
def oskOf : FuncId → Nat → List (Nat × Sk) × List OSk
  | 8, 5 => ([(0, (.whole 0 4))], [(.made true 4)])
  | 9, 9 => ([(0, .psl), (10, .psl), (11, (.int .i64)), (12, (.int .i64))], [])
  | 9, 4 => ([], [])
  | 10, 7 => ([(0, .psl), (3, (.int .i64))], [])
  | 10, 2 => ([(0, .psl)], [])
  | 15, 4 => ([(0, .psl)], [])
  | 16, 4 => ([], [])
  | 17, 5 => ([(5, (.whole 0 1))], [(.made true 1)])
  | 19, 3 => ([(5, (.whole 0 4))], [(.made true 4)])
  | 22, 3 => ([(5, (.whole 0 1))], [(.made true 1)])
  | 21, 4 => ([], [])
  | 25, 2 => ([], [])
  | 50, 3 => ([(7, (.int .i64))], [])
  | 53, 2 => ([], [])
  | 38, 3 => ([(5, (.int .i64))], [])
  | 39, 8 => ([(0, .psl), (3, (.ref 0 0 0)), (5, (.int .i64)), (6, (.ref 1 0 0)), (7, (.int .i64))], [(.box true 46 [(.int .i64), (.int .i64), (.flt .f64), (.int .i64)]), (.box true 68 [(.int .i64), (.int .i64), (.int .i64), (.int .i64), (.int .i64), (.int .i64), (.int .i64), (.int .i64)])])
  | 39, 15 => ([(0, .psl), (3, (.ref 0 0 0)), (5, (.int .i64)), (7, (.int .i64)), (9, (.int .i64))], [(.box true 46 [(.int .i64), (.int .i64), (.flt .f64), (.int .i64)])])
  | 39, 3 => ([(0, .psl)], [])
  | 45, 5 => ([(0, (.whole 0 4)), (5, (.int .i64))], [(.made true 4)])
  | 48, 4 => ([], [])
  | 69, 3 => ([(0, .psl), (2, (.fn 31 [])), (4, (.ref 0 0 0)), (8, (.int .i64)), (9, (.int .i64))], [(.box true 46 [(.int .i64), (.int .i64), (.flt .f64), (.int .i64)])])
  | 58, 3 => ([(3, (.int .i64))], [])
  | 61, 4 => ([(3, (.ref 0 0 0)), (5, (.whole 1 4)), (6, .bool)], [(.box true 46 [(.int .i64), (.int .i64), (.flt .f64), (.int .i64)]), (.made true 4)])
  | 64, 2 => ([], [])
  | 65, 2 => ([], [])
  | _, _ => ([], [])
def noexOf : FuncId → Nat → Bool
  | 27, 2 => true
  | _, _ => false
def rskOf : FuncId → Nat → List (Nat × Sk) × List OSk
  | 27, 2 => ([(4, (.whole 1 4))], [.dead, (.made true 4)])
  | 9, 9 => ([(2, (.int .i64))], [])
  | 9, 4 => ([(2, (.int .i64))], [])
  | 10, 7 => ([(2, .bool)], [])
  | 10, 2 => ([(2, .bool)], [])
  | 16, 4 => ([(4, .bool)], [])
  | 21, 4 => ([(4, .bool)], [])
  | 25, 2 => ([(4, .bool)], [])
  | 53, 2 => ([(4, (.int .i64))], [])
  | 48, 4 => ([(6, .bool)], [])
  | 58, 3 => ([(2, (.int .i64))], [])
  | 61, 4 => ([(4, .psl)], [])
  | 64, 2 => ([(4, (.int .i64))], [])
  | 65, 2 => ([(4, (.int .i64))], [])
  | _, _ => ([], [])
def lskOf : FuncId → Sk × List OSk
  | 26 => ((.tup [(.whole 0 4), (.int .i64)]), [(.made true 4)])
  | 45 => ((.wv 0 4), [(.made true 4)])
  | 52 => ((.whole 1 4), [.dead, (.made true 4)])
  | 27 => ((.whole 1 4), [.dead, (.made true 4)])
  | _ => (.any, [])
def ownOf : FuncId → Option (Nat × (List PV → Option (List (List PV))))
  | 46 => some (4, cloneK 4 32)
  | _ => none
def nretOf : FuncId → List Nat
  | 26 => [4, 0]
  | 52 => [4]
  | _ => []
def kcfg : KCfg := { own := ownOf, hty := htyOf, hwk := hwkOf, osk := oskOf, rsk := rskOf, lsk := lskOf, noex := noexOf, told := toldOf, nret := nretOf }

theorem eq46 (C : CallO) (L : LoopO) (σ : Store) (a0 : PV) : stepK cfg C L 46 [a0] σ =
    (binv Try.prog .eql 22 a0 .nilsl).bind fun v0 => asBool v0 fun b1 => if b1 = true then (some (.nilsl, σ)) else ((buildSlv Try.prog σ 22 0 []).bind fun r2 => (writeB Try.prog r2.2 .append [22, 22] [r2.1, a0]).bind fun r3 => some (r3.1, r3.2)) := by kernel_rfl


end Go.Pvm.S
