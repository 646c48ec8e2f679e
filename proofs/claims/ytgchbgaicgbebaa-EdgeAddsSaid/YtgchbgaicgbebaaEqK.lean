/- Part of the proof: what each function of the program comes to over values alone, spelled out (printed by a program of this repo, from the program's code). -/
import Derived.Test.YtgchbgaicgbebaaQ2
import Derived.Test.YtgchbgaicgbebaaProg
import Derived.KernelRfl
set_option linter.unusedVariables false
set_option maxRecDepth 100000
namespace Go.Pvm.S
open Go.Pvm Go.Proofs
set_option maxHeartbeats 4000000

def modeOf (f : FuncId) : Pvm.Mode := match f with
  | 23 | 24 | 28 | 33 | 38 | 44 | 47 | 48 | 49 | 50 | 51 | 52 | 54 | 55 | 59 | 60 | 62 | 63 | 64 | 65 | 66 => .live
  | 29 => .own
  | _ => .pure
def maskOf : FuncId → Nat → Option (List Nat × List (Nat × TypeId) × List (Nat × TypeId))
  | 4, 3 => some ([3, 5, 6], [(5, 23)], [])
  | 5, 5 => some ([0, 1, 5, 6], [(0, 22), (1, 23)], [])
  | 8, 5 => some ([0, 1, 5, 19, 20, 21], [(5, 25)], [])
  | 8, 8 => some ([0, 1, 5, 7, 19, 20, 21, 25, 26, 27], [(0, 22), (1, 23), (5, 25), (19, 22), (20, 3), (21, 3)], [])
  | 9, 4 => some ([0, 10, 11, 12], [], [(2, 27)])
  | 10, 2 => some ([0, 3], [(0, 23)], [(2, 4)])
  | 11, 2 => some ([0, 3], [(0, 22)], [(2, 4)])
  | 12, 4 => some ([0, 1, 5], [], [(4, 4)])
  | 13, 3 => some ([0, 1, 5, 6], [(5, 25)], [])
  | 13, 6 => some ([0, 1, 5, 6, 7], [(0, 22), (1, 23), (5, 25), (6, 3)], [])
  | 16, 4 => some ([0, 8, 9, 10], [], [(2, 27)])
  | 17, 4 => some ([0, 1, 5], [], [(4, 4)])
  | 18, 3 => some ([0, 1, 5, 6], [(5, 22)], [])
  | 21, 8 => some ([0, 1, 2, 8, 9, 10], [(1, 3), (2, 3), (8, 22), (9, 4)], [])
  | 24, 4 => some ([0, 3], [(0, 25)], [(2, 25)])
  | 24, 9 => some ([0, 3, 4, 5], [(0, 25), (3, 3)], [])
  | 26, 2 => some ([0, 1, 4, 6], [(4, 0)], [(4, 0), (5, 4)])
  | 27, 4 => some ([0, 1, 5, 6, 7], [(1, 3), (5, 25), (6, 4)], [])
  | 28, 5 => some ([0, 1, 5, 6], [(0, 22), (5, 3)], [])
  | 31, 3 => some ([0, 2, 4, 8, 9, 10], [(0, 22), (2, 57), (4, 0), (8, 3), (9, 3)], [])
  | 34, 4 => some ([0, 1, 12, 13], [], [(4, 4)])
  | 35, 2 => some ([0, 1, 2, 7], [], [(6, 4)])
  | 38, 2 => some ([0, 1, 2, 3, 8, 9], [], [(100000, 0)])
  | 40, 2 => some ([0, 1, 7, 8], [], [(4, 3)])
  | 41, 3 => some ([3, 6, 7, 8], [(3, 3)], [(2, 3)])
  | 45, 3 => some ([0, 1, 2, 8, 9, 10], [(0, 23), (1, 3), (2, 68), (8, 3), (9, 3)], [])
  | 47, 1 => some ([0, 1, 2, 6], [], [])
  | 47, 4 => some ([0, 1, 2, 6, 7], [(0, 25), (1, 3), (2, 3), (6, 3)], [])
  | 48, 4 => some ([0, 6, 7, 8, 9], [(0, 25), (6, 3), (7, 3), (8, 3)], [])
  | 48, 8 => some ([0, 6, 7, 10], [], [])
  | 49, 5 => some ([0, 1, 6, 7, 8, 9], [], [])
  | 51, 2 => some ([0, 6, 7], [], [])
  | 52, 3 => some ([0, 1, 2, 7, 8], [], [(6, 4)])
  | 52, 5 => some ([0, 1, 2, 7, 8], [(0, 25), (1, 3), (2, 3), (7, 3), (8, 3)], [])
  | 52, 14 => some ([0, 1, 2, 7, 8, 9], [(0, 25), (1, 3), (2, 3), (7, 3), (8, 3)], [])
  | 52, 20 => some ([0, 1, 2, 7, 8, 10], [(0, 25), (1, 3), (2, 3), (7, 3), (8, 3)], [])
  | 54, 1003 => some ([0, 1, 9, 10], [(9, 3)], [])
  | 54, 3 => some ([0, 1, 9, 10], [(0, 25), (1, 3), (9, 3), (10, 3)], [])
  | 54, 5 => some ([0, 1, 9, 10], [(0, 25), (1, 3), (9, 3), (10, 3)], [])
  | 55, 3 => some ([0, 1, 10, 11], [(0, 25), (1, 3), (10, 3), (11, 3)], [])
  | 55, 5 => some ([0, 1, 10, 11], [(0, 25), (1, 3), (10, 3), (11, 3)], [])
  | 55, 1013 => some ([0, 1, 10, 11], [(0, 25), (1, 3), (11, 3)], [])
  | 55, 13 => some ([0, 1, 10, 11], [(0, 25), (1, 3), (10, 3), (11, 3)], [])
  | 55, 15 => some ([0, 1, 10, 11], [(0, 25), (1, 3), (10, 3), (11, 3)], [])
  | 60, 1 => some ([0, 2, 3, 8], [], [(100000, 0)])
  | 65, 1 => some ([0, 2, 3], [], [])
  | _, _ => none
def closeOf : FuncId → Nat → Option (Bool × List Nat)
  | 13, 2 => some (false, [5])
  | _, _ => none
def altOf : FuncId → Option (FuncId → Mode)
  | _ => none
def toldOf : FuncId → Option Word
  | 23 => some .sort
  | 33 => some (.insert 22)
  | _ => none
noncomputable def cfg : Cfg := { P := Try.prog, mode := modeOf, alt := altOf, mask := maskOf, close := closeOf, told := fun f => (toldOf f).map (wordv Try.prog) }
noncomputable def cfgI : Cfg := { cfg with told := fun _ => none }
noncomputable def cfgIS : Cfg := { cfgI with strict := true }
noncomputable def cfgS : Cfg := { cfg with strict := true }

def htyOf : FuncId → Nat → List (Nat × TypeId)
  | 4, 3 => [(5, 23)]
  | 5, 5 => [(0, 22), (1, 23), (5, 25)]
  | 8, 8 => [(0, 22), (1, 23), (5, 25), (19, 22), (25, 22)]
  | 8, 5 => [(0, 22), (1, 23), (5, 25), (19, 22)]
  | 24, 9 => [(0, 25), (4, 25)]
  | 24, 4 => [(0, 25)]
  | 9, 4 => [(0, 23), (10, 23)]
  | 10, 2 => [(0, 23)]
  | 11, 2 => [(0, 22)]
  | 13, 6 => [(0, 22), (1, 23), (5, 25)]
  | 13, 3 => [(0, 22), (1, 23), (5, 25)]
  | 12, 4 => [(0, 25), (1, 25)]
  | 28, 5 => [(0, 22)]
  | 16, 4 => [(0, 22), (8, 22)]
  | 18, 3 => [(0, 22), (5, 22)]
  | 17, 4 => [(0, 22), (1, 22)]
  | 21, 8 => [(0, 22), (8, 22)]
  | 26, 2 => [(0, 23)]
  | 27, 4 => [(0, 25), (5, 25)]
  | 31, 3 => [(0, 22)]
  | 34, 4 => [(0, 22), (1, 22)]
  | 35, 2 => [(0, 22)]
  | 40, 2 => [(0, 22)]
  | 41, 3 => [(6, 25)]
  | 45, 3 => [(0, 23)]
  | _, _ => []
def hwkOf : FuncId → Nat → List Nat × List Nat
  | _, _ => ([], [])
def oskOf : FuncId → Nat → List (Nat × Sk) × List OSk
  | 4, 3 => ([(5, (.whole 0 3))], [(.made true 3)])
  | 5, 5 => ([(0, .psl), (1, .psl)], [])
  | 8, 8 => ([(0, .psl), (1, .psl), (5, (.whole 0 1)), (19, .psl), (20, (.int .i64)), (21, (.int .i64))], [(.made true 1)])
  | 8, 5 => ([(5, (.whole 0 1))], [(.made true 1)])
  | 24, 9 => ([(0, (.whole 0 1)), (3, (.int .i64))], [(.made true 1)])
  | 24, 4 => ([(0, (.whole 0 1))], [(.made true 1)])
  | 9, 4 => ([], [])
  | 10, 2 => ([(0, .psl)], [])
  | 11, 2 => ([(0, .psl)], [])
  | 13, 6 => ([(0, .psl), (1, .psl), (5, .psl), (6, (.int .i64))], [])
  | 13, 3 => ([(5, .psl)], [])
  | 12, 4 => ([], [])
  | 28, 5 => ([(0, (.whole 0 2)), (5, (.int .i64))], [(.made true 2), (.box true 3 [(.int .i64)])])
  | 16, 4 => ([], [])
  | 18, 3 => ([(5, (.whole 0 2))], [(.made true 2)])
  | 17, 4 => ([], [])
  | 21, 8 => ([(1, (.int .i64)), (2, (.int .i64)), (8, (.whole 0 2)), (9, .bool)], [(.made true 2)])
  | 26, 2 => ([(4, (.ref 0 0 0))], [(.box true 35 [(.int .i64), (.int .i64), (.int .i64)])])
  | 27, 4 => ([(1, (.int .i64)), (5, (.whole 0 1)), (6, .bool)], [(.made true 1)])
  | 31, 3 => ([(0, .psl), (2, (.fn 32 [])), (4, (.ref 0 0 0)), (8, (.int .i64)), (9, (.int .i64))], [(.box true 37 [(.int .i64), (.int .i64)])])
  | 34, 4 => ([], [])
  | 35, 2 => ([], [])
  | 40, 2 => ([], [])
  | 41, 3 => ([(3, (.int .i64))], [])
  | 45, 3 => ([(0, .psl), (1, (.int .i64)), (2, (.fn 46 [])), (8, (.int .i64)), (9, (.int .i64))], [])
  | _, _ => ([], [])
def noexOf : FuncId → Nat → Bool
  | _, _ => false
def rskOf : FuncId → Nat → List (Nat × Sk) × List OSk
  | 24, 4 => ([(2, (.view 0 1))], [(.made true 1)])
  | 9, 4 => ([(2, (.int .i64))], [])
  | 10, 2 => ([(2, .bool)], [])
  | 11, 2 => ([(2, .bool)], [])
  | 12, 4 => ([(4, .bool)], [])
  | 16, 4 => ([(2, (.int .i64))], [])
  | 17, 4 => ([(4, .bool)], [])
  | 26, 2 => ([(4, (.ref 0 0 0)), (5, .bool)], [(.box true 35 [(.int .i64), (.int .i64), (.int .i64)])])
  | 34, 4 => ([(4, .bool)], [])
  | 35, 2 => ([(6, .bool)], [])
  | 40, 2 => ([(4, (.int .i64))], [])
  | 41, 3 => ([(2, (.int .i64))], [])
  | _, _ => ([], [])
def lskOf : FuncId → Sk × List OSk
  | 24 => ((.wv 0 1), [(.made true 1)])
  | 28 => ((.wv 0 2), [(.made true 2), (.box true 3 [(.int .i64)])])
  | _ => (.any, [])
def ownOf : FuncId → Option (Nat × (List PV → Option (List (List PV))))
  | 29 => some (2, cloneK 2 16)
  | _ => none
def kcfg : KCfg := { own := ownOf, hty := htyOf, hwk := hwkOf, osk := oskOf, rsk := rskOf, lsk := lskOf, noex := noexOf, told := toldOf }

theorem eq29 (C : CallO) (L : LoopO) (σ : Store) (a0 : PV) : stepK cfg C L 29 [a0] σ =
    (binv Try.prog .eql 22 a0 .nilsl).bind fun v0 => asBool v0 fun b1 => if b1 = true then (some (.nilsl, σ)) else ((buildSlv Try.prog σ 22 0 []).bind fun r2 => (writeB Try.prog r2.2 .append [22, 22] [r2.1, a0]).bind fun r3 => some (r3.1, r3.2)) := by kernel_rfl


end Go.Pvm.S
