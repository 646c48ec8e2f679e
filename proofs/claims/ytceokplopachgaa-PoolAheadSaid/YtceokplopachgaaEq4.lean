/- Part of the proof: what each function of the program comes to, spelled out (printed by a program of this repo, from the program's code). -/
import Derived.Test.YtceokplopachgaaEq
import Derived.Test.YtceokplopachgaaProg
import Derived.KernelRfl
set_option linter.unusedVariables false
set_option maxRecDepth 100000
namespace Go.Pvm.S
open Go.Pvm Go.Proofs
set_option maxHeartbeats 4000000
theorem z0l (C : z7) (L : xg) (σ : Store) (a0 : Nat) (a0x : Nat) (a0o : Nat) (a1_0 : Int) (a1_1 : PV) : qa cfg C L 58 [(.ref a0 a0x a0o),(.agg [(.int .i64 a1_0),a1_1])] σ =
  (zd Try.prog (Store.push σ (.cells 0 [[(.int .i64 a1_0),a1_1]])) 33 (.ref a0 a0x (a0o + 0))).bind fun v0 => (zd Try.prog (Store.push σ (.cells 0 [[(.int .i64 a1_0),a1_1]])) 3 (.ref (Store.next σ) 0 (0 + 0))).bind fun v1 => asInt .i64 v1 fun n2 => (zai Try.prog 33 v0 (some (.int .i64 (IntKind.wrap .i64 (n2 * 128)))) none none).bind fun v3 => (zd Try.prog (Store.push σ (.cells 0 [[(.int .i64 a1_0),a1_1]])) 33 (.ref (Store.next σ) 0 (0 + 1))).bind fun v4 => (y7 Try.prog (Store.push σ (.cells 0 [[(.int .i64 a1_0),a1_1]])) .copy [33,33] [v3,v4]).bind fun r5 => asInt .i64 r5.1 fun n6 => some ((.tuple []),r5.2) := by kernel_rfl
theorem z4t (C : z7) (L : xg) (σ : Store) (a0_0 : PV) (a0_1 : Bool) (a0_2 : Int) : qa cfg C L 62 [(.agg [a0_0,(.bool a0_1),(.int .i64 a0_2)])] σ =
  (zd Try.prog (Store.push σ (.cells 0 [[a0_0,(.bool a0_1),(.int .i64 a0_2)]])) 4 (.ref (Store.next σ) 0 (0 + 1))).bind fun v0 => asBool v0 fun b1 => if b1 = true then (some ((.int .i64 1),(Store.push σ (.cells 0 [[a0_0,(.bool a0_1),(.int .i64 a0_2)]])))) else ((zd Try.prog (Store.push σ (.cells 0 [[a0_0,(.bool a0_1),(.int .i64 a0_2)]])) 33 (.ref (Store.next σ) 0 (0 + 0))).bind fun v2 => (jd Try.prog .len [33] [v2]).bind fun v3 => asInt .i64 v3 fun n4 => some ((.int .i64 n4),(Store.push σ (.cells 0 [[a0_0,(.bool a0_1),(.int .i64 a0_2)]])))) := by kernel_rfl
noncomputable def zi3 : Code := wd Try.prog 65 0
def zif (a0 : PV) (a1 : Int) (a2 : PV) (a22 : Int) : List PV := mkS 57 [(0,a0),(1,(.int .i64 a1)),(2,a2),(22,(.int .i64 a22))]
def zpy  : List PV := mkS 57 []
theorem ztl (C : z7) (L : xg) (σ : Store) (a0 : PV) (a1 : Int) (a2 : PV) (a22 : Int) : za6 cfg C L 65 zi3 (zif a0 a1 a2 a22) σ =
  if (decide (a22 < 4)) = true then ((zai Try.prog 33 a2 (some (.int .i64 (IntKind.wrap .i64 (a22 * 128)))) (some (.int .i64 (IntKind.wrap .i64 ((IntKind.wrap .i64 (a22 + 1)) * 128)))) none).bind fun v0 => (zi zon C 40 [v0] σ).bind fun r1 => (jz Try.prog 118 [(0,(.int .i64 (IntKind.wrap .i64 ((IntKind.wrap .i64 (a1 * 4)) + a22)))),(1,r1.1)]).bind fun v2 => (zu Try.prog (Store.push r1.2 (.cells 0 [[(.int .i64 0),.nilsl]])) 118 (.ref (Store.next r1.2) 0 0) v2).bind fun s3 => (zc2 a0).bind fun v4 => (zj Try.prog 57 v4 0).bind fun v5 => (zd Try.prog s3 118 (.ref (Store.next r1.2) 0 0)).bind fun v6 => (zi ztw C 58 [v5,v6] s3).bind fun r7 => (zi zon C 56 [a0,(.int .i64 1)] r7.2).bind fun r8 => asInt .i64 r8.1 fun n9 => if (n9 == 1) = true then ((zc2 a0).bind fun v10 => (zj Try.prog 57 v10 2).bind fun v11 => (zd Try.prog r8.2 54 v11).bind fun v12 => (zd Try.prog r8.2 118 (.ref (Store.next r1.2) 0 0)).bind fun v13 => (xt Try.prog r8.2 54 1 [(0,v13)]).bind fun r14 => (y7 Try.prog r14.2 .append [54,54] [v12,r14.1]).bind fun r15 => (zc2 a0).bind fun v16 => (zj Try.prog 57 v16 2).bind fun v17 => (zu Try.prog r15.2 54 v17 r15.1).bind fun s18 => L 65 zi3 (zif a0 a1 a2 (IntKind.wrap .i64 (a22 + 1))) s18) else (L 65 zi3 (zif a0 a1 a2 (IntKind.wrap .i64 (a22 + 1))) r8.2)) else (some (.exit 1,zpy ,σ)) := by kernel_rfl
theorem z0k (C : z7) (L : xg) (σ : Store) (a0 : Nat) (a0x : Nat) (a0o : Nat) (a1 : Int) (a2 : PV) : qa cfg C L 65 [(.ref a0 a0x a0o),(.int .i64 a1),a2] σ =
  if (decide (a1 < 0)) = true then (some ((.int .i64 3),σ)) else ((zi zon C 37 [(.ref a0 a0x a0o)] σ).bind fun r0 => asInt .i64 r0.1 fun n1 => if (decide (a1 ≥ n1)) = true then (some ((.int .i64 3),r0.2)) else ((jd Try.prog .len [33] [a2]).bind fun v2 => asInt .i64 v2 fun n3 => if (n3 != 512) = true then (some ((.int .i64 1),r0.2)) else ((L 65 zi3 (zif (.ref a0 a0x a0o) a1 a2 0) r0.2).bind fun r4 => zgf r4.1 (fun i4 => if i4 = 1 then (some ((.int .i64 0),r4.2.2)) else (none)) (none)))) := by kernel_rfl
noncomputable def zi2 : Code := wd Try.prog 72 0
def zie (a0 : PV) (a1 : PV) (a7 : Int) (a8 : Int) : List PV := mkS 19 [(0,a0),(1,a1),(7,(.int .i64 a7)),(8,(.int .i64 a8))]
def zkr  : List PV := mkS 19 []
def zkh (a4 : Int) : List PV := mkS 19 [(4,(.int .i64 a4))]
@[simp] theorem ret72_2_4 (a4 : Int) : List.getD (zkh a4) 4 .undef = (.int .i64 a4) := rfl
theorem zqb (C : z7) (L : xg) (σ : Store) (a0 : PV) (a1 : PV) (a7 : Int) (a8 : Int) : za6 cfg C L 72 zi2 (zie a0 a1 a7 a8) σ =
  if (decide (a8 < a7)) = true then ((zh Try.prog 50 a0 (.int .i64 a8)).bind fun v0 => (zd Try.prog σ 3 v0).bind fun v1 => asInt .i64 v1 fun n2 => (fnv a1).bind fun q4 => (zi cfg C q4.1 ([(.int .i64 n2)] ++ q4.2) σ).bind fun r3 => asBool r3.1 fun b5 => if b5 = true then (some (.ret,zkh a8,r3.2)) else (L 72 zi2 (zie a0 a1 a7 (IntKind.wrap .i64 (a8 + 1))) r3.2)) else (some (.exit 0,zkr ,σ)) := by kernel_rfl
theorem zzu (C : z7) (L : xg) (σ : Store) (a0 : PV) (a1 : PV) : qa cfg C L 72 [a0,a1] σ =
  (jd Try.prog .len [50] [a0]).bind fun v0 => asInt .i64 v0 fun n1 => (L 72 zi2 (zie a0 a1 n1 0) σ).bind fun r2 => zgf r2.1 (fun i2 => if i2 = 0 then (some ((.int .i64 (-1)),r2.2.2)) else (none)) (asInt .i64 (List.getD r2.2.1 4 .undef) fun n3 => some ((.int .i64 n3),r2.2.2)) := by kernel_rfl
end Go.Pvm.S
