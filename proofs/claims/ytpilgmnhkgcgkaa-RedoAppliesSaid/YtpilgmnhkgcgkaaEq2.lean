/- Part of the proof: what each function of the program comes to, spelled out (printed by a program of this repo, from the program's code). -/
import Derived.Test.YtpilgmnhkgcgkaaEq
import Derived.Test.YtpilgmnhkgcgkaaProg
import Derived.KernelRfl
set_option linter.unusedVariables false
set_option maxRecDepth 100000
namespace Go.Pvm.S
open Go.Pvm Go.Proofs
set_option maxHeartbeats 4000000

/-! ### 21: humus/humusref06.Apply -/
noncomputable def lc21_2 : Code := loopAt Try.prog 21 0
def st21_2 (a0 : PV) (a1 : PV) (a5 : Int) : List PV := mkS 73 [(0, a0), (1, a1), (5, (.int .i64 a5))]
def out21_2 (a0 : PV) : List PV := mkS 73 [(0, a0)]
@[simp] theorem out21_2_0 (a0 : PV) : List.getD (out21_2 a0) 0 .undef = a0 := rfl
def ret21_2  : List PV := mkS 73 []
noncomputable def lc21_7 : Code := loopAt Try.prog 21 1
def st21_7 (a0 : PV) (a1 : PV) (a5 : Int) (a6 : PV) (a7 : Bool) (a8 : Int) : List PV := mkS 73 [(0, a0), (1, a1), (5, (.int .i64 a5)), (6, a6), (7, (.bool a7)), (8, (.int .i64 a8))]
def out21_7 (a1 : PV) (a5 : Int) (a6 : PV) (a7 : Bool) : List PV := mkS 73 [(1, a1), (5, (.int .i64 a5)), (6, a6), (7, (.bool a7))]
@[simp] theorem out21_7_1 (a1 : PV) (a5 : Int) (a6 : PV) (a7 : Bool) : List.getD (out21_7 a1 a5 a6 a7) 1 .undef = a1 := rfl
@[simp] theorem out21_7_5 (a1 : PV) (a5 : Int) (a6 : PV) (a7 : Bool) : List.getD (out21_7 a1 a5 a6 a7) 5 .undef = (.int .i64 a5) := rfl
@[simp] theorem out21_7_6 (a1 : PV) (a5 : Int) (a6 : PV) (a7 : Bool) : List.getD (out21_7 a1 a5 a6 a7) 6 .undef = a6 := rfl
@[simp] theorem out21_7_7 (a1 : PV) (a5 : Int) (a6 : PV) (a7 : Bool) : List.getD (out21_7 a1 a5 a6 a7) 7 .undef = (.bool a7) := rfl
def ret21_7  : List PV := mkS 73 []
theorem lq21_2 (C : CallO) (L : LoopO) (σ : Store) (a0 : PV) (a1 : PV) (a5 : Int) : stepKL cfg C L 21 lc21_2 (st21_2 a0 a1 a5) σ =
    (pureB Try.prog .len [25] [a1]).bind fun v0 => asInt .i64 v0 fun n1 => if (decide (a5 < n1)) = true then ((buildSlv Try.prog σ 25 0 []).bind fun r2 => (L 21 lc21_7 (st21_7 a0 a1 a5 r2.1 false 0) r2.2).bind fun r3 => onEx r3.1 (fun i3 => asInt .i64 (List.getD r3.2.1 5 .undef) fun n4 => asBool (List.getD r3.2.1 7 .undef) fun b5 => if i3 = 2 then (if (!b5) = true then ((indexAddrv Try.prog 25 (List.getD r3.2.1 1 .undef) (.int .i64 n4)).bind fun v6 => (loadv Try.prog r3.2.2 28 v6).bind fun v7 => (buildSlv Try.prog r3.2.2 25 1 [(0, v7)]).bind fun r8 => (writeB Try.prog r8.2 .append [25, 25] [(List.getD r3.2.1 6 .undef), r8.1]).bind fun r9 => (roAll (tops r9.1) r9.2).bind fun s10 => L 21 lc21_2 (st21_2 (fz fuelFz r9.2 r9.1) (List.getD r3.2.1 1 .undef) (IntKind.wrap .i64 (n4 + 1))) s10) else ((roAll (tops (List.getD r3.2.1 6 .undef)) r3.2.2).bind fun s11 => L 21 lc21_2 (st21_2 (fz fuelFz r3.2.2 (List.getD r3.2.1 6 .undef)) (List.getD r3.2.1 1 .undef) (IntKind.wrap .i64 (n4 + 1))) s11)) else (if i3 = 1 then (L 21 lc21_2 (st21_2 .undef (List.getD r3.2.1 1 .undef) (IntKind.wrap .i64 (n4 + 1))) r3.2.2) else (some (.exit i3, out21_2 .undef, r3.2.2)))) (none)) else (some (.exit 0, out21_2 a0, σ)) := by kernel_rfl
theorem lq21_7 (C : CallO) (L : LoopO) (σ : Store) (a0 : PV) (a1 : PV) (a5 : Int) (a6 : PV) (a7 : Bool) (a8 : Int) : stepKL cfg C L 21 lc21_7 (st21_7 a0 a1 a5 a6 a7 a8) σ =
    (pureB Try.prog .len [25] [a0]).bind fun v0 => asInt .i64 v0 fun n1 => if (decide (a8 < n1)) = true then (if (!a7) = true then ((indexAddrv Try.prog 25 a0 (.int .i64 a8)).bind fun v2 => (fieldAddrv Try.prog 28 v2 0).bind fun v3 => (loadv Try.prog σ 3 v3).bind fun v4 => asInt .i64 v4 fun n5 => (indexAddrv Try.prog 25 a1 (.int .i64 a5)).bind fun v6 => (fieldAddrv Try.prog 28 v6 0).bind fun v7 => (loadv Try.prog σ 3 v7).bind fun v8 => asInt .i64 v8 fun n9 => if (decide (n5 ≥ n9)) = true then ((indexAddrv Try.prog 25 a1 (.int .i64 a5)).bind fun v10 => (loadv Try.prog σ 28 v10).bind fun v11 => (buildSlv Try.prog σ 25 1 [(0, v11)]).bind fun r12 => (writeB Try.prog r12.2 .append [25, 25] [a6, r12.1]).bind fun r13 => (indexAddrv Try.prog 25 a0 (.int .i64 a8)).bind fun v14 => (fieldAddrv Try.prog 28 v14 0).bind fun v15 => (loadv Try.prog r13.2 3 v15).bind fun v16 => asInt .i64 v16 fun n17 => (indexAddrv Try.prog 25 a1 (.int .i64 a5)).bind fun v18 => (fieldAddrv Try.prog 28 v18 0).bind fun v19 => (loadv Try.prog r13.2 3 v19).bind fun v20 => asInt .i64 v20 fun n21 => if (n17 != n21) = true then ((indexAddrv Try.prog 25 a0 (.int .i64 a8)).bind fun v22 => (loadv Try.prog r13.2 28 v22).bind fun v23 => (buildSlv Try.prog r13.2 25 1 [(0, v23)]).bind fun r24 => (writeB Try.prog r24.2 .append [25, 25] [r13.1, r24.1]).bind fun r25 => L 21 lc21_7 (st21_7 a0 a1 a5 r25.1 true (IntKind.wrap .i64 (a8 + 1))) r25.2) else (L 21 lc21_7 (st21_7 a0 a1 a5 r13.1 true (IntKind.wrap .i64 (a8 + 1))) r13.2)) else ((indexAddrv Try.prog 25 a0 (.int .i64 a8)).bind fun v26 => (fieldAddrv Try.prog 28 v26 0).bind fun v27 => (loadv Try.prog σ 3 v27).bind fun v28 => asInt .i64 v28 fun n29 => (indexAddrv Try.prog 25 a1 (.int .i64 a5)).bind fun v30 => (fieldAddrv Try.prog 28 v30 0).bind fun v31 => (loadv Try.prog σ 3 v31).bind fun v32 => asInt .i64 v32 fun n33 => if (n29 != n33) = true then ((indexAddrv Try.prog 25 a0 (.int .i64 a8)).bind fun v34 => (loadv Try.prog σ 28 v34).bind fun v35 => (buildSlv Try.prog σ 25 1 [(0, v35)]).bind fun r36 => (writeB Try.prog r36.2 .append [25, 25] [a6, r36.1]).bind fun r37 => L 21 lc21_7 (st21_7 a0 a1 a5 r37.1 a7 (IntKind.wrap .i64 (a8 + 1))) r37.2) else (L 21 lc21_7 (st21_7 a0 a1 a5 a6 a7 (IntKind.wrap .i64 (a8 + 1))) σ))) else ((indexAddrv Try.prog 25 a0 (.int .i64 a8)).bind fun v38 => (fieldAddrv Try.prog 28 v38 0).bind fun v39 => (loadv Try.prog σ 3 v39).bind fun v40 => asInt .i64 v40 fun n41 => (indexAddrv Try.prog 25 a1 (.int .i64 a5)).bind fun v42 => (fieldAddrv Try.prog 28 v42 0).bind fun v43 => (loadv Try.prog σ 3 v43).bind fun v44 => asInt .i64 v44 fun n45 => if (n41 != n45) = true then ((indexAddrv Try.prog 25 a0 (.int .i64 a8)).bind fun v46 => (loadv Try.prog σ 28 v46).bind fun v47 => (buildSlv Try.prog σ 25 1 [(0, v47)]).bind fun r48 => (writeB Try.prog r48.2 .append [25, 25] [a6, r48.1]).bind fun r49 => L 21 lc21_7 (st21_7 a0 a1 a5 r49.1 a7 (IntKind.wrap .i64 (a8 + 1))) r49.2) else (L 21 lc21_7 (st21_7 a0 a1 a5 a6 a7 (IntKind.wrap .i64 (a8 + 1))) σ))) else (some (.exit 2, out21_7 a1 a5 a6 a7, σ)) := by kernel_rfl
theorem eq21 (C : CallO) (L : LoopO) (σ : Store) (a0 : PV) (a1 : PV) : stepK cfg C L 21 [a0, a1] σ =
    (L 21 lc21_2 (st21_2 a0 a1 0) σ).bind fun r0 => onEx r0.1 (fun i0 => if i0 = 0 then (some ((List.getD r0.2.1 0 .undef), r0.2.2)) else (none)) (none) := by kernel_rfl
/-! ### 22: humus/tally.Seal -/
theorem eq22 (C : CallO) (L : LoopO) (σ : Store) (a0 : PV) : stepK cfg C L 22 [a0] σ =
    (callE cfg C 32 [a0] σ).bind fun r0 => asInt .u32 r0.1 fun n1 => (buildSlv Try.prog r0.2 24 4 [(0, (.int .u8 (IntKind.wrap .u8 (Int.fdiv n1 (2 ^ (min (Int.toNat 24) (IntKind.bits .u32))))))), (1, (.int .u8 (IntKind.wrap .u8 (Int.fdiv n1 (2 ^ (min (Int.toNat 16) (IntKind.bits .u32))))))), (2, (.int .u8 (IntKind.wrap .u8 (Int.fdiv n1 (2 ^ (min (Int.toNat 8) (IntKind.bits .u32))))))), (3, (.int .u8 (IntKind.wrap .u8 n1)))]).bind fun r2 => (writeB Try.prog r2.2 .append [24, 24] [r2.1, a0]).bind fun r3 => some (r3.1, r3.2) := by kernel_rfl
/-! ### 23: humus/tally.Open -/
theorem eq23 (C : CallO) (L : LoopO) (σ : Store) (a0 : PV) : stepK cfg C L 23 [a0] σ =
    (pureB Try.prog .len [24] [a0]).bind fun v0 => asInt .i64 v0 fun n1 => if (decide (n1 < 4)) = true then (some ((.tuple [.nilsl, (.int .i64 4)]), σ)) else ((cutv Try.prog 24 a0 (some (.int .i64 4)) none none).bind fun v2 => (callE cfg C 22 [v2] σ).bind fun r3 => (cutv Try.prog 24 r3.1 none (some (.int .i64 4)) none).bind fun v4 => (convv Try.prog r3.2 24 9 v4).bind fun v5 => asStr v5 fun z6 => (cutv Try.prog 24 a0 none (some (.int .i64 4)) none).bind fun v7 => (convv Try.prog r3.2 24 9 v7).bind fun v8 => asStr v8 fun z9 => (binv Try.prog .neq 9 (.str z6) (.str z9)).bind fun v10 => asBool v10 fun b11 => if b11 = true then (some ((.tuple [.nilsl, (.int .i64 5)]), r3.2)) else ((cutv Try.prog 24 r3.1 (some (.int .i64 4)) none none).bind fun v12 => some ((.tuple [v12, (.int .i64 0)]), r3.2))) := by kernel_rfl
/-! ### 24: slices.Clone[[]byte,byte] -/
theorem eq24 (C : CallO) (L : LoopO) (σ : Store) (a0 : PV) : stepK cfg C L 24 [a0] σ =
    (binv Try.prog .eql 24 a0 .nilsl).bind fun v0 => asBool v0 fun b1 => if b1 = true then (some (.nilsl, σ)) else ((buildSlv Try.prog σ 24 0 []).bind fun r2 => (writeB Try.prog r2.2 .append [24, 24] [r2.1, a0]).bind fun r3 => some (r3.1, r3.2)) := by kernel_rfl
/-! ### 25: humus/humusref02.Seal -/
theorem eq25 (C : CallO) (L : LoopO) (σ : Store) (a0 : PV) : stepK cfg C L 25 [a0] σ =
    (callE cfg C 27 [a0] σ).bind fun r0 => asInt .u32 r0.1 fun n1 => (callE cfg C 26 [(.int .u32 n1)] r0.2).bind fun r2 => (writeB Try.prog r2.2 .append [24, 24] [r2.1, a0]).bind fun r3 => some (r3.1, r3.2) := by kernel_rfl
/-! ### 26: humus/humusref02.Four -/
theorem eq26 (C : CallO) (L : LoopO) (σ : Store) (a0 : Int) : stepK cfg C L 26 [(.int .u32 a0)] σ =
    (buildSlv Try.prog σ 24 4 [(0, (.int .u8 (IntKind.wrap .u8 (IntKind.wrap .u32 (Int.tdiv a0 16777216))))), (1, (.int .u8 (IntKind.wrap .u8 (IntKind.wrap .u32 (Int.tdiv a0 65536))))), (2, (.int .u8 (IntKind.wrap .u8 (IntKind.wrap .u32 (Int.tdiv a0 256))))), (3, (.int .u8 (IntKind.wrap .u8 a0)))]).bind fun r0 => some (r0.1, r0.2) := by kernel_rfl
/-! ### 27: humus/humusref02.Sum -/
noncomputable def lc27_3 : Code := loopAt Try.prog 27 0
def st27_3 (a0 : PV) (a3 : Int) (a4 : Int) : List PV := mkS 38 [(0, a0), (3, (.int .u64 a3)), (4, (.int .i64 a4))]
def out27_3 (a3 : Int) : List PV := mkS 38 [(3, (.int .u64 a3))]
@[simp] theorem out27_3_3 (a3 : Int) : List.getD (out27_3 a3) 3 .undef = (.int .u64 a3) := rfl
def ret27_3  : List PV := mkS 38 []
theorem lq27_3 (C : CallO) (L : LoopO) (σ : Store) (a0 : PV) (a3 : Int) (a4 : Int) : stepKL cfg C L 27 lc27_3 (st27_3 a0 a3 a4) σ =
    (pureB Try.prog .len [24] [a0]).bind fun v0 => asInt .i64 v0 fun n1 => if (decide (a4 < (IntKind.wrap .i64 (8 * n1)))) = true then ((indexAddrv Try.prog 24 a0 (.int .i64 (IntKind.wrap .i64 (Int.tdiv a4 8)))).bind fun v2 => (loadv Try.prog σ 5 v2).bind fun v3 => asInt .u8 v3 fun n4 => (binv Try.prog .shr 61 (.int .u64 (IntKind.wrap .u64 n4)) (.int .u64 (IntKind.wrap .u64 (IntKind.wrap .i64 (7 - (Int.tmod a4 8)))))).bind fun v5 => asInt .u64 v5 fun n6 => if ((IntKind.wrap .u64 (Int.tdiv a3 2147483648)) != (Int.tmod n6 2)) = true then (L 27 lc27_3 (st27_3 a0 (IntKind.wrap .u64 ((BitVec.ofInt (IntKind.bits .u64) (Int.tmod (IntKind.wrap .u64 (a3 * 2)) 4294967296) ^^^ BitVec.ofInt (IntKind.bits .u64) 2168537515).toNat : Int)) (IntKind.wrap .i64 (a4 + 1))) σ) else (L 27 lc27_3 (st27_3 a0 (Int.tmod (IntKind.wrap .u64 (a3 * 2)) 4294967296) (IntKind.wrap .i64 (a4 + 1))) σ)) else (some (.exit 0, out27_3 a3, σ)) := by kernel_rfl
theorem eq27 (C : CallO) (L : LoopO) (σ : Store) (a0 : PV) : stepK cfg C L 27 [a0] σ =
    (L 27 lc27_3 (st27_3 a0 4294967295 0) σ).bind fun r0 => onEx r0.1 (fun i0 => asInt .u64 (List.getD r0.2.1 3 .undef) fun n1 => if i0 = 0 then (some ((.int .u32 (IntKind.wrap .u32 n1)), r0.2.2)) else (none)) (none) := by kernel_rfl
/-! ### 28: slices.Concat[[]humus/api.Image,humus/api.Image] -/
noncomputable def lc28_3 : Code := loopAt Try.prog 28 0
def st28_3 (a0 : PV) (a3 : Int) (a9 : PV) (a10 : Int) (a11 : Int) : List PV := mkS 36 [(0, a0), (3, (.int .i64 a3)), (9, a9), (10, (.int .i64 a10)), (11, (.int .i64 a11))]
def out28_3 (a0 : PV) (a3 : Int) : List PV := mkS 36 [(0, a0), (3, (.int .i64 a3))]
@[simp] theorem out28_3_0 (a0 : PV) (a3 : Int) : List.getD (out28_3 a0 a3) 0 .undef = a0 := rfl
@[simp] theorem out28_3_3 (a0 : PV) (a3 : Int) : List.getD (out28_3 a0 a3) 3 .undef = (.int .i64 a3) := rfl
def ret28_3  : List PV := mkS 36 []
noncomputable def lc28_11 : Code := loopAt Try.prog 28 1
def st28_11 (a6 : PV) (a25 : PV) (a26 : Int) (a27 : Int) : List PV := mkS 36 [(6, a6), (25, a25), (26, (.int .i64 a26)), (27, (.int .i64 a27))]
def out28_11 (a6 : PV) : List PV := mkS 36 [(6, a6)]
@[simp] theorem out28_11_6 (a6 : PV) : List.getD (out28_11 a6) 6 .undef = a6 := rfl
def ret28_11  : List PV := mkS 36 []
theorem lq28_3 (C : CallO) (L : LoopO) (σ : Store) (a0 : PV) (a3 : Int) (a9 : PV) (a10 : Int) (a11 : Int) : stepKL cfg C L 28 lc28_3 (st28_3 a0 a3 a9 a10 a11) σ =
    if (decide (a11 < a10)) = true then ((indexAddrv Try.prog 45 a9 (.int .i64 a11)).bind fun v0 => (loadv Try.prog σ 25 v0).bind fun v1 => (pureB Try.prog .len [25] [v1]).bind fun v2 => asInt .i64 v2 fun n3 => if (decide ((IntKind.wrap .i64 (a3 + n3)) < 0)) = true then (none) else (L 28 lc28_3 (st28_3 a0 (IntKind.wrap .i64 (a3 + n3)) a9 a10 (IntKind.wrap .i64 (a11 + 1))) σ)) else (some (.exit 0, out28_3 a0 a3, σ)) := by kernel_rfl
theorem lq28_11 (C : CallO) (L : LoopO) (σ : Store) (a6 : PV) (a25 : PV) (a26 : Int) (a27 : Int) : stepKL cfg C L 28 lc28_11 (st28_11 a6 a25 a26 a27) σ =
    if (decide (a27 < a26)) = true then ((indexAddrv Try.prog 45 a25 (.int .i64 a27)).bind fun v0 => (loadv Try.prog σ 25 v0).bind fun v1 => (writeB Try.prog σ .append [25, 25] [a6, v1]).bind fun r2 => L 28 lc28_11 (st28_11 r2.1 a25 a26 (IntKind.wrap .i64 (a27 + 1))) r2.2) else (some (.exit 2, out28_11 a6, σ)) := by kernel_rfl
theorem eq28 (C : CallO) (L : LoopO) (σ : Store) (a0 : PV) : stepK cfg C L 28 [a0] σ =
    (pureB Try.prog .len [45] [a0]).bind fun v0 => asInt .i64 v0 fun n1 => (L 28 lc28_3 (st28_3 a0 0 a0 n1 0) σ).bind fun r2 => onEx r2.1 (fun i2 => asInt .i64 (List.getD r2.2.1 3 .undef) fun n3 => if i2 = 0 then ((callE cfg C 33 [.nilsl, (.int .i64 n3)] r2.2.2).bind fun r4 => (pureB Try.prog .len [45] [(List.getD r2.2.1 0 .undef)]).bind fun v5 => asInt .i64 v5 fun n6 => (L 28 lc28_11 (st28_11 r4.1 (List.getD r2.2.1 0 .undef) n6 0) r4.2).bind fun r7 => onEx r7.1 (fun i7 => if i7 = 2 then (some ((List.getD r7.2.1 6 .undef), r7.2.2)) else (none)) (none)) else (none)) (none) := by kernel_rfl
/-! ### 29: slices.BinarySearchFunc[[]humus/api.Image,humus/api.Image,int] -/
noncomputable def lc29_3 : Code := loopAt Try.prog 29 0
def st29_3 (a0 : PV) (a1 : Int) (a2 : PV) (a8 : Int) (a9 : Int) (a10 : Int) : List PV := mkS 49 [(0, a0), (1, (.int .i64 a1)), (2, a2), (8, (.int .i64 a8)), (9, (.int .i64 a9)), (10, (.int .i64 a10))]
def out29_3 (a0 : PV) (a1 : Int) (a2 : PV) (a8 : Int) (a9 : Int) : List PV := mkS 49 [(0, a0), (1, (.int .i64 a1)), (2, a2), (8, (.int .i64 a8)), (9, (.int .i64 a9))]
@[simp] theorem out29_3_0 (a0 : PV) (a1 : Int) (a2 : PV) (a8 : Int) (a9 : Int) : List.getD (out29_3 a0 a1 a2 a8 a9) 0 .undef = a0 := rfl
@[simp] theorem out29_3_1 (a0 : PV) (a1 : Int) (a2 : PV) (a8 : Int) (a9 : Int) : List.getD (out29_3 a0 a1 a2 a8 a9) 1 .undef = (.int .i64 a1) := rfl
@[simp] theorem out29_3_2 (a0 : PV) (a1 : Int) (a2 : PV) (a8 : Int) (a9 : Int) : List.getD (out29_3 a0 a1 a2 a8 a9) 2 .undef = a2 := rfl
@[simp] theorem out29_3_8 (a0 : PV) (a1 : Int) (a2 : PV) (a8 : Int) (a9 : Int) : List.getD (out29_3 a0 a1 a2 a8 a9) 8 .undef = (.int .i64 a8) := rfl
@[simp] theorem out29_3_9 (a0 : PV) (a1 : Int) (a2 : PV) (a8 : Int) (a9 : Int) : List.getD (out29_3 a0 a1 a2 a8 a9) 9 .undef = (.int .i64 a9) := rfl
def ret29_3  : List PV := mkS 49 []
theorem lq29_3 (C : CallO) (L : LoopO) (σ : Store) (a0 : PV) (a1 : Int) (a2 : PV) (a8 : Int) (a9 : Int) (a10 : Int) : stepKL cfg C L 29 lc29_3 (st29_3 a0 a1 a2 a8 a9 a10) σ =
    if (decide (a9 < a10)) = true then ((indexAddrv Try.prog 25 a0 (.int .i64 (IntKind.wrap .i64 (Int.fdiv (IntKind.wrap .u64 (IntKind.wrap .i64 (a9 + a10))) (2 ^ (min (Int.toNat 1) (IntKind.bits .u64))))))).bind fun v0 => (loadv Try.prog σ 28 v0).bind fun v1 => (fnv a2).bind fun q3 => (callE cfg C q3.1 ([v1, (.int .i64 a1)] ++ q3.2) σ).bind fun r2 => asInt .i64 r2.1 fun n4 => if (decide (n4 < 0)) = true then (L 29 lc29_3 (st29_3 a0 a1 a2 a8 (IntKind.wrap .i64 ((IntKind.wrap .i64 (Int.fdiv (IntKind.wrap .u64 (IntKind.wrap .i64 (a9 + a10))) (2 ^ (min (Int.toNat 1) (IntKind.bits .u64))))) + 1)) a10) r2.2) else (L 29 lc29_3 (st29_3 a0 a1 a2 a8 a9 (IntKind.wrap .i64 (Int.fdiv (IntKind.wrap .u64 (IntKind.wrap .i64 (a9 + a10))) (2 ^ (min (Int.toNat 1) (IntKind.bits .u64)))))) r2.2)) else (some (.exit 0, out29_3 a0 a1 a2 a8 a9, σ)) := by kernel_rfl
theorem eq29 (C : CallO) (L : LoopO) (σ : Store) (a0 : PV) (a1 : Int) (a2 : PV) : stepK cfg C L 29 [a0, (.int .i64 a1), a2] σ =
    (pureB Try.prog .len [25] [a0]).bind fun v0 => asInt .i64 v0 fun n1 => (L 29 lc29_3 (st29_3 a0 a1 a2 n1 0 n1) σ).bind fun r2 => onEx r2.1 (fun i2 => asInt .i64 (List.getD r2.2.1 1 .undef) fun n3 => asInt .i64 (List.getD r2.2.1 8 .undef) fun n4 => asInt .i64 (List.getD r2.2.1 9 .undef) fun n5 => if i2 = 0 then (if (decide (n5 < n4)) = true then ((indexAddrv Try.prog 25 (List.getD r2.2.1 0 .undef) (.int .i64 n5)).bind fun v6 => (loadv Try.prog r2.2.2 28 v6).bind fun v7 => (fnv (List.getD r2.2.1 2 .undef)).bind fun q9 => (callE cfg C q9.1 ([v7, (.int .i64 n3)] ++ q9.2) r2.2.2).bind fun r8 => asInt .i64 r8.1 fun n10 => some ((.tuple [(.int .i64 n5), (.bool (n10 == 0))]), r8.2)) else (some ((.tuple [(.int .i64 n5), (.bool false)]), r2.2.2))) else (none)) (none) := by kernel_rfl
/-! ### 30: humus/redo.Apply$1 -/
theorem eq30 (C : CallO) (L : LoopO) (σ : Store) (a0_0 : Int) (a0_1 : PV) (a1 : Int) : stepK cfg C L 30 [(.agg [(.int .i64 a0_0), a0_1]), (.int .i64 a1)] σ =
    (loadv Try.prog (Store.push σ (.cells 0 [[(.int .i64 a0_0), a0_1]])) 3 (.ref (Store.next σ) 0 (0 + 0))).bind fun v0 => asInt .i64 v0 fun n1 => some ((.int .i64 (IntKind.wrap .i64 (n1 - a1))), (Store.push σ (.cells 0 [[(.int .i64 a0_0), a0_1]]))) := by kernel_rfl
/-! ### 31: slices.Insert[[]humus/api.Image,humus/api.Image] -/
theorem eq31 (C : CallO) (L : LoopO) (σ : Store) (a0 : PV) (a1 : Int) (a2 : PV) : stepK cfg C L 31 [a0, (.int .i64 a1), a2] σ =
    (cutv Try.prog 25 a0 (some (.int .i64 a1)) none none).bind fun v0 => (pureB Try.prog .len [25] [a2]).bind fun v1 => asInt .i64 v1 fun n2 => if (n2 == 0) = true then (some (a0, σ)) else ((pureB Try.prog .len [25] [a0]).bind fun v3 => asInt .i64 v3 fun n4 => if (a1 == n4) = true then ((writeB Try.prog σ .append [25, 25] [a0, a2]).bind fun r5 => some (r5.1, r5.2)) else ((pureB Try.prog .cap [25] [a0]).bind fun v6 => asInt .i64 v6 fun n7 => if (decide ((IntKind.wrap .i64 (n4 + n2)) > n7)) = true then ((cutv Try.prog 25 a0 none (some (.int .i64 a1)) none).bind fun v8 => (writeB Try.prog σ .append [25, 3] [v8, (.int .i64 (IntKind.wrap .i64 ((IntKind.wrap .i64 (n4 + n2)) - a1)))]).bind fun r9 => (cutv Try.prog 25 r9.1 (some (.int .i64 a1)) none none).bind fun v10 => (writeB Try.prog r9.2 .copy [25, 25] [v10, a2]).bind fun r11 => asInt .i64 r11.1 fun n12 => (cutv Try.prog 25 r9.1 (some (.int .i64 (IntKind.wrap .i64 (a1 + n2)))) none none).bind fun v13 => (cutv Try.prog 25 a0 (some (.int .i64 a1)) none none).bind fun v14 => (writeB Try.prog r11.2 .copy [25, 25] [v13, v14]).bind fun r15 => asInt .i64 r15.1 fun n16 => some (r9.1, r15.2)) else ((cutv Try.prog 25 a0 none (some (.int .i64 (IntKind.wrap .i64 (n4 + n2)))) none).bind fun v17 => (cutv Try.prog 25 v17 (some (.int .i64 (IntKind.wrap .i64 (a1 + n2)))) none none).bind fun v18 => (callE cfg C 34 [a2, v18] σ).bind fun r19 => asBool r19.1 fun b20 => if (!b20) = true then ((cutv Try.prog 25 v17 (some (.int .i64 (IntKind.wrap .i64 (a1 + n2)))) none none).bind fun v21 => (cutv Try.prog 25 v17 (some (.int .i64 a1)) none none).bind fun v22 => (writeB Try.prog r19.2 .copy [25, 25] [v21, v22]).bind fun r23 => asInt .i64 r23.1 fun n24 => (cutv Try.prog 25 v17 (some (.int .i64 a1)) none none).bind fun v25 => (writeB Try.prog r23.2 .copy [25, 25] [v25, a2]).bind fun r26 => asInt .i64 r26.1 fun n27 => some (v17, r26.2)) else ((cutv Try.prog 25 v17 (some (.int .i64 n4)) none none).bind fun v28 => (writeB Try.prog r19.2 .copy [25, 25] [v28, a2]).bind fun r29 => asInt .i64 r29.1 fun n30 => (cutv Try.prog 25 v17 (some (.int .i64 a1)) none none).bind fun v31 => (callE cfg C 35 [v31, (.int .i64 n2)] r29.2).bind fun r32 => some (v17, r32.2))))) := by kernel_rfl
/-! ### 32: humus/tally.Sum -/
theorem eq32 (C : CallO) (L : LoopO) (σ : Store) (a0 : PV) : stepK cfg C L 32 [a0] σ =
    (callE cfg C 36 [(.int .u32 4294967295), a0] σ).bind fun r0 => asInt .u32 r0.1 fun n1 => some ((.int .u32 n1), r0.2) := by kernel_rfl
/-! ### 33: slices.Grow[[]humus/api.Image,humus/api.Image] -/
theorem eq33 (C : CallO) (L : LoopO) (σ : Store) (a0 : PV) (a1 : Int) : stepK cfg C L 33 [a0, (.int .i64 a1)] σ =
    if (decide (a1 < 0)) = true then (none) else ((pureB Try.prog .cap [25] [a0]).bind fun v0 => asInt .i64 v0 fun n1 => (pureB Try.prog .len [25] [a0]).bind fun v2 => asInt .i64 v2 fun n3 => if (decide ((IntKind.wrap .i64 (a1 - (IntKind.wrap .i64 (n1 - n3)))) > 0)) = true then ((pureB Try.prog .cap [25] [a0]).bind fun v4 => asInt .i64 v4 fun n5 => (cutv Try.prog 25 a0 none (some (.int .i64 n5)) none).bind fun v6 => (writeB Try.prog σ .append [25, 3] [v6, (.int .i64 (IntKind.wrap .i64 (a1 - (IntKind.wrap .i64 (n1 - n3)))))]).bind fun r7 => (pureB Try.prog .len [25] [a0]).bind fun v8 => asInt .i64 v8 fun n9 => (cutv Try.prog 25 r7.1 none (some (.int .i64 n9)) none).bind fun v10 => some (v10, r7.2)) else (some (a0, σ))) := by kernel_rfl
/-! ### 35: slices.rotateRight[humus/api.Image] -/
theorem eq35 (C : CallO) (L : LoopO) (σ : Store) (a0 : PV) (a1 : Int) : stepK cfg C L 35 [a0, (.int .i64 a1)] σ =
    (pureB Try.prog .len [25] [a0]).bind fun v0 => asInt .i64 v0 fun n1 => (callE cfg C 37 [a0, (.int .i64 (IntKind.wrap .i64 (n1 - a1)))] σ).bind fun r2 => some ((.tuple []), r2.2) := by kernel_rfl
/-! ### 36: humus/tally.More -/
noncomputable def lc36_2 : Code := loopAt Try.prog 36 0
def st36_2 (a0 : Int) (a8 : PV) (a9 : Int) (a10 : Int) : List PV := mkS 32 [(0, (.int .u32 a0)), (8, a8), (9, (.int .i64 a9)), (10, (.int .i64 a10))]
def out36_2 (a0 : Int) : List PV := mkS 32 [(0, (.int .u32 a0))]
@[simp] theorem out36_2_0 (a0 : Int) : List.getD (out36_2 a0) 0 .undef = (.int .u32 a0) := rfl
def ret36_2  : List PV := mkS 32 []
noncomputable def lc36_6 : Code := loopAt Try.prog 36 1
def st36_6 (a0 : Int) (a8 : PV) (a9 : Int) (a10 : Int) (a19 : Int) : List PV := mkS 32 [(0, (.int .u32 a0)), (8, a8), (9, (.int .i64 a9)), (10, (.int .i64 a10)), (19, (.int .i64 a19))]
def out36_6 (a0 : Int) (a8 : PV) (a9 : Int) (a10 : Int) : List PV := mkS 32 [(0, (.int .u32 a0)), (8, a8), (9, (.int .i64 a9)), (10, (.int .i64 a10))]
@[simp] theorem out36_6_0 (a0 : Int) (a8 : PV) (a9 : Int) (a10 : Int) : List.getD (out36_6 a0 a8 a9 a10) 0 .undef = (.int .u32 a0) := rfl
@[simp] theorem out36_6_8 (a0 : Int) (a8 : PV) (a9 : Int) (a10 : Int) : List.getD (out36_6 a0 a8 a9 a10) 8 .undef = a8 := rfl
@[simp] theorem out36_6_9 (a0 : Int) (a8 : PV) (a9 : Int) (a10 : Int) : List.getD (out36_6 a0 a8 a9 a10) 9 .undef = (.int .i64 a9) := rfl
@[simp] theorem out36_6_10 (a0 : Int) (a8 : PV) (a9 : Int) (a10 : Int) : List.getD (out36_6 a0 a8 a9 a10) 10 .undef = (.int .i64 a10) := rfl
def ret36_6  : List PV := mkS 32 []
theorem lq36_2 (C : CallO) (L : LoopO) (σ : Store) (a0 : Int) (a8 : PV) (a9 : Int) (a10 : Int) : stepKL cfg C L 36 lc36_2 (st36_2 a0 a8 a9 a10) σ =
    if (decide (a10 < a9)) = true then ((indexAddrv Try.prog 24 a8 (.int .i64 a10)).bind fun v0 => (loadv Try.prog σ 5 v0).bind fun v1 => asInt .u8 v1 fun n2 => (L 36 lc36_6 (st36_6 (IntKind.wrap .u32 ((BitVec.ofInt (IntKind.bits .u32) a0 ^^^ BitVec.ofInt (IntKind.bits .u32) (IntKind.wrap .u32 ((IntKind.wrap .u32 n2) * 2 ^ (min (Int.toNat 24) (IntKind.bits .u32))))).toNat : Int)) a8 a9 a10 0) σ).bind fun r3 => onEx r3.1 (fun i3 => asInt .u32 (List.getD r3.2.1 0 .undef) fun n4 => asInt .i64 (List.getD r3.2.1 9 .undef) fun n5 => asInt .i64 (List.getD r3.2.1 10 .undef) fun n6 => if i3 = 2 then (L 36 lc36_2 (st36_2 n4 (List.getD r3.2.1 8 .undef) n5 (IntKind.wrap .i64 (n6 + 1))) r3.2.2) else (if i3 = 1 then (L 36 lc36_2 (st36_2 n4 (List.getD r3.2.1 8 .undef) n5 (IntKind.wrap .i64 (n6 + 1))) r3.2.2) else (some (.exit i3, out36_2 n4, r3.2.2)))) (none)) else (some (.exit 0, out36_2 a0, σ)) := by kernel_rfl
theorem lq36_6 (C : CallO) (L : LoopO) (σ : Store) (a0 : Int) (a8 : PV) (a9 : Int) (a10 : Int) (a19 : Int) : stepKL cfg C L 36 lc36_6 (st36_6 a0 a8 a9 a10 a19) σ =
    if (decide (a19 < 8)) = true then (if ((Int.fdiv a0 (2 ^ (min (Int.toNat 31) (IntKind.bits .u32)))) == 1) = true then (L 36 lc36_6 (st36_6 (IntKind.wrap .u32 ((BitVec.ofInt (IntKind.bits .u32) (IntKind.wrap .u32 (a0 * 2 ^ (min (Int.toNat 1) (IntKind.bits .u32)))) ^^^ BitVec.ofInt (IntKind.bits .u32) 2168537515).toNat : Int)) a8 a9 a10 (IntKind.wrap .i64 (a19 + 1))) σ) else (L 36 lc36_6 (st36_6 (IntKind.wrap .u32 (a0 * 2 ^ (min (Int.toNat 1) (IntKind.bits .u32)))) a8 a9 a10 (IntKind.wrap .i64 (a19 + 1))) σ)) else (some (.exit 2, out36_6 a0 a8 a9 a10, σ)) := by kernel_rfl
theorem eq36 (C : CallO) (L : LoopO) (σ : Store) (a0 : Int) (a1 : PV) : stepK cfg C L 36 [(.int .u32 a0), a1] σ =
    (pureB Try.prog .len [24] [a1]).bind fun v0 => asInt .i64 v0 fun n1 => (L 36 lc36_2 (st36_2 a0 a1 n1 0) σ).bind fun r2 => onEx r2.1 (fun i2 => asInt .u32 (List.getD r2.2.1 0 .undef) fun n3 => if i2 = 0 then (some ((.int .u32 n3), r2.2.2)) else (none)) (none) := by kernel_rfl
/-! ### 37: slices.rotateLeft[humus/api.Image] -/
theorem eq37 (C : CallO) (L : LoopO) (σ : Store) (a0 : PV) (a1 : Int) : stepK cfg C L 37 [a0, (.int .i64 a1)] σ =
    (cutv Try.prog 25 a0 none (some (.int .i64 a1)) none).bind fun v0 => (callE cfg C 38 [v0] σ).bind fun r1 => (cutv Try.prog 25 a0 (some (.int .i64 a1)) none none).bind fun v2 => (callE cfg C 38 [v2] r1.2).bind fun r3 => (callE cfg C 38 [a0] r3.2).bind fun r4 => some ((.tuple []), r4.2) := by kernel_rfl
/-! ### 38: slices.Reverse[[]humus/api.Image,humus/api.Image] -/
noncomputable def lc38_1 : Code := loopAt Try.prog 38 0
def st38_1 (a0 : PV) (a2 : Int) (a3 : Int) : List PV := mkS 28 [(0, a0), (2, (.int .i64 a2)), (3, (.int .i64 a3))]
def out38_1  : List PV := mkS 28 []
def ret38_1  : List PV := mkS 28 []
theorem lq38_1 (C : CallO) (L : LoopO) (σ : Store) (a0 : PV) (a2 : Int) (a3 : Int) : stepKL cfg C L 38 lc38_1 (st38_1 a0 a2 a3) σ =
    if (decide (a2 < a3)) = true then ((indexAddrv Try.prog 25 a0 (.int .i64 a3)).bind fun v0 => (loadv Try.prog σ 28 v0).bind fun v1 => (indexAddrv Try.prog 25 a0 (.int .i64 a2)).bind fun v2 => (loadv Try.prog σ 28 v2).bind fun v3 => (indexAddrv Try.prog 25 a0 (.int .i64 a2)).bind fun v4 => (storev Try.prog σ 28 v4 v1).bind fun s5 => (indexAddrv Try.prog 25 a0 (.int .i64 a3)).bind fun v6 => (storev Try.prog s5 28 v6 v3).bind fun s7 => L 38 lc38_1 (st38_1 a0 (IntKind.wrap .i64 (a2 + 1)) (IntKind.wrap .i64 (a3 - 1))) s7) else (some (.exit 0, out38_1 , σ)) := by kernel_rfl
theorem eq38 (C : CallO) (L : LoopO) (σ : Store) (a0 : PV) : stepK cfg C L 38 [a0] σ =
    (pureB Try.prog .len [25] [a0]).bind fun v0 => asInt .i64 v0 fun n1 => (L 38 lc38_1 (st38_1 a0 0 (IntKind.wrap .i64 (n1 - 1))) σ).bind fun r2 => onEx r2.1 (fun i2 => if i2 = 0 then (some ((.tuple []), r2.2.2)) else (none)) (none) := by kernel_rfl


end Go.Pvm.S
