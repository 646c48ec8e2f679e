/- Part of the proof: what each function of the program comes to over values alone, spelled out (printed by a program of this repo, from the program's code). -/
import Derived.Test.YtgchbgaicgbebaaEqK
import Derived.Test.YtgchbgaicgbebaaProg
import Derived.KernelRfl
set_option linter.unusedVariables false
set_option maxRecDepth 100000
namespace Go.Pvm.S
open Go.Pvm Go.Proofs
set_option maxHeartbeats 4000000

/-! ### 36: humus/edge.span  -/
theorem eqK36 (C : CallK) (L : LoopK) (a0 : List (List PV)) (a1 : Int)  : stepKK cfg kcfg C L 36 [(.psl false a0), (.int .i64 a1)] [] =
    (pcall C 45 [(.psl false a0), (.int .i64 a1), (.func 46 [])]).bind fun v712 => asTup v712 fun c713 => asCons c713 fun v714 r714 => asInt .i64 v714 fun n715 => asCons r714 fun v716 r716 => asBool v716 fun b717 => asNil r716 (if (!b717) = true then (some ((.tuple [(.agg [(.int .i64 0), (.int .i64 0), (.int .i64 0)]), (.bool false)]), [])) else (if (0 : Int) ≤ n715 then ((a0[Int.toNat n715]?).bind fun e718 => asCons e718 fun v719 r719 => asInt .i64 v719 fun n720 => asCons r719 fun v721 r721 => asInt .i64 v721 fun n722 => asCons r721 fun v723 r723 => asInt .i64 v723 fun n724 => asNil r723 (some ((.tuple [(.agg [(.int .i64 n720), (.int .i64 n722), (.int .i64 n724)]), (.bool true)]), []))) else none)) := by kernel_rfl

/-! ### 37: humus/edge.ahead  -/
theorem eqK37 (C : CallK) (L : LoopK) (a0_0 : Int) (a0_1 : Int) (a0_2 : Int) (a1_0 : Int) (a1_1 : Int) (a1_2 : Int)  : stepKK cfg kcfg C L 37 [(.agg [(.int .i64 a0_0), (.int .i64 a0_1), (.int .i64 a0_2)]), (.agg [(.int .i64 a1_0), (.int .i64 a1_1), (.int .i64 a1_2)])] [] =
    if (a0_2 != 0) = true then (some ((.bool (decide (a0_2 < a1_2))), [])) else (some ((.bool false), [])) := by kernel_rfl

/-! ### 40: slices.IndexFunc[[]humus/api.Edge,humus/api.Edge] _30 -/
noncomputable def lcK40_2_30 : Code := loopAt Try.prog 40 0
def stK40_2_30 (a0 : List (List PV)) (a1_0_0 : Int) (a7 : Int) (a8 : Int) : List PV := mkS 19 [(0, (.psl false a0)), (1, (.func 30 [(.pref [(.int .i64 a1_0_0)])])), (7, (.int .i64 a7)), (8, (.int .i64 a8))]
theorem lqK40_2_30 (C : CallK) (L : LoopK) (a0 : List (List PV)) (a1_0_0 : Int) (a7 : Int) (a8 : Int)  : stepLKK cfg kcfg C L 40 lcK40_2_30 0 (stK40_2_30 a0 a1_0_0 a7 a8) [] =
    if (decide (a8 < a7)) = true then (if (0 : Int) ≤ a8 then ((a0[Int.toNat a8]?).bind fun e725 => asCons e725 fun v726 r726 => asInt .i64 v726 fun n727 => asCons r726 fun v728 r728 => asInt .i64 v728 fun n729 => asNil r728 ((pcall C 30 [(.agg [(.int .i64 n727), (.int .i64 n729)]), (.pref [(.int .i64 a1_0_0)])]).bind fun v730 => asBool v730 fun b731 => if b731 = true then (some (.ret, mkS 19 [(4, (.int .i64 a8))], [])) else (L 40 lcK40_2_30 0 (stK40_2_30 a0 a1_0_0 a7 (IntKind.wrap .i64 (a8 + 1))) []))) else none) else (some ((.exit 0), mkS 19 [], [])) := by kernel_rfl
theorem eqK40_30 (C : CallK) (L : LoopK) (a0 : List (List PV)) (a1_0_0 : Int)  : stepKK cfg kcfg C L 40 [(.psl false a0), (.func 30 [(.pref [(.int .i64 a1_0_0)])])] [] =
    (L 40 lcK40_2_30 0 (stK40_2_30 a0 a1_0_0 ((List.length a0 : Nat) : Int) 0) []).bind fun x732 => onEx x732.1 (fun i732 => asONil x732.2.2 (if i732 = 0 then (some ((.int .i64 (-1)), [])) else (none))) (asInt .i64 (List.getD x732.2.1 4 .undef) fun n733 => asONil x732.2.2 (some ((.int .i64 n733), []))) := by kernel_rfl

/-! ### 30: humus/edge.Drop$1  -/
theorem eqK30 (C : CallK) (L : LoopK) (a0_0 : Int) (a0_1 : Int) (a1_0 : Int)  : stepKK cfg kcfg C L 30 [(.agg [(.int .i64 a0_0), (.int .i64 a0_1)]), (.pref [(.int .i64 a1_0)])] [] =
    if (a0_0 == a1_0) = true then (some ((.bool true), [])) else (some ((.bool (a0_1 == a1_0)), [])) := by kernel_rfl

/-! ### 42: cmp.Compare[int]  -/
theorem eqK42 (C : CallK) (L : LoopK) (a0 : Int) (a1 : Int)  : stepKK cfg kcfg C L 42 [(.int .i64 a0), (.int .i64 a1)] [] =
    (pcall C 58 [(.int .i64 a0)]).bind fun v734 => asBool v734 fun b735 => (pcall C 58 [(.int .i64 a1)]).bind fun v736 => asBool v736 fun b737 => if b735 = true then (if b737 = true then (some ((.int .i64 0), [])) else (some ((.int .i64 (-1)), []))) else (if b737 = true then (some ((.int .i64 1), [])) else (if (decide (a0 < a1)) = true then (some ((.int .i64 (-1)), [])) else (if (decide (a0 > a1)) = true then (some ((.int .i64 1), [])) else (some ((.int .i64 0), []))))) := by kernel_rfl

/-! ### 41: cmp.Or[int]  -/
noncomputable def lcK41_3 : Code := loopAt Try.prog 41 0
def stK41_3 (a3 : Int) (a6 : List (List PV)) (a7 : Int) (a8 : Int) : List PV := mkS 18 [(3, (.int .i64 a3)), (6, (.psl false a6)), (7, (.int .i64 a7)), (8, (.int .i64 a8))]
theorem lqK41_3 (C : CallK) (L : LoopK) (a3 : Int) (a6 : List (List PV)) (a7 : Int) (a8 : Int)  : stepLKK cfg kcfg C L 41 lcK41_3 0 (stK41_3 a3 a6 a7 a8) [] =
    if (decide (a8 < a7)) = true then (if (0 : Int) ≤ a8 then ((a6[Int.toNat a8]?).bind fun e738 => asCons e738 fun v739 r739 => asInt .i64 v739 fun n740 => asNil r739 (if (n740 != a3) = true then (some (.ret, mkS 18 [(2, (.int .i64 n740))], [])) else (L 41 lcK41_3 0 (stK41_3 a3 a6 a7 (IntKind.wrap .i64 (a8 + 1))) []))) else none) else (some ((.exit 0), mkS 18 [(3, (.int .i64 a3))], [])) := by kernel_rfl
theorem eqK41 (C : CallK) (L : LoopK) (a0 : List (List PV))  : stepKK cfg kcfg C L 41 [(.psl false a0)] [] =
    (L 41 lcK41_3 0 (stK41_3 0 a0 ((List.length a0 : Nat) : Int) 0) []).bind fun x741 => onEx x741.1 (fun i741 => asInt .i64 (List.getD x741.2.1 3 .undef) fun n742 => asONil x741.2.2 (if i741 = 0 then (some ((.int .i64 n742), [])) else (none))) (asInt .i64 (List.getD x741.2.1 2 .undef) fun n743 => asONil x741.2.2 (some ((.int .i64 n743), []))) := by kernel_rfl

/-! ### 45: slices.BinarySearchFunc[[]humus/api.Span,humus/api.Span,int] _46 -/
noncomputable def lcK45_3_46 : Code := loopAt Try.prog 45 0
def stK45_3_46 (a0 : List (List PV)) (a1 : Int) (a8 : Int) (a9 : Int) (a10 : Int) : List PV := mkS 49 [(0, (.psl false a0)), (1, (.int .i64 a1)), (2, (.func 46 [])), (8, (.int .i64 a8)), (9, (.int .i64 a9)), (10, (.int .i64 a10))]
theorem lqK45_3_46 (C : CallK) (L : LoopK) (a0 : List (List PV)) (a1 : Int) (a8 : Int) (a9 : Int) (a10 : Int)  : stepLKK cfg kcfg C L 45 lcK45_3_46 0 (stK45_3_46 a0 a1 a8 a9 a10) [] =
    if (decide (a9 < a10)) = true then (if (0 : Int) ≤ (IntKind.wrap .i64 (Int.fdiv (IntKind.wrap .u64 (IntKind.wrap .i64 (a9 + a10))) (2 ^ (min (Int.toNat 1) (IntKind.bits .u64))))) then ((a0[Int.toNat (IntKind.wrap .i64 (Int.fdiv (IntKind.wrap .u64 (IntKind.wrap .i64 (a9 + a10))) (2 ^ (min (Int.toNat 1) (IntKind.bits .u64)))))]?).bind fun e744 => asCons e744 fun v745 r745 => asInt .i64 v745 fun n746 => asCons r745 fun v747 r747 => asInt .i64 v747 fun n748 => asCons r747 fun v749 r749 => asInt .i64 v749 fun n750 => asNil r749 ((pcall C 46 [(.agg [(.int .i64 n746), (.int .i64 n748), (.int .i64 n750)]), (.int .i64 a1)]).bind fun v751 => asInt .i64 v751 fun n752 => if (decide (n752 < 0)) = true then (L 45 lcK45_3_46 0 (stK45_3_46 a0 a1 a8 (IntKind.wrap .i64 ((IntKind.wrap .i64 (Int.fdiv (IntKind.wrap .u64 (IntKind.wrap .i64 (a9 + a10))) (2 ^ (min (Int.toNat 1) (IntKind.bits .u64))))) + 1)) a10) []) else (L 45 lcK45_3_46 0 (stK45_3_46 a0 a1 a8 a9 (IntKind.wrap .i64 (Int.fdiv (IntKind.wrap .u64 (IntKind.wrap .i64 (a9 + a10))) (2 ^ (min (Int.toNat 1) (IntKind.bits .u64)))))) []))) else none) else (some ((.exit 0), mkS 49 [(0, (.psl false a0)), (1, (.int .i64 a1)), (2, (.func 46 [])), (8, (.int .i64 a8)), (9, (.int .i64 a9))], [])) := by kernel_rfl
theorem eqK45_46 (C : CallK) (L : LoopK) (a0 : List (List PV)) (a1 : Int)  : stepKK cfg kcfg C L 45 [(.psl false a0), (.int .i64 a1), (.func 46 [])] [] =
    (L 45 lcK45_3_46 0 (stK45_3_46 a0 a1 ((List.length a0 : Nat) : Int) 0 ((List.length a0 : Nat) : Int)) []).bind fun x753 => onEx x753.1 (fun i753 => asSl (List.getD x753.2.1 0 .undef) fun l754 => asInt .i64 (List.getD x753.2.1 1 .undef) fun n755 => asFn 46 (List.getD x753.2.1 2 .undef) fun c756 => asNil c756 (asInt .i64 (List.getD x753.2.1 8 .undef) fun n757 => asInt .i64 (List.getD x753.2.1 9 .undef) fun n758 => asONil x753.2.2 (if i753 = 0 then (if (decide (n758 < n757)) = true then (if (0 : Int) ≤ n758 then ((l754[Int.toNat n758]?).bind fun e759 => asCons e759 fun v760 r760 => asInt .i64 v760 fun n761 => asCons r760 fun v762 r762 => asInt .i64 v762 fun n763 => asCons r762 fun v764 r764 => asInt .i64 v764 fun n765 => asNil r764 ((pcall C 46 [(.agg [(.int .i64 n761), (.int .i64 n763), (.int .i64 n765)]), (.int .i64 n755)]).bind fun v766 => asInt .i64 v766 fun n767 => some ((.tuple [(.int .i64 n758), (.bool (n767 == 0))]), []))) else none) else (some ((.tuple [(.int .i64 n758), (.bool false)]), []))) else (none)))) (none) := by kernel_rfl

/-! ### 58: cmp.isNaN[int]  -/
theorem eqK58 (C : CallK) (L : LoopK) (a0 : Int)  : stepKK cfg kcfg C L 58 [(.int .i64 a0)] [] =
    some ((.bool (a0 != a0)), []) := by kernel_rfl

/-! ### 46: humus/edge.span$1  -/
theorem eqK46 (C : CallK) (L : LoopK) (a0_0 : Int) (a0_1 : Int) (a0_2 : Int) (a1 : Int)  : stepKK cfg kcfg C L 46 [(.agg [(.int .i64 a0_0), (.int .i64 a0_1), (.int .i64 a0_2)]), (.int .i64 a1)] [] =
    (pcall C 42 [(.int .i64 a0_0), (.int .i64 a1)]).bind fun v768 => asInt .i64 v768 fun n769 => some ((.int .i64 n769), []) := by kernel_rfl


end Go.Pvm.S
