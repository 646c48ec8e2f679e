/- Part of the proof: what each function of the program comes to over values alone, spelled out (printed by a program of this repo, from the program's code). -/
import Derived.Test.YtkipbdbmeanffaaEqK
import Derived.Test.YtkipbdbmeanffaaProg
import Derived.KernelRfl
set_option linter.unusedVariables false
set_option maxRecDepth 100000
namespace Go.Pvm.S
open Go.Pvm Go.Proofs
set_option maxHeartbeats 4000000

/-! ### 46: slices.medianOrdered[int]  -/
theorem eqK46 (C : CallK) (L : LoopK) (a1 : Int) (a2 : Int) (a3 : Int) (o0 : List (List PV)) (o1_0 : Int) : stepKK cfg kcfg C L 46 [(whole 0 1), (.int .i64 a1), (.int .i64 a2), (.int .i64 a3), (.ref 1 0 0)] [(.made true 1 o0), (.box true 3 [(.int .i64 o1_0)])] =
    (C 47 [(whole 0 1), (.int .i64 a1), (.int .i64 a2), (.ref 1 0 0)] [(.made true 1 o0), (.box true 3 [(.int .i64 o1_0)])]).bind fun x2889 => asTup x2889.1 fun c2890 => asCons c2890 fun v2891 r2891 => asInt .i64 v2891 fun n2892 => asCons r2891 fun v2893 r2893 => asInt .i64 v2893 fun n2894 => asNil r2893 (asOCons x2889.2 fun o2895 r2895 => asMade true 1 o2895 fun l2896 => asOCons r2895 fun o2897 r2897 => asBox true 3 o2897 fun c2898 => asCons c2898 fun v2899 r2899 => asInt .i64 v2899 fun n2900 => asNil r2899 (asONil r2897 ((C 47 [(whole 0 1), (.int .i64 n2894), (.int .i64 a3), (.ref 1 0 0)] [(.made true 1 l2896), (.box true 3 [(.int .i64 n2900)])]).bind fun x2901 => asTup x2901.1 fun c2902 => asCons c2902 fun v2903 r2903 => asInt .i64 v2903 fun n2904 => asCons r2903 fun v2905 r2905 => asInt .i64 v2905 fun n2906 => asNil r2905 (asOCons x2901.2 fun o2907 r2907 => asMade true 1 o2907 fun l2908 => asOCons r2907 fun o2909 r2909 => asBox true 3 o2909 fun c2910 => asCons c2910 fun v2911 r2911 => asInt .i64 v2911 fun n2912 => asNil r2911 (asONil r2909 ((C 47 [(whole 0 1), (.int .i64 n2892), (.int .i64 n2904), (.ref 1 0 0)] [(.made true 1 l2908), (.box true 3 [(.int .i64 n2912)])]).bind fun x2913 => asTup x2913.1 fun c2914 => asCons c2914 fun v2915 r2915 => asInt .i64 v2915 fun n2916 => asCons r2915 fun v2917 r2917 => asInt .i64 v2917 fun n2918 => asNil r2917 (asOCons x2913.2 fun o2919 r2919 => asMade true 1 o2919 fun l2920 => asOCons r2919 fun o2921 r2921 => asBox true 3 o2921 fun c2922 => asCons c2922 fun v2923 r2923 => asInt .i64 v2923 fun n2924 => asNil r2923 (asONil r2921 (some ((.int .i64 n2918), [(.made true 1 l2920), (.box true 3 [(.int .i64 n2924)])])))))))))) := by kernel_rfl

/-! ### 47: slices.order2Ordered[int]  -/
theorem eqK47 (C : CallK) (L : LoopK) (a1 : Int) (a2 : Int) (o0 : List (List PV)) (o1_0 : Int) : stepKK cfg kcfg C L 47 [(whole 0 1), (.int .i64 a1), (.int .i64 a2), (.ref 1 0 0)] [(.made true 1 o0), (.box true 3 [(.int .i64 o1_0)])] =
    if 0 ≤ a2 ∧ a2 < ((List.length o0 : Nat) : Int) then ((o0[(Int.toNat a2)]?).bind fun e2925 => (partOf Try.prog 3 e2925 0).bind fun v2925 => asInt .i64 v2925 fun n2926 => if 0 ≤ a1 ∧ a1 < ((List.length o0 : Nat) : Int) then ((o0[(Int.toNat a1)]?).bind fun e2927 => (partOf Try.prog 3 e2927 0).bind fun v2927 => asInt .i64 v2927 fun n2928 => (pcall C 28 [(.int .i64 n2926), (.int .i64 n2928)]).bind fun v2929 => asBool v2929 fun b2930 => if b2930 = true then (some ((.tuple [(.int .i64 a2), (.int .i64 a1)]), [(.made true 1 o0), (.box true 3 [(.int .i64 (IntKind.wrap .i64 (o1_0 + 1)))])])) else (some ((.tuple [(.int .i64 a1), (.int .i64 a2)]), [(.made true 1 o0), (.box true 3 [(.int .i64 o1_0)])]))) else none) else none := by kernel_rfl


end Go.Pvm.S
