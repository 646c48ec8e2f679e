/- Part of the proof: what each function of the program comes to over values alone, spelled out (printed by a program of this repo, from the program's code). -/
import Derived.Test.YtceokplopachgaaEqK
import Derived.Test.YtceokplopachgaaProg
import Derived.KernelRfl
set_option linter.unusedVariables false
set_option maxRecDepth 100000
namespace Go.Pvm.S
open Go.Pvm Go.Proofs
set_option maxHeartbeats 4000000
theorem zzb (C : xj) (L : ju) (A : Int) (B : Int)  : jf cfg za5 C L 81 [.int .u64 A,.int .u64 B] [] =
  (jm C 90 [.int .u64 A,.int .u64 B]).bind fun D => zlj D fun E => zd0 .u64 E fun F G => zd0 .u64 G fun H I => qz I (some ((.tuple [.int .u64 F,.int .u64 H]),[])) := by kernel_rfl
noncomputable def zaz : Code := wd Try.prog 84 0
def zaq (a0 : Rws) (a1_0_0 : Int) (a7 : Int) (a8 : Int) : List PV := mkS 19 [(0,(.psl false a0)),(1,(.func 85 [.pref [.int .i64 a1_0_0]])),(7,(.int .i64 a7)),(8,(.int .i64 a8))]
theorem zgj (C : xj) (L : ju) (B : Rws) (a1_0_0 : Int) (D : Int) (A : Int)  : jj cfg za5 C L 84 zaz 0 (zaq B a1_0_0 D A) [] =
  if (decide (A < D)) = true then (if (0 : Int) ≤ A then ((B[Int.toNat A]?).bind fun E => zd0 .i64 E fun F G => zvw G fun H I => zvw I fun J K => qz K ((jm C 85 [(.agg [.int .i64 F,.bool H,.bool J]),.pref [.int .i64 a1_0_0]]).bind fun M => asBool M fun N => if N = true then (some (.ret,mkS 19 [(4,(.int .i64 A))],[])) else (L 84 zaz 0 (zaq B a1_0_0 D (IntKind.wrap .i64 (A + 1))) []))) else none) else (some ((.exit 0),mkS 19 [],[])) := by kernel_rfl
theorem zs2 (C : xj) (L : ju) (B : Rws) (a1_0_0 : Int)  : jf cfg za5 C L 84 [.psl false B,.func 85 [.pref [.int .i64 a1_0_0]]] [] =
  (L 84 zaz 0 (zaq B a1_0_0 ((List.length B : Nat) : Int) 0) []).bind fun A => zgf A.1 (fun D => qp A.2.2 (if D = 0 then (some ((.int .i64 (-1)),[])) else (none))) (asInt .i64 (gS A 4) fun E => qp A.2.2 (some ((.int .i64 E),[]))) := by kernel_rfl
end Go.Pvm.S
