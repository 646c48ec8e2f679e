/- Part of the proof: the seat's maps.Keys and slices.Sorted are the library's (printed by a program of this repo). -/
import Derived.Test.YtceokplopachgaaLays189
import Derived.Test.YtceokplopachgaaP6
import Derived.Test.YtceokplopachgaaProg
import Derived.KernelRfl
set_option maxRecDepth 100000
namespace Go.Pvm.S
open Go.Pvm Go.Proofs
def skr : Go.Shelf.Ren := ⟨fun n => match n with
 | 6 => 43
 | 7 => 44
 | 8 => 69
 | 9 => 70
 | 10 => 71
 | 11 => 86
 | _ => 0,fun n => match n with
 | 0 => 0
 | 3 => 89
 | 4 => 4
 | 23 => 47
 | 24 => 50
 | 26 => 3
 | 27 => 96
 | 28 => 97
 | 33 => 100
 | _ => 0,fun _ => 0⟩
theorem zvr : Bears Try.prog (skr.f 6) (SlBodyZ.n6 skr) := Exists.intro "slices.Sorted[int]" (And.intro (by kernel_rfl) (by kernel_rfl))
theorem zvq : Bears Try.prog (skr.f 7) (SlBodyZ.n7 skr) := Exists.intro "maps.Keys[map[int]*humus/pool.sheet,int,*humus/pool.sheet]" (And.intro (by kernel_rfl) (by kernel_rfl))
theorem zvp : Bears Try.prog (skr.f 8) (SlBodyZ.n8 skr) := Exists.intro "slices.Collect[int]" (And.intro (by kernel_rfl) (by kernel_rfl))
theorem zrf : Bears Try.prog (skr.f 10) (SlBodyZ.n10 skr) := Exists.intro "maps.Keys[map[int]*humus/pool.sheet,int,*humus/pool.sheet]$1" (And.intro (by kernel_rfl) (by kernel_rfl))
theorem zvo : Bears Try.prog (skr.f 11) (SlBodyZ.n11 skr) := Exists.intro "slices.AppendSeq[[]int,int]" (And.intro (by kernel_rfl) (by kernel_rfl))
theorem zxd : SlLaysZI.n6 Try.prog skr where
 mixed := by kernel_rfl
 f6 := zvr
 f8 := zvp
 f11 := zvo
 t0 := by kernel_rfl
 a0 := fun w => by kernel_rfl
 z0 := fun w => by kernel_rfl
 v0 := fun w => by kernel_rfl
 t24 := by kernel_rfl
 a24 := fun w => by kernel_rfl
 z24 := fun w => by kernel_rfl
 v24 := fun w => by kernel_rfl
 t26 := by kernel_rfl
 a26 := fun w => by kernel_rfl
 z26 := fun w => by kernel_rfl
 v26 := fun w => by kernel_rfl
 t28 := by kernel_rfl
 a28 := fun w => by kernel_rfl
 z28 := fun w => by kernel_rfl
 v28 := fun w => by kernel_rfl
 i26 := by kernel_rfl
theorem zxc : SlLaysZI.n7 Try.prog skr where
 mixed := by kernel_rfl
 f7 := zvq
 f10 := zrf
 t0 := by kernel_rfl
 a0 := fun w => by kernel_rfl
 z0 := fun w => by kernel_rfl
 v0 := fun w => by kernel_rfl
 t4 := by kernel_rfl
 a4 := fun w => by kernel_rfl
 z4 := fun w => by kernel_rfl
 v4 := fun w => by kernel_rfl
 t23 := by kernel_rfl
 a23 := fun w => by kernel_rfl
 z23 := fun w => by kernel_rfl
 v23 := fun w => by kernel_rfl
 t26 := by kernel_rfl
 a26 := fun w => by kernel_rfl
 z26 := fun w => by kernel_rfl
 v26 := fun w => by kernel_rfl
 t27 := by kernel_rfl
 a27 := fun w => by kernel_rfl
 z27 := fun w => by kernel_rfl
 v27 := fun w => by kernel_rfl
 t28 := by kernel_rfl
 a28 := fun w => by kernel_rfl
 z28 := fun w => by kernel_rfl
 v28 := fun w => by kernel_rfl
 t33 := by kernel_rfl
 a33 := fun w => by kernel_rfl
 z33 := fun w => by kernel_rfl
 v33 := fun w => by kernel_rfl
theorem zu3 : SlLaysZI.n10 Try.prog skr where
 mixed := by kernel_rfl
 f10 := zrf
 t0 := by kernel_rfl
 a0 := fun w => by kernel_rfl
 z0 := fun w => by kernel_rfl
 v0 := fun w => by kernel_rfl
 t4 := by kernel_rfl
 a4 := fun w => by kernel_rfl
 z4 := fun w => by kernel_rfl
 v4 := fun w => by kernel_rfl
 t23 := by kernel_rfl
 a23 := fun w => by kernel_rfl
 z23 := fun w => by kernel_rfl
 v23 := fun w => by kernel_rfl
 t26 := by kernel_rfl
 a26 := fun w => by kernel_rfl
 z26 := fun w => by kernel_rfl
 v26 := fun w => by kernel_rfl
 t33 := by kernel_rfl
 a33 := fun w => by kernel_rfl
 z33 := fun w => by kernel_rfl
 v33 := fun w => by kernel_rfl
theorem zss : ToldOk Try.prog 44 (zef Try.prog (.keys 71)) := zqp zxc
theorem zng : ToldOk Try.prog 43 (zef Try.prog (.sorted 71)) := zkc zxd zu3 zqn (by kernel_rfl) (enters_of Try.func70 (by kernel_rfl) rfl)
end Go.Pvm.S
