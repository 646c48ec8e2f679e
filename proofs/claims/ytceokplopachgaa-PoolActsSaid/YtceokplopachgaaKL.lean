/- Part of the proof: ways of the proofs over values alone: loops over lists, numbers. -/
import Derived.Test.YtceokplopachgaaEqK
import Derived.Test.YtceokplopachgaaP4
set_option linter.unusedSimpArgs false
set_option linter.unusedVariables false
namespace Go.Pvm.S
open Go.Pvm Go.Proofs
noncomputable abbrev Cω : xj := qy cfg za5
noncomputable abbrev Lω : ju := zdh cfg za5
theorem lw {f : FuncId} {cd : Code} {n0 : Nat} {e : List PV} {A : List KO} {r : Ex × List PV × List KO} (h : jj cfg za5 Cω Lω f cd n0 e A = some r) : Lω f cd n0 e A = some r := zqi h
theorem cw {f : FuncId} {e : List PV} {A : List KO} {r : PV × List KO} (h : jf cfg za5 Cω Lω f e A = some r) : Cω f e A = some r := zjp h
theorem pc {f : FuncId} {a : List PV} {v w : PV} {A : List KO} (h : jf cfg za5 Cω Lω f a [] = some (v,A)) (hf : fzK zp A v = w) : jm Cω f a = some w := zsc h hf
theorem zdf {α : Type} {f : α → List PV} {l : List α} {i : Nat} {a : α} (h : l[i]? = some a) : (l.map f)[i]? = some (f a) := by rw [hav,h]; rfl
theorem zp6 {α : Type} {f : α → List PV} {l : List α} {i : Nat} {a : α} (h : l[i]? = some a) : (l.map f).getD i [] = f a := by rw [hai,zdf h]; rfl
theorem zz8 (t : TypeId) {x y : Int} (h : y ≠ 0) : j9 Try.prog .rem t (.int .i64 x) (.int .i64 y) = some (.int .i64 (x.tmod y)) := by
 simp [j9,zln,h]
def ie (n : Int) : List PV := [.int .i64 n]
end Go.Pvm.S
