/- Part of the proof: what a row's arguments are, for numbers; what is told. -/
import Derived.Test.YtkipbdbmeanffaaVmF
import Derived.Test.YtkipbdbmeanffaaQ2
import Derived.Test.YtkipbdbmeanffaaLays189
import Derived.Test.YtkipbdbmeanffaaRows
set_option linter.unusedSimpArgs false
set_option linter.unusedVariables false
set_option maxRecDepth 100000
namespace Go.Pvm.S
open Go.Pvm Go.Proofs
theorem toldOk : ∀ f u, toldOf f = some u → ToldOk Try.prog f (wordv Try.prog u) := by
  intro f u h
  unfold toldOf at h
  split at h
  all_goals first | (cases h; done) | (cases h; exact sortTold)
theorem hT : Tolds cfg := fun f g h => by
  have h' : (toldOf f).map (wordv Try.prog) = some g := h
  rw [Option.map_eq_some_iff] at h'
  obtain ⟨u, hu, rfl⟩ := h'
  exact toldOk f u hu
theorem ownOk : OwnOk kcfg Try.prog (callω cfg) where
  own := by
    intro g sz h hg args es he
    have hg' : ownOf g = some (sz, h) := hg
    unfold ownOf at hg'
    cases hg'
  told := fun g u hu args σ => callω_told (by show (toldOf g).map (wordv Try.prog) = _; rw [show toldOf g = some u from hu]; rfl) args σ
theorem aInt : ArgK Try.prog 3 ie (fun n => (-9223372036854775808 : Int) ≤ n ∧ n ≤ 9223372036854775807) := ArgK.int (k := .i64) (by kernel_rfl)
theorem byInt : Try.prog.bytesOf 3 = 8 := by kernel_rfl
theorem aInts : ArgK Try.prog 22 (fun l : List Int => [.psl false (l.map ie)]) (fun l => l.length * Try.prog.bytesOf 3 ≤ reachBytes ∧ ∀ a ∈ l, (-9223372036854775808 : Int) ≤ a ∧ a ≤ 9223372036854775807) := ArgK.slice (by kernel_rfl) (by rw [show Try.prog.cellsOf 3 = 1 from by kernel_rfl]; decide) aInt
theorem argInts {x : PV} (h : WTV Try.prog 22 x) : ∃ l : List Int, VF (.psl false (l.map ie)) x ∧ l.length < 4611686018427387904 := by
  obtain ⟨l, h1, h2, _⟩ := ArgK.one (e := fun l : List Int => .psl false (l.map ie)) aInts (by kernel_rfl) h
  rw [byInt] at h2
  have := reach62
  exact ⟨l, h1, by omega⟩
theorem argI {x : PV} (h : WTV Try.prog 3 x) : ∃ n : Int, VF (.int .i64 n) x ∧ (-9223372036854775808 : Int) ≤ n ∧ n ≤ 9223372036854775807 := ArgK.one (e := fun n : Int => .int .i64 n) aInt (by kernel_rfl) h
end Go.Pvm.S
