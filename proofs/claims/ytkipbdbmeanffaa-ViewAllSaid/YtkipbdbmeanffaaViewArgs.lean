/- Part of the proof: what a row's arguments are, for views. -/
import Derived.Test.YtkipbdbmeanffaaViewF
import Derived.Test.YtkipbdbmeanffaaKArgs
import Derived.Test.YtkipbdbmeanffaaRows
set_option linter.unusedSimpArgs false
set_option linter.unusedVariables false
set_option maxRecDepth 100000
namespace Go.Pvm.S
open Go.Pvm Go.Proofs
theorem aInt : ArgK Try.prog 3 ie (fun n => (-9223372036854775808 : Int) ≤ n ∧ n ≤ 9223372036854775807) := ArgK.int (k := .i64) (by kernel_rfl)
theorem byInt : Try.prog.bytesOf 3 = 8 := by kernel_rfl
theorem aInts : ArgK Try.prog 22 (fun l : List Int => [.psl false (l.map ie)]) (fun l => l.length * Try.prog.bytesOf 3 ≤ reachBytes ∧ ∀ a ∈ l, (-9223372036854775808 : Int) ≤ a ∧ a ≤ 9223372036854775807) := ArgK.slice (by kernel_rfl) (by rw [show Try.prog.cellsOf 3 = 1 from by kernel_rfl]; decide) aInt
noncomputable def fsV : Array Field := match Try.prog.underlying 25 with | some (.struct fs) => fs | _ => #[]
theorem uView : Try.prog.underlying 25 = some (.struct fsV) := by kernel_rfl
theorem aView : ArgK Try.prog 25 Vw.e (fun v => v.a.length < 4611686018427387904) := fun top n c h => by
  obtain ⟨m, parts, rfl, hl, hp⟩ := wt_struct uView h
  have hs : fsV.size = 3 := by kernel_rfl
  rw [hs] at hl
  have f0 : (fsV[0]?).map (·.type) = some 3 := by kernel_rfl
  have f1 : (fsV[1]?).map (·.type) = some 3 := by kernel_rfl
  have f2 : (fsV[2]?).map (·.type) = some 22 := by kernel_rfl
  match parts, hl with
  | [a, b, c], _ =>
    obtain ⟨x0, e0, t0⟩ := Option.map_eq_some_iff.1 f0
    obtain ⟨x1, e1, t1⟩ := Option.map_eq_some_iff.1 f1
    obtain ⟨x2, e2, t2⟩ := Option.map_eq_some_iff.1 f2
    have w0 := (hp 0 x0 a e0 rfl).2
    have w1 := (hp 1 x1 b e1 rfl).2
    have w2 := (hp 2 x2 c e2 rfl).2
    rw [t0] at w0; rw [t1] at w1; rw [t2] at w2
    obtain ⟨s, v0, _⟩ := aInt _ _ _ w0
    obtain ⟨n, v1, _⟩ := aInt _ _ _ w1
    obtain ⟨l, v2, q, _⟩ := aInts _ _ _ w2
    rw [byInt] at q
    have := reach62
    refine ⟨⟨s, n, l⟩, ?_, by show l.length < _; omega⟩
    show VFs (ie s ++ (ie n ++ [.psl false (l.map ie)])) (a ++ (b ++ (c ++ [])))
    rw [List.append_nil]
    exact v0.append (v1.append v2)
theorem byView : 1 ≤ Try.prog.bytesOf 25 := by rw [show Try.prog.bytesOf 25 = 40 from by kernel_rfl]; decide
theorem aViews : ArgK Try.prog 38 (fun l : List Vw => [.psl false (l.map Vw.e)]) (fun l => l.length * Try.prog.bytesOf 25 ≤ reachBytes ∧ ∀ a ∈ l, a.a.length < 4611686018427387904) := ArgK.slice (by kernel_rfl) (by rw [show Try.prog.cellsOf 25 = 3 from by kernel_rfl]; decide) aView
theorem argView {x : PV} (h : WTV Try.prog 25 x) : ∃ v : Vw, VF (.agg v.e) x ∧ v.a.length < 4611686018427387904 := aView.many (by kernel_rfl) h
theorem argViews {x : PV} (h : WTV Try.prog 38 x) : ∃ l : List Vw, VF (.psl false (l.map Vw.e)) x ∧ l.length < 4611686018427387904 ∧ Sml l := by
  obtain ⟨l, h1, h2, h3⟩ := ArgK.one (e := fun l : List Vw => .psl false (l.map Vw.e)) aViews (by kernel_rfl) h
  refine ⟨l, h1, ?_, h3⟩
  have := reach62
  have := Nat.mul_le_mul_left l.length byView
  omega
theorem argI {x : PV} (h : WTV Try.prog 3 x) : ∃ n : Int, VF (.int .i64 n) x ∧ (-9223372036854775808 : Int) ≤ n ∧ n ≤ 9223372036854775807 := ArgK.one (e := fun n : Int => .int .i64 n) aInt (by kernel_rfl) h
end Go.Pvm.S
