/- Part of the proof: what a row's arguments are, for edges. -/
import Derived.Test.YtgchbgaicgbebaaEdgeJ
import Derived.Test.YtgchbgaicgbebaaEdgeA
import Derived.Test.YtgchbgaicgbebaaQ2
import Derived.Test.YtgchbgaicgbebaaRows
set_option linter.unusedSimpArgs false
set_option linter.unusedVariables false
set_option maxRecDepth 100000
namespace Go.Pvm.S
open Go.Pvm Go.Proofs
theorem aInt : ArgK Try.prog 3 ie (fun n => (-9223372036854775808 : Int) ≤ n ∧ n ≤ 9223372036854775807) := ArgK.int (k := .i64) (by kernel_rfl)
noncomputable def fsE : Array Field := match Try.prog.underlying 37 with | some (.struct fs) => fs | _ => #[]
theorem uE : Try.prog.underlying 37 = some (.struct fsE) := by kernel_rfl
theorem aE : ArgK Try.prog 37 Ed.e (fun _ => True) := fun top n c h => by
  obtain ⟨m, parts, rfl, hl, hp⟩ := wt_struct uE h
  have hs : fsE.size = 2 := by kernel_rfl
  rw [hs] at hl
  have f0 : (fsE[0]?).map (·.type) = some 3 := by kernel_rfl
  have f1 : (fsE[1]?).map (·.type) = some 3 := by kernel_rfl
  match parts, hl with
  | [a, b], _ =>
    obtain ⟨x0, e0, t0⟩ := Option.map_eq_some_iff.1 f0
    obtain ⟨x1, e1, t1⟩ := Option.map_eq_some_iff.1 f1
    have w0 := (hp 0 x0 a e0 rfl).2
    have w1 := (hp 1 x1 b e1 rfl).2
    rw [t0] at w0; rw [t1] at w1
    obtain ⟨s, v0, _⟩ := aInt _ _ _ w0
    obtain ⟨n, v1, _⟩ := aInt _ _ _ w1
    refine ⟨⟨s, n⟩, ?_, trivial⟩
    show VFs (ie s ++ ie n) (a ++ (b ++ []))
    rw [List.append_nil]
    exact v0.append v1
noncomputable def fsS : Array Field := match Try.prog.underlying 35 with | some (.struct fs) => fs | _ => #[]
theorem uS : Try.prog.underlying 35 = some (.struct fsS) := by kernel_rfl
theorem aS : ArgK Try.prog 35 Spn.e (fun _ => True) := fun top n c h => by
  obtain ⟨m, parts, rfl, hl, hp⟩ := wt_struct uS h
  have hs : fsS.size = 3 := by kernel_rfl
  rw [hs] at hl
  have f0 : (fsS[0]?).map (·.type) = some 3 := by kernel_rfl
  have f1 : (fsS[1]?).map (·.type) = some 3 := by kernel_rfl
  have f2 : (fsS[2]?).map (·.type) = some 3 := by kernel_rfl
  match parts, hl with
  | [a, b, c], _ =>
    obtain ⟨x0, e0, t0⟩ := Option.map_eq_some_iff.1 f0
    obtain ⟨x1, e1, t1⟩ := Option.map_eq_some_iff.1 f1
    obtain ⟨x2, e2, t2⟩ := Option.map_eq_some_iff.1 f2
    have w0 := (hp 0 x0 a e0 rfl).2
    have w1 := (hp 1 x1 b e1 rfl).2
    have w2 := (hp 2 x2 c e2 rfl).2
    rw [t0] at w0; rw [t1] at w1; rw [t2] at w2
    obtain ⟨s, v0, _⟩ := aInt _ _ _ w0
    obtain ⟨n, v1, _⟩ := aInt _ _ _ w1
    obtain ⟨q, v2, _⟩ := aInt _ _ _ w2
    refine ⟨⟨s, n, q⟩, ?_, trivial⟩
    show VFs (ie s ++ (ie n ++ ie q)) (a ++ (b ++ (c ++ [])))
    rw [List.append_nil]
    exact v0.append (v1.append v2)
theorem byE : 1 ≤ Try.prog.bytesOf 37 := by rw [show Try.prog.bytesOf 37 = 16 from by kernel_rfl]; decide
theorem byS : 1 ≤ Try.prog.bytesOf 35 := by rw [show Try.prog.bytesOf 35 = 24 from by kernel_rfl]; decide
theorem aEs : ArgK Try.prog 22 (fun l : List Ed => [.psl false (l.map Ed.e)]) (fun l => l.length * Try.prog.bytesOf 37 ≤ reachBytes ∧ ∀ a ∈ l, True) := ArgK.slice (by kernel_rfl) (by rw [show Try.prog.cellsOf 37 = 2 from by kernel_rfl]; decide) aE
theorem aSs : ArgK Try.prog 23 (fun l : List Spn => [.psl false (l.map Spn.e)]) (fun l => l.length * Try.prog.bytesOf 35 ≤ reachBytes ∧ ∀ a ∈ l, True) := ArgK.slice (by kernel_rfl) (by rw [show Try.prog.cellsOf 35 = 3 from by kernel_rfl]; decide) aS
theorem argEs {x : PV} (h : WTV Try.prog 22 x) : ∃ l : List Ed, VF (.psl false (l.map Ed.e)) x ∧ l.length < 4611686018427387904 := by
  obtain ⟨l, h1, h2, _⟩ := ArgK.one (e := fun l : List Ed => .psl false (l.map Ed.e)) aEs (by kernel_rfl) h
  refine ⟨l, h1, ?_⟩
  have := reach62
  have := Nat.mul_le_mul_left l.length byE
  omega
theorem argSs {x : PV} (h : WTV Try.prog 23 x) : ∃ l : List Spn, VF (.psl false (l.map Spn.e)) x ∧ l.length < 4611686018427387904 := by
  obtain ⟨l, h1, h2, _⟩ := ArgK.one (e := fun l : List Spn => .psl false (l.map Spn.e)) aSs (by kernel_rfl) h
  refine ⟨l, h1, ?_⟩
  have := reach62
  have := Nat.mul_le_mul_left l.length byS
  omega
theorem argI {x : PV} (h : WTV Try.prog 3 x) : ∃ n : Int, VF (.int .i64 n) x := by
  obtain ⟨n, h1, _⟩ := ArgK.one (e := fun n : Int => .int .i64 n) aInt (by kernel_rfl) h
  exact ⟨n, h1⟩
end Go.Pvm.S
