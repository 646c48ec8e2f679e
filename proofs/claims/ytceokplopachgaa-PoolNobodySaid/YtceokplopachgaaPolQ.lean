/- Part of the proof: what is read is what was put last. -/
import Derived.Test.YtceokplopachgaaPolP
set_option linter.unusedSimpArgs false
set_option linter.unusedVariables false
set_option maxRecDepth 100000
namespace Go.Pvm.S
open Go.Pvm Go.Proofs
structure BoxA (g : Nat → Nat) (σ : Store) (x : Nat) (a : Ac) : Prop where
 g11 : g x = 11
 lt : x < σ.next
 ob : ∃ u v,σ.objs x = some (.cells 0 [[.int .i64 a.d,.int .i64 a.g,u,.int .i64 a.n,v]]) ∧ IsS RB u a.b ∧ IsS RBo v a.p
section
variable {P n w t : Nat} {T : Int} {did pid mid x i : Nat} {g g' : Nat → Nat} {σ τ : Store} {p : Po} {u a1 : PV} {b : By} {a : Ac} {l : List Ac}
theorem BoxA.out (h : BoxA g σ x a) (k : OutP g σ g' τ) : BoxA g' τ x a :=
 let ⟨u,v,h1,h2⟩ := h.ob
 ⟨by rw [k.2.1 x h.lt]; exact h.g11,Nat.lt_of_lt_of_le h.lt k.1,u,v,(k.same h.lt (by rw [h.g11]; decide)).trans h1,h2⟩
theorem BoxA.nn (h : BoxA g σ x a) : zd Try.prog σ 3 (.ref x 0 (0 + 3)) = some (.int .i64 a.n) := by obtain ⟨u,v,h1,_⟩ := h.ob; exact qc oInt h1 rfl
theorem BoxA.bb (h : BoxA g σ x a) : ∃ u,zd Try.prog σ 33 (.ref x 0 (0 + 2)) = some u ∧ IsS RB u a.b := by obtain ⟨u,v,h1,h2,_⟩ := h.ob; exact ⟨u,qc otB h1 rfl,h2⟩
end
section
variable {P n w t : Nat} {T : Int} {did pid mid x i wid : Nat} {g g' : Nat → Nat} {σ τ s : Store} {p : Po} {u a1 : PV} {b : By} {a : Ac} {l : List Ac} {was : List By}
end
end Go.Pvm.S
