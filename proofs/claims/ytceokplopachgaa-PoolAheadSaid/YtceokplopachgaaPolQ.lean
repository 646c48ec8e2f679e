/- Part of the proof: what is read is what was put last. -/
import Derived.Test.YtceokplopachgaaPolM
set_option linter.unusedSimpArgs false
set_option linter.unusedVariables false
set_option maxRecDepth 100000
namespace Go.Pvm.S
open Go.Pvm Go.Proofs
structure BoxA (g : Nat → Nat) (σ : Store) (x : Nat) (a : Ac) : Prop where
 g11 : g x = 11
 lt : x < σ.next
 ob : ∃ u v,σ.objs x = some (.cells 0 [[.int .i64 a.d,.int .i64 a.g,u,.int .i64 a.n,v]]) ∧ IsS RB u a.b ∧ IsS RBo v a.p
section
variable {P n w t : Nat} {T : Int} {did pid mid x i : Nat} {g g' : Nat → Nat} {σ τ : Store} {p : Po} {u a1 : PV} {b : By} {a : Ac} {l : List Ac}
theorem BoxA.out (h : BoxA g σ x a) (k : OutP g σ g' τ) : BoxA g' τ x a :=
 let ⟨u,v,h1,h2⟩ := h.ob
 ⟨by rw [k.2.1 x h.lt]; exact h.g11,Nat.lt_of_lt_of_le h.lt k.1,u,v,(k.same h.lt (by rw [h.g11]; decide)).trans h1,h2⟩
theorem BoxA.d (h : BoxA g σ x a) : zd Try.prog σ 3 (.ref x 0 (0 + 0)) = some (.int .i64 a.d) := by obtain ⟨u,v,h1,_⟩ := h.ob; exact qc oInt h1 rfl
theorem BoxA.pg (h : BoxA g σ x a) : zd Try.prog σ 3 (.ref x 0 (0 + 1)) = some (.int .i64 a.g) := by obtain ⟨u,v,h1,_⟩ := h.ob; exact qc oInt h1 rfl
theorem z07 (hl : IsS RA a1 l) (hi : l[i]? = some a) (g : Nat → Nat) (σ : Store) : ∃ e,zh Try.prog 22 a1 (.int .i64 (i : Nat)) = some (.pref e) ∧ zd Try.prog σ 36 (.pref e) = some (.agg e) ∧ zu Try.prog (σ.push (.cells 0 [[.int .i64 0,.int .i64 0,.nilsl,.int .i64 0,.nilsl]])) 36 (.ref σ.next 0 0) (.agg e) = some (σ.push (.cells 0 [e])) ∧ BoxA (tag g σ.next 11) (σ.push (.cells 0 [e])) σ.next a := by
 obtain ⟨e,k1,u,v,rfl,hu,hv⟩ := hl.idx TA okA hi .i64
 have o1 : (σ.push (.cells 0 [[PV.int .i64 0,.int .i64 0,.nilsl,.int .i64 0,.nilsl]])).objs σ.next = some (.cells 0 [[.int .i64 0,.int .i64 0,.nilsl,.int .i64 0,.nilsl]]) := zn _ _
 have e1 : zu Try.prog (σ.push (.cells 0 [[.int .i64 0,.int .i64 0,.nilsl,.int .i64 0,.nilsl]])) 36 (.ref σ.next 0 0) (.agg [.int .i64 a.d,.int .i64 a.g,u,.int .i64 a.n,v]) = some (σ.push (.cells 0 [[.int .i64 a.d,.int .i64 a.g,u,.int .i64 a.n,v]])) := zne zye rfl rfl (ww (plA hu.plain hv.plain _ _ _))
 exact ⟨_,k1,zyw σ _ _ _ _ _,e1,qj (Nat.le_refl _),Nat.lt_succ_self _,u,v,zn _ _,hu,hv⟩
end
section
variable {P n w t : Nat} {T : Int} {did pid mid x i wid : Nat} {g g' : Nat → Nat} {σ τ s : Store} {p : Po} {u a1 : PV} {b : By} {a : Ac} {l : List Ac} {was : List By}
end
end Go.Pvm.S
