/- Part of the proof: the device: appending to its stream, trimming it. -/
import Derived.Test.YtceokplopachgaaDevE
set_option linter.unusedSimpArgs false
set_option linter.unusedVariables false
set_option maxRecDepth 100000
namespace Go.Pvm.S
open Go.Pvm Go.Proofs
theorem stT (σ : Store) (e : List PV) (he : e.length = 3) (h1 : e.all PV.one = true) : zu Try.prog (σ.push (.cells 0 [[.nilsl,.bool false,.int .i64 0]])) 112 (.ref σ.next 0 0) (.agg e) = some (σ.push (.cells 0 [e])) :=
 zne szT rfl he h1
section
variable {g g' : Nat → Nat} {σ τ : Store} {id : Nat} {d : Dv} {u v : PV} {b : By}
theorem DevS.ldBase (h : DevS g σ id d) : zd Try.prog σ 3 (.ref id 0 1) = some (.int .i64 d.seen.base) := by
 obtain ⟨x,q1,q2,q3,q4⟩ := h
 exact qc oInt q1 rfl
theorem DevS.ldSt (h : DevS g σ id d) : ∃ v,zd Try.prog σ 33 (.ref id 0 2) = some v ∧ AxS RB σ 1 v d.seen.st := by
 obtain ⟨x,q1,q2,q3,q4⟩ := h
 exact ⟨x.vs,qc otB q1 rfl,q4.vs⟩
theorem DevS.ldPg (h : DevS g σ id d) : ∃ v,zd Try.prog σ 33 (.ref id 0 0) = some v ∧ Wr RB σ 1 v d.seen.pg := by
 obtain ⟨x,q1,q2,q3,q4⟩ := h
 exact ⟨x.vp,qc otB q1 rfl,q4.vp⟩
theorem zxv (h : DevS g σ id d) (hv : QS RB σ 1 v b) (hlf : ∀ i ∈ tops v,Lf σ i) (h7 : ∀ i ∈ tops v,g i = 7) : ∃ σ1,ke (tops v) σ = some σ1 ∧ DevS g σ1 id d ∧ Out g σ g σ1 ∧ σ1.next = σ.next := by
 obtain ⟨es,q1,q2⟩ := hv
 rcases q1 with q1 | ⟨i,idx,cap,ro,full,rfl,o2,o3,o4,o5⟩
 ·exact ⟨σ,znm q1.tops σ,h,Out.refl _ _,rfl⟩
 ·obtain ⟨ro',es',e1,e2⟩ := hlf i (.head _)
  rw [o2] at e1
  cases e1
  have h7 := h7 i (.head _)
  refine ⟨σ.put i (.cells full.length full),?_,h.mod (Mod.put (ids := [i]) (.head _)) fun j hj _ => by rw [List.mem_singleton.1 hj]; exact Nat.le_of_eq h7.symm,⟨Nat.le_refl _,fun _ _ => rfl,fun j _ _ => ?_⟩,rfl⟩
  ·show ke [i] σ = _
   simp only [ke,o2,e2,if_true]
  ·by_cases hj : j = i
   ·subst hj; exact .inr ⟨h7,ro,full,o2,xa _ _ _⟩
   ·exact .inl (yb hj)
end
end Go.Pvm.S
