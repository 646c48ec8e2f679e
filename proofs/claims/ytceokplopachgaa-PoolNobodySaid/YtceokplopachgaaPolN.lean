/- Part of the proof: pools are made; light acts; a pool's state as a whole. -/
import Derived.Test.YtceokplopachgaaPolM
set_option linter.unusedSimpArgs false
set_option linter.unusedVariables false
set_option maxRecDepth 100000
namespace Go.Pvm.S
open Go.Pvm Go.Proofs
structure Ac where
 d : Int
 g : Int
 b : By
 n : Int
 p : List Bool
def Ac.e (a : Ac) : List PV := [.int .i64 a.d,.int .i64 a.g,bv a.b,.int .i64 a.n,.psl false (a.p.map bo)]
def RA : ElR Ac := fun e a => ∃ u v,e = [.int .i64 a.d,.int .i64 a.g,u,.int .i64 a.n,v] ∧ IsS RB u a.b ∧ IsS RBo v a.p
theorem VF.bos {l : List Bool} {p : PV} (h : VF (.psl false (l.map bo)) p) : IsS RBo p l := by
 generalize hq : l.map bo = es at h
 cases h with
 | base h => cases ‹PV.base _ = true›
 | psl b b' h =>
   subst hq
   have hp := zfo (e := bo) (fun a => rfl) h
   subst hp
   refine ⟨_,.inr ⟨b',rfl⟩,?_⟩
   clear h
   induction l with
   | nil => exact .nil
   | cons a l ih => exact .cons rfl ih
 | nl b =>
   have : l = [] := by cases l <;> first | rfl | cases hq
   subst this
   exact .nil
theorem VFs.act {a : Ac} {e : List PV} (h : VFs a.e e) : RA e a := by
 unfold Ac.e at h
 cases h with | cons a0 h => cases h with | cons a1 h => cases h with | cons a2 h => cases h with | cons a3 h => cases h with | cons a4 h =>
 cases h
 rw [a0.base_eq rfl,a1.base_eq rfl,a3.base_eq rfl]
 exact ⟨_,_,rfl,VF.by_ a2,VF.bos a4⟩
structure St (P n w t : Nat) (T : Int) (did pid mid : Nat) (g : Nat → Nat) (σ : Store) (p : Po) : Prop where
 d : DevS g σ did p.d
 r : ∃ vs ids,PoR g σ pid did mid p vs ids
 a : PoA P n T p
 l : Lim w t p
section
variable {P n w t : Nat} {T : Int} {did pid mid : Nat} {g g' : Nat → Nat} {σ τ : Store} {p : Po} {u : PV} {b : By}
theorem St.mono {w' t' : Nat} (h : St P n w t T did pid mid g σ p) (h1 : w ≤ w') (h2 : t ≤ t') : St P n w' t' T did pid mid g σ p := ⟨h.d,h.r,h.a,h.l.mono h1 h2⟩
theorem St.push (h : St P n w t T did pid mid g σ p) (o : Obj) : St P n w t T did pid mid g (σ.push o) p :=
 let ⟨vs,ids,r⟩ := h.r
 ⟨h.d.push o,⟨vs,ids,r.push o⟩,h.a,h.l⟩
theorem PoR.retag {vs : PV} {ids : List Nat} (r : PoR g σ pid did mid p vs ids) (hg : ∀ i,i < σ.next → g' i = g i) : PoR g' σ pid did mid p vs ids := r.mod ⟨Nat.le_refl _,fun _ _ _ => rfl⟩ hg
theorem St.retag (h : St P n w t T did pid mid g σ p) (hg : ∀ i,i < σ.next → g' i = g i) : St P n w t T did pid mid g' σ p :=
 let ⟨vs,ids,r⟩ := h.r
 ⟨h.d.retag hg,⟨vs,ids,PoR.retag r hg⟩,h.a,h.l⟩
theorem St.box (h : St P n w t T did pid mid g σ p) (o : Obj) (k : Nat) : St P n w t T did pid mid (tag g σ.next k) (σ.push o) p ∧ OutP g σ (tag g σ.next k) (σ.push o) :=
 ⟨(h.retag fun i hi => je hi).push o |> fun h => h,⟨Nat.le_succ _,fun i hi => je hi,fun i hi _ => .inl (yj hi)⟩⟩
theorem St.put (h : St P n w t T did pid mid g σ p) {i : Nat} (hi : 7 = g i ∨ 11 ≤ g i) (o : Obj) : St P n w t T did pid mid g (σ.put i o) p := by
 obtain ⟨vs,ids,r⟩ := h.r
 have hne : ∀ j,8 ≤ g j → g j ≤ 10 → j ≠ i := fun j h1 h2 e => by subst e; omega
 refine ⟨h.d.mod (Mod.put (ids := [i]) (.head _)) fun j hj _ => by rw [List.mem_singleton.1 hj]; omega,⟨vs,ids,?_⟩,h.a,h.l⟩
 exact {
  g9 := r.g9,gA := r.gA,lp := r.lp,lm := r.lm
  po := (yb (hne pid (by rw [r.g9]; decide) (by rw [r.g9]; decide))).trans r.po
  sp := r.sp
  mo := (yb (hne mid (by rw [r.gA]; decide) (by rw [r.gA]; decide))).trans r.mo
  il := r.il,nd := r.nd
  sh := fun j hj => by
   obtain ⟨h1,h2,u,h3,h4⟩ := r.sh j hj
   exact ⟨h1,h2,u,(yb (hne _ (by rw [h1]; decide) (by rw [h1]; decide))).trans h3,h4⟩ }
theorem St.putP (h : St P n w t T did pid mid g σ p) (hP : P ≤ 64) (hT' : T ≤ 900000000) (hw : w ≤ 300000) (ht : t ≤ 300000) (k : Int) (hu : IsS RB u b) (hb : b.length < 4611686018427387904) (place : Int) :
  ∃ g' τ,ze cfg 12 [.ref pid 0 0,.int .i64 k,u,.int .i64 place] σ = some (.int .i64 (if 0 ≤ k ∧ k < P then (if b.length = 512 then 0 else 1) else 3),τ) ∧ St P n (w + 4) t T did pid mid g' τ (if 0 ≤ k ∧ k < P ∧ b.length = 512 then p.putP k b place else p) ∧ OutP g σ g' τ := by
 obtain ⟨vs,ids,r⟩ := h.r
 have l1 := h.l.w
 have l2 := h.l.t
 by_cases c : 0 ≤ k ∧ k < P ∧ b.length = 512
 ·obtain ⟨g',τ,vs',ids',h1,h4,h5,h6⟩ := zwc h.d r h.a.k hP hT' (by omega) (by omega) ⟨c.1,c.2.1⟩ hu c.2.2 place
  simp only [if_pos c,if_pos (show 0 ≤ k ∧ k < P from ⟨c.1,c.2.1⟩),if_pos c.2.2]
  exact ⟨g',τ,h1,⟨h4,⟨vs',ids',h5⟩,(h.a.put hP ⟨c.1,c.2.1⟩ c.2.2 place).1,h.l.put k b place⟩,h6⟩
 ·have e := zua h.d r h.a.k.iv.pl hP hu hb place (k := k) (by
   by_cases c1 : b.length = 512
   ·have : ¬ (0 ≤ k ∧ k < P) := fun x => c ⟨x.1,x.2,c1⟩
    omega
   ·exact .inr (.inr c1))
  simp only [if_neg c]
  refine ⟨g,σ,?_,h.mono (by omega) (Nat.le_refl _),OutP.refl _ _⟩
  by_cases c1 : 0 ≤ k ∧ k < P
  ·rw [if_pos c1] at e ⊢
   rw [if_neg fun x => c ⟨c1.1,c1.2,x⟩]; exact e
  ·rw [if_neg c1] at e ⊢; exact e
end
end Go.Pvm.S
