/- Part of the proof: the clock of a pool: a page touched, a page dropped. -/
import Derived.Test.YtceokplopachgaaPolE
set_option linter.unusedSimpArgs false
set_option linter.unusedVariables false
set_option maxRecDepth 100000
namespace Go.Pvm.S
open Go.Pvm Go.Proofs
theorem zgk {α : Type} {l : List α} {i j : Nat} {a b : α} (h : (l.set i a)[j]? = some b) : (j = i ∧ b = a) ∨ (j ≠ i ∧ l[j]? = some b) := by
 rw [List.getElem?_set] at h
 split at h
 ·rename_i e
  split at h
  ·cases h; exact .inl ⟨e.symm,rfl⟩
  ·cases h
 ·rename_i e; exact .inr ⟨fun e' => e e'.symm,h⟩
structure Tou (n : Nat) (c : Ck) (k : Int) (c' : Ck) (was : Int) : Prop where
 ok : CkOk n c'
 new : ∀ s ∈ c'.l,0 ≤ s.p → s.p = k ∨ ∃ t ∈ c.l,t.p = s.p
 old : ∀ t ∈ c.l,0 ≤ t.p → t.p = was ∨ ∃ s ∈ c'.l,s.p = t.p
 has : ∃ s ∈ c'.l,s.p = k
 wk : was ≠ k
 w : was = -1 ∨ (0 ≤ was ∧ ¬ ∃ s ∈ c'.l,s.p = was)
theorem CkOk.ok {n : Nat} {c : Ck} (h : CkOk n c) : c.ok = true := okC h.n1.1 h.n1.2 h.ln h.hh h.gd
theorem CkOk.touch {n : Nat} {c : Ck} (h : CkOk n c) {k : Int} (k0 : 0 ≤ k) (k1 : k < 64) : (j8 c k).2.2.2 = 0 ∧ Tou n c k (j8 c k).1 (j8 c k).2.2.1 := by
 have hln := h.ln
 have hhh := h.hh
 have hn1 := h.n1
 unfold j8
 rw [if_neg (by rw [h.ok]; decide),if_neg (by omega)]
 cases hq : atS c.l k with
 | some i =>
   obtain ⟨s,hs,rfl⟩ := zeb hq
   have hi : i < c.l.length := (List.getElem?_eq_some_iff.1 hs).1
   have hgd : c.l.getD i noSp = s := by rw [List.getD_eq_getElem?_getD,hs]; rfl
   have hsm := List.mem_of_getElem? hs
   simp only [hgd]
   have mem : ∀ t ∈ c.l.set i { s with u := true },t = { s with u := true } ∨ t ∈ c.l := fun t ht => (List.mem_or_eq_of_mem_set ht).symm
   refine ⟨trivial,⟨hn1,by simp [hln],hhh,?_,?_⟩,?_,?_,?_,by omega,.inl rfl⟩
   ·exact Good.put h.gd ⟨k0,k1⟩ fun j t ht e => h.gd.one j i t s ht hs (by rw [e]; exact k0) e
   ·intro t ht
    rcases mem t ht with rfl | ht
    ·exact h.pn s hsm
    ·exact h.pn t ht
   ·intro t ht h0
    rcases mem t ht with rfl | ht
    ·exact .inl rfl
    ·exact .inr ⟨t,ht,rfl⟩
   ·intro t ht h0
    right
    obtain ⟨j,hj⟩ := List.mem_iff_getElem?.1 ht
    by_cases e : i = j
    ·subst e
     rw [hs] at hj
     cases hj
     exact ⟨_,List.mem_of_getElem? (List.getElem?_set_self hi),rfl⟩
    ·exact ⟨t,List.mem_of_getElem? ((List.getElem?_set_ne e).trans hj),rfl⟩
   ·exact ⟨_,List.mem_of_getElem? (List.getElem?_set_self hi),rfl⟩
 | none =>
   have hno : ∀ (j : Nat) (t : Sp),c.l[j]? = some t → t.p ≠ k := fun j t ht => zm0 hq ht
   have hsp := fun i => zob (l := c.l) h.gd (h := c.h.toNat) (i := i) (by omega)
   have hso := fun j s => zoc (l := c.l) (h := c.h.toNat) (by omega) (j := j) (s := s)
   have hlt := fun i => zms (l := c.l) (h := c.h.toNat) (i := i) (by omega)
   have hfl := zjf c.l c.h.toNat
   have h0l : 0 < c.l.length := by omega
   have hex := hso 0 _ (List.getElem?_eq_getElem h0l) (h.pn _ (List.getElem_mem h0l))
   simp only
   generalize w6 c.l c.h.toNat = r at hsp hso hlt hfl hex
   obtain ⟨o,l',h'⟩ := r
   cases o with
   | none => obtain ⟨i,hi⟩ := hex; cases hi
   | some i =>
     obtain ⟨k1',k2,s,k3,k4⟩ := hsp i rfl
     have hi : i < l'.length := (List.getElem?_eq_some_iff.1 k3).1
     simp only at hfl k1' k2 k3
     have hg := k1'.good h.gd
     have hgd : l'.getD i noSp = s := by rw [List.getD_eq_getElem?_getD,k3]; rfl
     simp only [hgd]
     have back : ∀ (j : Nat) (t : Sp),l'[j]? = some t → ∃ t' ∈ c.l,t'.p = t.p ∧ t'.n = t.n := fun j t ht => by
      obtain ⟨t',b1,b2⟩ := k1'.back ht
      exact ⟨t',List.mem_of_getElem? b1,(Kn.pn b2).1.symm,(Kn.pn b2).2.symm⟩
     refine ⟨trivial,⟨hn1,by simp [hfl,hln],⟨by simp only; omega,by simp only; omega⟩,?_,?_⟩,?_,?_,?_,?_,?_⟩
     ·refine Good.put hg ⟨k0,k1⟩ fun j t ht e => ?_
      obtain ⟨s',b1,b2⟩ := k1'.back ht
      exact absurd ((Kn.pn b2).1.symm.trans e) (hno j s' b1)
     ·intro t ht
      obtain ⟨j,hj⟩ := List.mem_iff_getElem?.1 ht
      rcases zgk hj with ⟨rfl,rfl⟩ | ⟨_,hj⟩
      ·rfl
      ·obtain ⟨t',b1,_,b2⟩ := back j t hj
       rw [← b2]; exact h.pn t' b1
     ·intro t ht _
      obtain ⟨j,hj⟩ := List.mem_iff_getElem?.1 ht
      rcases zgk hj with ⟨rfl,rfl⟩ | ⟨_,hj⟩
      ·exact .inl rfl
      ·obtain ⟨t',b1,b2,_⟩ := back j t hj
       exact .inr ⟨t',b1,b2⟩
     ·intro t ht _
      obtain ⟨j,hj⟩ := List.mem_iff_getElem?.1 ht
      obtain ⟨t',b1,b2⟩ := k1'.2 j t hj
      by_cases e : i = j
      ·subst e
       rw [k3] at b1
       cases b1
       exact .inl (Kn.pn b2).1.symm
      ·exact .inr ⟨t',List.mem_of_getElem? ((List.getElem?_set_ne e).trans b1),(Kn.pn b2).1⟩
     ·exact ⟨_,List.mem_of_getElem? (List.getElem?_set_self hi),rfl⟩
     ·intro e
      obtain ⟨s',b1,b2⟩ := k1'.back k3
      exact hno i s' b1 ((Kn.pn b2).1.symm.trans e)
     ·rcases hg.rng i s k3 with e | e
      ·left; rw [e]; rfl
      ·right
       refine ⟨e.1,fun ⟨t,ht,hp⟩ => ?_⟩
       obtain ⟨j,hj⟩ := List.mem_iff_getElem?.1 ht
       rcases zgk hj with ⟨rfl,rfl⟩ | ⟨hne,hj⟩
       ·obtain ⟨s',b1,b2⟩ := k1'.back k3
        exact hno j s' b1 ((Kn.pn b2).1.symm.trans hp.symm)
       ·exact hne (hg.one j i t s hj k3 (by rw [hp]; exact e.1) hp)
section
variable {vs : PV}
end
end Go.Pvm.S
