/- Part of the proof: edges: the law of victims, with no program in sight. -/
import Derived.Test.YtjfgklgcbogejaaGreatEdgeG
set_option linter.unusedSimpArgs false
set_option linter.unusedVariables false
namespace Go.Pvm.S
open Go.Pvm Go.Proofs
theorem zvv : ∀ (l : List Int) (p : Int),(p :: l).Pairwise (· ≤ ·) → (p :: dd p l).Pairwise (· < ·) ∧ ∀ v,v ∈ p :: dd p l ↔ v ∈ p :: l
 | [],p,_ => ⟨by simp [dd],fun v => Iff.rfl⟩
 | b :: l,p,h => by
   rw [List.pairwise_cons] at h
   obtain ⟨i1,i2⟩ := zvv l b h.2
   unfold dd
   by_cases hb : b = p
   ·rw [if_neg (by rw [bne_iff_ne]; exact fun e => e hb)]
    subst hb
    refine ⟨i1,fun v => ?_⟩
    rw [i2 v]
    simp
   ·rw [if_pos (by rw [bne_iff_ne]; exact hb)]
    have hpb : p < b := by have := h.1 b (List.mem_cons_self ..); omega
    refine ⟨List.pairwise_cons.2 ⟨fun v hv => ?_,i1⟩,fun v => ?_⟩
    ·rw [i2 v] at hv
     rcases List.mem_cons.1 hv with e | e
     ·omega
     ·have := (List.pairwise_cons.1 h.2).1 v e; omega
    ·constructor
     ·intro hv
      rcases List.mem_cons.1 hv with e | e
      ·rw [e]; exact List.mem_cons_self ..
      ·exact List.mem_cons_of_mem _ ((i2 v).1 e)
     ·intro hv
      rcases List.mem_cons.1 hv with e | e
      ·rw [e]; exact List.mem_cons_self ..
      ·exact List.mem_cons_of_mem _ ((i2 v).2 e)
theorem zsm (l : List Int) (h : l.Pairwise (· ≤ ·)) : (zix l).Pairwise (· < ·) ∧ ∀ v,v ∈ zix l ↔ v ∈ l := by
 cases l with
 | nil => exact ⟨.nil,fun v => Iff.rfl⟩
 | cons a l => exact zvv l a h
theorem zwv (l : List Int) : (l.mergeSort fun x y => decide (x ≤ y)).Pairwise (· ≤ ·) := by
 have := List.pairwise_mergeSort (le := fun x y : Int => decide (x ≤ y)) (fun a b c h1 h2 => by rw [decide_eq_true_eq] at *; omega) (fun a b => by rw [Bool.or_eq_true,decide_eq_true_eq,decide_eq_true_eq]; omega) l
 exact this.imp fun h => by rwa [decide_eq_true_eq] at h
theorem zks {α : Type} {g : Nat → α → List Int → List Int} (R : α → Int → Prop) : ∀ (l : List α) (i : Nat) (acc : List Int),(∀ i x acc v,x ∈ l → (v ∈ g i x acc ↔ v ∈ acc ∨ R x v)) → ∀ v,v ∈ xa g l i acc ↔ v ∈ acc ∨ ∃ x,x ∈ l ∧ R x v
 | [],i,acc,_,v => by simp [xa]
 | x :: l,i,acc,h,v => by
   unfold xa
   rw [zks R l (i + 1) _ (fun i y acc v hy => h i y acc v (List.mem_cons_of_mem _ hy)) v,h i x acc v (List.mem_cons_self ..)]
   constructor
   ·rintro ((h | h) | ⟨y,hy,h⟩)
    ·exact .inl h
    ·exact .inr ⟨x,List.mem_cons_self ..,h⟩
    ·exact .inr ⟨y,List.mem_cons_of_mem _ hy,h⟩
   ·rintro (h | ⟨y,hy,hR⟩)
    ·exact .inl (.inl h)
    ·rcases List.mem_cons.1 hy with e | e
     ·rw [e] at hR; exact .inl (.inr hR)
     ·exact .inr ⟨y,e,hR⟩
def Met (s : List Spn) (x y : Ed) (v : Int) : Prop := x.t = y.f ∧ vic s x.f x.t y.t = v ∧ v ≠ 0
theorem z3w (s : List Spn) (x : Ed) (i : Nat) (y : Ed) (acc : List Int) (v : Int) : v ∈ vG s x i y acc ↔ v ∈ acc ∨ Met s x y v := by
 unfold vG Met
 by_cases h1 : x.t = y.f
 ·rw [if_neg (by rw [bne_iff_ne]; exact fun e => e h1)]
  by_cases h2 : vic s x.f x.t y.t = 0
  ·rw [if_neg (by rw [bne_iff_ne]; exact fun e => e h2)]
   constructor
   ·exact .inl
   ·rintro (h | ⟨_,h,h'⟩)
    ·exact h
    ·exact absurd (h ▸ h2) h'
  ·rw [if_pos (by rw [bne_iff_ne]; exact h2)]
   rw [List.mem_append,List.mem_singleton]
   constructor
   ·rintro (h | h)
    ·exact .inl h
    ·exact .inr ⟨h1,h.symm,h ▸ h2⟩
   ·rintro (h | ⟨_,h,_⟩)
    ·exact .inl h
    ·exact .inr h.symm
 ·rw [if_pos (by rw [bne_iff_ne]; exact h1)]
  constructor
  ·exact .inl
  ·rintro (h | ⟨h,_⟩)
   ·exact h
   ·exact absurd h h1
theorem zxt (l : List Ed) (s : List Spn) (v : Int) : v ∈ zoo l s ↔ ∃ x,x ∈ l ∧ ∃ y,y ∈ l ∧ Met s x y v := by
 unfold zoo
 rw [zks (g := oG l s) (fun x v => ∃ y,y ∈ l ∧ Met s x y v) l 0 [] (fun i x acc v _ => zks (g := vG s x) (fun y v => Met s x y v) l 0 acc (fun i y acc v _ => z3w s x i y acc v) v) v]
 simp
theorem zi2 {l : List Ed} {s : List Spn} (hl : up l = true) (hs : qw s = true) : (qp l s).Pairwise (· < ·) ∧ ∀ v,v ∈ qp l s ↔ ∃ x,x ∈ l ∧ ∃ y,y ∈ l ∧ Met s x y v := by
 unfold qp
 rw [if_pos (by rw [hl,hs]; rfl)]
 obtain ⟨h1,h2⟩ := zsm _ (zwv (zoo l s))
 refine ⟨h1,fun v => ?_⟩
 rw [h2,List.mem_mergeSort,zxt]
theorem zlv (l : List Ed) (s : List Spn) (v : Int) : v ∈ qp l s → up l = true ∧ qw s = true ∧ ∃ x,x ∈ l ∧ ∃ y,y ∈ l ∧ Met s x y v := by
 intro h
 have hb : (up l && qw s) = true := by
  by_cases hb : (up l && qw s) = true
  ·exact hb
  ·unfold qp at h
   rw [if_neg hb] at h
   cases h
 rw [Bool.and_eq_true] at hb
 exact ⟨hb.1,hb.2,((zi2 hb.1 hb.2).2 v).1 h⟩
def zvu : Nat → Int → List Ed → List Ed := fun _ v l => zif l v
theorem zmh (x : Ed) : ∀ (vs : List Int) (i : Nat) (l : List Ed),x ∈ xa zvu vs i l ↔ x ∈ l ∧ ∀ v ∈ vs,x.f ≠ v ∧ x.t ≠ v
 | [],i,l => by simp [xa]
 | v :: vs,i,l => by
   unfold xa
   rw [zmh x vs (i + 1)]
   unfold zvu zif
   rw [List.mem_filter]
   constructor
   ·rintro ⟨⟨h1,h2⟩,h3⟩
    refine ⟨h1,fun w hw => ?_⟩
    rcases List.mem_cons.1 hw with e | e
    ·subst e
     simpa using h2
    ·exact h3 w e
   ·rintro ⟨h1,h2⟩
    exact ⟨⟨h1,by have := h2 v (List.mem_cons_self ..); simpa using this⟩,fun w hw => h2 w (List.mem_cons_of_mem _ hw)⟩
theorem z2v {s : List Spn} {a b c v : Int} (h : vic s a b c = v) (h0 : v ≠ 0) : v = b ∨ v = a := by
 unfold vic at h
 split at h
 ·split at h
  ·exact .inl h.symm
  ·split at h
   ·exact .inr h.symm
   ·exact absurd h.symm h0
 ·exact absurd h.symm h0
theorem z77 (l : List Ed) (s : List Spn) (hl : up l = true) (hs : qw s = true) : qp (xa zvu (qp l s) 0 l) s = [] := by
 refine List.eq_nil_iff_forall_not_mem.2 fun v hv => ?_
 obtain ⟨_,_,x,hx,y,hy,hm⟩ := zlv _ _ _ hv
 rw [zmh] at hx hy
 have hin : v ∈ qp l s := ((zi2 hl hs).2 v).2 ⟨x,hx.1,y,hy.1,hm⟩
 obtain ⟨_,h2,h3⟩ := hm
 have := hx.2 v hin
 rcases z2v h2 h3 with e | e
 ·exact this.2 e.symm
 ·exact this.1 e.symm
end Go.Pvm.S
