/- Part of the proof: edges: the law of victims, with no program in sight. -/
import Derived.Test.YtjfgklgcbogejaaGreatEdgeG
set_option linter.unusedSimpArgs false
set_option linter.unusedVariables false
namespace Go.Pvm.S
open Go.Pvm Go.Proofs
theorem zvl : ∀ (l : List Int) (p : Int),(p :: l).Pairwise (· ≤ ·) → (p :: dd p l).Pairwise (· < ·) ∧ ∀ v,v ∈ p :: dd p l ↔ v ∈ p :: l
 | [],p,_ => ⟨by simp [dd],fun v => Iff.rfl⟩
 | b :: l,p,h => by
   rw [List.pairwise_cons] at h
   obtain ⟨i1,i2⟩ := zvl l b h.2
   unfold dd
   by_cases hb : b = p
   ·rw [if_neg (by rw [bne_iff_ne]; exact fun e => e hb)]
    subst hb
    refine ⟨i1,fun v => ?_⟩
    rw [i2 v]
    simp
   ·rw [if_pos (by rw [bne_iff_ne]; exact hb)]
    have hpb : p < b := by have := h.1 b (List.mem_cons_self ..); omega
    refine ⟨List.pairwise_cons.2 ⟨fun v hv => ?_,i1⟩,fun v => ?_⟩
    ·rw [i2 v] at hv
     rcases List.mem_cons.1 hv with e | e
     ·omega
     ·have := (List.pairwise_cons.1 h.2).1 v e; omega
    ·constructor
     ·intro hv
      rcases List.mem_cons.1 hv with e | e
      ·rw [e]; exact List.mem_cons_self ..
      ·exact List.mem_cons_of_mem _ ((i2 v).1 e)
     ·intro hv
      rcases List.mem_cons.1 hv with e | e
      ·rw [e]; exact List.mem_cons_self ..
      ·exact List.mem_cons_of_mem _ ((i2 v).2 e)
theorem zr8 (l : List Int) (h : l.Pairwise (· ≤ ·)) : (zla l).Pairwise (· < ·) ∧ ∀ v,v ∈ zla l ↔ v ∈ l := by
 cases l with
 | nil => exact ⟨.nil,fun v => Iff.rfl⟩
 | cons a l => exact zvl l a h
theorem zwj (l : List Int) : (l.mergeSort fun x y => decide (x ≤ y)).Pairwise (· ≤ ·) := by
 have := List.pairwise_mergeSort (le := fun x y : Int => decide (x ≤ y)) (fun a b c h1 h2 => by rw [decide_eq_true_eq] at *; omega) (fun a b => by rw [Bool.or_eq_true,decide_eq_true_eq,decide_eq_true_eq]; omega) l
 exact this.imp fun h => by rwa [decide_eq_true_eq] at h
theorem zkn {α : Type} {g : Nat → α → List Int → List Int} (R : α → Int → Prop) : ∀ (l : List α) (i : Nat) (acc : List Int),(∀ i x acc v,x ∈ l → (v ∈ g i x acc ↔ v ∈ acc ∨ R x v)) → ∀ v,v ∈ xb g l i acc ↔ v ∈ acc ∨ ∃ x,x ∈ l ∧ R x v
 | [],i,acc,_,v => by simp [xb]
 | x :: l,i,acc,h,v => by
   unfold xb
   rw [zkn R l (i + 1) _ (fun i y acc v hy => h i y acc v (List.mem_cons_of_mem _ hy)) v,h i x acc v (List.mem_cons_self ..)]
   constructor
   ·rintro ((h | h) | ⟨y,hy,h⟩)
    ·exact .inl h
    ·exact .inr ⟨x,List.mem_cons_self ..,h⟩
    ·exact .inr ⟨y,List.mem_cons_of_mem _ hy,h⟩
   ·rintro (h | ⟨y,hy,hR⟩)
    ·exact .inl (.inl h)
    ·rcases List.mem_cons.1 hy with e | e
     ·rw [e] at hR; exact .inl (.inr hR)
     ·exact .inr ⟨y,e,hR⟩
def Met (s : List Spn) (x y : Ed) (v : Int) : Prop := x.t = y.f ∧ vic s x.f x.t y.t = v ∧ v ≠ 0
theorem z3e (s : List Spn) (x : Ed) (i : Nat) (y : Ed) (acc : List Int) (v : Int) : v ∈ vG s x i y acc ↔ v ∈ acc ∨ Met s x y v := by
 unfold vG Met
 by_cases h1 : x.t = y.f
 ·rw [if_neg (by rw [bne_iff_ne]; exact fun e => e h1)]
  by_cases h2 : vic s x.f x.t y.t = 0
  ·rw [if_neg (by rw [bne_iff_ne]; exact fun e => e h2)]
   constructor
   ·exact .inl
   ·rintro (h | ⟨_,h,h'⟩)
    ·exact h
    ·exact absurd (h ▸ h2) h'
  ·rw [if_pos (by rw [bne_iff_ne]; exact h2)]
   rw [List.mem_append,List.mem_singleton]
   constructor
   ·rintro (h | h)
    ·exact .inl h
    ·exact .inr ⟨h1,h.symm,h ▸ h2⟩
   ·rintro (h | ⟨_,h,_⟩)
    ·exact .inl h
    ·exact .inr h.symm
 ·rw [if_pos (by rw [bne_iff_ne]; exact h1)]
  constructor
  ·exact .inl
  ·rintro (h | ⟨h,_⟩)
   ·exact h
   ·exact absurd h h1
theorem zxg (l : List Ed) (s : List Spn) (v : Int) : v ∈ zoh l s ↔ ∃ x,x ∈ l ∧ ∃ y,y ∈ l ∧ Met s x y v := by
 unfold zoh
 rw [zkn (g := oG l s) (fun x v => ∃ y,y ∈ l ∧ Met s x y v) l 0 [] (fun i x acc v _ => zkn (g := vG s x) (fun y v => Met s x y v) l 0 acc (fun i y acc v _ => z3e s x i y acc v) v) v]
 simp
theorem zix {l : List Ed} {s : List Spn} (hl : ur l = true) (hs : ka s = true) : (kw l s).Pairwise (· < ·) ∧ ∀ v,v ∈ kw l s ↔ ∃ x,x ∈ l ∧ ∃ y,y ∈ l ∧ Met s x y v := by
 unfold kw
 rw [if_pos (by rw [hl,hs]; rfl)]
 obtain ⟨h1,h2⟩ := zr8 _ (zwj (zoh l s))
 refine ⟨h1,fun v => ?_⟩
 rw [h2,List.mem_mergeSort,zxg]
theorem zls (l : List Ed) (s : List Spn) (v : Int) : v ∈ kw l s → ur l = true ∧ ka s = true ∧ ∃ x,x ∈ l ∧ ∃ y,y ∈ l ∧ Met s x y v := by
 intro h
 have hb : (ur l && ka s) = true := by
  by_cases hb : (ur l && ka s) = true
  ·exact hb
  ·unfold kw at h
   rw [if_neg hb] at h
   cases h
 rw [Bool.and_eq_true] at hb
 exact ⟨hb.1,hb.2,((zix hb.1 hb.2).2 v).1 h⟩
def zvk : Nat → Int → List Ed → List Ed := fun _ v l => ziq l v
theorem zma (x : Ed) : ∀ (vs : List Int) (i : Nat) (l : List Ed),x ∈ xb zvk vs i l ↔ x ∈ l ∧ ∀ v ∈ vs,x.f ≠ v ∧ x.t ≠ v
 | [],i,l => by simp [xb]
 | v :: vs,i,l => by
   unfold xb
   rw [zma x vs (i + 1)]
   unfold zvk ziq
   rw [List.mem_filter]
   constructor
   ·rintro ⟨⟨h1,h2⟩,h3⟩
    refine ⟨h1,fun w hw => ?_⟩
    rcases List.mem_cons.1 hw with e | e
    ·subst e
     simpa using h2
    ·exact h3 w e
   ·rintro ⟨h1,h2⟩
    exact ⟨⟨h1,by have := h2 v (List.mem_cons_self ..); simpa using this⟩,fun w hw => h2 w (List.mem_cons_of_mem _ hw)⟩
theorem z2g {s : List Spn} {a b c v : Int} (h : vic s a b c = v) (h0 : v ≠ 0) : v = b ∨ v = a := by
 unfold vic at h
 split at h
 ·split at h
  ·exact .inl h.symm
  ·split at h
   ·exact .inr h.symm
   ·exact absurd h.symm h0
 ·exact absurd h.symm h0
theorem z7v (l : List Ed) (s : List Spn) (hl : ur l = true) (hs : ka s = true) : kw (xb zvk (kw l s) 0 l) s = [] := by
 refine List.eq_nil_iff_forall_not_mem.2 fun v hv => ?_
 obtain ⟨_,_,x,hx,y,hy,hm⟩ := zls _ _ _ hv
 rw [zma] at hx hy
 have hin : v ∈ kw l s := ((zix hl hs).2 v).2 ⟨x,hx.1,y,hy.1,hm⟩
 obtain ⟨_,h2,h3⟩ := hm
 have := hx.2 v hin
 rcases z2g h2 h3 with e | e
 ·exact this.2 e.symm
 ·exact this.1 e.symm
end Go.Pvm.S
