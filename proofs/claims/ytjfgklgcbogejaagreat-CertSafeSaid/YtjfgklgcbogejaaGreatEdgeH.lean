/- Part of the proof: edges: the law of victims, with no program in sight. -/
import Derived.Test.YtjfgklgcbogejaaGreatEdgeG
set_option linter.unusedSimpArgs false
set_option linter.unusedVariables false
namespace Go.Pvm.S
open Go.Pvm Go.Proofs
theorem zxw : ∀ (l m : List Int),l.Pairwise (· < ·) → m.Pairwise (· < ·) → (∀ v,v ∈ l ↔ v ∈ m) → l = m
 | [],[],_,_,_ => rfl
 | [],b :: m,_,_,h => by have := (h b).2 (List.mem_cons_self ..); cases this
 | a :: l,[],_,_,h => by have := (h a).1 (List.mem_cons_self ..); cases this
 | a :: l,b :: m,h1,h2,h => by
   rw [List.pairwise_cons] at h1 h2
   have hab : a = b := by
    rcases List.mem_cons.1 ((h a).1 (List.mem_cons_self ..)) with e | e
    ·exact e
    ·rcases List.mem_cons.1 ((h b).2 (List.mem_cons_self ..)) with e' | e'
     ·exact e'.symm
     ·have := h2.1 a e
      have := h1.1 b e'
      omega
   subst hab
   rw [zxw l m h1.2 h2.2 fun v => ?_]
   constructor
   ·intro hv
    rcases List.mem_cons.1 ((h v).1 (List.mem_cons_of_mem _ hv)) with e | e
    ·have := h1.1 v hv; omega
    ·exact e
   ·intro hv
    rcases List.mem_cons.1 ((h v).2 (List.mem_cons_of_mem _ hv)) with e | e
    ·have := h2.1 v hv; omega
    ·exact e
theorem zxc : ∀ (l : List Int) (p : Int),(p :: l).Pairwise (· ≤ ·) → (p :: dd p l).Pairwise (· < ·) ∧ ∀ v,v ∈ p :: dd p l ↔ v ∈ p :: l
 | [],p,_ => ⟨by simp [dd],fun v => Iff.rfl⟩
 | b :: l,p,h => by
   rw [List.pairwise_cons] at h
   obtain ⟨i1,i2⟩ := zxc l b h.2
   unfold dd
   by_cases hb : b = p
   ·rw [if_neg (by rw [bne_iff_ne]; exact fun e => e hb)]
    subst hb
    refine ⟨i1,fun v => ?_⟩
    rw [i2 v]
    simp
   ·rw [if_pos (by rw [bne_iff_ne]; exact hb)]
    have hpb : p < b := by have := h.1 b (List.mem_cons_self ..); omega
    refine ⟨List.pairwise_cons.2 ⟨fun v hv => ?_,i1⟩,fun v => ?_⟩
    ·rw [i2 v] at hv
     rcases List.mem_cons.1 hv with e | e
     ·omega
     ·have := (List.pairwise_cons.1 h.2).1 v e; omega
    ·constructor
     ·intro hv
      rcases List.mem_cons.1 hv with e | e
      ·rw [e]; exact List.mem_cons_self ..
      ·exact List.mem_cons_of_mem _ ((i2 v).1 e)
     ·intro hv
      rcases List.mem_cons.1 hv with e | e
      ·rw [e]; exact List.mem_cons_self ..
      ·exact List.mem_cons_of_mem _ ((i2 v).2 e)
theorem ztq (l : List Int) (h : l.Pairwise (· ≤ ·)) : (zji l).Pairwise (· < ·) ∧ ∀ v,v ∈ zji l ↔ v ∈ l := by
 cases l with
 | nil => exact ⟨.nil,fun v => Iff.rfl⟩
 | cons a l => exact zxc l a h
theorem zyd (l : List Int) : (l.mergeSort fun x y => decide (x ≤ y)).Pairwise (· ≤ ·) := by
 have := List.pairwise_mergeSort (le := fun x y : Int => decide (x ≤ y)) (fun a b c h1 h2 => by rw [decide_eq_true_eq] at *; omega) (fun a b => by rw [Bool.or_eq_true,decide_eq_true_eq,decide_eq_true_eq]; omega) l
 exact this.imp fun h => by rwa [decide_eq_true_eq] at h
def wi (n : Int) : List Int → List Int
 | [] => [n]
 | a :: l => if a ≥ n then n :: (a :: l).filter (· != n) else a :: wi n l
theorem zqj (n : Int) : ∀ (l : List Int) (i : Nat) (acc : List Int),y5 (wiG n) l i (true,acc) = (true,acc ++ l.filter (· != n))
 | [],i,acc => by simp [y5]
 | a :: l,i,acc => by
   unfold y5
   have : wiG n i a (true,acc) = (true,if (a != n) = true then acc ++ [a] else acc) := by
    unfold wiG
    cases (a != n) <;> simp
   rw [this,zqj n l]
   by_cases h : (a != n) = true
   ·rw [if_pos h,List.filter_cons_of_pos (p := (· != n)) h,List.append_assoc]; rfl
   ·rw [if_neg h,List.filter_cons_of_neg (p := (· != n)) h]
theorem zt6 (n : Int) : ∀ (l : List Int) (i : Nat) (acc : List Int),(if (y5 (wiG n) l i (false,acc)).1 = true then (y5 (wiG n) l i (false,acc)).2 else (y5 (wiG n) l i (false,acc)).2 ++ [n]) = acc ++ wi n l
 | [],i,acc => rfl
 | a :: l,i,acc => by
   unfold y5 wi
   by_cases h : a ≥ n
   ·have : wiG n i a (false,acc) = (true,acc ++ [n] ++ (if (a != n) = true then [a] else [])) := by
     unfold wiG
     rw [decide_eq_true h]
     cases (a != n) <;> simp
    rw [this,zqj,if_pos rfl,if_pos h]
    by_cases h2 : (a != n) = true
    ·rw [if_pos h2,List.filter_cons_of_pos (p := (· != n)) h2]; simp
    ·rw [if_neg h2,List.filter_cons_of_neg (p := (· != n)) h2]; simp
   ·have h2 : (a != n) = true := by rw [bne_iff_ne]; omega
    have : wiG n i a (false,acc) = (false,acc ++ [a]) := by
     unfold wiG
     rw [decide_eq_false h,h2]
     simp
    rw [this,if_neg h,zt6 n l,List.append_assoc]; rfl
theorem zqi (l : List Int) (n : Int) : zoo l n = wi n l := by
 have := zt6 n l 0 []
 rw [List.nil_append] at this
 exact this
theorem zvn (n v : Int) : ∀ l : List Int,v ∈ wi n l ↔ v = n ∨ v ∈ l
 | [] => by simp [wi]
 | a :: l => by
   unfold wi
   split
   ·simp only [List.mem_cons,List.mem_filter,bne_iff_ne,ne_eq]
    constructor
    ·rintro (h | ⟨h,_⟩)
     ·exact .inl h
     ·exact .inr h
    ·rintro (h | h)
     ·exact .inl h
     ·by_cases e : v = n
      ·exact .inl e
      ·exact .inr ⟨h,e⟩
   ·rw [List.mem_cons,zvn n v l,List.mem_cons]
    constructor
    ·rintro (h | h | h)
     ·exact .inr (.inl h)
     ·exact .inl h
     ·exact .inr (.inr h)
    ·rintro (h | h | h)
     ·exact .inr (.inl h)
     ·exact .inl h
     ·exact .inr (.inr h)
theorem z19 (n : Int) : ∀ l : List Int,l.Pairwise (· < ·) → (wi n l).Pairwise (· < ·)
 | [],_ => by simp [wi]
 | a :: l,h => by
   unfold wi
   have h' := List.pairwise_cons.1 h
   split
   ·rename_i hge
    refine List.pairwise_cons.2 ⟨fun v hv => ?_,h.filter _⟩
    rw [List.mem_filter,bne_iff_ne] at hv
    rcases List.mem_cons.1 hv.1 with e | e
    ·have := hv.2; omega
    ·have := h'.1 v e; omega
   ·rename_i hge
    refine List.pairwise_cons.2 ⟨fun v hv => ?_,z19 n l h'.2⟩
    rw [zvn] at hv
    rcases hv with e | e
    ·omega
    ·exact h'.1 v e
theorem zed {α : Type} {g : Nat → α → List Int → List Int} (R : α → Int → Prop) : ∀ (l : List α) (i : Nat) (acc : List Int),(∀ i x acc v,x ∈ l → (v ∈ g i x acc ↔ v ∈ acc ∨ R x v)) → ∀ v,v ∈ y5 g l i acc ↔ v ∈ acc ∨ ∃ x,x ∈ l ∧ R x v
 | [],i,acc,_,v => by simp [y5]
 | x :: l,i,acc,h,v => by
   unfold y5
   rw [zed R l (i + 1) _ (fun i y acc v hy => h i y acc v (List.mem_cons_of_mem _ hy)) v,h i x acc v (List.mem_cons_self ..)]
   constructor
   ·rintro ((h | h) | ⟨y,hy,h⟩)
    ·exact .inl h
    ·exact .inr ⟨x,List.mem_cons_self ..,h⟩
    ·exact .inr ⟨y,List.mem_cons_of_mem _ hy,h⟩
   ·rintro (h | ⟨y,hy,hR⟩)
    ·exact .inl (.inl h)
    ·rcases List.mem_cons.1 hy with e | e
     ·rw [e] at hR; exact .inl (.inr hR)
     ·exact .inr ⟨y,e,hR⟩
def Met (s : List Spn) (x y : Ed) (v : Int) : Prop := x.t = y.f ∧ vic s x.f x.t y.t = v ∧ v ≠ 0
theorem z5w (s : List Spn) (x : Ed) (i : Nat) (y : Ed) (acc : List Int) (v : Int) : v ∈ vG s x i y acc ↔ v ∈ acc ∨ Met s x y v := by
 unfold vG Met
 by_cases h1 : x.t = y.f
 ·rw [if_neg (by rw [bne_iff_ne]; exact fun e => e h1)]
  by_cases h2 : vic s x.f x.t y.t = 0
  ·rw [if_neg (by rw [bne_iff_ne]; exact fun e => e h2)]
   constructor
   ·exact .inl
   ·rintro (h | ⟨_,h,h'⟩)
    ·exact h
    ·exact absurd (h ▸ h2) h'
  ·rw [if_pos (by rw [bne_iff_ne]; exact h2)]
   rw [List.mem_append,List.mem_singleton]
   constructor
   ·rintro (h | h)
    ·exact .inl h
    ·exact .inr ⟨h1,h.symm,h ▸ h2⟩
   ·rintro (h | ⟨_,h,_⟩)
    ·exact .inl h
    ·exact .inr h.symm
 ·rw [if_pos (by rw [bne_iff_ne]; exact h1)]
  constructor
  ·exact .inl
  ·rintro (h | ⟨h,_⟩)
   ·exact h
   ·exact absurd h h1
theorem zzc (l : List Ed) (s : List Spn) (v : Int) : v ∈ zpj l s ↔ ∃ x,x ∈ l ∧ ∃ y,y ∈ l ∧ Met s x y v := by
 unfold zpj
 rw [zed (g := oG l s) (fun x v => ∃ y,y ∈ l ∧ Met s x y v) l 0 [] (fun i x acc v _ => zed (g := vG s x) (fun y v => Met s x y v) l 0 acc (fun i y acc v _ => z5w s x i y acc v) v) v]
 simp
theorem zmp {s : List Spn} (h : qq s = true) (a : Int) : 0 ≤ (spn s a).1.c ∧ ((spn s a).2 = true → (spn s a).1.t = a) := by
 unfold spn
 cases hf : s.find? (fun x => x.t == a) with
 | none => exact ⟨Int.le_refl _,fun h => by cases h⟩
 | some x =>
   have hx : (x.t == a) = true := List.find?_some (p := fun x : Spn => x.t == a) hf
   obtain ⟨k,hk⟩ := List.mem_iff_getElem?.1 (List.mem_of_find?_eq_some hf)
   unfold qq at h
   rw [Bool.and_eq_true,qf] at h
   have h2 := h.2 k x hk
   unfold okS at h2
   simp only [Bool.and_eq_true,Bool.or_eq_true,Bool.not_eq_true',Bool.not_eq_true,Bool.false_eq_true,Bool.true_eq_false,decide_eq_true_eq,decide_eq_false_iff_not,beq_iff_eq,beq_eq_false_iff_ne,bne_iff_ne,ne_eq,ge_iff_le,gt_iff_lt,if_true,if_false,false_and,true_and,and_true,and_false,false_or,true_or,or_true,or_false,Bool.not_true,Bool.not_false,decide_true,decide_false,Bool.and_true,Bool.true_and,Bool.false_and,Bool.and_false,Bool.or_true,Bool.true_or,Bool.false_or,Bool.or_false,not_true,not_false_eq_true,Int.not_lt,Int.not_le,Decidable.not_not] at h2
   refine ⟨?_,fun _ => by rwa [beq_iff_eq] at hx⟩
   show 0 ≤ x.c
   have h3 := h2.2.2.2.1
   have h4 := h2.2.1
   rcases h3 with h3 | h3
   ·omega
   ·omega
theorem z7m {l : List Ed} (h : wt l = true) {x : Ed} (hx : x ∈ l) : x.f ≠ 0 ∧ x.t ≠ 0 := by
 obtain ⟨k,hk⟩ := List.mem_iff_getElem?.1 hx
 unfold wt at h
 rw [Bool.and_eq_true,qf] at h
 have h2 := h.2 k x hk
 unfold okE inn at h2
 simp only [Bool.and_eq_true,Bool.or_eq_true,Bool.not_eq_true',Bool.not_eq_true,Bool.false_eq_true,Bool.true_eq_false,decide_eq_true_eq,decide_eq_false_iff_not,beq_iff_eq,beq_eq_false_iff_ne,bne_iff_ne,ne_eq,ge_iff_le,gt_iff_lt,if_true,if_false,false_and,true_and,and_true,and_false,false_or,true_or,or_true,or_false,Bool.not_true,Bool.not_false,decide_true,decide_false,Bool.and_true,Bool.true_and,Bool.false_and,Bool.and_false,Bool.or_true,Bool.true_or,Bool.false_or,Bool.or_false,not_true,not_false_eq_true,Int.not_lt,Int.not_le,Decidable.not_not] at h2
 omega
theorem z2y {s : List Spn} (h : qq s = true) (a b c : Int) : z77 s a b c = !((spn s a).2 && (spn s b).2 && (spn s c).2 && !((spn s c).1.c == 0) && !((a != c) && ahd (spn s a).1 (spn s c).1) && !(ahd (spn s b).1 (spn s c).1)) := by
 obtain ⟨a1,a2⟩ := zmp h a
 obtain ⟨b1,b2⟩ := zmp h b
 obtain ⟨c1,c2⟩ := zmp h c
 unfold z77 ahd
 have ga : decide ((spn s a).1.c > 0) = ((spn s a).1.c != 0) := by
  by_cases e : (spn s a).1.c = 0
  ·rw [e]; rfl
  ·rw [decide_eq_true (by omega : (spn s a).1.c > 0)]
   exact (bne_iff_ne.2 e).symm
 have gb : decide ((spn s b).1.c > 0) = ((spn s b).1.c != 0) := by
  by_cases e : (spn s b).1.c = 0
  ·rw [e]; rfl
  ·rw [decide_eq_true (by omega : (spn s b).1.c > 0)]
   exact (bne_iff_ne.2 e).symm
 rw [ga,gb]
 cases ha : (spn s a).2 with
 | false => simp
 | true =>
   cases hc : (spn s c).2 with
   | false => simp
   | true =>
     rw [a2 ha,c2 hc]
     cases (spn s b).2 <;> cases ((spn s c).1.c == 0) <;> cases (a != c) <;> cases ((spn s a).1.c != 0) <;> cases decide ((spn s a).1.c < (spn s c).1.c) <;> cases ((spn s b).1.c != 0) <;> cases decide ((spn s b).1.c < (spn s c).1.c) <;> rfl
theorem z5k {s : List Spn} (h : qq s = true) {x : Ed} (hx : x.f ≠ 0 ∧ x.t ≠ 0) (i : Nat) (y : Ed) (acc : List Int) : rG s x i y acc = if (x.t != y.f) = true then acc else if (vic s x.f x.t y.t != 0) = true then wi (vic s x.f x.t y.t) acc else acc := by
 unfold rG
 rw [zqi,zqi,z2y h]
 have ht := (zmp h x.t).2
 have hf := (zmp h x.f).2
 unfold vic
 cases (x.t != y.f) with
 | true => rfl
 | false =>
   simp only [Bool.false_eq_true,if_false]
   cases hp : (spn s x.f).2 with
   | false => simp
   | true =>
     cases hq : (spn s x.t).2 with
     | false => simp
     | true =>
       rw [hf hp,ht hq]
       have n1 : (x.f != 0) = true := bne_iff_ne.2 hx.1
       have n2 : (x.t != 0) = true := bne_iff_ne.2 hx.2
       generalize ((true && true && (spn s y.t).2 && !((spn s y.t).1.c == 0) && !((x.f != y.t) && ahd (spn s x.f).1 (spn s y.t).1) && !(ahd (spn s x.t).1 (spn s y.t).1))) = bb
       cases bb with
       | false => simp
       | true =>
         cases ((spn s x.t).1.c == 0) with
         | true => simp [n2,hx.2]
         | false =>
           cases ((spn s x.f).1.c == 0) with
           | true => simp [n1,hx.1]
           | false => simp
theorem z5x {s : List Spn} (h : qq s = true) {x : Ed} (hx : x.f ≠ 0 ∧ x.t ≠ 0) (i : Nat) (y : Ed) (acc : List Int) (v : Int) : v ∈ rG s x i y acc ↔ v ∈ acc ∨ Met s x y v := by
 rw [z5k h hx]
 unfold Met
 by_cases h1 : x.t = y.f
 ·rw [if_neg (by rw [bne_iff_ne]; exact fun e => e h1)]
  by_cases h2 : vic s x.f x.t y.t = 0
  ·rw [if_neg (by rw [bne_iff_ne]; exact fun e => e h2)]
   constructor
   ·exact .inl
   ·rintro (h | ⟨_,h,h'⟩)
    ·exact h
    ·exact absurd (h ▸ h2) h'
  ·rw [if_pos (by rw [bne_iff_ne]; exact h2),zvn]
   constructor
   ·rintro (h | h)
    ·exact .inr ⟨h1,h.symm,h ▸ h2⟩
    ·exact .inl h
   ·rintro (h | ⟨_,h,_⟩)
    ·exact .inr h
    ·exact .inl h.symm
 ·rw [if_pos (by rw [bne_iff_ne]; exact h1)]
  constructor
  ·exact .inl
  ·rintro (h | ⟨h,_⟩)
   ·exact h
   ·exact absurd h h1
theorem zcv {α S : Type} {g : Nat → α → S → S} (Q : S → Prop) : ∀ (l : List α) (i : Nat) (s : S),Q s → (∀ i a s,a ∈ l → Q s → Q (g i a s)) → Q (y5 g l i s)
 | [],i,s,h,_ => h
 | a :: l,i,s,h,hg => zcv Q l (i + 1) _ (hg i a s (List.mem_cons_self ..) h) fun i b s hb => hg i b s (List.mem_cons_of_mem _ hb)
theorem zjq {l : List Ed} {s : List Spn} (hl : wt l = true) (hs : qq s = true) : (zuw l s).Pairwise (· < ·) ∧ ∀ v,v ∈ zuw l s ↔ ∃ x,x ∈ l ∧ ∃ y,y ∈ l ∧ Met s x y v := by
 refine ⟨?_,fun v => ?_⟩
 ·refine zcv (g := roG l s) (fun l : List Int => l.Pairwise (· < ·)) l 0 [] .nil fun i x acc hx h => ?_
  refine zcv (g := rG s x) (fun l : List Int => l.Pairwise (· < ·)) l 0 acc h fun i y acc hy h => ?_
  show (rG s x i y acc).Pairwise (· < ·)
  rw [z5k hs (z7m hl hx)]
  split
  ·exact h
  ·split
   ·exact z19 _ _ h
   ·exact h
 ·unfold zuw
  rw [zed (g := roG l s) (fun x v => ∃ y,y ∈ l ∧ Met s x y v) l 0 [] (fun i x acc v hx => zed (g := rG s x) (fun y v => Met s x y v) l 0 acc (fun i y acc v _ => z5x hs (z7m hl hx) i y acc v) v) v]
  simp
theorem zar {l : List Ed} {s : List Spn} (hl : wt l = true) (hs : qq s = true) : (jk l s).Pairwise (· < ·) ∧ ∀ v,v ∈ jk l s ↔ ∃ x,x ∈ l ∧ ∃ y,y ∈ l ∧ Met s x y v := by
 unfold jk
 rw [if_pos (by rw [hl,hs]; rfl)]
 obtain ⟨h1,h2⟩ := ztq _ (zyd (zpj l s))
 refine ⟨h1,fun v => ?_⟩
 rw [h2,List.mem_mergeSort,zzc]
theorem zyb {l : List Ed} {s : List Spn} (hl : wt l = true) (hs : qq s = true) : jk l s = zuw l s :=
 zxw _ _ (zar hl hs).1 (zjq hl hs).1 fun v => by rw [(zar hl hs).2,(zjq hl hs).2]
theorem zhb (l : List Ed) (s : List Spn) (v : Int) : v ∈ jk l s → wt l = true ∧ qq s = true ∧ ∃ x,x ∈ l ∧ ∃ y,y ∈ l ∧ Met s x y v := by
 intro h
 have hb : (wt l && qq s) = true := by
  by_cases hb : (wt l && qq s) = true
  ·exact hb
  ·unfold jk at h
   rw [if_neg hb] at h
   cases h
 rw [Bool.and_eq_true] at hb
 exact ⟨hb.1,hb.2,((zar hb.1 hb.2).2 v).1 h⟩
def zxb : Nat → Int → List Ed → List Ed := fun _ v l => zjg l v
theorem zm8 (x : Ed) : ∀ (vs : List Int) (i : Nat) (l : List Ed),x ∈ y5 zxb vs i l ↔ x ∈ l ∧ ∀ v ∈ vs,x.f ≠ v ∧ x.t ≠ v
 | [],i,l => by simp [y5]
 | v :: vs,i,l => by
   unfold y5
   rw [zm8 x vs (i + 1)]
   unfold zxb zjg
   rw [List.mem_filter]
   constructor
   ·rintro ⟨⟨h1,h2⟩,h3⟩
    refine ⟨h1,fun w hw => ?_⟩
    rcases List.mem_cons.1 hw with e | e
    ·subst e
     simpa using h2
    ·exact h3 w e
   ·rintro ⟨h1,h2⟩
    exact ⟨⟨h1,by have := h2 v (List.mem_cons_self ..); simpa using this⟩,fun w hw => h2 w (List.mem_cons_of_mem _ hw)⟩
theorem z4q {s : List Spn} {a b c v : Int} (h : vic s a b c = v) (h0 : v ≠ 0) : v = b ∨ v = a := by
 unfold vic at h
 split at h
 ·split at h
  ·exact .inl h.symm
  ·split at h
   ·exact .inr h.symm
   ·exact absurd h.symm h0
 ·exact absurd h.symm h0
theorem yat (l : List Ed) (s : List Spn) (hl : wt l = true) (hs : qq s = true) : jk (y5 zxb (jk l s) 0 l) s = [] := by
 refine List.eq_nil_iff_forall_not_mem.2 fun v hv => ?_
 obtain ⟨_,_,x,hx,y,hy,hm⟩ := zhb _ _ _ hv
 rw [zm8] at hx hy
 have hin : v ∈ jk l s := ((zar hl hs).2 v).2 ⟨x,hx.1,y,hy.1,hm⟩
 obtain ⟨_,h2,h3⟩ := hm
 have := hx.2 v hin
 rcases z4q h2 h3 with e | e
 ·exact this.2 e.symm
 ·exact this.1 e.symm
end Go.Pvm.S
