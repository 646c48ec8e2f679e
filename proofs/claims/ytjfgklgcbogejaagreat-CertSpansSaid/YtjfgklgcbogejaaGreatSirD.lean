/- Part of the proof: locks: one more: plain. -/
import Derived.Test.YtjfgklgcbogejaaGreatSirC
set_option linter.unusedSimpArgs false
set_option linter.unusedVariables false
namespace Go.Pvm.S
open Go.Pvm Go.Proofs
def Srt (l : List Lk) : Prop := l.Pairwise fun a b => zbu a b < 0
structure Good (l : List Lk) : Prop where
 srt : Srt l
 ok : ∀ a ∈ l,okL a = true
 nc : ∀ a ∈ l,∀ b ∈ l,covL a b = true → a = b
theorem zgf (a : Lk) : ¬ zbu a a < 0 := by
 rw [zkj]; omega
theorem Srt.at {l : List Lk} (h : Srt l) {i j : Nat} {a b : Lk} (hij : i < j) (ha : l[i]? = some a) (hb : l[j]? = some b) : zbu a b < 0 := by
 obtain ⟨hi,rfl⟩ := List.getElem?_eq_some_iff.1 ha
 obtain ⟨hj,rfl⟩ := List.getElem?_eq_some_iff.1 hb
 exact List.pairwise_iff_getElem.1 h i j hi hj hij
theorem zcd (l : List Lk) : zgk l = true ↔ l.length ≤ 64 ∧ Good l := by
 unfold zgk
 rw [Bool.and_eq_true,decide_eq_true_eq,qu]
 constructor
 ·rintro ⟨h1,h2⟩
  have hok : ∀ j a,l[j]? = some a → okL a = true ∧ (j = 0 ∨ zbu (l.getD (j - 1) a) a < 0) ∧ ∀ k y,l[k]? = some y → k = j ∨ covL y a = false := fun j a ha => by
   have := h2 j a ha
   rw [Nat.zero_add] at this
   unfold okC at this
   rw [Bool.and_eq_true,Bool.and_eq_true,Bool.or_eq_true,decide_eq_true_eq,decide_eq_true_eq,qu] at this
   refine ⟨this.1,this.2.1,fun k y hy => ?_⟩
   have h3 := this.2.2 k y hy
   rw [Nat.zero_add,Bool.or_eq_true,decide_eq_true_eq,Bool.not_eq_true'] at h3
   exact h3
  have hch : ∀ i a b,l[i]? = some a → l[i + 1]? = some b → zbu a b < 0 := fun i a b ha hb => by
   rcases (hok (i + 1) b hb).2.1 with h | h
   ·omega
   ·rw [Nat.add_sub_cancel,List.getD_eq_getElem?_getD,ha] at h
    exact h
  refine ⟨h1,?_,fun a ha => ?_,fun a ha b hb hc => ?_⟩
  ·refine List.pairwise_iff_getElem.2 fun i j hi hj hij => ?_
   exact u6 (lt := fun a b => zbu a b < 0) zki hch hij (List.getElem?_eq_getElem hi) (List.getElem?_eq_getElem hj)
  ·obtain ⟨k,hk⟩ := List.mem_iff_getElem?.1 ha
   exact (hok k a hk).1
  ·obtain ⟨i,hi⟩ := List.mem_iff_getElem?.1 ha
   obtain ⟨j,hj⟩ := List.mem_iff_getElem?.1 hb
   rcases (hok j b hj).2.2 i a hi with h | h
   ·subst h
    rw [hi] at hj
    exact Option.some.inj hj
   ·rw [h] at hc; cases hc
 ·rintro ⟨h1,hg⟩
  refine ⟨h1,fun j a ha => ?_⟩
  rw [Nat.zero_add]
  unfold okC
  rw [Bool.and_eq_true,Bool.and_eq_true,Bool.or_eq_true,decide_eq_true_eq,decide_eq_true_eq,qu]
  have ham := List.mem_iff_getElem?.2 ⟨j,ha⟩
  refine ⟨hg.ok a ham,?_,fun k y hy => ?_⟩
  ·by_cases h0 : j = 0
   ·exact .inl h0
   ·refine .inr (hg.srt.at (i := j - 1) (j := j) (by omega) (z5s (a := a) (by have := (List.getElem?_eq_some_iff.1 ha).1; omega) (by omega)) ha)
  ·rw [Nat.zero_add,Bool.or_eq_true,decide_eq_true_eq,Bool.not_eq_true']
   by_cases hkj : k = j
   ·exact .inl hkj
   ·refine .inr ?_
    cases hc : covL y a with
    | false => rfl
    | true =>
      have e := hg.nc y (List.mem_iff_getElem?.2 ⟨k,hy⟩) a ham hc
      subst e
      exfalso
      rcases Nat.lt_or_gt_of_ne hkj with h | h
      ·exact zgf _ (hg.srt.at h hy ha)
      ·exact zgf _ (hg.srt.at h ha hy)
def bfO (x a : Lk) : Bool := decide (zbu x a < 0)
def zfa (l : List Lk) (x : Lk) : List Lk := if (l.any fun a => covL a x) = true then l else zdf (bfO x) x (l.filter fun a => !covL x a)
theorem insB_mem {α : Type} {bf : α → Bool} {x v : α} : ∀ {l : List α},v ∈ zdf bf x l ↔ v = x ∨ v ∈ l
 | [] => by simp [zdf]
 | a :: l => by
   unfold zdf
   split
   ·rw [List.mem_cons]
   ·rw [List.mem_cons,insB_mem (l := l),List.mem_cons]
    constructor
    ·rintro (h | h | h)
     ·exact .inr (.inl h)
     ·exact .inl h
     ·exact .inr (.inr h)
    ·rintro (h | h | h)
     ·exact .inr (.inl h)
     ·exact .inl h
     ·exact .inr (.inr h)
theorem zqh {α : Type} {bf : α → Bool} {x : α} : ∀ {l : List α},(zdf bf x l).length = l.length + 1
 | [] => rfl
 | a :: l => by
   unfold zdf
   split
   ·rfl
   ·rw [List.length_cons,zqh (l := l),List.length_cons]
theorem zqg {x : Lk} : ∀ {l : List Lk},Srt l → (∀ a ∈ l,zbu x a < 0 ∨ zbu a x < 0) → Srt (zdf (bfO x) x l)
 | [],_,_ => by unfold Srt zdf; simp
 | a :: l,h,hx => by
   have h' := List.pairwise_cons.1 h
   unfold zdf
   by_cases hb : bfO x a = true
   ·rw [if_pos hb]
    unfold bfO at hb
    rw [decide_eq_true_eq] at hb
    refine List.pairwise_cons.2 ⟨fun b hm => ?_,h⟩
    rcases List.mem_cons.1 hm with e | e
    ·rw [e]; exact hb
    ·exact zki _ _ _ hb (h'.1 b e)
   ·rw [if_neg hb]
    unfold bfO at hb
    rw [decide_eq_true_eq] at hb
    have hax : zbu a x < 0 := (hx a (List.mem_cons_self ..)).resolve_left hb
    refine List.pairwise_cons.2 ⟨fun b hm => ?_,zqg h'.2 fun b hm => hx b (List.mem_cons_of_mem _ hm)⟩
    rw [insB_mem] at hm
    rcases hm with e | e
    ·rw [e]; exact hax
    ·exact h'.1 b e
theorem zt1 {x : Lk} (h : okL x = true) : (x.k = 1 ∧ x.p = 0 ∧ x.q = zp9 x.q) ∨ (x.k = 2 ∧ 0 ≤ x.p ∧ x.p < 8 ∧ x.q = 0) ∨ (x.k = 3 ∧ x.p = 0 ∧ x.q = 0) := by
 unfold okL at h
 rw [Bool.and_eq_true,Bool.and_eq_true] at h
 have h2 := h.2.2
 by_cases h1 : x.k = 1
 ·rw [if_pos (by rw [beq_iff_eq]; exact h1),Bool.and_eq_true,beq_iff_eq,beq_iff_eq] at h2
  exact .inl ⟨h1,h2⟩
 ·rw [if_neg (by rw [beq_iff_eq]; exact h1)] at h2
  by_cases h3 : x.k = 2
  ·rw [if_pos (by rw [beq_iff_eq]; exact h3),Bool.and_eq_true,Bool.and_eq_true,decide_eq_true_eq,decide_eq_true_eq,beq_iff_eq] at h2
   exact .inr (.inl ⟨h3,h2.1,h2.2.1,h2.2.2⟩)
  ·rw [if_neg (by rw [beq_iff_eq]; exact h3)] at h2
   by_cases h4 : x.k = 3
   ·rw [if_pos (by rw [beq_iff_eq]; exact h4),Bool.and_eq_true,beq_iff_eq,beq_iff_eq] at h2
    exact .inr (.inr ⟨h4,h2⟩)
   ·rw [if_neg (by rw [beq_iff_eq]; exact h4)] at h2
    cases h2
theorem zvo {a b : Lk} (h : covL a b = true) : a.t = b.t := by
 unfold covL at h
 by_cases ht : a.t = b.t
 ·exact ht
 ·rw [if_pos (by rw [bne_iff_ne]; exact ht)] at h; cases h
theorem zvp {a b : Lk} (ha : okL a = true) (hb : okL b = true) (h1 : a.t = b.t) (h2 : a.k = b.k) (h3 : a.p = b.p) (h4 : qg a.q = qg b.q) : covL a b = true := by
 unfold covL
 rw [if_neg (by rw [bne_iff_ne]; exact fun e => e h1)]
 rcases zt1 ha with ⟨k,p,q⟩ | ⟨k,p,p',q⟩ | ⟨k,p,q⟩
 ·rw [k]
  rw [if_neg (by decide),if_neg (by decide),decide_eq_true_eq,Lk.ext']
  refine ⟨h1,h2,h3,?_⟩
  rcases zt1 hb with ⟨k',_,q'⟩ | ⟨k',_⟩ | ⟨k',_⟩
  ·rw [q,q']
   have := (ztr a.q.lt b.q.lt).1 h4
   unfold zp9
   rw [this]
  ·omega
  ·omega
 ·rw [k,if_neg (by decide),if_pos (by decide),← h2,k,h3]
  simp
 ·rw [k,if_pos (by decide)]
theorem zzi {l : List Lk} (hg : ∀ a ∈ l,okL a = true) {x : Lk} (hx : okL x = true) (hn : ¬ (l.any fun a => covL a x) = true) : ∀ a ∈ l,zbu x a < 0 ∨ zbu a x < 0 := fun a ha => by
 rcases zw9 x a with h | h | ⟨h1,h2,h3,h4⟩
 ·exact .inl h
 ·exact .inr h
 ·exfalso
  apply hn
  rw [List.any_eq_true]
  exact ⟨a,ha,zvp (hg a ha) hx h1.symm h2.symm h3.symm h4.symm⟩
theorem Good.put {l : List Lk} (hg : Good l) {x : Lk} (hx : okL x = true) : Good (zfa l x) := by
 unfold zfa
 split
 ·exact hg
 ·rename_i hn
  have hsub : ∀ a ∈ l.filter (fun a => !covL x a),a ∈ l ∧ covL x a = false := fun a ha => by
   rw [List.mem_filter,Bool.not_eq_true'] at ha
   exact ha
  have hno : ∀ a ∈ l,covL a x = false := fun a ha => by
   cases h : covL a x with
   | false => rfl
   | true => exact absurd (List.any_eq_true.2 ⟨a,ha,h⟩) hn
  refine ⟨zqg (hg.srt.filter _) fun a ha => zzi hg.ok hx hn a (hsub a ha).1,fun a ha => ?_,fun a ha b hb hc => ?_⟩
  ·rw [insB_mem] at ha
   rcases ha with e | e
   ·rw [e]; exact hx
   ·exact hg.ok a (hsub a e).1
  ·rw [insB_mem] at ha hb
   rcases ha with e | e <;> rcases hb with e' | e'
   ·rw [e,e']
   ·rw [e,(hsub b e').2] at hc; cases hc
   ·rw [e',hno a (hsub a e).1] at hc; cases hc
   ·exact hg.nc a (hsub a e).1 b (hsub b e').1 hc
theorem zps (l : List Lk) (x : Lk) : (zfa l x).length ≤ l.length + 1 := by
 unfold zfa
 split
 ·omega
 ·rw [zqh]
  have := List.length_filter_le (fun a => !covL x a) l
  omega
theorem zkf {l : List Lk} {x v : Lk} (h : v ∈ zfa l x) : v = x ∨ v ∈ l := by
 unfold zfa at h
 split at h
 ·exact .inr h
 ·rw [insB_mem] at h
  rcases h with e | e
  ·exact .inl e
  ·exact .inr (List.mem_filter.1 e).1
def z2c (l : List Lk) (x : Lk) : Nat := (l.takeWhile fun a => decide (zbu a x < 0)).length
theorem zig {l : List Lk} (h : Srt l) (x : Lk) : z2c l x ≤ l.length ∧ ∀ k a,l[k]? = some a → (zbu a x < 0 ↔ k < z2c l x) := by
 obtain ⟨h1,h2⟩ := zam (q := fun a => decide (zbu a x < 0)) (l := l) fun i j a b hij ha hb hq => by
  rw [decide_eq_true_eq] at hq ⊢
  exact zki _ _ _ (h.at hij ha hb) hq
 refine ⟨h1,fun k a hk => ?_⟩
 have h3 := h2 k a hk
 rw [decide_eq_true_eq] at h3
 exact h3
theorem z07 {l : List Lk} (h : Srt l) {x : Lk} (hx : ∀ a ∈ l,zbu x a < 0 ∨ zbu a x < 0) : l.take (z2c l x) ++ x :: l.drop (z2c l x) = zdf (bfO x) x l := by
 obtain ⟨h1,h2⟩ := zig h x
 refine (zks h1 (fun k a hk hlt => ?_) (fun a ha => ?_)).symm
 ·have := (h2 k a hk).2 hlt
  unfold bfO
  rw [decide_eq_false_iff_not]
  intro h9
  exact zgf _ (zki _ _ _ this h9)
 ·have h3 : ¬ zbu a x < 0 := fun hq => Nat.lt_irrefl _ ((h2 _ a ha).1 hq)
  unfold bfO
  rw [decide_eq_true_eq]
  exact (hx a (List.mem_iff_getElem?.2 ⟨_,ha⟩)).resolve_right h3
end Go.Pvm.S
