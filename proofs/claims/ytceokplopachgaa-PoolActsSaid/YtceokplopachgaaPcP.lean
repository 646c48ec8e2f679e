/- Part of the proof: clocks with pins, plainly: what a touch and a pin leave. -/
import Derived.Test.YtceokplopachgaaPcC
set_option linter.unusedSimpArgs false
set_option linter.unusedVariables false
namespace Go.Pvm.S
open Go.Pvm Go.Proofs
structure Good (l : List Sp) : Prop where
 rng : ∀ (i : Nat) (s : Sp),l[i]? = some s → s = noSp ∨ (0 ≤ s.p ∧ s.p < 64)
 one : ∀ (i j : Nat) (s t : Sp),l[i]? = some s → l[j]? = some t → 0 ≤ s.p → s.p = t.p → i = j
theorem zeb {l : List Sp} {p : Int} {i : Nat} (h : atS l p = some i) : ∃ s,l[i]? = some s ∧ s.p = p := by
 unfold atS at h
 obtain ⟨h1,h2,_⟩ := List.findIdx?_eq_some_iff_getElem.1 h
 exact ⟨l[i],haf h1,by simpa using h2⟩
theorem zm0 {l : List Sp} {p : Int} (h : atS l p = none) {i : Nat} {s : Sp} (hs : l[i]? = some s) : s.p ≠ p := by
 unfold atS at h
 rw [List.findIdx?_eq_none_iff] at h
 have := h s (haj hs)
 simpa using this
theorem zx3 {l : List Sp} (h : Good l) {i : Nat} {s : Sp} (hs : l[i]? = some s) (h0 : 0 ≤ s.p) : atS l s.p = some i := by
 cases hq : atS l s.p with
 | none => exact absurd rfl (zm0 hq hs)
 | some j =>
   obtain ⟨t,ht,e⟩ := zeb hq
   rw [h.one i j s t hs ht h0 e.symm]
theorem ziy (l : List Sp) : ∀ (r : List Sp) (i : Nat),zhf l r i = true ↔ ∀ (j : Nat) (s : Sp),r[j]? = some s → zwv l (i + j) s = true
 | [],i => by simp [zhf]
 | s :: r,i => by
   unfold zhf
   rw [haq,ziy l r (i + 1)]
   constructor
   ·rintro ⟨h1,h2⟩ j t ht
    cases j with
    | zero => simp at ht; subst ht; exact h1
    | succ j => rw [show i + (j + 1) = i + 1 + j by omega]; exact h2 j t (by simpa using ht)
   ·intro h
    refine ⟨h 0 s rfl,fun j t ht => ?_⟩
    rw [show i + 1 + j = i + (j + 1) by omega]
    exact h (j + 1) t (by simpa using ht)
theorem ztk : noSp.p = -1 := rfl
theorem zu7 (l : List Sp) : zhf l l 0 = true ↔ Good l := by
 rw [ziy]
 constructor
 ·intro h
  have key : ∀ (i : Nat) (s : Sp),l[i]? = some s → s = noSp ∨ (0 ≤ s.p ∧ s.p < 64 ∧ atS l s.p = some i) := fun i s hs => by
   have h1 := h i s hs
   unfold zwv at h1
   simp only [Bool.or_eq_true,haq,hbw,beq_iff_eq,hb4] at h1
   rcases h1 with h1 | ⟨⟨h1,h2⟩,h3⟩
   ·exact .inl h1
   ·refine .inr ⟨h1,h2,?_⟩
    cases hq : atS l s.p with
    | none => rw [hq] at h3; exact absurd h3 (by show ¬ (-1 : Int) = (i : Nat); omega)
    | some j => rw [hq] at h3; have h3 : ((j : Nat) : Int) = (i : Nat) := h3; rw [show j = i by omega]
  refine ⟨fun i s hs => (key i s hs).imp id fun h => ⟨h.1,h.2.1⟩,fun i j s t hs ht h0 he => ?_⟩
  rcases key i s hs with h1 | ⟨_,_,h1⟩
  ·rw [h1,ztk] at h0; omega
  ·rcases key j t ht with h2 | ⟨_,_,h2⟩
   ·rw [he,h2,ztk] at h0; omega
   ·rw [he,h2] at h1; exact (Option.some.inj h1).symm
 ·intro h i s hs
  unfold zwv
  simp only [Bool.or_eq_true,haq,hbw,beq_iff_eq,hb4]
  rcases h.rng i s hs with h1 | h1
  ·exact .inl h1
  ·refine .inr ⟨h1,?_⟩
   rw [zx3 h hs h1.1]
   rfl
theorem okC {c : Ck} {n : Nat} (h1 : 1 ≤ n) (h2 : n ≤ 64) (hl : c.l.length = n) (hh : 0 ≤ c.h ∧ c.h < n) (hg : Good c.l) : c.ok = true := by
 unfold Ck.ok
 rw [(zu7 c.l).2 hg,decide_eq_true (show 1 ≤ c.l.length by omega),decide_eq_true (show c.l.length ≤ 64 by omega),decide_eq_true hh.1,decide_eq_true (show c.h < (c.l.length : Nat) by omega)]
 rfl
def Kn (l l' : List Sp) : Prop := l'.length = l.length ∧ ∀ (i : Nat) (s : Sp),l[i]? = some s → ∃ s',l'[i]? = some s' ∧ (s' = s ∨ (s.u = true ∧ s' = { s with u := false }))
theorem Kn.refl (l : List Sp) : Kn l l := ⟨rfl,fun i s h => ⟨s,h,.inl rfl⟩⟩
theorem Kn.trans {a b c : List Sp} (h : Kn a b) (k : Kn b c) : Kn a c := by
 refine ⟨k.1.trans h.1,fun i s hs => ?_⟩
 obtain ⟨t,h1,h2⟩ := h.2 i s hs
 obtain ⟨u,h3,h4⟩ := k.2 i t h1
 refine ⟨u,h3,?_⟩
 rcases h2 with rfl | ⟨h2,rfl⟩
 ·exact h4
 ·rcases h4 with rfl | ⟨h4,_⟩
  ·exact .inr ⟨h2,rfl⟩
  ·cases h4
theorem Kn.set {l : List Sp} {h : Nat} {s : Sp} (hs : l[h]? = some s) (hu : s.u = true) : Kn l (l.set h { s with u := false }) := by
 refine ⟨by simp,fun i t ht => ?_⟩
 have hh : h < l.length := (had.1 hs).1
 by_cases e : h = i
 ·subst e
  rw [hs] at ht
  cases ht
  exact ⟨_,ha3 hh,.inr ⟨hu,rfl⟩⟩
 ·exact ⟨t,by rw [ha5 e]; exact ht,.inl rfl⟩
theorem Kn.back {l l' : List Sp} (h : Kn l l') {i : Nat} {s' : Sp} (hs : l'[i]? = some s') : ∃ s,l[i]? = some s ∧ (s' = s ∨ (s.u = true ∧ s' = { s with u := false })) := by
 have hi : i < l.length := by rw [← h.1]; exact (had.1 hs).1
 obtain ⟨t,h1,h2⟩ := h.2 i l[i] (haf hi)
 rw [hs] at h1
 cases h1
 exact ⟨_,haf hi,h2⟩
theorem Kn.pn {s s' : Sp} (h : s' = s ∨ (s.u = true ∧ s' = { s with u := false })) : s'.p = s.p ∧ s'.n = s.n := by
 rcases h with rfl | ⟨_,rfl⟩ <;> exact ⟨rfl,rfl⟩
theorem Kn.good {l l' : List Sp} (h : Kn l l') (hg : Good l) : Good l' := by
 refine ⟨fun i s' hs => ?_,fun i j s' t' hs ht h0 he => ?_⟩
 ·obtain ⟨s,h1,h2⟩ := h.back hs
  rcases hg.rng i s h1 with h3 | h3
  ·rcases h2 with rfl | ⟨h2,_⟩
   ·exact .inl h3
   ·rw [h3] at h2; cases h2
  ·rw [(Kn.pn h2).1]; exact .inr h3
 ·obtain ⟨s,h1,h2⟩ := h.back hs
  obtain ⟨t,h3,h4⟩ := h.back ht
  rw [(Kn.pn h2).1] at h0 he
  rw [(Kn.pn h4).1] at he
  exact hg.one i j s t h1 h3 h0 he
theorem zc8 : ∀ (k : Nat) (l : List Sp) (h : Nat),h < l.length → Kn l (uy k l h).2.1 ∧ ∀ i,(uy k l h).1 = some i → (uy k l h).2.2 < l.length ∧ ∃ s,(uy k l h).2.1[i]? = some s ∧ s.n = false
 | 0,l,h,hh => ⟨Kn.refl l,fun i e => by cases e⟩
 | k + 1,l,h,hh => by
   have hm : (h + 1) % l.length < l.length := Nat.mod_lt _ (by omega)
   have hg := haf hh
   unfold uy
   rw [hg]
   simp only
   by_cases c : l[h].n = true
   ·rw [if_pos c]
    exact zc8 k l _ hm
   ·rw [if_neg c]
    by_cases c2 : l[h].u = true
    ·rw [if_pos c2]
     obtain ⟨h1,h2⟩ := zc8 k (l.set h { l[h] with u := false }) ((h + 1) % l.length) (by simpa using hm)
     refine ⟨(Kn.set hg c2).trans h1,fun i e => ?_⟩
     obtain ⟨h3,h4⟩ := h2 i e
     exact ⟨by simpa using h3,h4⟩
    ·rw [if_neg c2]
     exact ⟨Kn.refl l,fun i e => by cases e; exact ⟨hm,l[h],hg,by simpa using c⟩⟩
theorem za1 {n j : Nat} (hn : 0 < n) : ∀ (k d : Nat) (l : List Sp) (h : Nat) (s : Sp),l.length = n → h < n → (h + d) % n = j → d < n → l[j]? = some s → s.n = false → (s.u = false → d < k) → (s.u = true → d + n < k) → ∃ i,(uy k l h).1 = some i
 | 0,d,l,h,s,hl,hh,hj,hd,hs,h1,h2,h3 => by
   cases hu : s.u with
   | false => exact absurd (h2 hu) (Nat.not_lt_zero _)
   | true => exact absurd (h3 hu) (Nat.not_lt_zero _)
 | k + 1,d,l,h,s,hl,hh,hj,hd,hs,h1,h2,h3 => by
   obtain ⟨t,hg⟩ : ∃ t,l[h]? = some t := ⟨_,haf (show h < l.length by omega)⟩
   unfold uy
   rw [hg,hl]
   simp only
   have hm : (h + 1) % n < n := Nat.mod_lt _ hn
   by_cases c : t.n = true
   ·rw [if_pos c]
    cases d with
    | zero =>
      have : h = j := by rw [← hj,Nat.add_zero,Nat.mod_eq_of_lt hh]
      subst this
      rw [hg] at hs
      cases hs
      rw [h1] at c; cases c
    | succ d =>
      exact za1 (j := j) hn k d l _ s hl hm (by rw [← hj,Nat.mod_add_mod]; congr 1; omega) (by omega) hs h1 (fun e => by have := h2 e; omega) (fun e => by have := h3 e; omega)
   ·rw [if_neg c]
    by_cases c2 : t.u = true
    ·rw [if_pos c2]
     cases d with
     | zero =>
       have : h = j := by rw [← hj,Nat.add_zero,Nat.mod_eq_of_lt hh]
       subst this
       rw [hg] at hs
       cases hs
       have h4 := h3 c2
       refine za1 (j := h) hn k (n - 1) (l.set h { s with u := false }) ((h + 1) % n) { s with u := false } (by simpa using hl) hm ?_ (by omega) (ha3 (by omega)) h1 (fun _ => by omega) (fun e => by cases e)
       rw [Nat.mod_add_mod,show h + 1 + (n - 1) = h + n by omega,Nat.add_mod_right,Nat.mod_eq_of_lt hh]
     | succ d =>
       have hne : h ≠ j := fun e => by
        have h5 : (h + (d + 1)) % n = h := hj.trans e.symm
        rcases ha4 (h + (d + 1)) n with h6 | h6
        ·rw [Nat.mod_eq_of_lt h6] at h5; omega
        ·rw [Nat.mod_eq_sub_mod h6,Nat.mod_eq_of_lt (by omega)] at h5; omega
       exact za1 (j := j) hn k d (l.set h { t with u := false }) ((h + 1) % n) s (by simpa using hl) hm (by rw [← hj,Nat.mod_add_mod]; congr 1; omega) (by omega) (by rw [ha5 hne]; exact hs) h1 (fun e => by have := h2 e; omega) (fun e => by have := h3 e; omega)
    ·rw [if_neg c2]
     exact ⟨h,rfl⟩
theorem zoc {l : List Sp} {h : Nat} (hh : h < l.length) {j : Nat} {s : Sp} (hs : l[j]? = some s) (hn : s.n = false) : ∃ i,(w6 l h).1 = some i := by
 unfold w6
 split
 ·exact ⟨_,rfl⟩
 ·have hj : j < l.length := (had.1 hs).1
  refine za1 (n := l.length) (j := j) (by omega) (2 * l.length) ((j + l.length - h) % l.length) l h s rfl hh ?_ (Nat.mod_lt _ (by omega)) hs hn (fun _ => ?_) (fun _ => ?_)
  ·rw [Nat.add_mod_mod,show h + (j + l.length - h) = j + l.length by omega,Nat.add_mod_right,Nat.mod_eq_of_lt hj]
  ·have := Nat.mod_lt (j + l.length - h) (show 0 < l.length by omega); omega
  ·have := Nat.mod_lt (j + l.length - h) (show 0 < l.length by omega); omega
theorem zob {l : List Sp} (hg : Good l) {h i : Nat} (hh : h < l.length) (e : (w6 l h).1 = some i) : Kn l (w6 l h).2.1 ∧ (w6 l h).2.2 < l.length ∧ ∃ s,(w6 l h).2.1[i]? = some s ∧ s.n = false := by
 unfold w6 at e ⊢
 cases hq : atS l (-1) with
 | some j =>
   rw [hq] at e
   simp only at e ⊢
   cases e
   obtain ⟨s,h1,h2⟩ := zeb hq
   refine ⟨Kn.refl l,hh,s,h1,?_⟩
   rcases hg.rng _ s h1 with h3 | h3
   ·rw [h3]; rfl
   ·omega
 | none =>
   rw [hq] at e
   simp only at e ⊢
   obtain ⟨h1,h2⟩ := zc8 (2 * l.length) l h hh
   obtain ⟨h3,h4⟩ := h2 i e
   exact ⟨h1,h3,h4⟩
theorem Good.put {l : List Sp} (hg : Good l) {i : Nat} {s : Sp} (hr : 0 ≤ s.p ∧ s.p < 64) (hu : ∀ (j : Nat) (t : Sp),l[j]? = some t → t.p = s.p → j = i) : Good (l.set i s) := by
 have key : ∀ (j : Nat) (t : Sp),(l.set i s)[j]? = some t → (j = i ∧ t = s) ∨ (j ≠ i ∧ l[j]? = some t) := fun j t ht => by
  rw [List.getElem?_set] at ht
  split at ht
  ·rename_i e
   split at ht
   ·cases ht; exact .inl ⟨e.symm,rfl⟩
   ·cases ht
  ·rename_i e; exact .inr ⟨fun e' => e e'.symm,ht⟩
 refine ⟨fun j t ht => ?_,fun j k t v ht hv h0 he => ?_⟩
 ·rcases key j t ht with ⟨_,e⟩ | ⟨_,h⟩
  ·rw [e]; exact .inr hr
  ·exact hg.rng j t h
 ·rcases key j t ht with ⟨e1,e2⟩ | ⟨h1,h2⟩
  ·rcases key k v hv with ⟨e3,e4⟩ | ⟨h3,h4⟩
   ·rw [e1,e3]
   ·rw [e1,hu k v h4 (by rw [← he,e2])]
  ·rcases key k v hv with ⟨e3,e4⟩ | ⟨h3,h4⟩
   ·rw [e3,hu j t h2 (by rw [he,e4])]
   ·exact hg.one j k t v h2 h4 h0 he
end Go.Pvm.S
