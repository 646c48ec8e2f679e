/- Part of the proof: clocks with pins, plainly: a page is touched, and pinned. -/
import Derived.Test.YtiannjbcmmiilaaClkP
set_option linter.unusedSimpArgs false
set_option linter.unusedVariables false
namespace Go.Pvm.S
open Go.Pvm Go.Proofs
theorem getSet {α : Type} {l : List α} {i j : Nat} {a b : α} (h : (l.set i a)[j]? = some b) : (j = i ∧ b = a) ∨ (j ≠ i ∧ l[j]? = some b) := by
  rw [List.getElem?_set] at h
  split at h
  · rename_i e
    split at h
    · cases h; exact .inl ⟨e.symm, rfl⟩
    · cases h
  · rename_i e; exact .inr ⟨fun e' => e e'.symm, h⟩
/-- What a touch leaves. -/
structure Tch (n : Nat) (hd : Hd) (p : Int) (c : Ck) (k was : Int) : Prop where
  j : J n c hd
  k0 : 0 ≤ k ∧ k < n
  at_ : ∃ u b, c.l[k.toNat]? = some ⟨p, u, b⟩
  was : ∀ x ∈ hd, x.1 ≠ was
theorem J.touch {n : Nat} {c : Ck} {hd : Hd} (h : J n c hd) (h1 : 1 ≤ n) (h2 : n ≤ 64) {p : Int} (p0 : 0 ≤ p) (p1 : p < 64) :
    ((touchS c p).2.2.2 = 0 ∧ Tch n hd p (touchS c p).1 (touchS c p).2.1 (touchS c p).2.2.1) ∨ ((touchS c p).2.2.2 = 11 ∧ n ≤ hd.length ∧ (∀ x ∈ hd, x.1 ≠ p) ∧ (touchS c p).1 = c) := by
  have hok := okC h1 h2 h.ln h.hh h.gd
  have hln := h.ln
  have hhh := h.hh
  unfold touchS
  rw [if_neg (by rw [hok]; decide), if_neg (by omega)]
  cases hq : atS c.l p with
  | some i =>
    obtain ⟨s, hs, rfl⟩ := atS_some hq
    have hi : i < c.l.length := (List.getElem?_eq_some_iff.1 hs).1
    have hgd : c.l.getD i noSp = s := by rw [List.getD_eq_getElem?_getD, hs]; rfl
    simp only [hgd]
    refine .inl ⟨trivial, ⟨⟨by simp [hln], hhh, ?_, ?_, ?_⟩, ⟨by omega, by omega⟩, ⟨true, s.n, ?_⟩, ?_⟩⟩
    · exact Good.put h.gd ⟨p0, p1⟩ fun j t ht e => h.gd.one j i t s ht hs (by rw [e]; exact p0) e
    · intro x hx
      obtain ⟨a1, a2, a3, u, a4⟩ := h.pin x hx
      refine ⟨a1, a2, a3, ?_⟩
      by_cases e : i = x.2.toNat
      · subst e
        rw [hs] at a4
        cases a4
        exact ⟨true, List.getElem?_set_self hi⟩
      · exact ⟨u, by rw [List.getElem?_set_ne e]; exact a4⟩
    · intro j t ht hn
      rcases getSet ht with ⟨rfl, rfl⟩ | ⟨_, ht⟩
      · exact h.all j s hs hn
      · exact h.all j t ht hn
    · rw [Int.toNat_natCast, List.getElem?_set_self hi]
    · intro x hx e
      have := (h.pin x hx).1
      omega
  | none =>
    have hno : ∀ (j : Nat) (t : Sp), c.l[j]? = some t → t.p ≠ p := fun j t ht => atS_none hq ht
    have hsp := fun i => findS_spec (l := c.l) h.gd (h := c.h.toNat) (i := i) (by omega)
    have hso := fun j s => findS_some (l := c.l) (h := c.h.toNat) (by omega) (j := j) (s := s)
    have hlt := fun i => findS_lt (l := c.l) (h := c.h.toNat) (i := i) (by omega)
    have hfl := findS_len c.l c.h.toNat
    simp only
    generalize findS c.l c.h.toNat = r at hsp hso hlt hfl
    obtain ⟨o, l', h'⟩ := r
    cases o with
    | some i =>
      obtain ⟨k1, k2, s, k3, k4⟩ := hsp i rfl
      have hi : i < l'.length := (List.getElem?_eq_some_iff.1 k3).1
      simp only at hfl k1 k2 k3
      have hg := k1.good h.gd
      have hgd : l'.getD i noSp = s := by rw [List.getD_eq_getElem?_getD, k3]; rfl
      have hpin : ∀ x ∈ hd, ∃ u, l'[x.2.toNat]? = some ⟨x.1, u, true⟩ := fun x hx => by
        obtain ⟨a1, a2, a3, u, a4⟩ := h.pin x hx
        obtain ⟨s', b1, b2⟩ := k1.2 _ _ a4
        rcases b2 with rfl | ⟨_, rfl⟩
        · exact ⟨u, b1⟩
        · exact ⟨false, b1⟩
      simp only [hgd]
      refine .inl ⟨trivial, ⟨⟨by simp [hfl, hln], ⟨by simp only; omega, by simp only; omega⟩, ?_, ?_, ?_⟩, ⟨by omega, by omega⟩, ⟨true, false, ?_⟩, ?_⟩⟩
      · refine Good.put hg ⟨p0, p1⟩ fun j t ht e => ?_
        obtain ⟨s', b1, b2⟩ := k1.back ht
        exact absurd ((Kn.pn b2).1.symm.trans e) (hno j s' b1)
      · intro x hx
        obtain ⟨a1, a2, a3, _⟩ := h.pin x hx
        obtain ⟨u, a4⟩ := hpin x hx
        refine ⟨a1, a2, a3, u, ?_⟩
        have : i ≠ x.2.toNat := fun e => by
          rw [← e, k3] at a4
          cases a4
          cases k4
        rw [List.getElem?_set_ne this]
        exact a4
      · intro j t ht hn
        rcases getSet ht with ⟨rfl, rfl⟩ | ⟨_, ht⟩
        · cases hn
        · obtain ⟨s', b1, b2⟩ := k1.back ht
          exact h.all j s' b1 ((Kn.pn b2).2.symm.trans hn)
      · rw [Int.toNat_natCast, List.getElem?_set_self hi]
      · intro x hx e
        obtain ⟨u, a4⟩ := hpin x hx
        have := hg.one _ _ _ _ k3 a4 (by rw [← e]; exact (h.pin x hx).1) e.symm
        rw [← this, k3] at a4
        cases a4
        cases k4
    | none =>
      refine .inr ⟨rfl, h.full fun i s hs => ?_, fun x hx e => ?_, rfl⟩
      · cases hn : s.n with
        | true => rfl
        | false =>
          obtain ⟨i, e⟩ := hso i s hs hn
          cases e
      · obtain ⟨_, _, _, u, a4⟩ := h.pin x hx
        exact hno _ _ a4 e
def pinS (c : Ck) (page : Int) (on : Bool) : Ck × Int :=
  if c.ok = false then (⟨[], 0⟩, 1) else
  match atS c.l page with
  | some i => if page < 0 then (c, 3) else (⟨c.l.set i { c.l.getD i noSp with n := on }, c.h⟩, 0)
  | none => (c, 3)
/-- What is held, with one more page. -/
def updH (hd : Hd) (p k : Int) : Hd := match hd.findIdx? (fun x => x.1 == p) with
  | some j => hd.set j (p, k)
  | none => hd ++ [(p, k)]
theorem updH_len (hd : Hd) (p k : Int) : (updH hd p k).length ≤ hd.length + 1 := by
  unfold updH
  split <;> simp
theorem updH_mem {hd : Hd} {p k : Int} {x : Int × Int} (h : x ∈ updH hd p k) : x ∈ hd ∨ x = (p, k) := by
  unfold updH at h
  split at h
  · exact (List.mem_or_eq_of_mem_set h)
  · simpa using h
theorem updH_new (hd : Hd) (p k : Int) : (p, k) ∈ updH hd p k := by
  unfold updH
  split
  · rename_i j hj
    obtain ⟨h1, h2, _⟩ := List.findIdx?_eq_some_iff_getElem.1 hj
    exact List.mem_of_getElem? (List.getElem?_set_self h1)
  · simp
theorem updH_old {hd : Hd} {p k : Int} {x : Int × Int} (h : x ∈ hd) (hx : x.1 ≠ p) : x ∈ updH hd p k := by
  unfold updH
  split
  · rename_i j hj
    obtain ⟨h1, h2, _⟩ := List.findIdx?_eq_some_iff_getElem.1 hj
    obtain ⟨i, hi⟩ := List.getElem?_of_mem h
    have : j ≠ i := fun e => by
      subst e
      rw [List.getElem?_eq_getElem h1] at hi
      cases hi
      exact hx (by simpa using h2)
    exact List.mem_of_getElem? (by rw [List.getElem?_set_ne this]; exact hi)
  · simp [h]
theorem J.pinned {n : Nat} {c : Ck} {hd : Hd} {p k w : Int} (h1 : 1 ≤ n) (h2 : n ≤ 64) (p0 : 0 ≤ p) (p1 : p < 64) (h : Tch n hd p c k w) : (pinS c p true).2 = 0 ∧ J n (pinS c p true).1 (updH hd p k) := by
  obtain ⟨hj, hk, ⟨u, b, hs⟩, _⟩ := h
  have hok := okC h1 h2 hj.ln hj.hh hj.gd
  have hat : atS c.l p = some k.toNat := atS_at hj.gd hs p0
  have hi : k.toNat < c.l.length := (List.getElem?_eq_some_iff.1 hs).1
  have hgd : c.l.getD k.toNat noSp = ⟨p, u, b⟩ := by rw [List.getD_eq_getElem?_getD, hs]; rfl
  unfold pinS
  rw [if_neg (by rw [hok]; decide), hat]
  simp only [hgd]
  rw [if_neg (by omega)]
  have hmem : ∀ x ∈ updH hd p k, x ∈ hd ∨ x = (p, k) := fun x hx => updH_mem hx
  refine ⟨rfl, ⟨by simp [hj.ln], hj.hh, ?_, ?_, ?_⟩⟩
  · exact Good.put hj.gd ⟨p0, p1⟩ fun j t ht e => hj.gd.one j _ t _ ht hs (by rw [e]; exact p0) e
  · intro x hx
    rcases hmem x hx with hx | rfl
    · obtain ⟨a1, a2, a3, u', a4⟩ := hj.pin x hx
      refine ⟨a1, a2, a3, ?_⟩
      by_cases e : k.toNat = x.2.toNat
      · rw [e] at hs
        rw [hs] at a4
        cases a4
        exact ⟨u, by rw [e]; exact List.getElem?_set_self (by rw [← e]; exact hi)⟩
      · exact ⟨u', by rw [List.getElem?_set_ne e]; exact a4⟩
    · exact ⟨p0, p1, hk.1, u, List.getElem?_set_self hi⟩
  · intro j t ht hn
    rcases getSet ht with ⟨rfl, rfl⟩ | ⟨hne, ht⟩
    · exact ⟨(p, k), updH_new _ _ _, by show k = _; omega⟩
    · obtain ⟨x, hx, e⟩ := hj.all j t ht hn
      refine ⟨x, updH_old hx ?_, e⟩
      intro ep
      obtain ⟨_, _, _, u', a4⟩ := hj.pin x hx
      have := hj.gd.one _ _ _ _ a4 hs (by rw [ep]; exact p0) ep
      omega
theorem J.new {n : Nat} (h1 : 1 ≤ n) : J n ⟨List.replicate n noSp, 0⟩ [] := by
  have key : ∀ (i : Nat) (s : Sp), (List.replicate n noSp)[i]? = some s → s = noSp := fun i s hs => by
    rw [List.getElem?_replicate] at hs
    split at hs
    · cases hs; rfl
    · cases hs
  refine ⟨by simp, ⟨Int.le_refl _, by show (0 : Int) < _; omega⟩, ⟨fun i s hs => .inl (key i s hs), fun i j s t hs ht h0 he => ?_⟩, fun x hx => (by cases hx), fun i s hs hn => ?_⟩
  · rw [key i s hs] at h0
    exact absurd h0 (by decide)
  · rw [key i s hs] at hn
    cases hn
end Go.Pvm.S
