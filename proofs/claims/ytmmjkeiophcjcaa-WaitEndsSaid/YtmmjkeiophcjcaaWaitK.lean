/- Part of the proof: waits as a graph: paths, cycles, one wait more, some waits less. -/
import Derived.Test.YtmmjkeiophcjcaaWaitJ
set_option linter.unusedSimpArgs false
set_option linter.unusedVariables false
set_option maxRecDepth 100000
namespace Go.Pvm.Wait
open Go.Pvm Go.Proofs

theorem nodup_sub_len : ∀ (xs ys : List Int), xs.Nodup → (∀ x ∈ xs, x ∈ ys) → xs.length ≤ ys.length
  | [], _, _, _ => Nat.zero_le _
  | x :: xs, ys, h, hs => by
    rw [List.nodup_cons] at h
    have hx := hs x (.head _)
    have := nodup_sub_len xs (ys.erase x) h.2 (fun y hy => by
      have hne : y ≠ x := fun e => h.1 (e ▸ hy)
      exact (List.mem_erase_of_ne hne).2 (hs y (.tail _ hy)))
    rw [List.length_erase_of_mem hx] at this
    have : 0 < ys.length := List.length_pos_of_mem hx
    simp only [List.length_cons]
    omega

/-- Who is waited for. -/
def nx (l : List W) (x : Int) : Option Int := (l.find? fun w => w.1 == x).map (·.2)
def it (l : List W) : Nat → Int → Option Int
  | 0, x => some x
  | n + 1, x => (nx l x).bind (it l n)

theorem nx_cons (w : W) (l : List W) (x : Int) : nx (w :: l) x = if (w.1 == x) = true then some w.2 else nx l x := by
  unfold nx
  rw [List.find?_cons]
  cases w.1 == x <;> rfl
theorem nx_at (x : Int) : ∀ l : List W, nx l x = (at_ l x).map fun j => (l.getD j (0, 0)).2
  | [] => rfl
  | w :: l => by
    rw [nx_cons, at_cons, nx_at x l]
    cases w.1 == x with
    | true => rfl
    | false =>
      simp only [Bool.false_eq_true, if_false, Option.map_map]
      congr 1
theorem nx_none {l : List W} {x : Int} : nx l x = none ↔ x ∉ l.map (·.1) := by
  unfold nx
  rw [Option.map_eq_none_iff, List.find?_eq_none]
  constructor
  · intro h hx
    obtain ⟨w, hw, rfl⟩ := List.mem_map.1 hx
    exact h w hw (by simp)
  · intro h w hw e
    exact h (List.mem_map.2 ⟨w, hw, by simpa using e⟩)
theorem nx_mem {l : List W} {x y : Int} (h : nx l x = some y) : (x, y) ∈ l := by
  unfold nx at h
  rw [Option.map_eq_some_iff] at h
  obtain ⟨w, h1, h2⟩ := h
  have := List.find?_some h1
  have hm := List.mem_of_find?_eq_some h1
  obtain ⟨a, b⟩ := w
  simp at this h2
  subst this; subst h2
  exact hm
theorem nx_of_mem {l : List W} {w : W} (hn : (l.map (·.1)).Nodup) (h : w ∈ l) : nx l w.1 = some w.2 := by
  induction l with
  | nil => cases h
  | cons v l ih =>
    rw [nx_cons]
    simp only [List.map_cons, List.nodup_cons] at hn
    rcases List.mem_cons.1 h with rfl | h
    · simp
    · have : ¬ v.1 = w.1 := fun e => hn.1 (List.mem_map.2 ⟨w, h, e.symm⟩)
      simp [this, ih hn.2 h]

theorem leadsR_it (l : List W) (b : Int) : ∀ (k : Nat) (a : Int), (leadsR l b k a).getD false = true ↔ ∃ n, n < k ∧ it l n a = some b
  | 0, a => by simp [leadsR]
  | k + 1, a => by
    unfold leadsR
    by_cases hab : a = b
    · rw [if_pos hab]
      exact ⟨fun _ => ⟨0, Nat.succ_pos _, by rw [hab]; rfl⟩, fun _ => rfl⟩
    · rw [if_neg hab]
      have hq := nx_at a l
      cases hat : at_ l a with
      | none =>
        rw [hat] at hq
        simp only [Option.getD_some]
        constructor
        · intro h; cases h
        · rintro ⟨n, _, hn⟩
          cases n with
          | zero => exact absurd (Option.some.inj hn) hab
          | succ n =>
            have hq : nx l a = none := hq
            simp [it, hq] at hn
      | some j =>
        rw [hat] at hq
        have hq : nx l a = some (l.getD j (0, 0)).2 := hq
        simp only
        rw [leadsR_it l b k]
        constructor
        · rintro ⟨n, h1, h2⟩
          exact ⟨n + 1, by omega, by simp [it, hq]; simpa using h2⟩
        · rintro ⟨n, h1, h2⟩
          cases n with
          | zero => exact absurd (Option.some.inj h2) hab
          | succ n => exact ⟨n, by omega, by simp [it, hq] at h2; simpa using h2⟩

theorem it_add (l : List W) : ∀ (m n : Nat) (x : Int), it l (m + n) x = (it l m x).bind (it l n)
  | 0, n, x => by simp [it]
  | m + 1, n, x => by
    rw [show m + 1 + n = m + n + 1 by omega]
    simp only [it]
    cases nx l x with
    | none => rfl
    | some y => exact it_add l m n y

/-- A path is short, or it goes round. -/
theorem it_rep {l : List W} {n : Nat} {a b : Int} (h : it l n a = some b) (hn : l.length < n) : ∃ i j x, i < j ∧ j < n ∧ it l i a = some x ∧ it l j a = some x := by
  let xs := (List.range n).map fun i => (it l i a).getD 0
  have hsome : ∀ i, i < n → ∃ x y, it l i a = some x ∧ nx l x = some y := fun i hi => by
    have e : n = i + (1 + (n - i - 1)) := by omega
    rw [e, it_add] at h
    cases hx : it l i a with
    | none => rw [hx] at h; cases h
    | some x =>
      rw [hx, Option.bind_some, it_add] at h
      cases hy : nx l x with
      | none => simp [it, hy] at h
      | some y => exact ⟨x, y, rfl, hy⟩
  by_cases hd : xs.Nodup
  · exfalso
    have := nodup_sub_len xs (l.map (·.1)) hd (fun x hx => by
      obtain ⟨i, hi, rfl⟩ := List.mem_map.1 hx
      obtain ⟨x, y, h1, h2⟩ := hsome i (List.mem_range.1 hi)
      rw [h1]
      exact List.mem_map.2 ⟨(x, y), nx_mem h2, rfl⟩)
    simp [xs] at this
    omega
  · unfold List.Nodup at hd
    rw [List.pairwise_iff_getElem] at hd
    simp only [Classical.not_forall, Classical.not_not] at hd
    obtain ⟨i, j, hi, hj, hij, he⟩ := hd
    simp [xs] at hi hj he
    obtain ⟨x, _, h1, _⟩ := hsome i hi
    obtain ⟨x', _, h1', _⟩ := hsome j hj
    rw [h1, h1'] at he
    simp at he
    subst he
    exact ⟨i, j, x, hij, hj, h1, h1'⟩
theorem it_short {l : List W} : ∀ (n : Nat) {a b : Int}, it l n a = some b → ∃ m, m ≤ l.length ∧ it l m a = some b := by
  intro n
  induction n using Nat.strongRecOn with
  | ind n ih =>
    intro a b h
    by_cases hn : l.length < n
    · obtain ⟨i, j, x, hij, hj, h1, h2⟩ := it_rep h hn
      have e : n = j + (n - j) := by omega
      rw [e, it_add, h2, Option.bind_some] at h
      refine ih (i + (n - j)) (by omega) ?_
      rw [it_add, h1, Option.bind_some]
      exact h
    · exact ⟨n, by omega, h⟩
theorem leads_it (l : List W) (a b : Int) : leads l a b = true ↔ ∃ n, it l n a = some b := by
  unfold leads
  rw [leadsR_it]
  constructor
  · rintro ⟨n, _, h⟩; exact ⟨n, h⟩
  · rintro ⟨n, h⟩
    obtain ⟨m, h1, h2⟩ := it_short n h
    exact ⟨m, by omega, h2⟩

/-! ### What may be -/
structure Good (l : List W) : Prop where
  len : l.length ≤ 64
  rng : ∀ w ∈ l, inR w.1 = true ∧ inR w.2 = true
  nd : (l.map (·.1)).Nodup
  ac : ∀ w ∈ l, ∀ n, it l n w.2 ≠ some w.1

theorem ckF_iff (l : List W) : ∀ (r : List W) (i : Nat), ckF l i r = true ↔ ∀ k w, r[k]? = some w → okAt l (i + k) w = true
  | [], i => by simp [ckF]
  | x :: r, i => by
    rw [ckF, Bool.and_eq_true, ckF_iff l r (i + 1)]
    constructor
    · rintro ⟨h1, h2⟩ k w hk
      cases k with
      | zero => simp at hk; subst hk; exact h1
      | succ k => rw [show i + (k + 1) = i + 1 + k by omega]; exact h2 k w (by simpa using hk)
    · intro h
      exact ⟨h 0 x rfl, fun k w hk => by rw [show i + 1 + k = i + (k + 1) by omega]; exact h (k + 1) w (by simpa using hk)⟩
theorem at_nodup (n : Int) : ∀ (l : List W) (i : Nat) (w : W), (l.map (·.1)).Nodup → l[i]? = some w → w.1 = n → at_ l n = some i
  | [], i, w, _, h, _ => by simp at h
  | x :: l, 0, w, _, h, hw => by simp at h; subst h; rw [at_cons]; simp [hw]
  | x :: l, i + 1, w, hd, h, hw => by
    simp only [List.map_cons, List.nodup_cons] at hd
    have hm : w ∈ l := List.mem_of_getElem? (by simpa using h)
    have : ¬ x.1 = n := fun e => hd.1 (List.mem_map.2 ⟨w, hm, by rw [hw, e]⟩)
    rw [at_cons]
    simp [this, at_nodup n l i w hd.2 (by simpa using h) hw]
theorem good_iff (l : List W) : check l = true ↔ Good l := by
  unfold check
  rw [Bool.and_eq_true, decide_eq_true_eq, ckF_iff]
  constructor
  · rintro ⟨h1, h2⟩
    have h2' : ∀ k w, l[k]? = some w → inR w.1 = true ∧ inR w.2 = true ∧ at_ l w.1 = some k ∧ leads l w.2 w.1 = false := fun k w hk => by
      have := h2 k w hk
      unfold okAt at this
      simpa [Nat.zero_add] using this
    refine ⟨h1, fun w hw => ?_, ?_, fun w hw n hn => ?_⟩
    · obtain ⟨k, hk⟩ := List.getElem?_of_mem hw
      exact ⟨(h2' k w hk).1, (h2' k w hk).2.1⟩
    · unfold List.Nodup
      rw [List.pairwise_iff_getElem]
      intro i j hi hj hij he
      simp at hi hj he
      have e1 := (h2' i _ (List.getElem?_eq_getElem hi)).2.2.1
      have e2 := (h2' j _ (List.getElem?_eq_getElem hj)).2.2.1
      rw [he, e2] at e1
      simp at e1
      omega
    · obtain ⟨k, hk⟩ := List.getElem?_of_mem hw
      have := (h2' k w hk).2.2.2
      rw [(leads_it l w.2 w.1).2 ⟨n, hn⟩] at this
      cases this
  · intro g
    refine ⟨g.len, fun k w hk => ?_⟩
    have hm := List.mem_of_getElem? hk
    unfold okAt
    have hl : leads l w.2 w.1 = false := by
      cases h : leads l w.2 w.1 with
      | false => rfl
      | true => obtain ⟨n, hn⟩ := (leads_it _ _ _).1 h; exact absurd hn (g.ac w hm n)
    simp [(g.rng w hm).1, (g.rng w hm).2, at_nodup w.1 l k w g.nd hk rfl, hl]

/-! ### One more -/
theorem nx_app (l : List W) (a b x : Int) : nx (l ++ [(a, b)]) x = (nx l x).or (if a = x then some b else none) := by
  unfold nx
  rw [List.find?_append]
  cases l.find? (fun w => w.1 == x) with
  | some w => rfl
  | none =>
    by_cases h : a = x
    · simp [h]
    · simp [h]
theorem it_app {l : List W} {a b : Int} : ∀ (n : Nat) {x y : Int}, it (l ++ [(a, b)]) n x = some y → (∃ m, it l m x = some y) ∨ ((∃ m, it l m x = some a) ∧ ∃ m, it l m b = some y)
  | 0, x, y, h => .inl ⟨0, h⟩
  | n + 1, x, y, h => by
    simp only [it, nx_app] at h
    cases hx : nx l x with
    | some c =>
      rw [hx] at h
      rcases it_app n (x := c) (by simpa using h) with ⟨m, hm⟩ | ⟨⟨m, hm⟩, k⟩
      · exact .inl ⟨m + 1, by simp [it, hx, hm]⟩
      · exact .inr ⟨⟨m + 1, by simp [it, hx, hm]⟩, k⟩
    | none =>
      rw [hx] at h
      by_cases hax : a = x
      · rw [if_pos hax] at h
        rcases it_app n (x := b) (by simpa using h) with ⟨m, hm⟩ | ⟨_, k⟩
        · exact .inr ⟨⟨0, by rw [hax]; rfl⟩, m, hm⟩
        · exact .inr ⟨⟨0, by rw [hax]; rfl⟩, k⟩
      · rw [if_neg hax] at h
        cases h
theorem good_add {l : List W} (g : Good l) {a b : Int} (ha : inR a = true) (hb : inR b = true) (hn : at_ l a = none) (hle : leads l b a = false) (hl : l.length ≠ 64) : Good (l ++ [(a, b)]) := by
  have hna : a ∉ l.map (·.1) := nx_none.1 (by rw [nx_at, hn]; rfl)
  have hno : ∀ n, it l n b ≠ some a := fun n h => by rw [(leads_it l b a).2 ⟨n, h⟩] at hle; cases hle
  refine ⟨?_, ?_, ?_, ?_⟩
  · have := g.len; simp; omega
  · intro w hw
    rcases List.mem_append.1 hw with h | h
    · exact g.rng w h
    · simp at h; subst h; exact ⟨ha, hb⟩
  · rw [List.map_append, List.nodup_append]
    exact ⟨g.nd, by simp, by simpa using fun x y hx e => hna (by rw [← e]; exact List.mem_map.2 ⟨_, hx, rfl⟩)⟩
  · intro w hw n h
    rcases List.mem_append.1 hw with hm | hm
    · rcases it_app n h with ⟨m, h'⟩ | ⟨⟨m, h1⟩, k, h2⟩
      · exact g.ac w hm m h'
      · refine hno (k + (1 + m)) ?_
        rw [it_add, h2, Option.bind_some, it_add]
        simp [it, nx_of_mem g.nd hm, h1]
    · simp at hm
      subst hm
      rcases it_app n h with ⟨m, h'⟩ | ⟨_, m, h'⟩
      · exact hno m h'
      · exact hno m h'

/-! ### Some less -/
theorem nx_filter {l : List W} (hd : (l.map (·.1)).Nodup) (p : W → Bool) {x y : Int} (h : nx (l.filter p) x = some y) : nx l x = some y :=
  nx_of_mem (w := (x, y)) hd (List.mem_filter.1 (nx_mem h)).1
theorem it_filter {l : List W} (hd : (l.map (·.1)).Nodup) (p : W → Bool) : ∀ (n : Nat) {x y : Int}, it (l.filter p) n x = some y → it l n x = some y
  | 0, x, y, h => h
  | n + 1, x, y, h => by
    simp only [it] at h ⊢
    cases hx : nx (l.filter p) x with
    | none => rw [hx] at h; cases h
    | some c =>
      rw [hx] at h
      rw [nx_filter hd p hx]
      exact it_filter hd p n h
theorem good_filter {l : List W} (g : Good l) (p : W → Bool) : Good (l.filter p) :=
  ⟨Nat.le_trans (List.length_filter_le _ _) g.len, fun w hw => g.rng w (List.mem_filter.1 hw).1, g.nd.sublist (List.Sublist.map _ List.filter_sublist), fun w hw n h => g.ac w (List.mem_filter.1 hw).1 n (it_filter g.nd p n h)⟩

/-- Somebody who is waited for waits for nobody. -/
theorem good_end {l : List W} (g : Good l) (hne : l ≠ []) : ∃ w ∈ l, nx l w.2 = none := by
  apply Classical.byContradiction
  intro hno
  have hno : ∀ w ∈ l, ∃ y, nx l w.2 = some y := fun w hw => by
    cases h : nx l w.2 with
    | some y => exact ⟨y, rfl⟩
    | none => exact absurd ⟨w, hw, h⟩ hno
  obtain ⟨w0, hw0⟩ := List.exists_mem_of_ne_nil l hne
  have hit : ∀ n, ∃ w ∈ l, it l n w0.1 = some w.1 := by
    intro n
    induction n with
    | zero => exact ⟨w0, hw0, rfl⟩
    | succ n ih =>
      obtain ⟨w, hw, h⟩ := ih
      obtain ⟨y, hy⟩ := hno w hw
      refine ⟨(w.2, y), nx_mem hy, ?_⟩
      rw [it_add, h, Option.bind_some]
      simp [it, nx_of_mem g.nd hw]
  obtain ⟨w, hw, h⟩ := hit (l.length + 1)
  obtain ⟨i, j, x, hij, hj, h1, h2⟩ := it_rep h (by omega)
  have e : j = i + (1 + (j - i - 1)) := by omega
  rw [e, it_add, h1, Option.bind_some, it_add] at h2
  obtain ⟨v, hv, hvx⟩ := hit i
  rw [h1] at hvx
  have hvx : x = v.1 := Option.some.inj hvx
  subst hvx
  simp [it, nx_of_mem g.nd hv] at h2
  exact g.ac v hv _ h2
end Go.Pvm.Wait
