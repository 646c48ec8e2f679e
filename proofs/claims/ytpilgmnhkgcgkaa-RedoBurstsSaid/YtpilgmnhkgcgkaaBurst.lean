/- Part of the proof: turned bits within 32 in a row turn the sum. -/
import Derived.Test.YtpilgmnhkgcgkaaWords
set_option linter.unusedSimpArgs false
set_option linter.unusedVariables false
namespace Go.Pvm.Crc

theorem eb_xor (a b : Bool) : eb (a ^^ b) 31 = eb a 31 ^^^ eb b 31 := by cases a <;> cases b <;> decide
theorem G_xor (r s : W32) (a b : Bool) : G (r ^^^ s) (a ^^ b) = G r a ^^^ G s b := by
  rw [G_F, G_F, G_F, eb_xor, ← F_xor]
  congr 1
  ac_rfl
theorem fold_xor : ∀ (as bs : List Bool), as.length = bs.length → ∀ r s : W32, (List.zipWith (· ^^ ·) as bs).foldl G (r ^^^ s) = as.foldl G r ^^^ bs.foldl G s
  | [], [], _, r, s => rfl
  | a :: as, b :: bs, h, r, s => by
    rw [List.zipWith_cons_cons, List.foldl_cons, G_xor, fold_xor as bs (by simpa using h)]
    rfl
  | [], _ :: _, h, _, _ => by simp at h
  | _ :: _, [], h, _, _ => by simp at h
theorem G_false (r : W32) : G r false = F r := by
  rw [G_F]
  have : eb false 31 = 0#32 := rfl
  rw [this, BitVec.xor_zero]
theorem fold_false : ∀ (n : Nat) (r : W32), (List.replicate n false).foldl G r = Fn n r
  | 0, r => rfl
  | n + 1, r => by rw [List.replicate_succ, List.foldl_cons, fold_false n, G_false]; rfl
theorem eb_bit (b : Bool) {n : Nat} (h : n < 32) (m : Nat) : (eb b n).getLsbD m = (b && decide (m = n)) := by
  unfold eb
  cases b with
  | false => simp
  | true =>
    simp only [if_true, BitVec.getLsbD_shiftLeft, Bool.true_and]
    by_cases hm : m = n
    · subst hm; simp [h]
    · by_cases h1 : m < 32
      · by_cases h2 : m < n
        · simp [hm, h1, h2]
        · have : m - n ≠ 0 := by omega
          simp [hm, h1, h2, this]
      · simp [hm, h1]
theorem laid_high : ∀ (bs : List Bool) (n m : Nat), n < 32 → n < m → bs.length ≤ n + 1 → (laid bs n).getLsbD m = false
  | [], n, m, _, _, _ => by simp [laid]
  | b :: bs, n, m, h1, h2, h3 => by
    simp only [List.length_cons] at h3
    rw [laid, BitVec.getLsbD_xor, eb_bit b h1]
    have hd : decide (m = n) = false := decide_eq_false (by omega)
    rw [hd, Bool.and_false, Bool.false_xor]
    exact laid_high bs (n - 1) m (by omega) (by omega) (by omega)
theorem laid_inj : ∀ (bs : List Bool) (n : Nat), n < 32 → bs.length ≤ n + 1 → laid bs n = 0#32 → ∀ b ∈ bs, b = false
  | [], n, _, _, _ => fun b h => by cases h
  | b :: bs, n, h1, h3, h => by
    simp only [List.length_cons] at h3
    have hb : b = false := by
      have := congrArg (fun v : W32 => v.getLsbD n) h
      simp only [laid, BitVec.getLsbD_xor, eb_bit b h1, decide_true, Bool.and_true] at this
      cases bs with
      | nil => simpa [laid] using this
      | cons c cs =>
        simp only [List.length_cons] at h3
        rw [laid_high (c :: cs) (n - 1) n (by omega) (by omega) (by simp only [List.length_cons]; omega)] at this
        simpa using this
    subst hb
    have h0 : eb false n = 0#32 := rfl
    rw [laid, h0, BitVec.zero_xor] at h
    intro c hc
    rcases List.mem_cons.1 hc with rfl | hc
    · rfl
    · exact laid_inj bs (n - 1) (by omega) (by cases bs with | nil => cases hc | cons d ds => (simp only [List.length_cons] at h3 ⊢; omega)) h c hc
/-- A burst is seen. -/
theorem burst {as : List Bool} {p q : Nat} {w : List Bool} (hw : w.length ≤ 32) (hl : as.length = p + w.length + q) (r : W32)
    (h : (List.zipWith (· ^^ ·) as (List.replicate p false ++ w ++ List.replicate q false)).foldl G r = as.foldl G r) : ∀ b ∈ w, b = false := by
  have h1 := fold_xor as (List.replicate p false ++ w ++ List.replicate q false) (by simp; omega) r 0#32
  rw [BitVec.xor_zero, h] at h1
  have h2 : (List.replicate p false ++ w ++ List.replicate q false).foldl G 0#32 = 0#32 := by
    have := congrArg (fun v => as.foldl G r ^^^ v) h1
    simp only [← BitVec.xor_assoc, BitVec.xor_self, BitVec.zero_xor] at this
    exact this.symm
  rw [List.foldl_append, List.foldl_append, fold_false, fold_false, Fn_zero] at h2
  have h3 := Fn_inj q h2
  rw [fold_laid w _ hw, BitVec.zero_xor] at h3
  exact laid_inj w 31 (by omega) hw (Fn_inj _ h3)

/-! ### Bits turned in bytes -/
/-- A bit of a row of bytes. -/
def bitAt (l : List UInt8) (j : Nat) : Bool := (l.getD (j / 8) 0).toNat.testBit (7 - j % 8)
def flip (l : List UInt8) (j : Nat) : List UInt8 := l.set (j / 8) (UInt8.ofNat ((l.getD (j / 8) 0).toNat ^^^ 2 ^ (7 - j % 8)))
theorem flip_len (l : List UInt8) (j : Nat) : (flip l j).length = l.length := by simp [flip]
theorem xor_lt (c : UInt8) {s : Nat} (h : s < 8) : c.toNat ^^^ 2 ^ s < 256 := by
  have : 2 ^ s < 2 ^ 8 := Nat.pow_lt_pow_right (by omega) h
  exact Nat.xor_lt_two_pow (n := 8) c.toNat_lt this
theorem flip_bit (l : List UInt8) {j : Nat} (hj : j / 8 < l.length) (m : Nat) : bitAt (flip l j) m = (bitAt l m ^^ decide (m = j)) := by
  unfold bitAt flip
  by_cases h : m / 8 = j / 8
  · rw [h]
    have hs : ∀ x : UInt8, (l.set (j / 8) x).getD (j / 8) 0 = x := fun x => by rw [List.getD_eq_getElem?_getD, List.getElem?_set_self hj]; rfl
    rw [hs, UInt8.toNat_ofNat', Nat.mod_eq_of_lt (xor_lt _ (by omega)), Nat.testBit_xor, Nat.testBit_two_pow]
    congr 1
    rw [decide_eq_decide]
    omega
  · have hne : ∀ x : UInt8, (l.set (j / 8) x).getD (m / 8) 0 = l.getD (m / 8) 0 := fun x => by rw [List.getD_eq_getElem?_getD, List.getElem?_set_ne (by omega), ← List.getD_eq_getElem?_getD]
    rw [hne]
    have hd : decide (m = j) = false := decide_eq_false (by omega)
    rw [hd, Bool.xor_false]
theorem flip_get (l : List UInt8) (j i : Nat) (h : i ≠ j / 8) : (flip l j).getD i 0 = l.getD i 0 := by
  unfold flip
  rw [List.getD_eq_getElem?_getD, List.getElem?_set_ne (by omega), ← List.getD_eq_getElem?_getD]
/-- Some bits are turned, one behind the other. -/
def flips (p : Nat) (k N : Nat) : Nat → Nat → List UInt8 → List UInt8
  | 0, _, l => l
  | n + 1, i, l => if k + i < N then (if p.testBit i = true then flips p k N n (i + 1) (flip l (k + i)) else flips p k N n (i + 1) l) else l
def turned (p : Nat) (k N : Nat) : Nat → Nat → Bool
  | 0, _ => false
  | n + 1, i => if k + i < N then (p.testBit i || turned p k N n (i + 1)) else false
theorem flips_len (p k N : Nat) : ∀ (n i : Nat) (l : List UInt8), (flips p k N n i l).length = l.length
  | 0, i, l => rfl
  | n + 1, i, l => by
    rw [flips]
    split
    · split
      · rw [flips_len p k N n, flip_len]
      · exact flips_len p k N n _ _
    · rfl
theorem flips_bit (p k N : Nat) : ∀ (n i : Nat) (l : List UInt8), N ≤ 8 * l.length → ∀ m, bitAt (flips p k N n i l) m = (bitAt l m ^^ (decide (k + i ≤ m) && (decide (m < k + i + n) && (decide (m < N) && p.testBit (m - k)))))
  | 0, i, l, h, m => by
    have : (decide (k + i ≤ m) && (decide (m < k + i + 0) && (decide (m < N) && p.testBit (m - k)))) = false := by
      by_cases h1 : k + i ≤ m
      · have e : decide (m < k + i + 0) = false := decide_eq_false (by omega)
        rw [e]; simp
      · have e : decide (k + i ≤ m) = false := decide_eq_false h1
        rw [e]; rfl
    rw [this, Bool.xor_false]; rfl
  | n + 1, i, l, h, m => by
    rw [flips]
    by_cases hN : k + i < N
    · rw [if_pos hN]
      by_cases hp : p.testBit i = true
      · rw [if_pos hp, flips_bit p k N n (i + 1) _ (by rw [flip_len]; exact h), flip_bit l (by omega)]
        rw [Bool.xor_assoc]
        congr 1
        by_cases hm : m = k + i
        · subst hm
          have e1 : ¬ k + (i + 1) ≤ k + i := by omega
          have e2 : k + i - k = i := by omega
          simp [e1, e2, hN, hp]
        · by_cases h1 : k + i ≤ m
          · have e1 : k + (i + 1) ≤ m := by omega
            have e2 : (m < k + (i + 1) + n) ↔ (m < k + i + (n + 1)) := by omega
            simp [hm, h1, e1, e2]
          · have e1 : ¬ k + (i + 1) ≤ m := by omega
            simp [hm, h1, e1]
      · rw [if_neg hp, flips_bit p k N n (i + 1) _ h]
        congr 1
        by_cases hm : m = k + i
        · subst hm
          have e1 : ¬ k + (i + 1) ≤ k + i := by omega
          have e2 : k + i - k = i := by omega
          simp [e1, e2, hp]
        · by_cases h1 : k + i ≤ m
          · have e1 : k + (i + 1) ≤ m := by omega
            have e2 : (m < k + (i + 1) + n) ↔ (m < k + i + (n + 1)) := by omega
            simp [h1, e1, e2]
          · have e1 : ¬ k + (i + 1) ≤ m := by omega
            simp [h1, e1]
    · rw [if_neg hN]
      have : (decide (k + i ≤ m) && (decide (m < k + i + (n + 1)) && (decide (m < N) && p.testBit (m - k)))) = false := by
        by_cases h1 : k + i ≤ m
        · have : ¬ m < N := by omega
          simp [this]
        · simp [h1]
      rw [this, Bool.xor_false]
theorem flips_get (p k N : Nat) : ∀ (n i : Nat) (l : List UInt8) (x : Nat), 8 * x + 8 ≤ k + i → (flips p k N n i l).getD x 0 = l.getD x 0
  | 0, i, l, x, _ => rfl
  | n + 1, i, l, x, h => by
    rw [flips]
    split
    · split
      · rw [flips_get p k N n (i + 1) _ x (by omega), flip_get l _ x (by omega)]
      · exact flips_get p k N n (i + 1) _ x (by omega)
    · rfl
theorem flips_none (p k N : Nat) : ∀ (n i : Nat) (l : List UInt8), turned p k N n i = false → flips p k N n i l = l
  | 0, i, l, _ => rfl
  | n + 1, i, l, h => by
    rw [turned] at h
    rw [flips]
    split
    · rename_i hN
      rw [if_pos hN, Bool.or_eq_false_iff] at h
      rw [if_neg (by rw [h.1]; decide)]
      exact flips_none p k N n (i + 1) l h.2
    · rfl
theorem turned_some (p k N : Nat) : ∀ (n i : Nat), turned p k N n i = true → ∃ j, i ≤ j ∧ j < i + n ∧ k + j < N ∧ p.testBit j = true
  | 0, i, h => by cases h
  | n + 1, i, h => by
    rw [turned] at h
    split at h
    · rename_i hN
      rw [Bool.or_eq_true] at h
      rcases h with h | h
      · exact ⟨i, Nat.le_refl _, by omega, hN, h⟩
      · obtain ⟨j, h1, h2, h3⟩ := turned_some p k N n (i + 1) h
        exact ⟨j, by omega, by omega, h3⟩
    · cases h
/-- Bytes told apart by their bits. -/
theorem bitsOf_bitAt (l : List UInt8) : bitsOf l = (List.range (8 * l.length)).map (bitAt l) := by
  induction l with
  | nil => rfl
  | cons c l ih =>
    have hb : bitsOf (c :: l) = bits8 c ++ bitsOf l := by unfold bitsOf; rw [List.flatMap_cons]
    rw [hb, ih, List.length_cons, show 8 * (l.length + 1) = 8 + 8 * l.length by omega, List.range_add, List.map_append, List.map_map]
    have e1 : bits8 c = (List.range 8).map (bitAt (c :: l)) := rfl
    rw [e1]
    congr 1
    refine List.map_congr_left fun i _ => ?_
    show _ = bitAt (c :: l) (8 + i)
    unfold bitAt
    rw [show (8 + i) / 8 = i / 8 + 1 by omega, show (8 + i) % 8 = i % 8 by omega, List.getD_cons_succ]
theorem bitAt_drop (l : List UInt8) (n j : Nat) : bitAt (l.drop n) j = bitAt l (8 * n + j) := by
  unfold bitAt
  rw [show (8 * n + j) / 8 = n + j / 8 by omega, show (8 * n + j) % 8 = j % 8 by omega, List.getD_eq_getElem?_getD, List.getElem?_drop, ← List.getD_eq_getElem?_getD]
/-- Turned bits of a record are seen by its sum. -/
theorem flips_sum {l : List UInt8} {p k h : Nat} (hk : 8 * h ≤ k) (hkN : k ≤ 8 * l.length) (ht : turned p k (8 * l.length) 32 0 = true) : sum ((flips p k (8 * l.length) 32 0 l).drop h) ≠ sum (l.drop h) := by
  intro e
  have hhl : h ≤ l.length := by omega
  have hfl := flips_len p k (8 * l.length) 32 0 l
  have hb : bitsOf ((flips p k (8 * l.length) 32 0 l).drop h) = List.zipWith (· ^^ ·) (bitsOf (l.drop h)) (List.replicate (k - 8 * h) false ++ ((List.range (min 32 (8 * l.length - k))).map fun i => p.testBit i) ++ List.replicate (8 * l.length - k - min 32 (8 * l.length - k)) false) := by
    rw [bitsOf_bitAt, bitsOf_bitAt, List.length_drop, List.length_drop, hfl]
    apply List.ext_getElem?
    intro j
    by_cases hj : j < 8 * (l.length - h)
    · rw [List.getElem?_map, List.getElem?_range hj, List.getElem?_zipWith, List.getElem?_map, List.getElem?_range hj]
      simp only [Option.map_some]
      rw [bitAt_drop, flips_bit p k _ 32 0 l (Nat.le_refl _), bitAt_drop]
      by_cases h1 : j < k - 8 * h
      · have e1 : decide (k + 0 ≤ 8 * h + j) = false := decide_eq_false (by omega)
        rw [List.getElem?_append_left (by simp; omega), List.getElem?_append_left (by simp; omega), List.getElem?_replicate, if_pos h1, e1]
        simp
      · by_cases h2 : j < k - 8 * h + min 32 (8 * l.length - k)
        · have e1 : k + 0 ≤ 8 * h + j := by omega
          have e2 : 8 * h + j < k + 0 + 32 := by omega
          have e3 : 8 * h + j < 8 * l.length := by omega
          rw [List.getElem?_append_left (by simp; omega), List.getElem?_append_right (by simp; omega), List.length_replicate, List.getElem?_map, List.getElem?_range (by omega)]
          have e4 : 8 * h + j - k = j - (k - 8 * h) := by omega
          simp only [e1, e2, e3, decide_true, Bool.true_and, Option.map_some, e4]
        · have e2 : decide (8 * h + j < k + 0 + 32) = false := decide_eq_false (by omega)
          rw [List.getElem?_append_right (by simp; omega), List.getElem?_replicate, if_pos (by simp; omega), e2]
          simp
    · rw [List.getElem?_eq_none (by simp; omega), List.getElem?_eq_none (by simp; omega)]
  have hs : ∀ l, sum l = (bitsOf l).foldl G 0xFFFFFFFF#32 := fun l => fold_bits l _
  rw [hs, hs, hb] at e
  have hlen : (bitsOf (l.drop h)).length = k - 8 * h + ((List.range (min 32 (8 * l.length - k))).map fun i => p.testBit i).length + (8 * l.length - k - min 32 (8 * l.length - k)) := by
    rw [bitsOf_bitAt]; simp; omega
  have hall := burst (by simp; omega) hlen _ e
  obtain ⟨j, _, h2, h3, h4⟩ := turned_some p k _ 32 0 ht
  have := hall (p.testBit j) (List.mem_map.2 ⟨j, by simp; omega, rfl⟩)
  rw [h4] at this
  cases this
end Go.Pvm.Crc
