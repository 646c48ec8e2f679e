/- Part of the proof: words of floating point, ordered: plain facts, no program in sight. -/
import Derived.Test.YtbhjbehdafcnoaaQ2
import Ieee.Arith
set_option linter.unusedSimpArgs false
set_option linter.unusedVariables false
namespace Go.Pvm
def vmag (r : Nat) : Nat := if r < 4503599627370496 then r else 4503599627370496 + r % 4503599627370496
def vexp (r : Nat) : Nat := if r < 4503599627370496 then 0 else r / 4503599627370496 - 1
def vval (r : Nat) : Nat := vmag r * 2 ^ vexp r
theorem vval_step (r : Nat) : vval r < vval (r + 1) := by
  unfold vval vmag vexp
  by_cases h1 : r + 1 < 4503599627370496
  · rw [if_pos (by omega), if_pos (by omega), if_pos h1, if_pos h1]; omega
  · by_cases h2 : r < 4503599627370496
    · have e : r = 4503599627370495 := by omega
      subst e
      decide
    · rw [if_neg h2, if_neg h2, if_neg h1, if_neg h1]
      have hp : 0 < 2 ^ (r / 4503599627370496 - 1) := Nat.two_pow_pos _
      by_cases h3 : r % 4503599627370496 + 1 < 4503599627370496
      · have e1 : (r + 1) / 4503599627370496 = r / 4503599627370496 := by omega
        have e2 : (r + 1) % 4503599627370496 = r % 4503599627370496 + 1 := by omega
        rw [e1, e2]
        exact Nat.mul_lt_mul_of_pos_right (by omega) hp
      · have e1 : (r + 1) / 4503599627370496 - 1 = (r / 4503599627370496 - 1) + 1 := by omega
        have e2 : (r + 1) % 4503599627370496 = 0 := by omega
        have e3 : r % 4503599627370496 = 4503599627370495 := by omega
        rw [e1, e2, e3, Nat.pow_succ]
        generalize 2 ^ (r / 4503599627370496 - 1) = p at hp
        omega
theorem vval_lt {r s : Nat} (h : r < s) : vval r < vval s := by
  obtain ⟨d, rfl⟩ : ∃ d, s = r + d + 1 := ⟨s - r - 1, by omega⟩
  clear h
  induction d with
  | zero => exact vval_step r
  | succ d ih => exact Nat.lt_trans ih (vval_step _)
theorem vval_iff (r s : Nat) : (vval r < vval s ↔ r < s) ∧ (vval r = vval s ↔ r = s) := by
  rcases Nat.lt_trichotomy r s with h | h | h
  · have := vval_lt h
    exact ⟨by omega, by omega⟩
  · subst h
    exact ⟨by omega, by omega⟩
  · have := vval_lt h
    exact ⟨by omega, by omega⟩
/-- What stands above the sign's bit, with the sign. -/
def sgw (x : Nat) : Int := if (x / 9223372036854775808 % 2 == 1) = true then -((x % 9223372036854775808 : Nat) : Int) else ((x % 9223372036854775808 : Nat) : Int)
theorem dbl : Ieee.double.signWeight = 9223372036854775808 ∧ Ieee.double.binade = 4503599627370496 ∧ Ieee.double.infRung = 9218868437227405312 := by decide
theorem read_num {x : Nat} (h : x % 9223372036854775808 < 9218868437227405312) : Ieee.double.read x = .number (x / 9223372036854775808 % 2 == 1) (vmag (x % 9223372036854775808)) (Ieee.double.leastPlace + ((vexp (x % 9223372036854775808) : Nat) : Int)) := by
  unfold Ieee.Format.read
  rw [dbl.1, dbl.2.1, dbl.2.2]
  unfold vmag vexp
  simp only
  by_cases h1 : x % 9223372036854775808 < 4503599627370496
  · rw [if_pos h1, if_pos h1, if_pos h1]
    simp
  · rw [if_neg h1, if_pos h, if_neg h1, if_neg h1]
theorem read_inf {x : Nat} (h : x % 9223372036854775808 = 9218868437227405312) : Ieee.double.read x = .infinity (x / 9223372036854775808 % 2 == 1) := by
  unfold Ieee.Format.read
  rw [dbl.1, dbl.2.1, dbl.2.2]
  simp only [h]
  rw [if_neg (by decide), if_neg (by decide), if_pos trivial]
theorem read_nan {x : Nat} (h : x % 9223372036854775808 > 9218868437227405312) : ∃ s f, Ieee.double.read x = .nan s f := by
  unfold Ieee.Format.read
  rw [dbl.1, dbl.2.1, dbl.2.2]
  simp only
  rw [if_neg (by omega), if_neg (by omega), if_neg (by omega)]
  exact ⟨_, _, rfl⟩
theorem cmp_congr {a b c d : Int} (h1 : a < b ↔ c < d) (h2 : a = b ↔ c = d) : compare a b = compare c d := by
  show compareOfLessAndEq a b = compareOfLessAndEq c d
  unfold compareOfLessAndEq
  by_cases q : a < b
  · rw [if_pos q, if_pos (h1.1 q)]
  · rw [if_neg q, if_neg (fun e => q (h1.2 e))]
    by_cases q2 : a = b
    · rw [if_pos q2, if_pos (h2.1 q2)]
    · rw [if_neg q2, if_neg (fun e => q2 (h2.2 e))]
/-- The greater magnitude, at one place. -/
theorem at_place (r s : Nat) : let m := min (vexp r) (vexp s)
    (vmag r * 2 ^ (vexp r - m) < vmag s * 2 ^ (vexp s - m) ↔ r < s) ∧ (vmag r * 2 ^ (vexp r - m) = vmag s * 2 ^ (vexp s - m) ↔ r = s) := by
  intro m
  obtain ⟨h1, h2⟩ := vval_iff r s
  have hp : 0 < 2 ^ m := Nat.two_pow_pos _
  have e1 : vval r = vmag r * 2 ^ (vexp r - m) * 2 ^ m := by
    unfold vval
    rw [Nat.mul_assoc, ← Nat.pow_add, Nat.sub_add_cancel (Nat.min_le_left _ _)]
  have e2 : vval s = vmag s * 2 ^ (vexp s - m) * 2 ^ m := by
    unfold vval
    rw [Nat.mul_assoc, ← Nat.pow_add, Nat.sub_add_cancel (Nat.min_le_right _ _)]
  rw [e1, e2] at h1 h2
  exact ⟨(Nat.mul_lt_mul_right hp).symm.trans h1, (Nat.mul_left_inj (Nat.ne_of_gt hp)).symm.trans h2⟩
theorem vmag_zero (r : Nat) (k : Nat) : vmag r * 2 ^ k = 0 ↔ r = 0 := by
  rw [Nat.mul_eq_zero]
  have hp : 2 ^ k ≠ 0 := Nat.ne_of_gt (Nat.two_pow_pos _)
  unfold vmag
  split <;> omega
theorem order_some {x y : Nat} (hx : x % 9223372036854775808 ≤ 9218868437227405312) (hy : y % 9223372036854775808 ≤ 9218868437227405312) : Ieee.double.order x y = some (compare (sgw x) (sgw y)) := by
  unfold Ieee.Format.order sgw
  rcases Nat.lt_or_eq_of_le hx with h1 | h1 <;> rcases Nat.lt_or_eq_of_le hy with h2 | h2
  · rw [read_num h1, read_num h2]
    generalize (x / 9223372036854775808 % 2 == 1) = s
    generalize (y / 9223372036854775808 % 2 == 1) = t
    generalize x % 9223372036854775808 = r at *
    generalize y % 9223372036854775808 = q at *
    unfold Ieee.Datum.order
    simp only
    generalize Ieee.double.leastPlace = L
    have hb : min (L + ((vexp r : Nat) : Int)) (L + ((vexp q : Nat) : Int)) = L + ((min (vexp r) (vexp q) : Nat) : Int) := by omega
    rw [hb]
    have k1 : (L + ((vexp r : Nat) : Int) - (L + ((min (vexp r) (vexp q) : Nat) : Int))).toNat = vexp r - min (vexp r) (vexp q) := by omega
    have k2 : (L + ((vexp q : Nat) : Int) - (L + ((min (vexp r) (vexp q) : Nat) : Int))).toNat = vexp q - min (vexp r) (vexp q) := by omega
    rw [k1, k2]
    obtain ⟨a1, a2⟩ := at_place r q
    have z1 := vmag_zero r (vexp r - min (vexp r) (vexp q))
    have z2 := vmag_zero q (vexp q - min (vexp r) (vexp q))
    unfold Ieee.signed
    rw [Nat.shiftLeft_eq, Nat.shiftLeft_eq]
    generalize vmag r * 2 ^ (vexp r - min (vexp r) (vexp q)) = A at *
    generalize vmag q * 2 ^ (vexp q - min (vexp r) (vexp q)) = B at *
    congr 1
    cases s <;> cases t <;> simp only [if_true, if_false, Bool.false_eq_true] <;> apply cmp_congr <;> omega
  · rw [read_num h1, read_inf h2, h2]
    generalize (x / 9223372036854775808 % 2 == 1) = s
    generalize (y / 9223372036854775808 % 2 == 1) = t
    generalize x % 9223372036854775808 = r at *
    unfold Ieee.Datum.order
    simp only
    congr 1
    cases s <;> cases t <;> simp only [if_true, if_false, Bool.false_eq_true] <;> (show _ = compareOfLessAndEq _ _) <;> unfold compareOfLessAndEq
    · rw [if_pos (by omega)]
    · rw [if_neg (by omega), if_neg (by omega)]
    · rw [if_pos (by omega)]
    · rw [if_neg (by omega), if_neg (by omega)]
  · rw [read_inf h1, read_num h2, h1]
    generalize (x / 9223372036854775808 % 2 == 1) = s
    generalize (y / 9223372036854775808 % 2 == 1) = t
    generalize y % 9223372036854775808 = r at *
    unfold Ieee.Datum.order
    simp only
    congr 1
    cases s <;> cases t <;> simp only [if_true, if_false, Bool.false_eq_true] <;> (show _ = compareOfLessAndEq _ _) <;> unfold compareOfLessAndEq
    · rw [if_neg (by omega), if_neg (by omega)]
    · rw [if_neg (by omega), if_neg (by omega)]
    · rw [if_pos (by omega)]
    · rw [if_pos (by omega)]
  · rw [read_inf h1, read_inf h2, h1, h2]
    generalize (x / 9223372036854775808 % 2 == 1) = s
    generalize (y / 9223372036854775808 % 2 == 1) = t
    unfold Ieee.Datum.order
    cases s <;> cases t <;> decide
theorem order_none {x y : Nat} (h : x % 9223372036854775808 > 9218868437227405312 ∨ y % 9223372036854775808 > 9218868437227405312) : Ieee.double.order x y = none := by
  unfold Ieee.Format.order
  rcases h with h | h
  · obtain ⟨s, f, e⟩ := read_nan h
    rw [e]
    unfold Ieee.Datum.order
    rfl
  · obtain ⟨s, f, e⟩ := read_nan h
    rw [e]
    cases Ieee.double.read x <;> rfl

/-! ### Which words are told apart: one zero, one that is no number -/
def nanW (b : Nat) : Bool := decide (b % 9223372036854775808 > 9218868437227405312)
def keyW (b : Nat) : Nat := if b % 9223372036854775808 = 0 then 0 else if nanW b = true then 9221120237041090561 else b
def rankW (b : Nat) : Nat := if keyW b ≥ 9223372036854775808 then 18446744073709551615 - keyW b else keyW b + 9223372036854775808
theorem keyW_lt {b : Nat} (h : b < 18446744073709551616) : keyW b < 18446744073709551616 := by
  unfold keyW
  split
  · omega
  · split <;> omega
theorem keyW_ne (b : Nat) : keyW b ≠ 9223372036854775808 := by
  unfold keyW
  split
  · omega
  · split
    · omega
    · intro h; subst h; omega
theorem keyW_key (b : Nat) : keyW (keyW b) = keyW b := by
  unfold keyW
  by_cases h : b % 9223372036854775808 = 0
  · rw [if_pos h]; decide
  · by_cases h2 : nanW b = true
    · rw [if_neg h, if_pos h2]; decide
    · rw [if_neg h, if_neg h2, if_neg h, if_neg h2]
theorem floatEq_zero {b : Nat} (h : b < 18446744073709551616) : Op.floatEq .f64 b 0 = decide (b % 9223372036854775808 = 0) := by
  show (Ieee.double.order b 0 == some .eq) = _
  by_cases hn : b % 9223372036854775808 > 9218868437227405312
  · rw [order_none (.inl hn), decide_eq_false (by omega)]; rfl
  · rw [order_some (by omega) (by decide)]
    have h0 : sgw 0 = 0 := by decide
    rw [h0]
    unfold sgw
    by_cases hz : b % 9223372036854775808 = 0
    · rw [hz, decide_eq_true rfl]
      split <;> rfl
    · rw [decide_eq_false hz]
      show (some (compareOfLessAndEq _ _) == some Ordering.eq) = false
      unfold compareOfLessAndEq
      split
      · rw [if_pos (by omega)]; rfl
      · rw [if_neg (by omega), if_neg (by omega)]; rfl
theorem floatEq_self (b : Nat) : Op.floatEq .f64 b b = !nanW b := by
  show (Ieee.double.order b b == some .eq) = _
  unfold nanW
  by_cases hn : b % 9223372036854775808 > 9218868437227405312
  · rw [order_none (.inl hn), decide_eq_true hn]; rfl
  · rw [order_some (by omega) (by omega), decide_eq_false hn]
    show (some (compareOfLessAndEq _ _) == some Ordering.eq) = true
    unfold compareOfLessAndEq
    rw [if_neg (by omega), if_pos rfl]; rfl
theorem rankW_lt {b : Nat} (h : b < 18446744073709551616) : rankW b < 18446744073709551616 := by
  unfold rankW
  have := keyW_lt h
  split <;> omega
theorem rankW_inj {a b : Nat} (ha : a < 18446744073709551616) (hb : b < 18446744073709551616) : rankW a = rankW b ↔ keyW a = keyW b := by
  unfold rankW
  have h1 := keyW_lt ha
  have h2 := keyW_lt hb
  split <;> split <;> omega
theorem nan_key (b : Nat) (h : nanW b = true) : keyW b = 9221120237041090561 := by
  unfold keyW
  unfold nanW at h
  rw [decide_eq_true_eq] at h
  rw [if_neg (by omega), if_pos (by unfold nanW; rw [decide_eq_true_eq]; exact h)]
theorem nanW_key (b : Nat) : nanW (keyW b) = nanW b := by
  unfold keyW
  by_cases h : b % 9223372036854775808 = 0
  · rw [if_pos h]
    unfold nanW
    rw [h]
  · rw [if_neg h]
    by_cases h2 : nanW b = true
    · rw [if_pos h2, h2]; rfl
    · rw [if_neg h2]
theorem sgw_neg {x : Nat} (h : x ≥ 9223372036854775808) (h2 : x < 18446744073709551616) : sgw x = 9223372036854775808 - (x : Int) := by
  unfold sgw
  have e : x / 9223372036854775808 % 2 = 1 := by omega
  rw [if_pos (by rw [beq_iff_eq]; exact e)]
  omega
theorem sgw_pos {x : Nat} (h : x < 9223372036854775808) : sgw x = x := by
  unfold sgw
  have e : x / 9223372036854775808 % 2 = 0 := by omega
  rw [if_neg (by rw [beq_iff_eq, e]; decide)]
  omega
theorem cmpLt (a b : Int) : (some (compare a b) == some Ordering.lt) = decide (a < b) := by
  show (some (compareOfLessAndEq _ _) == some Ordering.lt) = _
  unfold compareOfLessAndEq
  by_cases h : a < b
  · rw [if_pos h, decide_eq_true h]; rfl
  · rw [if_neg h, decide_eq_false h]
    split <;> rfl
/-- Whole less: by the rank. -/
theorem less_rank {a b : Nat} (ha : a < 18446744073709551616) (hb : b < 18446744073709551616) :
    (if nanW (keyW a) = true then false else if nanW (keyW b) = true then true else (Ieee.double.order (keyW a) (keyW b) == some .lt)) = decide (rankW a < rankW b) := by
  have ka := keyW_lt ha
  have kb := keyW_lt hb
  have na := keyW_ne a
  have nb := keyW_ne b
  by_cases h1 : nanW (keyW a) = true
  · rw [if_pos h1]
    rw [nanW_key] at h1
    have e := nan_key a h1
    have hm : ¬ rankW a < rankW b := by
      unfold rankW
      rw [e]
      rw [if_neg (by omega)]
      split
      · omega
      · by_cases h2 : nanW b = true
        · rw [nan_key b h2]; omega
        · have : nanW (keyW b) = false := by rw [nanW_key]; simpa using h2
          unfold nanW at this
          rw [decide_eq_false_iff_not] at this
          omega
    rw [decide_eq_false hm]
  · rw [if_neg h1]
    have f1 : nanW (keyW a) = false := by simpa using h1
    unfold nanW at f1
    rw [decide_eq_false_iff_not] at f1
    by_cases h2 : nanW (keyW b) = true
    · rw [if_pos h2]
      rw [nanW_key] at h2
      have e := nan_key b h2
      have hm : rankW a < rankW b := by
        unfold rankW
        rw [e]
        rw [if_neg (show ¬ (9221120237041090561 ≥ 9223372036854775808) by omega)]
        split
        · omega
        · omega
      rw [decide_eq_true hm]
    · rw [if_neg h2]
      have f2 : nanW (keyW b) = false := by simpa using h2
      unfold nanW at f2
      rw [decide_eq_false_iff_not] at f2
      rw [order_some (by omega) (by omega), cmpLt, decide_eq_decide]
      unfold rankW
      generalize keyW a = p at *
      generalize keyW b = q at *
      by_cases s1 : p ≥ 9223372036854775808 <;> by_cases s2 : q ≥ 9223372036854775808
      · rw [sgw_neg s1 ka, sgw_neg s2 kb, if_pos s1, if_pos s2]; omega
      · rw [sgw_neg s1 ka, sgw_pos (by omega), if_pos s1, if_neg s2]; omega
      · rw [sgw_pos (by omega), sgw_neg s2 kb, if_neg s1, if_pos s2]; omega
      · rw [sgw_pos (by omega), sgw_pos (by omega), if_neg s1, if_neg s2]; omega
end Go.Pvm
