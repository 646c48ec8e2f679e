/- Part of the proof: words of floating point, ordered: plain facts, no program in sight. -/
import Derived.Test.YtjfgklgcbogejaaGreatQ2
import Ieee.Arith
set_option linter.unusedSimpArgs false
set_option linter.unusedVariables false
namespace Go.Pvm
def zpe (r : Nat) : Nat := if r < 4503599627370496 then r else 4503599627370496 + r % 4503599627370496
def zar (r : Nat) : Nat := if r < 4503599627370496 then 0 else r / 4503599627370496 - 1
def zqy (r : Nat) : Nat := zpe r * 2 ^ zar r
theorem zlq (r : Nat) : zqy r < zqy (r + 1) := by
 unfold zqy zpe zar
 by_cases h1 : r + 1 < 4503599627370496
 ·rw [if_pos (by omega),if_pos (by omega),if_pos h1,if_pos h1]; omega
 ·by_cases h2 : r < 4503599627370496
  ·have e : r = 4503599627370495 := by omega
   subst e
   decide
  ·rw [if_neg h2,if_neg h2,if_neg h1,if_neg h1]
   have hp : 0 < 2 ^ (r / 4503599627370496 - 1) := Nat.two_pow_pos _
   by_cases h3 : r % 4503599627370496 + 1 < 4503599627370496
   ·have e1 : (r + 1) / 4503599627370496 = r / 4503599627370496 := by omega
    have e2 : (r + 1) % 4503599627370496 = r % 4503599627370496 + 1 := by omega
    rw [e1,e2]
    exact Nat.mul_lt_mul_of_pos_right (by omega) hp
   ·have e1 : (r + 1) / 4503599627370496 - 1 = (r / 4503599627370496 - 1) + 1 := by omega
    have e2 : (r + 1) % 4503599627370496 = 0 := by omega
    have e3 : r % 4503599627370496 = 4503599627370495 := by omega
    rw [e1,e2,e3,Nat.pow_succ]
    generalize 2 ^ (r / 4503599627370496 - 1) = p at hp
    omega
theorem zsq {r s : Nat} (h : r < s) : zqy r < zqy s := by
 obtain ⟨d,rfl⟩ : ∃ d,s = r + d + 1 := ⟨s - r - 1,by omega⟩
 clear h
 induction d with
 | zero => exact zlq r
 | succ d ih => exact Nat.lt_trans ih (zlq _)
theorem zwg (r s : Nat) : (zqy r < zqy s ↔ r < s) ∧ (zqy r = zqy s ↔ r = s) := by
 rcases Nat.lt_trichotomy r s with h | h | h
 ·have := zsq h
  exact ⟨by omega,by omega⟩
 ·subst h
  exact ⟨by omega,by omega⟩
 ·have := zsq h
  exact ⟨by omega,by omega⟩
def sgw (x : Nat) : Int := if (x / 9223372036854775808 % 2 == 1) = true then -((x % 9223372036854775808 : Nat) : Int) else ((x % 9223372036854775808 : Nat) : Int)
theorem dbl : Ieee.double.signWeight = 9223372036854775808 ∧ Ieee.double.binade = 4503599627370496 ∧ Ieee.double.infRung = 9218868437227405312 := by decide
theorem zgc {x : Nat} (h : x % 9223372036854775808 < 9218868437227405312) : Ieee.double.read x = .number (x / 9223372036854775808 % 2 == 1) (zpe (x % 9223372036854775808)) (Ieee.double.leastPlace + ((zar (x % 9223372036854775808) : Nat) : Int)) := by
 unfold Ieee.Format.read
 rw [dbl.1,dbl.2.1,dbl.2.2]
 unfold zpe zar
 simp only
 by_cases h1 : x % 9223372036854775808 < 4503599627370496
 ·rw [if_pos h1,if_pos h1,if_pos h1]
  simp
 ·rw [if_neg h1,if_pos h,if_neg h1,if_neg h1]
theorem zgd {x : Nat} (h : x % 9223372036854775808 = 9218868437227405312) : Ieee.double.read x = .infinity (x / 9223372036854775808 % 2 == 1) := by
 unfold Ieee.Format.read
 rw [dbl.1,dbl.2.1,dbl.2.2]
 simp only [h]
 rw [if_neg (by decide),if_neg (by decide),if_pos trivial]
theorem zpo {x : Nat} (h : x % 9223372036854775808 > 9218868437227405312) : ∃ s f,Ieee.double.read x = .nan s f := by
 unfold Ieee.Format.read
 rw [dbl.1,dbl.2.1,dbl.2.2]
 simp only
 rw [if_neg (by omega),if_neg (by omega),if_neg (by omega)]
 exact ⟨_,_,rfl⟩
theorem zvv {a b c d : Int} (h1 : a < b ↔ c < d) (h2 : a = b ↔ c = d) : compare a b = compare c d := by
 show compareOfLessAndEq a b = compareOfLessAndEq c d
 unfold compareOfLessAndEq
 by_cases q : a < b
 ·rw [if_pos q,if_pos (h1.1 q)]
 ·rw [if_neg q,if_neg (fun e => q (h1.2 e))]
  by_cases q2 : a = b
  ·rw [if_pos q2,if_pos (h2.1 q2)]
  ·rw [if_neg q2,if_neg (fun e => q2 (h2.2 e))]
theorem zzb (r s : Nat) : let m := min (zar r) (zar s)
  (zpe r * 2 ^ (zar r - m) < zpe s * 2 ^ (zar s - m) ↔ r < s) ∧ (zpe r * 2 ^ (zar r - m) = zpe s * 2 ^ (zar s - m) ↔ r = s) := by
 intro m
 obtain ⟨h1,h2⟩ := zwg r s
 have hp : 0 < 2 ^ m := Nat.two_pow_pos _
 have e1 : zqy r = zpe r * 2 ^ (zar r - m) * 2 ^ m := by
  unfold zqy
  rw [Nat.mul_assoc,← Nat.pow_add,Nat.sub_add_cancel (Nat.min_le_left _ _)]
 have e2 : zqy s = zpe s * 2 ^ (zar s - m) * 2 ^ m := by
  unfold zqy
  rw [Nat.mul_assoc,← Nat.pow_add,Nat.sub_add_cancel (Nat.min_le_right _ _)]
 rw [e1,e2] at h1 h2
 exact ⟨(Nat.mul_lt_mul_right hp).symm.trans h1,(Nat.mul_left_inj (Nat.ne_of_gt hp)).symm.trans h2⟩
theorem zlr (r : Nat) (k : Nat) : zpe r * 2 ^ k = 0 ↔ r = 0 := by
 rw [Nat.mul_eq_zero]
 have hp : 2 ^ k ≠ 0 := Nat.ne_of_gt (Nat.two_pow_pos _)
 unfold zpe
 split <;> omega
theorem zjb {x y : Nat} (hx : x % 9223372036854775808 ≤ 9218868437227405312) (hy : y % 9223372036854775808 ≤ 9218868437227405312) : Ieee.double.order x y = some (compare (sgw x) (sgw y)) := by
 unfold Ieee.Format.order sgw
 rcases Nat.lt_or_eq_of_le hx with h1 | h1 <;> rcases Nat.lt_or_eq_of_le hy with h2 | h2
 ·rw [zgc h1,zgc h2]
  generalize (x / 9223372036854775808 % 2 == 1) = s
  generalize (y / 9223372036854775808 % 2 == 1) = t
  generalize x % 9223372036854775808 = r at *
  generalize y % 9223372036854775808 = q at *
  unfold Ieee.Datum.order
  simp only
  generalize Ieee.double.leastPlace = L
  have hb : min (L + ((zar r : Nat) : Int)) (L + ((zar q : Nat) : Int)) = L + ((min (zar r) (zar q) : Nat) : Int) := by omega
  rw [hb]
  have k1 : (L + ((zar r : Nat) : Int) - (L + ((min (zar r) (zar q) : Nat) : Int))).toNat = zar r - min (zar r) (zar q) := by omega
  have k2 : (L + ((zar q : Nat) : Int) - (L + ((min (zar r) (zar q) : Nat) : Int))).toNat = zar q - min (zar r) (zar q) := by omega
  rw [k1,k2]
  obtain ⟨a1,a2⟩ := zzb r q
  have z1 := zlr r (zar r - min (zar r) (zar q))
  have z2 := zlr q (zar q - min (zar r) (zar q))
  unfold Ieee.signed
  rw [Nat.shiftLeft_eq,Nat.shiftLeft_eq]
  generalize zpe r * 2 ^ (zar r - min (zar r) (zar q)) = A at *
  generalize zpe q * 2 ^ (zar q - min (zar r) (zar q)) = B at *
  congr 1
  cases s <;> cases t <;> simp only [if_true,if_false,Bool.false_eq_true] <;> apply zvv <;> omega
 ·rw [zgc h1,zgd h2,h2]
  generalize (x / 9223372036854775808 % 2 == 1) = s
  generalize (y / 9223372036854775808 % 2 == 1) = t
  generalize x % 9223372036854775808 = r at *
  unfold Ieee.Datum.order
  simp only
  congr 1
  cases s <;> cases t <;> simp only [if_true,if_false,Bool.false_eq_true] <;> (show _ = compareOfLessAndEq _ _) <;> unfold compareOfLessAndEq
  ·rw [if_pos (by omega)]
  ·rw [if_neg (by omega),if_neg (by omega)]
  ·rw [if_pos (by omega)]
  ·rw [if_neg (by omega),if_neg (by omega)]
 ·rw [zgd h1,zgc h2,h1]
  generalize (x / 9223372036854775808 % 2 == 1) = s
  generalize (y / 9223372036854775808 % 2 == 1) = t
  generalize y % 9223372036854775808 = r at *
  unfold Ieee.Datum.order
  simp only
  congr 1
  cases s <;> cases t <;> simp only [if_true,if_false,Bool.false_eq_true] <;> (show _ = compareOfLessAndEq _ _) <;> unfold compareOfLessAndEq
  ·rw [if_neg (by omega),if_neg (by omega)]
  ·rw [if_neg (by omega),if_neg (by omega)]
  ·rw [if_pos (by omega)]
  ·rw [if_pos (by omega)]
 ·rw [zgd h1,zgd h2,h1,h2]
  generalize (x / 9223372036854775808 % 2 == 1) = s
  generalize (y / 9223372036854775808 % 2 == 1) = t
  unfold Ieee.Datum.order
  cases s <;> cases t <;> decide
theorem zjc {x y : Nat} (h : x % 9223372036854775808 > 9218868437227405312 ∨ y % 9223372036854775808 > 9218868437227405312) : Ieee.double.order x y = none := by
 unfold Ieee.Format.order
 rcases h with h | h
 ·obtain ⟨s,f,e⟩ := zpo h
  rw [e]
  unfold Ieee.Datum.order
  rfl
 ·obtain ⟨s,f,e⟩ := zpo h
  rw [e]
  cases Ieee.double.read x <;> rfl
def nanW (b : Nat) : Bool := decide (b % 9223372036854775808 > 9218868437227405312)
def zp8 (b : Nat) : Nat := if b % 9223372036854775808 = 0 then 0 else if nanW b = true then 9221120237041090561 else b
def zn4 (b : Nat) : Nat := if zp8 b ≥ 9223372036854775808 then 18446744073709551615 - zp8 b else zp8 b + 9223372036854775808
theorem zkq {b : Nat} (h : b < 18446744073709551616) : zp8 b < 18446744073709551616 := by
 unfold zp8
 split
 ·omega
 ·split <;> omega
theorem zxu (b : Nat) : zp8 (zp8 b) = zp8 b := by
 unfold zp8
 by_cases h : b % 9223372036854775808 = 0
 ·rw [if_pos h]; decide
 ·by_cases h2 : nanW b = true
  ·rw [if_neg h,if_pos h2]; decide
  ·rw [if_neg h,if_neg h2,if_neg h,if_neg h2]
theorem zmu {b : Nat} (h : b < 18446744073709551616) : Op.floatEq .f64 b 0 = decide (b % 9223372036854775808 = 0) := by
 show (Ieee.double.order b 0 == some .eq) = _
 by_cases hn : b % 9223372036854775808 > 9218868437227405312
 ·rw [zjc (.inl hn),decide_eq_false (by omega)]; rfl
 ·rw [zjb (by omega) (by decide)]
  have h0 : sgw 0 = 0 := by decide
  rw [h0]
  unfold sgw
  by_cases hz : b % 9223372036854775808 = 0
  ·rw [hz,decide_eq_true rfl]
   split <;> rfl
  ·rw [decide_eq_false hz]
   show (some (compareOfLessAndEq _ _) == some Ordering.eq) = false
   unfold compareOfLessAndEq
   split
   ·rw [if_pos (by omega)]; rfl
   ·rw [if_neg (by omega),if_neg (by omega)]; rfl
theorem zmv (b : Nat) : Op.floatEq .f64 b b = !nanW b := by
 show (Ieee.double.order b b == some .eq) = _
 unfold nanW
 by_cases hn : b % 9223372036854775808 > 9218868437227405312
 ·rw [zjc (.inl hn),decide_eq_true hn]; rfl
 ·rw [zjb (by omega) (by omega),decide_eq_false hn]
  show (some (compareOfLessAndEq _ _) == some Ordering.eq) = true
  unfold compareOfLessAndEq
  rw [if_neg (by omega),if_pos rfl]; rfl
theorem zwy {b : Nat} (h : b < 18446744073709551616) : zn4 b < 18446744073709551616 := by
 unfold zn4
 have := zkq h
 split <;> omega
theorem ztr {a b : Nat} (ha : a < 18446744073709551616) (hb : b < 18446744073709551616) : zn4 a = zn4 b ↔ zp8 a = zp8 b := by
 unfold zn4
 have h1 := zkq ha
 have h2 := zkq hb
 split <;> split <;> omega
end Go.Pvm
