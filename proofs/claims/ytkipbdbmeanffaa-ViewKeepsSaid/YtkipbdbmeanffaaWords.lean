/- Part of the proof: whole numbers of the machine's kinds. -/
import Derived.Test.YtkipbdbmeanffaaCrc
set_option linter.unusedSimpArgs false
set_option linter.unusedVariables false
namespace Go.Pvm
abbrev u32 (s : BitVec 32) : Int := ((s.toNat : Nat) : Int)
theorem wrap_u32 {x : Int} (h1 : 0 ≤ x) (h2 : x < 4294967296) : IntKind.wrap .u32 x = x := by
  have e1 : ((2 : Int) ^ IntKind.bits .u32) = 4294967296 := by decide
  have e3 : IntKind.signed .u32 = false := rfl
  simp only [IntKind.wrap, e1, e3, Bool.false_and]
  simp only [Bool.false_eq_true, if_false]
  omega
theorem wrap_u64 {x : Int} (h1 : 0 ≤ x) (h2 : x < 18446744073709551616) : IntKind.wrap .u64 x = x := by
  have e1 : ((2 : Int) ^ IntKind.bits .u64) = 18446744073709551616 := by decide
  have e3 : IntKind.signed .u64 = false := rfl
  simp only [IntKind.wrap, e1, e3, Bool.false_and]
  simp only [Bool.false_eq_true, if_false]
  omega
theorem wrap_u32_mod (x : Int) : IntKind.wrap .u32 x = x % 4294967296 := by
  have e1 : ((2 : Int) ^ IntKind.bits .u32) = 4294967296 := by decide
  have e3 : IntKind.signed .u32 = false := rfl
  simp only [IntKind.wrap, e1, e3, Bool.false_and]
  simp only [Bool.false_eq_true, if_false]
theorem wrap_u8_mod (x : Int) : IntKind.wrap .u8 x = x % 256 := by
  have e1 : ((2 : Int) ^ IntKind.bits .u8) = 256 := by decide
  have e3 : IntKind.signed .u8 = false := rfl
  simp only [IntKind.wrap, e1, e3, Bool.false_and]
  simp only [Bool.false_eq_true, if_false]
theorem wrap_u8_nat (n : Nat) : IntKind.wrap .u8 ((n : Nat) : Int) = ((UInt8.ofNat n).toNat : Int) := by
  rw [wrap_u8_mod]
  simp
theorem p31 : ((2 : Int) ^ (min (Int.toNat 31) (IntKind.bits .u32))) = 2147483648 := by decide
theorem p24 : ((2 : Int) ^ (min (Int.toNat 24) (IntKind.bits .u32))) = 16777216 := by decide
theorem p16 : ((2 : Int) ^ (min (Int.toNat 16) (IntKind.bits .u32))) = 65536 := by decide
theorem p8 : ((2 : Int) ^ (min (Int.toNat 8) (IntKind.bits .u32))) = 256 := by decide
theorem p1 : ((2 : Int) ^ (min (Int.toNat 1) (IntKind.bits .u32))) = 2 := by decide
theorem q8 : ((2 : Int) ^ (min (Int.toNat 8) (IntKind.bits .i64))) = 256 := by decide
theorem ofInt_u32 (s : BitVec 32) : BitVec.ofInt (IntKind.bits .u32) (u32 s) = s := by
  show BitVec.ofInt 32 ((s.toNat : Nat) : Int) = s
  rw [BitVec.ofInt_natCast, BitVec.ofNat_toNat, BitVec.setWidth_eq]
theorem u32_lt (s : BitVec 32) : 0 ≤ u32 s ∧ u32 s < 4294967296 := by have := s.isLt; unfold u32; omega
theorem wrap_bv (s : BitVec 32) : IntKind.wrap .u32 ((s.toNat : Nat) : Int) = u32 s := wrap_u32 (u32_lt s).1 (u32_lt s).2
theorem xor_u32 (s : BitVec 32) (x : Int) : IntKind.wrap .u32 (((BitVec.ofInt (IntKind.bits .u32) (u32 s) ^^^ BitVec.ofInt (IntKind.bits .u32) x).toNat : Nat) : Int) = u32 (s ^^^ BitVec.ofInt 32 x) := by
  rw [ofInt_u32]
  exact wrap_bv _
theorem shl1 (s : BitVec 32) : IntKind.wrap .u32 (u32 s * 2) = u32 (s <<< 1) := by
  rw [wrap_u32_mod]
  unfold u32
  rw [BitVec.toNat_shiftLeft, Nat.shiftLeft_eq]
  omega
theorem msb_dec (s : BitVec 32) : (Int.fdiv (u32 s) 2147483648 == 1) = s.msb := by
  rw [BitVec.msb_eq_decide, Int.fdiv_eq_ediv_of_nonneg _ (by decide)]
  have := s.isLt
  unfold u32
  by_cases h : 2147483648 ≤ s.toNat
  · have : ((s.toNat : Nat) : Int) / 2147483648 = 1 := by omega
    rw [this]; simp; omega
  · have : ((s.toNat : Nat) : Int) / 2147483648 = 0 := by omega
    rw [this]; simp; omega
theorem fdiv_nat (a b : Nat) : Int.fdiv ((a : Nat) : Int) ((b : Nat) : Int) = ((a / b : Nat) : Int) := by
  rw [Int.fdiv_eq_ediv_of_nonneg _ (by omega)]; rfl
theorem tdiv_nat (a b : Nat) : Int.tdiv ((a : Nat) : Int) ((b : Nat) : Int) = ((a / b : Nat) : Int) := by
  rw [Int.tdiv_eq_ediv_of_nonneg (by omega)]; rfl
theorem tmod_nat (a b : Nat) : Int.tmod ((a : Nat) : Int) ((b : Nat) : Int) = ((a % b : Nat) : Int) := by
  rw [Int.tmod_eq_emod_of_nonneg (by omega)]; rfl
end Go.Pvm
