/- Part of the proof: sums of bytes: plain. -/
import Derived.Test.YtkipbdbmeanffaaV26
set_option linter.unusedSimpArgs false
set_option linter.unusedVariables false
namespace Go.Pvm.Crc

abbrev W32 := BitVec 32
def poly : W32 := 0x814141AB#32
def top : W32 := 0x80000000#32
/-- A step without a bit. -/
def F (x : W32) : W32 := (x <<< 1) ^^^ (if x.msb = true then poly else 0#32)
/-- A step with a bit. -/
def G (r : W32) (b : Bool) : W32 := (r <<< 1) ^^^ (if r.msb = b then 0#32 else poly)
def eb (b : Bool) (n : Nat) : W32 := if b = true then 1#32 <<< n else 0#32

theorem ite_xor (a b : Bool) : (if (a ^^ b) = true then poly else 0#32) = (if a = true then poly else 0#32) ^^^ (if b = true then poly else 0#32) := by
  cases a <;> cases b <;> decide
theorem F_xor (x y : W32) : F (x ^^^ y) = F x ^^^ F y := by
  unfold F
  rw [BitVec.msb_xor, ite_xor, BitVec.shiftLeft_xor_distrib]
  ac_rfl
theorem F_zero : F 0#32 = 0#32 := by decide
theorem msb_eb (b : Bool) : (eb b 31).msb = b := by cases b <;> decide
theorem eb_top_shl (b : Bool) : eb b 31 <<< 1 = 0#32 := by cases b <;> decide
theorem G_F (r : W32) (b : Bool) : G r b = F (r ^^^ eb b 31) := by
  unfold G F
  rw [BitVec.msb_xor, msb_eb, BitVec.shiftLeft_xor_distrib, eb_top_shl, BitVec.xor_zero]
  congr 1
  cases r.msb <;> cases b <;> rfl
theorem F_eb (b : Bool) {n : Nat} (h : n < 31) : F (eb b n) = eb b (n + 1) := by
  have : ∀ n : Fin 31, ∀ b, F (eb b n.1) = eb b (n.1 + 1) := by decide
  exact this ⟨n, h⟩ b
theorem F_inj {x : W32} (h : F x = 0#32) : x = 0#32 := by
  unfold F at h
  cases hm : x.msb with
  | false =>
    rw [hm] at h
    simp only [Bool.false_eq_true, if_false, BitVec.xor_zero] at h
    apply BitVec.eq_of_getLsbD_eq
    intro i hi
    by_cases h31 : i = 31
    · subst h31
      rw [BitVec.msb_eq_getLsbD_last] at hm
      simpa using hm
    · have := congrArg (fun v : W32 => v.getLsbD (i + 1)) h
      simp only [BitVec.getLsbD_shiftLeft] at this
      simp at this
      simpa using this (by omega)
  | true =>
    rw [hm] at h
    exfalso
    have := congrArg (fun v : W32 => v.getLsbD 0) h
    simp [poly] at this

def Fn : Nat → W32 → W32
  | 0, x => x
  | n + 1, x => Fn n (F x)
theorem Fn_xor : ∀ (n : Nat) (x y : W32), Fn n (x ^^^ y) = Fn n x ^^^ Fn n y
  | 0, _, _ => rfl
  | n + 1, x, y => by rw [Fn, F_xor, Fn_xor n]; rfl
theorem Fn_inj : ∀ (n : Nat) {x : W32}, Fn n x = 0#32 → x = 0#32
  | 0, _, h => h
  | n + 1, x, h => F_inj (Fn_inj n h)
theorem Fn_zero (n : Nat) : Fn n 0#32 = 0#32 := by
  induction n with
  | zero => rfl
  | succ n ih => rw [Fn, F_zero, ih]

/-- Bits, the first the highest. -/
def laid : List Bool → Nat → W32
  | [], _ => 0#32
  | b :: r, n => eb b n ^^^ laid r (n - 1)
/-- Up to 32 bits are taken in at once. -/
theorem fold_laid : ∀ (bs : List Bool) (r : W32), bs.length ≤ 32 → bs.foldl G r = Fn bs.length (r ^^^ laid bs 31)
  | [], r, _ => by simp [laid, Fn]
  | b :: bs, r, h => by
    simp only [List.length_cons] at h
    rw [List.foldl_cons, fold_laid bs _ (by omega), List.length_cons, Fn, G_F, laid]
    congr 1
    have up : ∀ (bs : List Bool) (n : Nat), n ≤ 30 → bs.length ≤ n + 1 → F (laid bs n) = laid bs (n + 1) := by
      intro bs
      induction bs with
      | nil => intro n _ _; exact F_zero
      | cons c cs ih =>
        intro n hn hl
        simp only [List.length_cons] at hl
        rw [laid, laid, F_xor, F_eb c (by omega)]
        congr 1
        cases cs with
        | nil => exact F_zero
        | cons d ds =>
          simp only [List.length_cons] at hl
          rw [ih (n - 1) (by omega) (by simp only [List.length_cons]; omega), show n - 1 + 1 = n by omega]
          rfl
    rw [← BitVec.xor_assoc, F_xor (r ^^^ eb b 31)]
    congr 1
    exact (up bs 30 (Nat.le_refl _) (by omega)).symm

/-- The bits of a byte. -/
def bits8 (c : UInt8) : List Bool := [c.toNat.testBit 7, c.toNat.testBit 6, c.toNat.testBit 5, c.toNat.testBit 4, c.toNat.testBit 3, c.toNat.testBit 2, c.toNat.testBit 1, c.toNat.testBit 0]
theorem laid_byte (c : UInt8) : laid (bits8 c) 31 = BitVec.ofNat 32 (c.toNat * 16777216) := by
  have : ∀ n : Fin 256, laid [n.1.testBit 7, n.1.testBit 6, n.1.testBit 5, n.1.testBit 4, n.1.testBit 3, n.1.testBit 2, n.1.testBit 1, n.1.testBit 0] 31 = BitVec.ofNat 32 (n.1 * 16777216) := by decide +kernel
  exact this ⟨c.toNat, c.toNat_lt⟩
/-- A byte taken in. -/
def byteStep (r : W32) (c : UInt8) : W32 := Fn 8 (r ^^^ BitVec.ofNat 32 (c.toNat * 16777216))
theorem byteStep_bits (r : W32) (c : UInt8) : byteStep r c = (bits8 c).foldl G r := by
  rw [fold_laid _ _ (by simp [bits8]), laid_byte]
  rfl
def bitsOf (l : List UInt8) : List Bool := l.flatMap bits8
theorem fold_bits (l : List UInt8) : ∀ r : W32, l.foldl byteStep r = (bitsOf l).foldl G r := by
  induction l with
  | nil => intro r; rfl
  | cons c l ih =>
    intro r
    rw [List.foldl_cons, ih, byteStep_bits]
    unfold bitsOf
    rw [List.flatMap_cons, List.foldl_append]
/-- The sum of bytes. -/
def sum (l : List UInt8) : W32 := l.foldl byteStep 0xFFFFFFFF#32
def four (s : W32) : List UInt8 := [UInt8.ofNat (s.toNat / 16777216), UInt8.ofNat (s.toNat / 65536), UInt8.ofNat (s.toNat / 256), UInt8.ofNat s.toNat]
def sealB (l : List UInt8) : List UInt8 := four (sum l) ++ l
theorem four_inj {a b : W32} (h : four a = four b) : a = b := by
  unfold four at h
  simp only [List.cons.injEq, and_true] at h
  have ha := a.isLt
  have hb := b.isLt
  have e : ∀ x y : Nat, UInt8.ofNat x = UInt8.ofNat y → x % 256 = y % 256 := fun x y h => by
    have := congrArg UInt8.toNat h
    simpa using this
  obtain ⟨h1, h2, h3, h4⟩ := h
  have e1 := e _ _ h1
  have e2 := e _ _ h2
  have e3 := e _ _ h3
  have e4 := e _ _ h4
  apply BitVec.eq_of_toNat_eq
  omega
theorem four_len (s : W32) : (four s).length = 4 := rfl
end Go.Pvm.Crc
