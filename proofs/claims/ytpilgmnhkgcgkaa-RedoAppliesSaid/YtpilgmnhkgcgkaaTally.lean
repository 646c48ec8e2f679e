/- Part of the proof: sums of bytes: the program's and the reference's. -/
import Derived.Test.YtpilgmnhkgcgkaaEqAll
import Derived.Test.YtpilgmnhkgcgkaaP4
set_option linter.unusedSimpArgs false
set_option linter.unusedVariables false
set_option maxRecDepth 100000
namespace Go.Pvm.S
open Go.Pvm Go.Proofs Go.Pvm.Crc

theorem hT (f : FuncId) (h : toldOf f = none := by rfl) : cfg.told f = none := by show (toldOf f).map _ = none; rw [h]; rfl
theorem TB : SlT Try.prog 24 5 1 1 := ⟨by kernel_rfl, by kernel_rfl, by kernel_rfl, ⟨.int .u8 0, by kernel_rfl, rfl, rfl⟩, by decide, by decide⟩
theorem uB : Try.prog.underlying 5 = some (.int .u8) := by kernel_rfl
theorem uStr : Try.prog.underlying 9 = some .string := by kernel_rfl
theorem ldB (σ : Store) (c : PV) (r : List PV) : loadv Try.prog σ 5 (.pref (c :: r)) = some c := by kernel_rfl
theorem ldcB (σ : Store) (b : UInt8) : loadv Try.prog σ 5 (.pref (cB b)) = some (.int .u8 b.toNat) := ldB σ _ _
theorem partB (e : PV) : partOf Try.prog 5 [e] 0 = some e := by kernel_rfl
theorem bsB0 (σ : Store) : buildSlv Try.prog σ 24 0 [] = some (.lsl σ.next 1 0 0 (some 0), σ.push (.cells 0 [])) := by kernel_rfl
theorem bsB1 (σ : Store) (a : PV) : buildSlv Try.prog σ 24 1 [(0, a)] = (setAll [[.int .u8 0]] 1 [(0, a)]).map fun es => (.lsl σ.next 1 0 1 (some 1), σ.push (.cells 0 es)) := by kernel_rfl
theorem bsB1i (σ : Store) (a : Int) : buildSlv Try.prog σ 24 1 [(0, .int .u8 a)] = some (.lsl σ.next 1 0 1 (some 1), σ.push (.cells 0 [[.int .u8 a]])) := by kernel_rfl
theorem bsB2i (σ : Store) (a b : Int) : buildSlv Try.prog σ 24 2 [(0, .int .u8 a), (1, .int .u8 b)] = some (.lsl σ.next 1 0 2 (some 2), σ.push (.cells 0 [[.int .u8 a], [.int .u8 b]])) := by kernel_rfl
theorem bsB4i (σ : Store) (a b c d : Int) : buildSlv Try.prog σ 24 4 [(0, .int .u8 a), (1, .int .u8 b), (2, .int .u8 c), (3, .int .u8 d)] = some (.lsl σ.next 1 0 4 (some 4), σ.push (.cells 0 [[.int .u8 a], [.int .u8 b], [.int .u8 c], [.int .u8 d]])) := by kernel_rfl

section
variable {v : PV} {l : List UInt8} {σ : Store}
/-! ### The program's -/
theorem lpMore8 (v : PV) (n j : Int) (σ : Store) : ∀ (k i : Nat) (s : BitVec 32), i + k = 8 → loopω cfg 36 lc36_6 (st36_6 (u32 s) v n j (i : Nat)) σ = some (.exit 2, out36_6 (u32 (Crc.Fn k s)) v n j, σ)
  | 0, i, s, hi => by
    refine loopω_ofK ((lq36_6 _ _ _ _ _ _ _ _).trans ?_)
    have : decide (((i : Nat) : Int) < 8) = false := by simp; omega
    simp only [this, Bool.false_eq_true, if_false]
    rfl
  | k + 1, i, s, hi => by
    refine loopω_ofK ((lq36_6 _ _ _ _ _ _ _ _).trans ?_)
    have : decide (((i : Nat) : Int) < 8) = true := by simp; omega
    have hpoly : BitVec.ofInt 32 2168537515 = poly := by decide
    simp only [this, if_true, p31, p1, msb_dec, shl1, wrap_succ (show i < 4611686018427387904 by omega), xor_u32, hpoly]
    unfold Crc.Fn Crc.F
    cases s.msb with
    | true => simp only [if_true]; exact lpMore8 v n j σ k (i + 1) _ (by omega)
    | false => simp only [Bool.false_eq_true, if_false, BitVec.xor_zero]; exact lpMore8 v n j σ k (i + 1) _ (by omega)
theorem lpMore (h : IsS RB v l) (hl : l.length < 4611686018427387904) (σ : Store) : ∀ (k i : Nat) (s : BitVec 32), i + k = l.length → loopω cfg 36 lc36_2 (st36_2 (u32 s) v (l.length : Nat) (i : Nat)) σ = some (.exit 0, out36_2 (u32 ((l.drop i).foldl byteStep s)), σ)
  | 0, i, s, hi => by
    refine loopω_ofK ((lq36_2 _ _ _ _ _ _ _).trans ?_)
    simp only [nltN (show l.length ≤ i by omega), Bool.false_eq_true, if_false]
    rw [List.drop_eq_nil_of_le (by omega)]
    rfl
  | k + 1, i, s, hi => by
    refine loopω_ofK ((lq36_2 _ _ _ _ _ _ _).trans ?_)
    have hw := List.getElem?_eq_getElem (show i < l.length by omega)
    have hd : l.drop i = l[i]'(by omega) :: l.drop (i + 1) := (List.drop_eq_getElem_cons (by omega))
    generalize l[i]'(by omega) = c at hw hd
    obtain ⟨e, h1, rfl⟩ := h.idx TB okB hw .i64
    have hc := c.toNat_lt
    have hx : BitVec.ofInt 32 (IntKind.wrap .u32 (IntKind.wrap .u32 ((c.toNat : Nat) : Int) * 16777216)) = BitVec.ofNat 32 (c.toNat * 16777216) := by
      rw [wrap_u32 (x := ((c.toNat : Nat) : Int)) (by omega) (by omega), wrap_u32 (by omega) (by omega)]
      rw [show ((c.toNat : Nat) : Int) * 16777216 = ((c.toNat * 16777216 : Nat) : Int) by omega]
      exact BitVec.ofInt_natCast ..
    have h8 := fun s => lpMore8 v (l.length : Nat) (i : Nat) σ 8 0 s rfl
    rw [natz] at h8
    simp only [ltN (show i < l.length by omega), if_true, h1, ldcB, bind_some', asInt_int, p24, xor_u32, hx, h8, onEx_exit, out36_6_0, out36_6_8, out36_6_9, out36_6_10, wrap_succ (show i < 4611686018427387904 by omega)]
    rw [hd, List.foldl_cons]
    exact lpMore h hl σ k (i + 1) _ (by omega)
theorem spMore (h : IsS RB v l) (hl : l.length < 4611686018427387904) (s : BitVec 32) : pureω cfg 36 [.int .u32 (u32 s), v] = some (.int .u32 (u32 (l.foldl byteStep s))) := by
  refine pureω_of (hT _) (v := .int .u32 (u32 (l.foldl byteStep s))) (τ := .empty) ((eq36 _ _ _ _ _).trans ?_) rfl
  have h0 := lpMore h hl .empty l.length 0 s (by omega)
  rw [natz, List.drop_zero] at h0
  simp only [h.len TB, bind_some', asInt_int, h0, onEx_exit, out36_2_0, if_true]
theorem spSum (h : IsS RB v l) (hl : l.length < 4611686018427387904) : pureω cfg 32 [v] = some (.int .u32 (u32 (sum l))) := by
  refine pureω_of (hT _) (v := .int .u32 (u32 (sum l))) (τ := .empty) ((eq32 _ _ _ _).trans ?_) rfl
  have h1 : (4294967295 : Int) = u32 0xFFFFFFFF#32 := by decide
  rw [h1, callE_pure (c2 := cfg) rfl (by kernel_rfl) (by simp only [List.map_cons, List.map_nil, frz_int]; rw [show fz fuelFz Store.empty v = v from h.frz 7 _]) (spMore h hl 0xFFFFFFFF#32) (.inl rfl)]
  rfl
theorem cESum {c2 : Cfg} (hm : c2.mode 32 = .pure) (hP : c2.P = Try.prog) (h : IsS RB v l) (hl : l.length < 4611686018427387904) (σ : Store) : callE c2 (callω cfg) 32 [v] σ = some (.int .u32 (u32 (sum l)), σ) :=
  callE_pure hm (by rw [hP]; kernel_rfl) (by simp only [List.map_cons, List.map_nil]; rw [show fz fuelFz σ v = v from h.frz 7 _]) (spSum h hl) (.inl rfl)

theorem fourB (s : BitVec 32) : All2 RB [[.int .u8 (IntKind.wrap .u8 (Int.fdiv (u32 s) 16777216))], [.int .u8 (IntKind.wrap .u8 (Int.fdiv (u32 s) 65536))], [.int .u8 (IntKind.wrap .u8 (Int.fdiv (u32 s) 256))], [.int .u8 (IntKind.wrap .u8 (u32 s))]] (four s) := by
  have e : ∀ k : Nat, Int.fdiv (u32 s) ((k : Nat) : Int) = ((s.toNat / k : Nat) : Int) := fun k => fdiv_nat _ _
  have e1 := e 16777216
  have e2 := e 65536
  have e3 := e 256
  refine .cons ?_ (.cons ?_ (.cons ?_ (.cons ?_ .nil)))
  · show [PV.int .u8 (IntKind.wrap .u8 (Int.fdiv (u32 s) 16777216))] = _
    rw [show (16777216 : Int) = ((16777216 : Nat) : Int) from rfl, e1, wrap_u8_nat]; rfl
  · show [PV.int .u8 (IntKind.wrap .u8 (Int.fdiv (u32 s) 65536))] = _
    rw [show (65536 : Int) = ((65536 : Nat) : Int) from rfl, e2, wrap_u8_nat]; rfl
  · show [PV.int .u8 (IntKind.wrap .u8 (Int.fdiv (u32 s) 256))] = _
    rw [show (256 : Int) = ((256 : Nat) : Int) from rfl, e3, wrap_u8_nat]; rfl
  · show [PV.int .u8 (IntKind.wrap .u8 (u32 s))] = _
    rw [wrap_u8_nat]; rfl

theorem spSeal (h : IsS RB v l) (hl : l.length ≤ 1000000000) : ∃ v', pureω cfg 22 [v] = some v' ∧ IsS RB v' (sealB l) := by
  have ev := eq22 (callω cfg) (loopω cfg) .empty v
  simp only [cESum (c2 := cfg) rfl rfl h (by omega), bind_some', asInt_int, p24, p16, p8, bsB4i] at ev
  obtain ⟨u, τ, q1, q2, q3, q4⟩ := (AxS.fresh (fourB (sum l)) .empty 1 (n := 4) rfl).appQ TB okB (h.q _ 1) (by rw [four_len]; omega)
  rw [q1] at ev
  exact ⟨_, pureω_of (hT _) ev rfl, q2.frz okB 6⟩
theorem cESeal {c2 : Cfg} (hm : c2.mode 22 = .pure) (hP : c2.P = Try.prog) (h : IsS RB v l) (hl : l.length ≤ 1000000000) (σ : Store) : ∃ v', callE c2 (callω cfg) 22 [v] σ = some (v', σ) ∧ IsS RB v' (sealB l) := by
  obtain ⟨v', h1, h2⟩ := spSeal h hl
  exact ⟨v', callE_pure hm (by rw [hP]; kernel_rfl) (by simp only [List.map_cons, List.map_nil]; rw [show fz fuelFz σ v = v from h.frz 7 _]) h1 (.inr (by simp [PV.lf.lfs, h.lf])), h2⟩
/-- What is opened. -/
def openB (l : List UInt8) : List UInt8 × Int := if l.length < 4 then ([], 4) else if four (sum (l.drop 4)) = l.take 4 then (l.drop 4, 0) else ([], 5)
theorem spOpen (h : IsS RB v l) (hl : l.length ≤ 1000000000) : ∃ v', pureω cfg 23 [v] = some (.tuple [v', .int .i64 (openB l).2]) ∧ IsS RB v' (openB l).1 := by
  have ev := eq23 (callω cfg) (loopω cfg) .empty v
  unfold openB
  by_cases h4 : l.length < 4
  · have h4' : decide (((l.length : Nat) : Int) < 4) = true := by simp; omega
    simp only [h.len TB, bind_some', asInt_int, h4', if_true] at ev
    rw [if_pos h4]
    exact ⟨_, pureω_of (hT _) ev rfl, IsS.nil⟩
  · have h4' : decide (((l.length : Nat) : Int) < 4) = false := by simp; omega
    obtain ⟨v1, c1, i1⟩ := h.cut TB okB (lo := some (.int .i64 4)) (hi := none) (numOf_nat .i64 4 0) rfl (by omega) (Nat.le_refl _)
    rw [List.take_of_length_le (by simp)] at i1
    obtain ⟨v2, c2, i2⟩ := cESeal (c2 := cfg) rfl rfl i1 (by simp; omega) .empty
    have hsl : (sealB (l.drop 4)).length = l.length := by
      unfold sealB; rw [List.length_append, four_len, List.length_drop]; omega
    obtain ⟨v3, c3, i3⟩ := i2.cut TB okB (lo := none) (hi := some (.int .i64 4)) rfl (numOf_nat .i64 4 _) (Nat.zero_le _) (by omega)
    obtain ⟨v4, c4, i4⟩ := h.cut TB okB (lo := none) (hi := some (.int .i64 4)) rfl (numOf_nat .i64 4 _) (Nat.zero_le _) (by omega)
    obtain ⟨v5, c5, i5⟩ := i2.cut TB okB (lo := some (.int .i64 4)) (hi := none) (numOf_nat .i64 4 0) rfl (by omega) (Nat.le_refl _)
    have e3 : ((sealB (l.drop 4)).drop 0).take (4 - 0) = four (sum (l.drop 4)) := by unfold sealB; rfl
    have e5 : ((sealB (l.drop 4)).drop 4).take ((sealB (l.drop 4)).length - 4) = l.drop 4 := by
      rw [List.take_of_length_le (by simp)]; unfold sealB; rfl
    rw [e3] at i3
    rw [e5] at i5
    rw [List.drop_zero] at i4
    have ez : ∀ x y : List UInt8, (!(x == y)) = decide (x ≠ y) := fun x y => by by_cases h : x = y <;> simp [h]
    simp only [h.len TB, bind_some', asInt_int, asBool_bool, asStr_str, h4', Bool.false_eq_true, if_false, c1, c2, c3, c4, c5, i3.str uStr TB uB, i4.str uStr TB uB, strNe, ez] at ev
    rw [if_neg h4]
    by_cases hq : four (sum (l.drop 4)) = l.take 4
    · rw [if_pos hq]
      simp only [hq, ne_eq, not_true_eq_false, decide_false, Bool.false_eq_true, if_false] at ev
      exact ⟨v5, pureω_of (hT _) ev (by rw [frz_tuple2, i5.frz 6]; rfl), i5⟩
    · rw [if_neg hq]
      have := ev
      rw [if_pos (by simp [hq])] at this
      exact ⟨_, pureω_of (hT _) this rfl, IsS.nil⟩
theorem cEOpen {c2 : Cfg} (hm : c2.mode 23 = .pure) (hP : c2.P = Try.prog) (h : IsS RB v l) (hl : l.length ≤ 1000000000) (σ : Store) : ∃ v', callE c2 (callω cfg) 23 [v] σ = some (.tuple [v', .int .i64 (openB l).2], σ) ∧ IsS RB v' (openB l).1 := by
  obtain ⟨v', h1, h2⟩ := spOpen h hl
  exact ⟨v', callE_pure hm (by rw [hP]; kernel_rfl) (by simp only [List.map_cons, List.map_nil]; rw [show fz fuelFz σ v = v from h.frz 7 _]) h1 (.inr (by simp [PV.lf.lfs, h.lf])), h2⟩

/-! ### The reference's -/
theorem bitsOf_len (l : List UInt8) : (bitsOf l).length = 8 * l.length := by
  induction l with
  | nil => rfl
  | cons c l ih =>
    unfold bitsOf at ih ⊢
    rw [List.flatMap_cons, List.length_append, ih, List.length_cons]
    show 8 + _ = _
    omega
theorem bitsOf_get : ∀ (l : List UInt8) (i : Nat) (c : UInt8), l[i / 8]? = some c → (bitsOf l)[i]? = some (c.toNat.testBit (7 - i % 8))
  | [], i, c, h => by simp at h
  | x :: l, i, c, h => by
    have hb : bitsOf (x :: l) = bits8 x ++ bitsOf l := by unfold bitsOf; rw [List.flatMap_cons]
    have h8 : (bits8 x).length = 8 := rfl
    rw [hb]
    by_cases hi : i < 8
    · rw [List.getElem?_append_left (by omega)]
      have h0 : i / 8 = 0 := by omega
      rw [h0] at h
      simp at h
      subst h
      have hm : i % 8 = i := by omega
      rw [hm]
      have : i = 0 ∨ i = 1 ∨ i = 2 ∨ i = 3 ∨ i = 4 ∨ i = 5 ∨ i = 6 ∨ i = 7 := by omega
      rcases this with rfl | rfl | rfl | rfl | rfl | rfl | rfl | rfl <;> rfl
    · rw [List.getElem?_append_right (by omega), h8]
      have h1 : i / 8 = (i - 8) / 8 + 1 := by omega
      rw [h1, List.getElem?_cons_succ] at h
      have h2 : i % 8 = (i - 8) % 8 := by omega
      rw [h2]
      exact bitsOf_get l (i - 8) c h
theorem G_eq (s : BitVec 32) (b : Bool) : G s b = if (s.msb == b) = true then s <<< 1 else s <<< 1 ^^^ poly := by
  unfold G
  by_cases h : s.msb = b
  · simp [h]
  · simp [h]
theorem lpRSum (h : IsS RB v l) (hl : l.length ≤ 1000000000) (σ : Store) : ∀ (k i : Nat) (s : BitVec 32), i + k = 8 * l.length → loopω cfg 27 lc27_3 (st27_3 v (u32 s) (i : Nat)) σ = some (.exit 0, out27_3 (u32 (((bitsOf l).drop i).foldl G s)), σ)
  | 0, i, s, hi => by
    refine loopω_ofK ((lq27_3 _ _ _ _ _ _).trans ?_)
    have hw : IntKind.wrap .i64 (8 * ((l.length : Nat) : Int)) = ((8 * l.length : Nat) : Int) := by rw [wrap_i64 (by omega) (by omega)]; omega
    simp only [h.len TB, bind_some', asInt_int, hw, nltN (show 8 * l.length ≤ i by omega), Bool.false_eq_true, if_false]
    rw [List.drop_eq_nil_of_le (by rw [bitsOf_len]; omega)]
    rfl
  | k + 1, i, s, hi => by
    refine loopω_ofK ((lq27_3 _ _ _ _ _ _).trans ?_)
    have hw : IntKind.wrap .i64 (8 * ((l.length : Nat) : Int)) = ((8 * l.length : Nat) : Int) := by rw [wrap_i64 (by omega) (by omega)]; omega
    have hg := List.getElem?_eq_getElem (show i / 8 < l.length by omega)
    generalize l[i / 8]'(by omega) = c at hg
    obtain ⟨e, h1, rfl⟩ := h.idx TB okB hg .i64
    have hc := c.toNat_lt
    have hd8 : IntKind.wrap .i64 (Int.tdiv ((i : Nat) : Int) 8) = ((i / 8 : Nat) : Int) := by
      rw [show (8 : Int) = ((8 : Nat) : Int) from rfl, tdiv_nat, wrap_i64 (by omega) (by omega)]
    have hsh : IntKind.wrap .u64 (IntKind.wrap .i64 (7 - Int.tmod ((i : Nat) : Int) 8)) = ((7 - i % 8 : Nat) : Int) := by
      rw [show (8 : Int) = ((8 : Nat) : Int) from rfl, tmod_nat, wrap_i64 (by omega) (by omega), wrap_u64 (by omega) (by omega)]; omega
    have hcw : IntKind.wrap .u64 ((c.toNat : Nat) : Int) = ((c.toNat : Nat) : Int) := wrap_u64 (by omega) (by omega)
    have hshr : binv Try.prog .shr 61 (.int .u64 ((c.toNat : Nat) : Int)) (.int .u64 ((7 - i % 8 : Nat) : Int)) = some (.int .u64 ((c.toNat / 2 ^ (7 - i % 8) : Nat) : Int)) := by
      have hn : ¬ (((7 - i % 8 : Nat) : Int) < 0) := by omega
      have hmin : min (Int.toNat ((7 - i % 8 : Nat) : Int)) (IntKind.bits .u64) = 7 - i % 8 := by
        have : IntKind.bits .u64 = 64 := rfl
        rw [this, Int.toNat_natCast]; omega
      simp only [binv, shiftv]
      rw [if_neg hn, hmin]
      have : (2 : Int) ^ (7 - i % 8) = ((2 ^ (7 - i % 8) : Nat) : Int) := by simp
      rw [this, fdiv_nat]
    have hbit : Int.tmod ((c.toNat / 2 ^ (7 - i % 8) : Nat) : Int) 2 = ((c.toNat.testBit (7 - i % 8)).toNat : Int) := by
      rw [show (2 : Int) = ((2 : Nat) : Int) from rfl, tmod_nat, Nat.toNat_testBit]
    have hout : IntKind.wrap .u64 (Int.tdiv (u32 s) 2147483648) = (s.msb.toNat : Int) := by
      have hs := s.isLt
      rw [show (2147483648 : Int) = ((2147483648 : Nat) : Int) from rfl]
      unfold u32
      rw [tdiv_nat, wrap_u64 (by omega) (by omega), BitVec.msb_eq_decide]
      by_cases hq : 2147483648 ≤ s.toNat
      · have : s.toNat / 2147483648 = 1 := by omega
        have h2 : decide (2 ^ (32 - 1) ≤ s.toNat) = true := by simpa using hq
        rw [this, h2]; rfl
      · have : s.toNat / 2147483648 = 0 := by omega
        have h2 : decide (2 ^ (32 - 1) ≤ s.toNat) = false := by simpa using hq
        rw [this, h2]; rfl
    have hdbl : Int.tmod (IntKind.wrap .u64 (u32 s * 2)) 4294967296 = u32 (s <<< 1) := by
      have hs := s.isLt
      unfold u32
      rw [wrap_u64 (by omega) (by omega), show ((s.toNat : Nat) : Int) * 2 = ((s.toNat * 2 : Nat) : Int) by omega, show (4294967296 : Int) = ((4294967296 : Nat) : Int) from rfl, tmod_nat, BitVec.toNat_shiftLeft, Nat.shiftLeft_eq]
    have hxor : ∀ s : BitVec 32, IntKind.wrap .u64 (((BitVec.ofInt (IntKind.bits .u64) (u32 s) ^^^ BitVec.ofInt (IntKind.bits .u64) 2168537515).toNat : Nat) : Int) = u32 (s ^^^ poly) := by
      intro s
      have hs := s.isLt
      have h1 : BitVec.ofInt (IntKind.bits .u64) (u32 s) = BitVec.ofNat 64 s.toNat := BitVec.ofInt_natCast ..
      have h2 : BitVec.ofInt (IntKind.bits .u64) 2168537515 = BitVec.ofNat 64 2168537515 := rfl
      have h3 : ((BitVec.ofNat 64 s.toNat ^^^ BitVec.ofNat 64 2168537515).toNat) = (s ^^^ poly).toNat := by
        rw [BitVec.toNat_xor, BitVec.toNat_xor, BitVec.toNat_ofNat, BitVec.toNat_ofNat, Nat.mod_eq_of_lt (by omega)]
        rfl
      rw [h1, h2]
      show IntKind.wrap .u64 (((BitVec.ofNat 64 s.toNat ^^^ BitVec.ofNat 64 2168537515).toNat : Nat) : Int) = _
      rw [h3]
      have := (s ^^^ poly).isLt
      exact wrap_u64 (by omega) (by omega)
    have hne : ∀ a b : Bool, (((a.toNat : Nat) : Int) != ((b.toNat : Nat) : Int)) = !(a == b) := by decide
    simp only [h.len TB, bind_some', asInt_int, hw, ltN (show i < 8 * l.length by omega), if_true, hd8, h1, ldcB, hcw, hsh, hshr, hbit, hout, hne, hdbl, hxor, wrap_succ (show i < 4611686018427387904 by omega)]
    have hdr : (bitsOf l).drop i = c.toNat.testBit (7 - i % 8) :: (bitsOf l).drop (i + 1) := by
      have hlt : i < (bitsOf l).length := by rw [bitsOf_len]; omega
      rw [List.drop_eq_getElem_cons hlt]
      have := bitsOf_get l i c hg
      rw [List.getElem?_eq_getElem hlt] at this
      rw [Option.some.inj this]
    rw [hdr, List.foldl_cons, G_eq]
    cases hq : s.msb == c.toNat.testBit (7 - i % 8) with
    | true => simp only [Bool.not_true, Bool.false_eq_true, if_false, if_true]; exact lpRSum h hl σ k (i + 1) _ (by omega)
    | false => simp only [Bool.not_false, Bool.false_eq_true, if_false, if_true]; exact lpRSum h hl σ k (i + 1) _ (by omega)
theorem sum_bits (l : List UInt8) : sum l = (bitsOf l).foldl G 0xFFFFFFFF#32 := Crc.fold_bits l _
theorem spRSum (h : IsS RB v l) (hl : l.length ≤ 1000000000) : pureω cfg 27 [v] = some (.int .u32 (u32 (sum l))) := by
  refine pureω_of (hT _) (v := .int .u32 (u32 (sum l))) (τ := .empty) ((eq27 _ _ _ _).trans ?_) rfl
  have h0 := lpRSum h hl .empty (8 * l.length) 0 0xFFFFFFFF#32 (by omega)
  have h1 : u32 0xFFFFFFFF#32 = (4294967295 : Int) := by decide
  rw [natz, List.drop_zero, h1, ← sum_bits] at h0
  simp only [bind_some', asInt_int, h0, onEx_exit, out27_3_3, if_true, wrap_bv]
theorem cERSum {c2 : Cfg} (hm : c2.mode 27 = .pure) (hP : c2.P = Try.prog) (h : IsS RB v l) (hl : l.length ≤ 1000000000) (σ : Store) : callE c2 (callω cfg) 27 [v] σ = some (.int .u32 (u32 (sum l)), σ) :=
  callE_pure hm (by rw [hP]; kernel_rfl) (by simp only [List.map_cons, List.map_nil]; rw [show fz fuelFz σ v = v from h.frz 7 _]) (spRSum h hl) (.inl rfl)
theorem fourR (s : BitVec 32) : All2 RB [[.int .u8 (IntKind.wrap .u8 (IntKind.wrap .u32 (Int.tdiv (u32 s) 16777216)))], [.int .u8 (IntKind.wrap .u8 (IntKind.wrap .u32 (Int.tdiv (u32 s) 65536)))], [.int .u8 (IntKind.wrap .u8 (IntKind.wrap .u32 (Int.tdiv (u32 s) 256)))], [.int .u8 (IntKind.wrap .u8 (u32 s))]] (four s) := by
  have hs := s.isLt
  have e : ∀ k : Nat, IntKind.wrap .u32 (Int.tdiv (u32 s) ((k : Nat) : Int)) = ((s.toNat / k : Nat) : Int) := fun k => by
    have := Nat.div_le_self s.toNat k
    unfold u32
    rw [tdiv_nat]
    generalize s.toNat / k = q at *
    rw [wrap_u32 (by omega) (by omega)]
  have e1 := e 16777216
  have e2 := e 65536
  have e3 := e 256
  refine .cons ?_ (.cons ?_ (.cons ?_ (.cons ?_ .nil)))
  · show [PV.int .u8 (IntKind.wrap .u8 (IntKind.wrap .u32 (Int.tdiv (u32 s) 16777216)))] = _
    rw [show (16777216 : Int) = ((16777216 : Nat) : Int) from rfl, e1, wrap_u8_nat]; rfl
  · show [PV.int .u8 (IntKind.wrap .u8 (IntKind.wrap .u32 (Int.tdiv (u32 s) 65536)))] = _
    rw [show (65536 : Int) = ((65536 : Nat) : Int) from rfl, e2, wrap_u8_nat]; rfl
  · show [PV.int .u8 (IntKind.wrap .u8 (IntKind.wrap .u32 (Int.tdiv (u32 s) 256)))] = _
    rw [show (256 : Int) = ((256 : Nat) : Int) from rfl, e3, wrap_u8_nat]; rfl
  · show [PV.int .u8 (IntKind.wrap .u8 (u32 s))] = _
    rw [wrap_u8_nat]; rfl
theorem spRFour (s : BitVec 32) : ∃ v', pureω cfg 26 [.int .u32 (u32 s)] = some v' ∧ IsS RB v' (four s) ∧ ∃ es, v' = .psl true es := by
  have ev := eq26 (callω cfg) (loopω cfg) .empty (u32 s)
  simp only [bsB4i, bind_some'] at ev
  have hq := (AxS.fresh (fourR s) .empty 1 (n := 4) rfl).frz okB 6
  refine ⟨_, pureω_of (hT _) ev rfl, hq, ?_⟩
  exact ⟨_, frz_lsl (push_obj _ _) (Nat.le_refl _) 7⟩
theorem cERFour {c2 : Cfg} (hm : c2.mode 26 = .pure) (hP : c2.P = Try.prog) (s : BitVec 32) (σ : Store) : ∃ v', callE c2 (callω cfg) 26 [.int .u32 (u32 s)] σ = some (v', σ) ∧ IsS RB v' (four s) ∧ ∃ es, v' = .psl true es := by
  obtain ⟨v', h1, h2⟩ := spRFour s
  exact ⟨v', callE_pure hm (by rw [hP]; kernel_rfl) rfl h1 (.inr rfl), h2⟩
theorem spRSeal (h : IsS RB v l) (hl : l.length ≤ 1000000000) : ∃ v', pureω cfg 25 [v] = some v' ∧ IsS RB v' (sealB l) := by
  have ev := eq25 (callω cfg) (loopω cfg) .empty v
  obtain ⟨v1, c1, i1, es, rfl⟩ := cERFour (c2 := cfg) rfl rfl (sum l) .empty
  simp only [cERSum (c2 := cfg) rfl rfl h hl, bind_some', asInt_int, c1] at ev
  obtain ⟨es', j1, j2⟩ := i1
  have j1 : es' = es := by rcases j1 with ⟨e, _⟩ | ⟨b, e⟩ <;> cases e; rfl
  subst j1
  have ha : AxS RB .empty 1 (.psl true es') (four (sum l)) := ⟨es', .inr (.inl rfl), j2⟩
  obtain ⟨u, τ, q1, q2, q3, q4⟩ := ha.appQ TB okB (h.q _ 1) (by rw [four_len]; omega)
  rw [q1] at ev
  exact ⟨_, pureω_of (hT _) ev rfl, q2.frz okB 6⟩
theorem cERSeal {c2 : Cfg} (hm : c2.mode 25 = .pure) (hP : c2.P = Try.prog) (h : IsS RB v l) (hl : l.length ≤ 1000000000) (σ : Store) : ∃ v', callE c2 (callω cfg) 25 [v] σ = some (v', σ) ∧ IsS RB v' (sealB l) := by
  obtain ⟨v', h1, h2⟩ := spRSeal h hl
  exact ⟨v', callE_pure hm (by rw [hP]; kernel_rfl) (by simp only [List.map_cons, List.map_nil]; rw [show fz fuelFz σ v = v from h.frz 7 _]) h1 (.inr (by simp [PV.lf.lfs, h.lf])), h2⟩
end
end Go.Pvm.S
