/- Part of the proof: a turned record is none. -/
import Derived.Test.YtpilgmnhkgcgkaaRedoE
import Derived.Test.YtpilgmnhkgcgkaaBurst
set_option linter.unusedSimpArgs false
set_option linter.unusedVariables false
set_option maxRecDepth 100000
namespace Go.Pvm.S
open Go.Pvm Go.Proofs Go.Pvm.Crc

theorem flips_take {p k N n : Nat} {l : List UInt8} {x : Nat} (hx : 8 * x ≤ k) : (flips p k N n 0 l).take x = l.take x := by
  apply List.ext_getElem?
  intro i
  rw [List.getElem?_take, List.getElem?_take]
  by_cases hi : i < x
  · rw [if_pos hi, if_pos hi]
    have h := flips_get p k N n 0 l i (by omega)
    rw [List.getD_eq_getElem?_getD, List.getD_eq_getElem?_getD] at h
    by_cases hl : i < l.length
    · have hl' : i < (flips p k N n 0 l).length := by rw [flips_len]; exact hl
      rw [List.getElem?_eq_getElem hl, List.getElem?_eq_getElem hl'] at h ⊢
      simp only [Option.getD_some] at h
      rw [h]
    · have hfl := flips_len p k N n 0 l
      rw [List.getElem?_eq_none (l := l) (by omega), List.getElem?_eq_none (by omega)]
  · rw [if_neg hi, if_neg hi]
/-- A record whose bits are turned behind its sum. -/
theorem first_flips {g : List Img} (hg : may g = true) {p k : Nat} (hk : 48 ≤ k) (hkN : k ≤ 8 * (record g).length) (ht : turned p k (8 * (record g).length) 32 0 = true) : (first (flips p k (8 * (record g).length) 32 0 (record g))).2.2 ≠ 0 := by
  have hs := flips_sum (h := 6) (by omega) hkN ht
  have hl := flips_len p k (8 * (record g).length) 32 0 (record g)
  have h6 := flips_take (p := p) (N := 8 * (record g).length) (n := 32) (l := record g) (x := 6) (show 8 * 6 ≤ k by omega)
  have hrl := record_len (g := g) fun m hm => (may_all hg m hm).2.2
  have hml := (may_len hg).2
  generalize hr : flips p k (8 * (record g).length) 32 0 (record g) = r at hs hl h6
  have hbl : (recB g).length = 1 + 513 * g.length := by unfold recB; rw [List.length_cons, recF_len fun m hm => (may_all hg m hm).2.2]; omega
  have hsl : (sealB (recB g)).length = 5 + 513 * g.length := by rw [sealB_len, hbl]; omega
  have hgd : ∀ i, i < 6 → r.getD i 0 = (record g).getD i 0 := fun i hi => by
    have h := congrArg (fun l : List UInt8 => l.getD i 0) h6
    simp only [List.getD_eq_getElem?_getD, List.getElem?_take, if_pos hi] at h
    simpa [List.getD_eq_getElem?_getD] using h
  have hnum : num2 r = (record g).length - 2 := by
    unfold num2
    rw [hgd 0 (by omega), hgd 1 (by omega)]
    have hsplit : record g = UInt8.ofNat ((sealB (recB g)).length / 256) :: UInt8.ofNat (sealB (recB g)).length :: sealB (recB g) := rfl
    rw [hrl, hsplit, List.getD_cons_zero, List.getD_cons_succ, List.getD_cons_zero, UInt8.toNat_ofNat', UInt8.toNat_ofNat']
    omega
  have htk : (r.drop 2).take (num2 r) = r.drop 2 := List.take_of_length_le (by rw [hnum, List.length_drop]; omega)
  have hd6 : (r.drop 2).drop 4 = r.drop 6 := by rw [List.drop_drop]
  have ht4 : (r.drop 2).take 4 = four (sum ((record g).drop 6)) := by
    have h1 : (r.drop 2).take 4 = (r.take 6).drop 2 := by rw [List.drop_take]
    rw [h1, h6]
    rfl
  have ho : openB ((r.drop 2).take (num2 r)) = ([], 5) := by
    unfold openB
    rw [htk, hd6, ht4, if_neg (by rw [List.length_drop]; omega), if_neg fun e => hs (four_inj e)]
  unfold first
  rw [ho, if_neg (by omega), if_neg (by omega), if_pos (by decide)]
  decide

section
variable {v w o v' : PV} {g g' : List Img} {b x : List UInt8} {σ : Store}
theorem shr_bit (p i : Nat) (hi : i < 32) (t : TypeId) : ∃ n : Nat, binv Try.prog .shr t (.int .u32 ((p : Nat) : Int)) (.int .u64 ((i : Nat) : Int)) = some (.int .u32 ((n : Nat) : Int)) ∧ (Int.tmod ((n : Nat) : Int) 2 == 1) = p.testBit i := by
  refine ⟨p / 2 ^ i, ?_, ?_⟩
  · have hn : ¬ (((i : Nat) : Int) < 0) := by omega
    have hmin : min (Int.toNat ((i : Nat) : Int)) (IntKind.bits .u32) = i := by
      have : IntKind.bits .u32 = 32 := rfl
      rw [this, Int.toNat_natCast]; omega
    simp only [binv, shiftv]
    rw [if_neg hn, hmin, show (2 : Int) ^ i = ((2 ^ i : Nat) : Int) by simp, fdiv_nat]
  · rw [show (2 : Int) = ((2 : Nat) : Int) from rfl, tmod_nat, Nat.testBit_eq_decide_div_mod_eq]
    by_cases h : p / 2 ^ i % 2 = 1
    · rw [h]; rfl
    · have h0 : p / 2 ^ i % 2 = 0 := by omega
      rw [h0]; rfl
theorem shl_bit (s : Nat) (hs : s < 8) (t : TypeId) : binv Try.prog .shl t (.int .u8 1) (.int .u64 ((s : Nat) : Int)) = some (.int .u8 ((2 ^ s : Nat) : Int)) := by
  have hn : ¬ (((s : Nat) : Int) < 0) := by omega
  have hmin : min (Int.toNat ((s : Nat) : Int)) (IntKind.bits .u8) = s := by
    have : IntKind.bits .u8 = 8 := rfl
    rw [this, Int.toNat_natCast]; omega
  have hp : 2 ^ s < 2 ^ 8 := Nat.pow_lt_pow_right (by omega) hs
  simp only [binv, shiftv]
  rw [if_neg hn, hmin, Int.one_mul, show (2 : Int) ^ s = ((2 ^ s : Nat) : Int) by simp]
  generalize 2 ^ s = q at hp ⊢
  rw [wrap_u8 (by omega) (by omega)]
theorem xor_u8 (c : UInt8) {s : Nat} (hs : s < 8) : IntKind.wrap .u8 (((BitVec.ofInt (IntKind.bits .u8) ((c.toNat : Nat) : Int) ^^^ BitVec.ofInt (IntKind.bits .u8) ((2 ^ s : Nat) : Int)).toNat : Nat) : Int) = ((UInt8.ofNat (c.toNat ^^^ 2 ^ s)).toNat : Int) := by
  have hp : 2 ^ s < 2 ^ 8 := Nat.pow_lt_pow_right (by omega) hs
  have h1 : BitVec.ofInt (IntKind.bits .u8) ((c.toNat : Nat) : Int) = BitVec.ofNat 8 c.toNat := BitVec.ofInt_natCast ..
  have h2 : BitVec.ofInt (IntKind.bits .u8) ((2 ^ s : Nat) : Int) = BitVec.ofNat 8 (2 ^ s) := BitVec.ofInt_natCast ..
  rw [h1, h2]
  have h3 : (BitVec.ofNat 8 c.toNat ^^^ BitVec.ofNat 8 (2 ^ s)).toNat = c.toNat ^^^ 2 ^ s := by
    rw [BitVec.toNat_xor, BitVec.toNat_ofNat, BitVec.toNat_ofNat, Nat.mod_eq_of_lt c.toNat_lt, Nat.mod_eq_of_lt hp]
  show IntKind.wrap .u8 (((BitVec.ofNat 8 c.toNat ^^^ BitVec.ofNat 8 (2 ^ s)).toNat : Nat) : Int) = _
  rw [h3]
  exact wrap_u8_nat _

theorem lpBursts (p : Nat) (k : Nat) (hk : k < 100000) (id : Nat) (cap : Option Nat) : ∀ (n i : Nat) (τ : Store) (l : List UInt8) (t : Bool), i + n = 32 → l.length = 520 → τ.objs id = some (.cells 0 (l.map cB)) → id < τ.next →
    ∃ τ', loopω cfg 4 lc4_9 (st4_9 ((p : Nat) : Int) (.lsl id 1 0 520 cap) t ((k : Nat) : Int) (i : Nat)) τ = some (.exit 0, out4_9 (.lsl id 1 0 520 cap) (t || turned p k 4160 n i), τ') ∧ τ'.objs id = some (.cells 0 ((flips p k 4160 n i l).map cB)) ∧ id < τ'.next
  | 0, i, τ, l, t, hi, hl, ho, hid => by
    refine ⟨τ, loopω_ofK ((lq4_9 _ _ _ _ _ _ _ _).trans ?_), ho, hid⟩
    have : decide (((i : Nat) : Int) < 32) = false := decide_eq_false (by omega)
    simp only [this, Bool.false_eq_true, if_false, turned, Bool.or_false]
  | n + 1, i, τ, l, t, hi, hl, ho, hid => by
    have ev := lq4_9 (callω cfg) (loopω cfg) τ ((p : Nat) : Int) (.lsl id 1 0 520 cap) t ((k : Nat) : Int) (i : Nat)
    have h1 : decide (((i : Nat) : Int) < 32) = true := decide_eq_true (by omega)
    have hki : IntKind.wrap .i64 (((k : Nat) : Int) + ((i : Nat) : Int)) = ((k + i : Nat) : Int) := by rw [wrap_i64 (by omega) (by omega)]; omega
    rw [turned, flips]
    by_cases hN : k + i < 4160
    · have h2 : decide (((k + i : Nat) : Int) < 4160) = true := decide_eq_true (by omega)
      have hiu : IntKind.wrap .u64 ((i : Nat) : Int) = ((i : Nat) : Int) := wrap_u64 (by omega) (by omega)
      obtain ⟨q, hq1, hq2⟩ := shr_bit p i (by omega) 41
      simp only [h1, if_true, hki, h2, hiu, hq1, bind_some', asInt_int, hq2] at ev
      rw [if_pos hN, if_pos hN]
      by_cases hp : p.testBit i = true
      · have hdv : IntKind.wrap .i64 (Int.tdiv ((k + i : Nat) : Int) 8) = (((k + i) / 8 : Nat) : Int) := by
          rw [show (8 : Int) = ((8 : Nat) : Int) from rfl, tdiv_nat, wrap_i64 (by omega) (by omega)]
        have hmd : IntKind.wrap .u64 (IntKind.wrap .i64 (7 - Int.tmod ((k + i : Nat) : Int) 8)) = ((7 - (k + i) % 8 : Nat) : Int) := by
          rw [show (8 : Int) = ((8 : Nat) : Int) from rfl, tmod_nat, wrap_i64 (by omega) (by omega), wrap_u64 (by omega) (by omega)]; omega
        have hic : (l.map cB)[(k + i) / 8]? = some (cB (l.getD ((k + i) / 8) 0)) := by
          rw [List.getElem?_map, List.getElem?_eq_getElem (show (k + i) / 8 < l.length by omega), List.getD_eq_getElem?_getD, List.getElem?_eq_getElem (show (k + i) / 8 < l.length by omega)]; rfl
        have hia := ia_lsl (sz := 1) (id := id) (idx := 0) (len := 520) (i := (k + i) / 8) (cap := cap) TB.u TB.el.hsz (by omega) .i64
        rw [Nat.zero_add] at hia
        have hld : loadv Try.prog τ 5 (.ref id ((k + i) / 8) 0) = some (.int .u8 (((l.getD ((k + i) / 8) 0).toNat : Nat) : Int)) := by
          rw [ldRef ho hic]; exact partB _
        have hst := stRef (P := Try.prog) (t := 5) (n := 1) (by kernel_rfl) ho (Nat.zero_le _) hic rfl (v := .int .u8 ((UInt8.ofNat ((l.getD ((k + i) / 8) 0).toNat ^^^ 2 ^ (7 - (k + i) % 8))).toNat : Int)) rfl rfl
        have hset : (l.map cB).set ((k + i) / 8) (PV.int .u8 ((UInt8.ofNat ((l.getD ((k + i) / 8) 0).toNat ^^^ 2 ^ (7 - (k + i) % 8))).toNat : Int)).cells = (Crc.flip l (k + i)).map cB := by
          unfold Crc.flip; rw [List.map_set]; rfl
        rw [hset] at hst
        simp only [hp, if_true, hdv, hia, bind_some', hld, asInt_int, hmd, shl_bit (7 - (k + i) % 8) (by omega), xor_u8 _ (show 7 - (k + i) % 8 < 8 by omega), hst, wrap_succ (show i < 4611686018427387904 by omega)] at ev
        obtain ⟨τ', r1, r2, r3⟩ := lpBursts p k hk id cap n (i + 1) _ (Crc.flip l (k + i)) true (by omega) (by rw [flip_len]; exact hl) (put_obj _ _ _) hid
        rw [if_pos hp, hp, Bool.true_or, Bool.or_true]
        rw [Bool.true_or] at r1
        exact ⟨τ', loopω_ofK (ev.trans r1), r2, r3⟩
      · have hp' : p.testBit i = false := by simpa using hp
        simp only [hp', Bool.false_eq_true, if_false, wrap_succ (show i < 4611686018427387904 by omega)] at ev
        obtain ⟨τ', r1, r2, r3⟩ := lpBursts p k hk id cap n (i + 1) τ l t (by omega) hl ho hid
        rw [if_neg hp, hp', Bool.false_or]
        exact ⟨τ', loopω_ofK (ev.trans r1), r2, r3⟩
    · have h2 : decide (((k + i : Nat) : Int) < 4160) = false := decide_eq_false (by omega)
      simp only [h1, if_true, hki, h2, Bool.false_eq_true, if_false] at ev
      rw [if_neg hN, if_neg hN, Bool.or_false]
      exact ⟨τ, loopω_ofK ev, ho, hid⟩
theorem spBursts (h : IsS RB v b) (hbl : b.length < 4611686018427387904) {a p : Int} (ha : 0 ≤ a ∧ a ≤ 65535) (hp : 0 ≤ p ∧ p ≤ 4294967295) : ∃ σ', callω cfg 4 [v, .int .u16 a, .int .u32 p] .empty = some (.bool true, σ') := by
  have ev := eq4 (callω cfg) (loopω cfg) .empty v a p
  obtain ⟨a, rfl⟩ := Int.eq_ofNat_of_zero_le ha.1
  obtain ⟨p, rfl⟩ := Int.eq_ofNat_of_zero_le hp.1
  by_cases c1 : ((b.length : Nat) : Int) > 600
  · simp only [h.len TB, bind_some', asInt_int, c1, decide_true, if_true, cEAwake (c2 := cfg) rfl rfl, asBool_bool] at ev
    exact ⟨_, callω_ofK hT ev⟩
  · obtain ⟨v1, d1, w1⟩ := cEPage (c2 := cfg) rfl rfl h hbl .empty
    let g : List Img := [(1, pg b)]
    have hmay : may g = true := by
      unfold may chk chk okI1
      simp [g, pg_len]
    have hg := AxS.fresh (R := RI) (l := g) (All2.one (show RI [.int .i64 1, v1] (1, pg b) from ⟨v1, rfl, w1⟩)) .empty 2 (n := 1) rfl
    obtain ⟨τ, id, e1, e2, e3, e4, e5⟩ := cEEncode hg.q hmay
    have hrl : (record g).length = 520 := record_len (g := g) (by simp [g, pg_len])
    have hk : IntKind.wrap .i64 (48 + Int.tmod (IntKind.wrap .i64 ((a : Nat) : Int)) 4112) = ((48 + a % 4112 : Nat) : Int) := by
      rw [wrap_i64 (x := ((a : Nat) : Int)) (by omega) (by omega), show (4112 : Int) = ((4112 : Nat) : Int) from rfl, tmod_nat, wrap_i64 (by omega) (by omega)]; omega
    rw [hrl] at e1
    obtain ⟨τ', r1, r2, r3⟩ := lpBursts p (48 + a % 4112) (by omega) id none 32 0 τ (record g) false (by omega) hrl e2 e4
    rw [natz, Bool.false_or] at r1
    have hfl := flips_len p (48 + a % 4112) 4160 32 0 (record g)
    obtain ⟨v3, τ3, f1, f2, f3⟩ := cEFirst (rowQ (cap := none) (n := 520) r2 (by omega) r3) (rowLf (n := 520) r2) (by omega)
    have key : ((first (flips p (48 + a % 4112) 4160 32 0 (record g))).2.2 == 0) = !turned p (48 + a % 4112) 4160 32 0 := by
      have h4160 : 8 * (record g).length = 4160 := by rw [hrl]
      cases ht : turned p (48 + a % 4112) 4160 32 0 with
      | true =>
        rw [← h4160] at ht ⊢
        have := first_flips hmay (p := p) (k := 48 + a % 4112) (by omega) (by omega) ht
        simpa using this
      | false =>
        rw [flips_none _ _ _ _ _ _ ht]
        have hfr : first (record g) = (g, (record g).length, 0) := by have := first_record hmay []; rwa [List.append_nil] at this
        rw [hfr]; rfl
    have z0 : ((0 : Int) != 0) = false := rfl
    have h520 : ((((520 : Nat) : Nat) : Int) != 520) = false := rfl
    have hx : ∀ t : Bool, (!((!t) == t)) = true := by decide
    have hlen := len_lsl (P := Try.prog) TB.u id 1 0 520 none
    simp only [h.len TB, bind_some', asInt_int, c1, decide_false, Bool.false_eq_true, if_false, d1, bvI _ w1.plain, bsI1, e1, tupv_0, tupv_1, tupv_2, z0, hlen, h520, hk, r1, onEx_exit, out4_9_7, out4_9_9, asBool_bool, if_true, f1, key, hx, cEAwake (c2 := cfg) rfl rfl] at ev
    exact ⟨_, callω_ofK hT ev⟩
end
end Go.Pvm.S
