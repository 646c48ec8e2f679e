/- Part of the proof: groups of images: the first of bytes, plainly and as the program finds it. -/
import Derived.Test.YtpilgmnhkgcgkaaRedoB
set_option linter.unusedSimpArgs false
set_option linter.unusedVariables false
set_option maxRecDepth 100000
namespace Go.Pvm.S
open Go.Pvm Go.Proofs Go.Pvm.Crc

/-! ### Plain -/
def chunks : Nat → List UInt8 → List Img
  | 0, _ => []
  | k + 1, x => (((x.getD 0 0).toNat : Int), (x.drop 1).take 512) :: chunks k (x.drop 513)
theorem chunks_len : ∀ (k : Nat) (x : List UInt8), (chunks k x).length = k
  | 0, _ => rfl
  | k + 1, x => by rw [chunks, List.length_cons, chunks_len k]
def num2 (b : List UInt8) : Nat := (b.getD 0 0).toNat * 256 + (b.getD 1 0).toNat
def first (b : List UInt8) : List Img × Nat × Int :=
  if b.length < 2 then ([], 0, 4) else
  if b.length - 2 < num2 b then ([], 0, 4) else
  if (openB ((b.drop 2).take (num2 b))).2 ≠ 0 then ([], 0, (openB ((b.drop 2).take (num2 b))).2) else
  if (openB ((b.drop 2).take (num2 b))).1.length % 513 ≠ 1 then ([], 0, 4) else
  if ((openB ((b.drop 2).take (num2 b))).1.getD 0 0).toNat ≠ (openB ((b.drop 2).take (num2 b))).1.length / 513 then ([], 0, 4) else
  if may (chunks ((openB ((b.drop 2).take (num2 b))).1.length / 513) ((openB ((b.drop 2).take (num2 b))).1.drop 1)) = true then (chunks ((openB ((b.drop 2).take (num2 b))).1.length / 513) ((openB ((b.drop 2).take (num2 b))).1.drop 1), 2 + num2 b, 0) else ([], 0, 4)
def firstR (b : List UInt8) : List Img × Nat × Int :=
  if b.length < 2 then ([], 0, 4) else
  if b.length < 2 + num2 b then ([], 0, 4) else
  if num2 b < 4 then ([], 0, 4) else
  if four (sum ((b.drop 6).take (num2 b - 4))) ≠ (b.drop 2).take 4 then ([], 0, 5) else
  if may (chunks ((num2 b - 5) / 513) (((b.drop 6).take (num2 b - 4)).drop 1)) = false then ([], 0, 4) else
  if record (chunks ((num2 b - 5) / 513) (((b.drop 6).take (num2 b - 4)).drop 1)) ≠ b.take (2 + num2 b) then ([], 0, 4) else
  (chunks ((num2 b - 5) / 513) (((b.drop 6).take (num2 b - 4)).drop 1), 2 + num2 b, 0)

theorem or256 {a b : Nat} (ha : a < 256) (hb : b < 256) : IntKind.wrap .i64 (((BitVec.ofInt (IntKind.bits .i64) (IntKind.wrap .i64 (IntKind.wrap .i64 ((a : Nat) : Int) * 256)) ||| BitVec.ofInt (IntKind.bits .i64) (IntKind.wrap .i64 ((b : Nat) : Int))).toNat : Nat) : Int) = ((a * 256 + b : Nat) : Int) := by
  rw [wrap_i64 (x := ((a : Nat) : Int)) (by omega) (by omega), wrap_i64 (x := ((b : Nat) : Int)) (by omega) (by omega), wrap_i64 (x := ((a : Nat) : Int) * 256) (by omega) (by omega)]
  have h1 : BitVec.ofInt (IntKind.bits .i64) (((a : Nat) : Int) * 256) = BitVec.ofNat 64 (a * 256) := by
    rw [show ((a : Nat) : Int) * 256 = ((a * 256 : Nat) : Int) by omega]; exact BitVec.ofInt_natCast ..
  have h2 : BitVec.ofInt (IntKind.bits .i64) ((b : Nat) : Int) = BitVec.ofNat 64 b := BitVec.ofInt_natCast ..
  rw [h1, h2]
  have h3 : (BitVec.ofNat 64 (a * 256) ||| BitVec.ofNat 64 b).toNat = a * 256 + b := by
    rw [BitVec.toNat_or, BitVec.toNat_ofNat, BitVec.toNat_ofNat, Nat.mod_eq_of_lt (by omega), Nat.mod_eq_of_lt (by omega)]
    have := Nat.shiftLeft_add_eq_or_of_lt (i := 8) hb a
    rw [Nat.shiftLeft_eq] at this
    exact this.symm
  show IntKind.wrap .i64 (((BitVec.ofNat 64 (a * 256) ||| BitVec.ofNat 64 b).toNat : Nat) : Int) = _
  rw [h3, wrap_i64 (by omega) (by omega)]

section
variable {v v' : PV} {g g' : List Img} {b x : List UInt8} {σ : Store}
theorem spCloneB (h : IsS RB v b) (hl : b.length ≤ 1000000000) : ∃ v', pureω cfg 24 [v] = some v' ∧ IsS RB v' b := by
  have ev := eq24 (callω cfg) (loopω cfg) .empty v
  have hb : binv Try.prog .eql 24 .nilsl .nilsl = some (.bool true) := by kernel_rfl
  have hb2 : ∀ b es, binv Try.prog .eql 24 (.psl b es) .nilsl = some (.bool false) := by intro b es; kernel_rfl
  have h' := h
  obtain ⟨es, h1, h2⟩ := h'
  rcases h1 with ⟨rfl, rfl⟩ | ⟨c, rfl⟩
  · simp only [hb, bind_some', asBool_bool, if_true] at ev
    exact ⟨_, pureω_of hT ev rfl, h⟩
  · simp only [hb2, bind_some', asBool_bool, Bool.false_eq_true, if_false, bsB0] at ev
    obtain ⟨u, τ, q1, q2, _, _⟩ := (AxS.fresh (R := RB) (l := []) .nil .empty 1 (n := 0) rfl).appQ TB okB (h.q _ 1) (by simp; omega)
    rw [q1] at ev
    exact ⟨_, pureω_of hT ev rfl, q2.frz okB 6⟩
theorem cECloneB {c2 : Cfg} (hm : c2.mode 24 = .pure) (hP : c2.P = Try.prog) (h : IsS RB v b) (hl : b.length ≤ 1000000000) (σ : Store) : ∃ v', callE c2 (callω cfg) 24 [v] σ = some (v', σ) ∧ IsS RB v' b := by
  obtain ⟨v', h1, h2⟩ := spCloneB h hl
  exact ⟨v', callE_pure hm (by rw [hP]; kernel_rfl) (by simp only [List.map_cons, List.map_nil]; rw [fzA h]) h1 (.inr (lfs1 h.lf)), h2⟩

/-- A byte read. -/
theorem idxB (h : IsS RB v b) {i : Nat} (hi : i < b.length) : ∃ e, indexAddrv Try.prog 24 v (.int .i64 (i : Nat)) = some (.pref [e]) ∧ ∀ σ, loadv Try.prog σ 5 (.pref [e]) = some (.int .u8 (((b.getD i 0).toNat : Nat) : Int)) := by
  have hw := List.getElem?_eq_getElem hi
  obtain ⟨e, h1, rfl⟩ := h.idx TB okB hw .i64
  have hg : b.getD i 0 = b[i] := by rw [List.getD_eq_getElem?_getD, hw]; rfl
  exact ⟨_, h1, fun σ => by rw [hg]; exact ldcB σ _⟩
/-- An image laid. -/
theorem bvI (p : Int) {u : PV} (hu : u.plain = true) : buildv Try.prog 28 [(0, .int .i64 p), (1, u)] = some (.agg [.int .i64 p, u]) := by
  cases u <;> first | (cases hu; done) | kernel_rfl
theorem bsI1 (σ : Store) (a u : PV) : buildSlv Try.prog σ 25 1 [(0, .agg [a, u])] = some (.lsl σ.next 2 0 1 (some 1), σ.push (.cells 0 [[a, u]])) := by kernel_rfl
theorem bsI0 (σ : Store) : buildSlv Try.prog σ 25 0 [] = some (.lsl σ.next 2 0 0 (some 0), σ.push (.cells 0 [])) := by kernel_rfl

theorem lpFirst (n : Int) : ∀ (k : Nat) (x : List UInt8) (v : PV) (σ : Store) (u : PV) (acc : List Img), IsS RB v x → x.length = 513 * k → acc.length + k ≤ 1000 → AxS RI σ 2 u acc →
    ∃ u' τ, loopω cfg 13 lc13_13 (st13_13 n v u) σ = some (.exit 0, out13_13 n u', τ) ∧ AxS RI τ 2 u' (acc ++ chunks k x)
  | 0, x, v, σ, u, acc, h, hl, hk, hu => by
    refine ⟨u, σ, loopω_ofK ((lq13_13 _ _ _ _ _ _).trans ?_), by rw [chunks, List.append_nil]; exact hu⟩
    have : decide (((x.length : Nat) : Int) > 0) = false := decide_eq_false (by omega)
    simp only [h.len TB, bind_some', asInt_int, this, Bool.false_eq_true, if_false]
  | k + 1, x, v, σ, u, acc, h, hl, hk, hu => by
    have hgt : decide (((x.length : Nat) : Int) > 0) = true := decide_eq_true (by omega)
    obtain ⟨e, i1, i2⟩ := idxB h (i := 0) (by omega)
    rw [natz] at i1
    obtain ⟨v1, c1, w1⟩ := h.cut TB okB (lo := some (.int .i64 1)) (hi := some (.int .i64 513)) (numOf_nat .i64 1 0) (numOf_nat .i64 513 _) (by omega) (by omega)
    obtain ⟨v2, c2, w2⟩ := h.cut TB okB (lo := some (.int .i64 513)) (hi := none) (numOf_nat .i64 513 0) rfl (by omega) (Nat.le_refl _)
    rw [List.take_of_length_le (by simp)] at w2
    obtain ⟨v3, c3, w3⟩ := cECloneB (c2 := cfgS) rfl rfl w1 (by simp; omega) σ
    have hb : (x.getD 0 0).toNat < 256 := (x.getD 0 0).toNat_lt
    have hwr : IntKind.wrap .i64 (((x.getD 0 0).toNat : Nat) : Int) = (((x.getD 0 0).toNat : Nat) : Int) := wrap_i64 (by omega) (by omega)
    have ev := lq13_13 (callω cfg) (loopω cfg) σ n v u
    simp only [h.len TB, bind_some', asInt_int, hgt, if_true, i1, i2, c1, c3, hwr, bvI _ w3.plain, bsI1, c2] at ev
    obtain ⟨u1, τ1, q1, q2, _, _⟩ := hu.app1 TI okI (All2.one (show RI [.int .i64 (((x.getD 0 0).toNat : Nat) : Int), v3] (((x.getD 0 0).toNat : Int), (x.drop 1).take 512) from ⟨v3, rfl, w3⟩)) (by simp; omega) (n := 1) rfl
    rw [q1] at ev
    simp only [bind_some'] at ev
    obtain ⟨u2, τ2, r1, r2⟩ := lpFirst n k (x.drop 513) v2 τ1 u1 _ w2 (by simp; omega) (by simp; omega) q2
    refine ⟨u2, τ2, loopω_ofK (ev.trans r1), ?_⟩
    rw [chunks]
    simpa using r2

theorem spFirst (h : IsS RB v b) (hl : b.length ≤ 400000) : ∃ v', pureω cfg 13 [v] = some (.tuple [v', .int .i64 (((first b).2.1 : Nat) : Int), .int .i64 (first b).2.2]) ∧ IsS RI v' (first b).1 := by
  have ev := eq13 (callω cfg) (loopω cfg) .empty v
  have no : ∀ (e : Int) (τ : Store), stepK cfg (callω cfg) (loopω cfg) 13 [v] .empty = some (.tuple [.nilsl, .int .i64 0, .int .i64 e], τ) → ∃ v', pureω cfg 13 [v] = some (.tuple [v', .int .i64 ((0 : Nat) : Int), .int .i64 e]) ∧ IsS RI v' [] :=
    fun e τ h => ⟨_, pureω_of hT h rfl, IsS.nil⟩
  unfold first
  by_cases h2 : b.length < 2
  · have h2' : decide (((b.length : Nat) : Int) < 2) = true := decide_eq_true (by omega)
    simp only [h.len TB, bind_some', asInt_int, h2', if_true] at ev
    rw [if_pos h2]
    exact no _ _ ev
  · have h2' : decide (((b.length : Nat) : Int) < 2) = false := decide_eq_false (by omega)
    rw [if_neg h2]
    obtain ⟨e0, i0, j0⟩ := idxB h (i := 0) (by omega)
    obtain ⟨e1, i1, j1⟩ := idxB h (i := 1) (by omega)
    rw [natz] at i0
    have i1' : indexAddrv Try.prog 24 v (.int .i64 1) = some (.pref [e1]) := i1
    have hs2 : IntKind.wrap .i64 (((b.length : Nat) : Int) - 2) = ((b.length - 2 : Nat) : Int) := by rw [wrap_i64 (by omega) (by omega)]; omega
    simp only [h.len TB, bind_some', asInt_int, h2', Bool.false_eq_true, if_false, i0, j0, i1', j1, hs2, q8, or256 (b.getD 0 0).toNat_lt (b.getD 1 0).toNat_lt] at ev
    have hnum : (b.getD 0 0).toNat * 256 + (b.getD 1 0).toNat = num2 b := rfl
    rw [hnum] at ev
    have hn : num2 b < 65536 := by have := (b.getD 0 0).toNat_lt; have := (b.getD 1 0).toNat_lt; unfold num2; omega
    by_cases h3 : b.length - 2 < num2 b
    · have h3' : decide (((b.length - 2 : Nat) : Int) < ((num2 b : Nat) : Int)) = true := decide_eq_true (by omega)
      simp only [h3', if_true] at ev
      rw [if_pos h3]
      exact no _ _ ev
    · have h3' : decide (((b.length - 2 : Nat) : Int) < ((num2 b : Nat) : Int)) = false := decide_eq_false (by omega)
      rw [if_neg h3]
      have hadd : IntKind.wrap .i64 (2 + ((num2 b : Nat) : Int)) = ((2 + num2 b : Nat) : Int) := by rw [wrap_i64 (by omega) (by omega)]; omega
      obtain ⟨v1, c1, w1⟩ := h.cut TB okB (lo := some (.int .i64 2)) (hi := some (.int .i64 ((2 + num2 b : Nat) : Int))) (numOf_nat .i64 2 0) (numOf_nat .i64 _ _) (by omega) (by omega)
      rw [show 2 + num2 b - 2 = num2 b by omega] at w1
      obtain ⟨v2, c2, w2⟩ := cEOpen (c2 := cfg) rfl rfl w1 (by simp; omega) .empty
      generalize hx : openB ((b.drop 2).take (num2 b)) = ox at c2 w2
      have hxl : ox.1.length ≤ 65536 := by
        rw [← hx]; unfold openB
        split
        · simp
        · split
          · simp; omega
          · simp
      simp only [h3', Bool.false_eq_true, if_false, hadd, c1, bind_some', c2, tupv_0, tupv_1, asInt_int] at ev
      by_cases h4 : ox.2 = 0
      · have h4' : (ox.2 != 0) = false := by simpa using h4
        rw [if_neg (by simpa using h4)]
        have hm : Int.tmod ((ox.1.length : Nat) : Int) 513 = ((ox.1.length % 513 : Nat) : Int) := tmod_nat _ 513
        have hdv : Int.tdiv ((ox.1.length : Nat) : Int) 513 = ((ox.1.length / 513 : Nat) : Int) := tdiv_nat _ 513
        simp only [h4', Bool.false_eq_true, if_false, w2.len TB, bind_some', asInt_int, hm, hdv] at ev
        by_cases h5 : ox.1.length % 513 = 1
        · have h5' : (((ox.1.length % 513 : Nat) : Int) != 1) = false := by rw [h5]; rfl
          rw [if_neg (by simpa using h5)]
          obtain ⟨e2, i2, j2⟩ := idxB w2 (i := 0) (by omega)
          rw [natz] at i2
          have hb2 := (ox.1.getD 0 0).toNat_lt
          have hw1 : IntKind.wrap .i64 (((ox.1.getD 0 0).toNat : Nat) : Int) = (((ox.1.getD 0 0).toNat : Nat) : Int) := wrap_i64 (by omega) (by omega)
          have hw2 : IntKind.wrap .i64 ((ox.1.length / 513 : Nat) : Int) = ((ox.1.length / 513 : Nat) : Int) := wrap_i64 (by omega) (by omega)
          simp only [h5', Bool.false_eq_true, if_false, i2, j2, bind_some', asInt_int, hw1, hw2] at ev
          by_cases h6 : (ox.1.getD 0 0).toNat = ox.1.length / 513
          · have h6' : ((((ox.1.getD 0 0).toNat : Nat) : Int) != ((ox.1.length / 513 : Nat) : Int)) = false := by rw [h6]; simp
            rw [if_neg (by simpa using h6)]
            obtain ⟨v3, c3, w3⟩ := w2.cut TB okB (lo := some (.int .i64 1)) (hi := none) (numOf_nat .i64 1 0) rfl (by omega) (Nat.le_refl _)
            rw [List.take_of_length_le (by simp)] at w3
            obtain ⟨u, τ, r1, r2⟩ := lpFirst ((num2 b : Nat) : Int) (ox.1.length / 513) (ox.1.drop 1) v3 .empty .nilsl [] w3 (by simp; omega) (by simp; omega) (AxS.nil _)
            rw [List.nil_append] at r2
            have hcl : (chunks (ox.1.length / 513) (ox.1.drop 1)).length ≤ 1000 := by rw [chunks_len]; omega
            simp only [h6', Bool.false_eq_true, if_false, c3, bind_some', r1, onEx_exit, if_true, out13_13_5, out13_13_8, asInt_int, cECheck (c2 := cfg) rfl rfl r2.q (by omega), hadd] at ev
            cases hmy : may (chunks (ox.1.length / 513) (ox.1.drop 1)) with
            | true =>
              have h0 : ((0 : Int) != 0) = false := rfl
              simp only [hmy, if_true, h0, Bool.false_eq_true, if_false] at ev
              rw [if_pos rfl]
              exact ⟨_, pureω_of hT ev rfl, r2.frz okI 5⟩
            | false =>
              have h0 : ((1 : Int) != 0) = true := rfl
              simp only [hmy, if_true, h0, Bool.false_eq_true, if_false] at ev
              rw [if_neg (by simp)]
              exact no _ _ ev
          · have h6' : ((((ox.1.getD 0 0).toNat : Nat) : Int) != ((ox.1.length / 513 : Nat) : Int)) = true := by simp only [bne_iff_ne, ne_eq]; omega
            simp only [h6', if_true] at ev
            rw [if_pos (by simpa using h6)]
            exact no _ _ ev
        · have h5' : (((ox.1.length % 513 : Nat) : Int) != 1) = true := by simp only [bne_iff_ne, ne_eq]; omega
          simp only [h5', if_true] at ev
          rw [if_pos (by simpa using h5)]
          exact no _ _ ev
      · have h4' : (ox.2 != 0) = true := by simpa using h4
        simp only [h4', if_true] at ev
        rw [if_pos (by simpa using h4)]
        exact no _ _ ev
theorem cEFirst (h : QS RB σ 1 v b) (hlf : ∀ id ∈ tops v, Lf σ id) (hl : b.length ≤ 400000) : ∃ v' τ, callE cfg (callω cfg) 13 [v] σ = some (.tuple [v', .int .i64 (((first b).2.1 : Nat) : Int), .int .i64 (first b).2.2], τ) ∧ IsS RI v' (first b).1 ∧ Rl σ τ := by
  obtain ⟨v', h1, h2⟩ := spFirst (h.frz okB 6) hl
  obtain ⟨τ, h3, h4⟩ := callQ (c2 := cfg) (f := 13) (args := [v]) (σ := σ) rfl rfl (by kernel_rfl) rfl h1 (by rw [topss1]; exact hlf)
  exact ⟨v', τ, h3, h2, h4⟩
theorem cEFirstP (h : IsS RB v b) (hl : b.length ≤ 400000) (σ : Store) : ∃ v', callE cfg (callω cfg) 13 [v] σ = some (.tuple [v', .int .i64 (((first b).2.1 : Nat) : Int), .int .i64 (first b).2.2], σ) ∧ IsS RI v' (first b).1 := by
  obtain ⟨v', h1, h2⟩ := spFirst h hl
  exact ⟨v', callE_pure rfl (by kernel_rfl) (by simp only [List.map_cons, List.map_nil]; rw [fzA h]) h1 (.inr (lfs1 h.lf)), h2⟩

/-! ### The reference's -/
theorem lpRFirst (h : IsS RB v x) (hx : x.length ≤ 70000) (w : PV) (n : Int) : ∀ (k i : Nat) (σ : Store) (u : PV) (acc : List Img), (0 < k → i + 513 * k ≤ x.length) → x.length < i + 513 * (k + 1) → i ≤ 100000 → acc.length + k ≤ 1000 → AxS RI σ 2 u acc →
    ∃ u' τ, loopω cfg 17 lc17_11 (st17_11 w n v u (i : Nat)) σ = some (.exit 0, out17_11 w n u', τ) ∧ AxS RI τ 2 u' (acc ++ chunks k (x.drop i))
  | 0, i, σ, u, acc, h1, h2, hi, hk, hu => by
    refine ⟨u, σ, loopω_ofK ((lq17_11 _ _ _ _ _ _ _ _).trans ?_), by rw [chunks, List.append_nil]; exact hu⟩
    have hw : IntKind.wrap .i64 (((i : Nat) : Int) + 513) = ((i + 513 : Nat) : Int) := by rw [wrap_i64 (by omega) (by omega)]; omega
    have : decide (((i + 513 : Nat) : Int) ≤ ((x.length : Nat) : Int)) = false := decide_eq_false (by omega)
    simp only [h.len TB, bind_some', asInt_int, hw, this, Bool.false_eq_true, if_false]
  | k + 1, i, σ, u, acc, h1, h2, hi, hk, hu => by
    have h1 := h1 (Nat.succ_pos _)
    have hw : IntKind.wrap .i64 (((i : Nat) : Int) + 513) = ((i + 513 : Nat) : Int) := by rw [wrap_i64 (by omega) (by omega)]; omega
    have hw1 : IntKind.wrap .i64 (((i : Nat) : Int) + 1) = ((i + 1 : Nat) : Int) := by rw [wrap_i64 (by omega) (by omega)]; omega
    have hgt : decide (((i + 513 : Nat) : Int) ≤ ((x.length : Nat) : Int)) = true := decide_eq_true (by omega)
    obtain ⟨e, i1, i2⟩ := idxB h (i := i) (by omega)
    obtain ⟨v1, c1, w1⟩ := h.cut TB okB (lo := some (.int .i64 ((i + 1 : Nat) : Int))) (hi := some (.int .i64 ((i + 513 : Nat) : Int))) (numOf_nat .i64 _ 0) (numOf_nat .i64 _ _) (by omega) (by omega)
    rw [show i + 513 - (i + 1) = 512 by omega] at w1
    have hb : (x.getD i 0).toNat < 256 := (x.getD i 0).toNat_lt
    have hwr : IntKind.wrap .i64 (((x.getD i 0).toNat : Nat) : Int) = (((x.getD i 0).toNat : Nat) : Int) := wrap_i64 (by omega) (by omega)
    have ev := lq17_11 (callω cfg) (loopω cfg) σ w n v u (i : Nat)
    simp only [h.len TB, bind_some', asInt_int, hw, hw1, hgt, if_true, i1, i2, c1, hwr, bvI _ w1.plain, bsI1] at ev
    obtain ⟨u1, τ1, q1, q2, _, _⟩ := hu.app1 TI okI (All2.one (show RI [.int .i64 (((x.getD i 0).toNat : Nat) : Int), v1] (((x.getD i 0).toNat : Int), (x.drop (i + 1)).take 512) from ⟨v1, rfl, w1⟩)) (by simp; omega) (n := 1) rfl
    rw [q1] at ev
    simp only [bind_some'] at ev
    obtain ⟨u2, τ2, r1, r2⟩ := lpRFirst h hx w n k (i + 513) τ1 u1 _ (by omega) (by omega) (by omega) (by simp; omega) q2
    refine ⟨u2, τ2, loopω_ofK (ev.trans r1), ?_⟩
    have e1 : (x.drop i).getD 0 0 = x.getD i 0 := by rw [List.getD_eq_getElem?_getD, List.getD_eq_getElem?_getD, List.getElem?_drop, Nat.add_zero]
    rw [chunks, e1, List.drop_drop, List.drop_drop]
    simpa using r2
theorem spRFirst (h : IsS RB v b) (hl : b.length ≤ 400000) : ∃ v', pureω cfg 17 [v] = some (.tuple [v', .int .i64 (((firstR b).2.1 : Nat) : Int), .int .i64 (firstR b).2.2]) ∧ IsS RI v' (firstR b).1 := by
  have ev := eq17 (callω cfg) (loopω cfg) .empty v
  have no : ∀ (e : Int) (τ : Store), stepK cfg (callω cfg) (loopω cfg) 17 [v] .empty = some (.tuple [.nilsl, .int .i64 0, .int .i64 e], τ) → ∃ v', pureω cfg 17 [v] = some (.tuple [v', .int .i64 ((0 : Nat) : Int), .int .i64 e]) ∧ IsS RI v' [] :=
    fun e τ h => ⟨_, pureω_of hT h rfl, IsS.nil⟩
  unfold firstR
  by_cases h2 : b.length < 2
  · have h2' : decide (((b.length : Nat) : Int) < 2) = true := decide_eq_true (by omega)
    simp only [h.len TB, bind_some', asInt_int, h2', if_true] at ev
    rw [if_pos h2]
    exact no _ _ ev
  · have h2' : decide (((b.length : Nat) : Int) < 2) = false := decide_eq_false (by omega)
    rw [if_neg h2]
    obtain ⟨e0, i0, j0⟩ := idxB h (i := 0) (by omega)
    obtain ⟨e1, i1, j1⟩ := idxB h (i := 1) (by omega)
    rw [natz] at i0
    have i1' : indexAddrv Try.prog 24 v (.int .i64 1) = some (.pref [e1]) := i1
    have hb0 := (b.getD 0 0).toNat_lt
    have hb1 := (b.getD 1 0).toNat_lt
    have hnumw : IntKind.wrap .i64 (IntKind.wrap .i64 (IntKind.wrap .i64 (((b.getD 0 0).toNat : Nat) : Int) * 256) + IntKind.wrap .i64 (((b.getD 1 0).toNat : Nat) : Int)) = ((num2 b : Nat) : Int) := by
      rw [wrap_i64 (x := (((b.getD 0 0).toNat : Nat) : Int)) (by omega) (by omega), wrap_i64 (x := (((b.getD 1 0).toNat : Nat) : Int)) (by omega) (by omega), wrap_i64 (x := (((b.getD 0 0).toNat : Nat) : Int) * 256) (by omega) (by omega), wrap_i64 (by omega) (by omega)]
      unfold num2; omega
    have hn : num2 b < 65536 := by unfold num2; omega
    have hadd : IntKind.wrap .i64 (2 + ((num2 b : Nat) : Int)) = ((2 + num2 b : Nat) : Int) := by rw [wrap_i64 (by omega) (by omega)]; omega
    simp only [h.len TB, bind_some', asInt_int, h2', Bool.false_eq_true, if_false, i0, j0, i1', j1, hnumw, hadd] at ev
    by_cases h3 : b.length < 2 + num2 b
    · have h3' : decide (((b.length : Nat) : Int) < ((2 + num2 b : Nat) : Int)) = true := decide_eq_true (by omega)
      simp only [h3', if_true] at ev
      rw [if_pos h3]
      exact no _ _ ev
    · have h3' : decide (((b.length : Nat) : Int) < ((2 + num2 b : Nat) : Int)) = false := decide_eq_false (by omega)
      rw [if_neg h3]
      by_cases h4 : num2 b < 4
      · have h4' : decide (((num2 b : Nat) : Int) < 4) = true := decide_eq_true (by omega)
        simp only [h3', h4', Bool.false_eq_true, if_false, if_true] at ev
        rw [if_pos h4]
        exact no _ _ ev
      · have h4' : decide (((num2 b : Nat) : Int) < 4) = false := decide_eq_false (by omega)
        rw [if_neg h4]
        obtain ⟨v1, c1, w1⟩ := h.cut TB okB (lo := some (.int .i64 6)) (hi := some (.int .i64 ((2 + num2 b : Nat) : Int))) (numOf_nat .i64 6 0) (numOf_nat .i64 _ _) (by omega) (by omega)
        rw [show 2 + num2 b - 6 = num2 b - 4 by omega] at w1
        obtain ⟨v2, c2, w2⟩ := h.cut TB okB (lo := some (.int .i64 2)) (hi := some (.int .i64 6)) (numOf_nat .i64 2 0) (numOf_nat .i64 6 _) (by omega) (by omega)
        obtain ⟨v3, c3, w3, _⟩ := cERFour (c2 := cfgS) rfl rfl (sum ((b.drop 6).take (num2 b - 4))) .empty
        have hxl : ((b.drop 6).take (num2 b - 4)).length = num2 b - 4 := by simp; omega
        generalize hx : (b.drop 6).take (num2 b - 4) = x at w1 c3 w3 hxl
        simp only [h3', h4', Bool.false_eq_true, if_false, c1, c2, c3, bind_some', cERSum (c2 := cfgS) rfl rfl w1 (by omega), asInt_int, asStr_str, asBool_bool, w3.str uStr TB uB, w2.str uStr TB uB, strNe] at ev
        by_cases h5 : four (sum x) = (b.drop 2).take 4
        · have h5' : (four (sum x) == (b.drop 2).take (6 - 2)) = true := by simpa using h5
          rw [if_neg (by simpa using h5)]
          obtain ⟨u, τ, r1, r2⟩ := lpRFirst w1 (by omega) v ((num2 b : Nat) : Int) ((num2 b - 5) / 513) 1 (Store.empty.push (.cells 0 [])) (.lsl Store.empty.next 2 0 0 (some 0)) [] (by omega) (by omega) (by omega) (by simp; omega) (AxS.fresh .nil .empty 2 rfl)
          rw [List.nil_append] at r2
          have hcl : (chunks ((num2 b - 5) / 513) (x.drop 1)).length ≤ 1000 := by rw [chunks_len]; omega
          have r1' : loopω cfg 17 lc17_11 (st17_11 v ((num2 b : Nat) : Int) v1 (.lsl Store.empty.next 2 0 0 (some 0)) 1) (Store.empty.push (.cells 0 [])) = some (.exit 0, out17_11 v ((num2 b : Nat) : Int) u, τ) := r1
          obtain ⟨τ1, ro1, ro2⟩ := roAll_ok (tops u) τ (r2.lf okI)
          have hz := r2.frz okI 6
          have hz' : IsS RI (fz fuelFz τ u) (chunks ((num2 b - 5) / 513) (x.drop 1)) := hz
          simp only [h5', Bool.not_true, Bool.false_eq_true, if_false, bsI0, bind_some', r1', onEx_exit, if_true, out17_11_0, out17_11_5, out17_11_7, asInt_int, ro1, cEMay (c2 := cfgS) rfl rfl (hz'.q τ1 2) (by omega), asBool_bool] at ev
          cases hmy : may (chunks ((num2 b - 5) / 513) (x.drop 1)) with
          | false =>
            simp only [hmy, Bool.not_false, if_true] at ev
            rw [if_pos rfl]
            exact no _ _ ev
          | true =>
            obtain ⟨v4, c4, w4⟩ := spRecord hz' hmy
            have c4' := callE_pure (c2 := cfgS) (cfg := cfg) (f := 14) (args := [fz fuelFz τ u]) (σ := τ1) rfl (by kernel_rfl) (by simp only [List.map_cons, List.map_nil]; rw [fzA hz']) c4 (.inr (lfs1 hz'.lf))
            obtain ⟨v5, c5, w5⟩ := h.cut TB okB (lo := none) (hi := some (.int .i64 ((2 + num2 b : Nat) : Int))) rfl (numOf_nat .i64 _ _) (Nat.zero_le _) (by omega)
            rw [List.drop_zero, Nat.sub_zero] at w5
            simp only [hmy, Bool.not_true, Bool.false_eq_true, if_false, c4', bind_some', hadd, c5, w4.str uStr TB uB, w5.str uStr TB uB, asStr_str, strNe, asBool_bool] at ev
            rw [if_neg (by simp)]
            by_cases h6 : record (chunks ((num2 b - 5) / 513) (x.drop 1)) = b.take (2 + num2 b)
            · have h6' : (record (chunks ((num2 b - 5) / 513) (x.drop 1)) == b.take (2 + num2 b)) = true := by simpa using h6
              simp only [h6', Bool.not_true, Bool.false_eq_true, if_false] at ev
              rw [if_neg (by simpa using h6)]
              exact ⟨_, pureω_of hT ev rfl, by rw [show fz 7 τ1 (fz fuelFz τ u) = fz fuelFz τ u from hz'.frz 6 _]; exact hz'⟩
            · have h6' : (record (chunks ((num2 b - 5) / 513) (x.drop 1)) == b.take (2 + num2 b)) = false := by simpa using h6
              simp only [h6', Bool.not_false, if_true] at ev
              rw [if_pos (by simpa using h6)]
              exact no _ _ ev
        · have h5' : (four (sum x) == (b.drop 2).take (6 - 2)) = false := by simpa using h5
          simp only [h5', Bool.not_false, if_true] at ev
          rw [if_pos (by simpa using h5)]
          exact no _ _ ev

/-! ### They agree -/
theorem chunks_all : ∀ (k : Nat) (x : List UInt8), x.length = 513 * k → recF (chunks k x) = x
  | 0, x, h => by
    rw [Nat.mul_zero, List.length_eq_zero_iff] at h
    subst h; rfl
  | k + 1, x, h => by
    rw [chunks, recF_cons, chunks_all k (x.drop 513) (by simp; omega)]
    match x, h with
    | [], h => simp at h
    | c :: x, h =>
      simp only [List.getD_cons_zero, List.drop_succ_cons, List.drop_zero, Int.toNat_natCast, UInt8.ofNat_toNat]
      rw [List.cons_append, List.take_append_drop]
theorem take2 : ∀ (b : List UInt8), 2 ≤ b.length → ∀ n, b.take (2 + n) = b.getD 0 0 :: b.getD 1 0 :: (b.drop 2).take n
  | [], h, _ => absurd h (by decide)
  | [_], h, _ => absurd h (by simp)
  | p :: q :: b, _, n => by
    rw [show 2 + n = n + 1 + 1 by omega, List.take_succ_cons, List.take_succ_cons]
    simp
theorem first_core {b x : List UInt8} (h2 : ¬ b.length < 2) (h3 : ¬ b.length - 2 < num2 b) (h4 : ¬ num2 b < 4) (hx : (b.drop 6).take (num2 b - 4) = x) (h5 : four (sum x) = (b.drop 2).take 4) :
    (x.length % 513 = 1 ∧ (x.getD 0 0).toNat = x.length / 513 ∧ may (chunks (x.length / 513) (x.drop 1)) = true) ↔ (may (chunks ((num2 b - 5) / 513) (x.drop 1)) = true ∧ record (chunks ((num2 b - 5) / 513) (x.drop 1)) = b.take (2 + num2 b)) := by
  have hxl : x.length = num2 b - 4 := by rw [← hx]; simp; omega
  have hd : ((b.drop 2).take (num2 b)).drop 4 = x := by rw [List.drop_take, List.drop_drop]; exact hx
  have ht : ((b.drop 2).take (num2 b)).take 4 = (b.drop 2).take 4 := by rw [List.take_take, Nat.min_eq_left (by omega)]
  have hb : b.take (2 + num2 b) = b.getD 0 0 :: b.getD 1 0 :: (b.drop 2).take (num2 b) := take2 b (by omega) _
  have hsplit : (b.drop 2).take (num2 b) = (b.drop 2).take 4 ++ x := by
    rw [← hd, ← ht, List.take_append_drop]
  have hn2 : num2 b = (b.getD 0 0).toNat * 256 + (b.getD 1 0).toNat := rfl
  have hb0 := (b.getD 0 0).toNat_lt
  have hb1 := (b.getD 1 0).toNat_lt
  have h24 : ((b.drop 2).take 4).length = 4 := by simp; omega
  constructor
  · rintro ⟨h6, h7, hmy⟩
    have e2 : (num2 b - 5) / 513 = x.length / 513 := by omega
    have hk : (x.drop 1).length = 513 * (x.length / 513) := by rw [List.length_drop]; omega
    rw [e2]
    refine ⟨hmy, ?_⟩
    have hxc : x = x.getD 0 0 :: x.drop 1 := by
      cases x with
      | nil => simp at h6
      | cons c x => rfl
    have hrx : recB (chunks (x.length / 513) (x.drop 1)) = x := by
      unfold recB
      rw [chunks_len, chunks_all _ _ hk, ← h7, UInt8.ofNat_toNat, ← hxc]
    unfold record head2
    rw [hrx, hb, hsplit, sealB_len]
    unfold sealB
    rw [h5]
    have e3 : UInt8.ofNat ((4 + x.length) / 256) = b.getD 0 0 := by
      rw [show (4 + x.length) / 256 = (b.getD 0 0).toNat by omega, UInt8.ofNat_toNat]
    have e4 : UInt8.ofNat (4 + x.length) = b.getD 1 0 := by
      apply UInt8.toNat_inj.1
      rw [UInt8.toNat_ofNat']
      omega
    rw [e3, e4]
  · rintro ⟨hmy, e⟩
    have hl2 := congrArg List.length e
    rw [record_len fun m hm => (may_all hmy m hm).2.2, chunks_len, List.length_take] at hl2
    have h6 : x.length % 513 = 1 := by omega
    have e2 : (num2 b - 5) / 513 = x.length / 513 := by omega
    rw [e2] at hmy e
    refine ⟨h6, ?_, hmy⟩
    have hlen6 := (may_len hmy).2
    rw [chunks_len] at hlen6
    have hk : (x.drop 1).length = 513 * (x.length / 513) := by rw [List.length_drop]; omega
    have hr := congrArg (fun l : List UInt8 => (l.drop 6).getD 0 0) e
    have hl6 : ∀ (p q : UInt8) (s : W32) (l : List UInt8), (p :: q :: (four s ++ l)).drop 6 = l := fun p q s l => rfl
    have hr6 : ∀ (p q : UInt8) (s l : List UInt8), s.length = 4 → (p :: q :: (s ++ l)).drop 6 = l := fun p q s l h => by
      rw [List.drop_succ_cons, List.drop_succ_cons, List.drop_append_of_le_length (by omega), List.drop_of_length_le (by omega), List.nil_append]
    unfold record head2 sealB at hr
    rw [hb, hsplit, hr6 _ _ _ _ h24, hl6] at hr
    unfold recB at hr
    rw [chunks_len, List.getD_cons_zero] at hr
    rw [← hr, UInt8.toNat_ofNat']
    omega
theorem first_eq (b : List UInt8) : firstR b = first b := by
  unfold firstR first
  by_cases h2 : b.length < 2
  · rw [if_pos h2, if_pos h2]
  rw [if_neg h2, if_neg h2]
  by_cases h3 : b.length - 2 < num2 b
  · rw [if_pos (show b.length < 2 + num2 b by omega), if_pos h3]
  rw [if_neg (show ¬ b.length < 2 + num2 b by omega), if_neg h3]
  have hl : ((b.drop 2).take (num2 b)).length = num2 b := by simp; omega
  have hd : ((b.drop 2).take (num2 b)).drop 4 = (b.drop 6).take (num2 b - 4) := by rw [List.drop_take, List.drop_drop]
  by_cases h4 : num2 b < 4
  · rw [if_pos h4]
    have : openB ((b.drop 2).take (num2 b)) = ([], 4) := by unfold openB; rw [if_pos (by omega)]
    rw [this]
    rfl
  rw [if_neg h4]
  have ht : ((b.drop 2).take (num2 b)).take 4 = (b.drop 2).take 4 := by rw [List.take_take, Nat.min_eq_left (by omega)]
  have ho : openB ((b.drop 2).take (num2 b)) = if four (sum ((b.drop 6).take (num2 b - 4))) = (b.drop 2).take 4 then ((b.drop 6).take (num2 b - 4), 0) else ([], 5) := by
    unfold openB; rw [if_neg (by omega), hd, ht]
  generalize hx : (b.drop 6).take (num2 b - 4) = x at ho
  have hxl : x.length = num2 b - 4 := by rw [← hx]; simp; omega
  by_cases h5 : four (sum x) = (b.drop 2).take 4
  · rw [if_pos h5] at ho
    rw [ho, if_neg (show ¬ (four (sum x) ≠ (b.drop 2).take 4) from fun h => h h5), if_neg (show ¬ ((x, (0 : Int)).2 ≠ 0) from fun h => h rfl)]
    have hc := first_core h2 h3 h4 hx h5
    show (if may (chunks ((num2 b - 5) / 513) (x.drop 1)) = false then (([] : List Img), 0, (4 : Int)) else if record (chunks ((num2 b - 5) / 513) (x.drop 1)) ≠ b.take (2 + num2 b) then ([], 0, 4) else (chunks ((num2 b - 5) / 513) (x.drop 1), 2 + num2 b, 0))
      = (if x.length % 513 ≠ 1 then (([] : List Img), 0, (4 : Int)) else if (x.getD 0 0).toNat ≠ x.length / 513 then ([], 0, 4) else if may (chunks (x.length / 513) (x.drop 1)) = true then (chunks (x.length / 513) (x.drop 1), 2 + num2 b, 0) else ([], 0, 4))
    by_cases hA : x.length % 513 = 1 ∧ (x.getD 0 0).toNat = x.length / 513 ∧ may (chunks (x.length / 513) (x.drop 1)) = true
    · have hB := hc.1 hA
      obtain ⟨a1, a2, a3⟩ := hA
      obtain ⟨b1, b2⟩ := hB
      have e2 : (num2 b - 5) / 513 = x.length / 513 := by omega
      rw [if_neg (show ¬ (may (chunks ((num2 b - 5) / 513) (x.drop 1)) = false) by rw [b1]; decide), if_neg (fun h => h b2), if_neg (fun h => h a1), if_neg (fun h => h a2), if_pos a3, e2]
    · have hB : ¬ (may (chunks ((num2 b - 5) / 513) (x.drop 1)) = true ∧ record (chunks ((num2 b - 5) / 513) (x.drop 1)) = b.take (2 + num2 b)) := fun h => hA (hc.2 h)
      have hL : (if may (chunks ((num2 b - 5) / 513) (x.drop 1)) = false then (([] : List Img), 0, (4 : Int)) else if record (chunks ((num2 b - 5) / 513) (x.drop 1)) ≠ b.take (2 + num2 b) then ([], 0, 4) else (chunks ((num2 b - 5) / 513) (x.drop 1), 2 + num2 b, 0)) = ([], 0, 4) := by
        by_cases q1 : may (chunks ((num2 b - 5) / 513) (x.drop 1)) = false
        · rw [if_pos q1]
        · rw [if_neg q1, if_pos fun q2 => hB ⟨by simpa using q1, q2⟩]
      have hR : (if x.length % 513 ≠ 1 then (([] : List Img), 0, (4 : Int)) else if (x.getD 0 0).toNat ≠ x.length / 513 then ([], 0, 4) else if may (chunks (x.length / 513) (x.drop 1)) = true then (chunks (x.length / 513) (x.drop 1), 2 + num2 b, 0) else ([], 0, 4)) = ([], 0, 4) := by
        by_cases q1 : x.length % 513 = 1
        · rw [if_neg (fun h => h q1)]
          by_cases q2 : (x.getD 0 0).toNat = x.length / 513
          · rw [if_neg (fun h => h q2), if_neg fun q3 => hA ⟨q1, q2, q3⟩]
          · rw [if_pos q2]
        · rw [if_pos q1]
      rw [hL, hR]
  · rw [if_neg h5] at ho
    rw [ho, if_pos h5]
    rfl
theorem cERFirstP (h : IsS RB v b) (hl : b.length ≤ 400000) (σ : Store) : ∃ v', callE cfg (callω cfg) 17 [v] σ = some (.tuple [v', .int .i64 (((first b).2.1 : Nat) : Int), .int .i64 (first b).2.2], σ) ∧ IsS RI v' (first b).1 := by
  obtain ⟨v', h1, h2⟩ := spRFirst h hl
  rw [first_eq] at h1 h2
  exact ⟨v', callE_pure rfl (by kernel_rfl) (by simp only [List.map_cons, List.map_nil]; rw [fzA h]) h1 (.inr (lfs1 h.lf)), h2⟩
end
end Go.Pvm.S
