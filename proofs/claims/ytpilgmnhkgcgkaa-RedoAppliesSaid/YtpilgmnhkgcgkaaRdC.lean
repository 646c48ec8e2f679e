/- Part of the proof: groups of images: the first of bytes, plainly and as the program finds it. -/
import Derived.Test.YtpilgmnhkgcgkaaRedoB
set_option linter.unusedSimpArgs false
set_option linter.unusedVariables false
set_option maxRecDepth 100000
namespace Go.Pvm.S
open Go.Pvm Go.Proofs Go.Pvm.Crc

/-! ### Plain -/
def chunks : Nat → List UInt8 → List Img
  | 0, _ => []
  | k + 1, x => (((x.getD 0 0).toNat : Int), (x.drop 1).take 512) :: chunks k (x.drop 513)
theorem chunks_len : ∀ (k : Nat) (x : List UInt8), (chunks k x).length = k
  | 0, _ => rfl
  | k + 1, x => by rw [chunks, List.length_cons, chunks_len k]
def num2 (b : List UInt8) : Nat := (b.getD 0 0).toNat * 256 + (b.getD 1 0).toNat
def first (b : List UInt8) : List Img × Nat × Int :=
  if b.length < 2 then ([], 0, 4) else
  if b.length - 2 < num2 b then ([], 0, 4) else
  if (openB ((b.drop 2).take (num2 b))).2 ≠ 0 then ([], 0, (openB ((b.drop 2).take (num2 b))).2) else
  if (openB ((b.drop 2).take (num2 b))).1.length % 513 ≠ 1 then ([], 0, 4) else
  if ((openB ((b.drop 2).take (num2 b))).1.getD 0 0).toNat ≠ (openB ((b.drop 2).take (num2 b))).1.length / 513 then ([], 0, 4) else
  if may (chunks ((openB ((b.drop 2).take (num2 b))).1.length / 513) ((openB ((b.drop 2).take (num2 b))).1.drop 1)) = true then (chunks ((openB ((b.drop 2).take (num2 b))).1.length / 513) ((openB ((b.drop 2).take (num2 b))).1.drop 1), 2 + num2 b, 0) else ([], 0, 4)
def firstR (b : List UInt8) : List Img × Nat × Int :=
  if b.length < 2 then ([], 0, 4) else
  if b.length < 2 + num2 b then ([], 0, 4) else
  if num2 b < 4 then ([], 0, 4) else
  if four (sum ((b.drop 6).take (num2 b - 4))) ≠ (b.drop 2).take 4 then ([], 0, 5) else
  if may (chunks ((num2 b - 5) / 513) (((b.drop 6).take (num2 b - 4)).drop 1)) = false then ([], 0, 4) else
  if record (chunks ((num2 b - 5) / 513) (((b.drop 6).take (num2 b - 4)).drop 1)) ≠ b.take (2 + num2 b) then ([], 0, 4) else
  (chunks ((num2 b - 5) / 513) (((b.drop 6).take (num2 b - 4)).drop 1), 2 + num2 b, 0)

theorem or256 {a b : Nat} (ha : a < 256) (hb : b < 256) : IntKind.wrap .i64 (((BitVec.ofInt (IntKind.bits .i64) (IntKind.wrap .i64 (IntKind.wrap .i64 ((a : Nat) : Int) * 256)) ||| BitVec.ofInt (IntKind.bits .i64) (IntKind.wrap .i64 ((b : Nat) : Int))).toNat : Nat) : Int) = ((a * 256 + b : Nat) : Int) := by
  rw [wrap_i64 (x := ((a : Nat) : Int)) (by omega) (by omega), wrap_i64 (x := ((b : Nat) : Int)) (by omega) (by omega), wrap_i64 (x := ((a : Nat) : Int) * 256) (by omega) (by omega)]
  have h1 : BitVec.ofInt (IntKind.bits .i64) (((a : Nat) : Int) * 256) = BitVec.ofNat 64 (a * 256) := by
    rw [show ((a : Nat) : Int) * 256 = ((a * 256 : Nat) : Int) by omega]; exact BitVec.ofInt_natCast ..
  have h2 : BitVec.ofInt (IntKind.bits .i64) ((b : Nat) : Int) = BitVec.ofNat 64 b := BitVec.ofInt_natCast ..
  rw [h1, h2]
  have h3 : (BitVec.ofNat 64 (a * 256) ||| BitVec.ofNat 64 b).toNat = a * 256 + b := by
    rw [BitVec.toNat_or, BitVec.toNat_ofNat, BitVec.toNat_ofNat, Nat.mod_eq_of_lt (by omega), Nat.mod_eq_of_lt (by omega)]
    have := Nat.shiftLeft_add_eq_or_of_lt (i := 8) hb a
    rw [Nat.shiftLeft_eq] at this
    exact this.symm
  show IntKind.wrap .i64 (((BitVec.ofNat 64 (a * 256) ||| BitVec.ofNat 64 b).toNat : Nat) : Int) = _
  rw [h3, wrap_i64 (by omega) (by omega)]

section
variable {v v' : PV} {g g' : List Img} {b x : List UInt8} {σ : Store}
theorem spCloneB (h : IsS RB v b) (hl : b.length ≤ 1000000000) : ∃ v', pureω cfg 24 [v] = some v' ∧ IsS RB v' b := by
  have ev := eq24 (callω cfg) (loopω cfg) .empty v
  have hb : binv Try.prog .eql 24 .nilsl .nilsl = some (.bool true) := by kernel_rfl
  have hb2 : ∀ b es, binv Try.prog .eql 24 (.psl b es) .nilsl = some (.bool false) := by intro b es; kernel_rfl
  have h' := h
  obtain ⟨es, h1, h2⟩ := h'
  rcases h1 with ⟨rfl, rfl⟩ | ⟨c, rfl⟩
  · simp only [hb, bind_some', asBool_bool, if_true] at ev
    exact ⟨_, pureω_of (hT _) ev rfl, h⟩
  · simp only [hb2, bind_some', asBool_bool, Bool.false_eq_true, if_false, bsB0] at ev
    obtain ⟨u, τ, q1, q2, _, _⟩ := (AxS.fresh (R := RB) (l := []) .nil .empty 1 (n := 0) rfl).appQ TB okB (h.q _ 1) (by simp; omega)
    rw [q1] at ev
    exact ⟨_, pureω_of (hT _) ev rfl, q2.frz okB 6⟩
theorem cECloneB {c2 : Cfg} (hm : c2.mode 24 = .pure) (hP : c2.P = Try.prog) (h : IsS RB v b) (hl : b.length ≤ 1000000000) (σ : Store) : ∃ v', callE c2 (callω cfg) 24 [v] σ = some (v', σ) ∧ IsS RB v' b := by
  obtain ⟨v', h1, h2⟩ := spCloneB h hl
  exact ⟨v', callE_pure hm (by rw [hP]; kernel_rfl) (by simp only [List.map_cons, List.map_nil]; rw [fzA h]) h1 (.inr (lfs1 h.lf)), h2⟩

/-- A byte read. -/
theorem idxB (h : IsS RB v b) {i : Nat} (hi : i < b.length) : ∃ e, indexAddrv Try.prog 24 v (.int .i64 (i : Nat)) = some (.pref [e]) ∧ ∀ σ, loadv Try.prog σ 5 (.pref [e]) = some (.int .u8 (((b.getD i 0).toNat : Nat) : Int)) := by
  have hw := List.getElem?_eq_getElem hi
  obtain ⟨e, h1, rfl⟩ := h.idx TB okB hw .i64
  have hg : b.getD i 0 = b[i] := by rw [List.getD_eq_getElem?_getD, hw]; rfl
  exact ⟨_, h1, fun σ => by rw [hg]; exact ldcB σ _⟩
/-- An image laid. -/
theorem bvI (p : Int) {u : PV} (hu : u.plain = true) : buildv Try.prog 28 [(0, .int .i64 p), (1, u)] = some (.agg [.int .i64 p, u]) := by
  cases u <;> first | (cases hu; done) | kernel_rfl
theorem bsI1 (σ : Store) (a u : PV) : buildSlv Try.prog σ 25 1 [(0, .agg [a, u])] = some (.lsl σ.next 2 0 1 (some 1), σ.push (.cells 0 [[a, u]])) := by kernel_rfl
theorem bsI0 (σ : Store) : buildSlv Try.prog σ 25 0 [] = some (.lsl σ.next 2 0 0 (some 0), σ.push (.cells 0 [])) := by kernel_rfl

theorem lpFirst (n : Int) : ∀ (k : Nat) (x : List UInt8) (v : PV) (σ : Store) (u : PV) (acc : List Img), IsS RB v x → x.length = 513 * k → acc.length + k ≤ 1000 → AxS RI σ 2 u acc →
    ∃ u' τ, loopω cfg 13 lc13_13 (st13_13 n v u) σ = some (.exit 0, out13_13 n u', τ) ∧ AxS RI τ 2 u' (acc ++ chunks k x)
  | 0, x, v, σ, u, acc, h, hl, hk, hu => by
    refine ⟨u, σ, loopω_ofK ((lq13_13 _ _ _ _ _ _).trans ?_), by rw [chunks, List.append_nil]; exact hu⟩
    have : decide (((x.length : Nat) : Int) > 0) = false := decide_eq_false (by omega)
    simp only [h.len TB, bind_some', asInt_int, this, Bool.false_eq_true, if_false]
  | k + 1, x, v, σ, u, acc, h, hl, hk, hu => by
    have hgt : decide (((x.length : Nat) : Int) > 0) = true := decide_eq_true (by omega)
    obtain ⟨e, i1, i2⟩ := idxB h (i := 0) (by omega)
    rw [natz] at i1
    obtain ⟨v1, c1, w1⟩ := h.cut TB okB (lo := some (.int .i64 1)) (hi := some (.int .i64 513)) (numOf_nat .i64 1 0) (numOf_nat .i64 513 _) (by omega) (by omega)
    obtain ⟨v2, c2, w2⟩ := h.cut TB okB (lo := some (.int .i64 513)) (hi := none) (numOf_nat .i64 513 0) rfl (by omega) (Nat.le_refl _)
    rw [List.take_of_length_le (by simp)] at w2
    obtain ⟨v3, c3, w3⟩ := cECloneB (c2 := cfgS) rfl rfl w1 (by simp; omega) σ
    have hb : (x.getD 0 0).toNat < 256 := (x.getD 0 0).toNat_lt
    have hwr : IntKind.wrap .i64 (((x.getD 0 0).toNat : Nat) : Int) = (((x.getD 0 0).toNat : Nat) : Int) := wrap_i64 (by omega) (by omega)
    have ev := lq13_13 (callω cfg) (loopω cfg) σ n v u
    simp only [h.len TB, bind_some', asInt_int, hgt, if_true, i1, i2, c1, c3, hwr, bvI _ w3.plain, bsI1, c2] at ev
    obtain ⟨u1, τ1, q1, q2, _, _⟩ := hu.app1 TI okI (All2.one (show RI [.int .i64 (((x.getD 0 0).toNat : Nat) : Int), v3] (((x.getD 0 0).toNat : Int), (x.drop 1).take 512) from ⟨v3, rfl, w3⟩)) (by simp; omega) (n := 1) rfl
    rw [q1] at ev
    simp only [bind_some'] at ev
    obtain ⟨u2, τ2, r1, r2⟩ := lpFirst n k (x.drop 513) v2 τ1 u1 _ w2 (by simp; omega) (by simp; omega) q2
    refine ⟨u2, τ2, loopω_ofK (ev.trans r1), ?_⟩
    rw [chunks]
    simpa using r2

theorem spFirst (h : IsS RB v b) (hl : b.length ≤ 400000) : ∃ v', pureω cfg 13 [v] = some (.tuple [v', .int .i64 (((first b).2.1 : Nat) : Int), .int .i64 (first b).2.2]) ∧ IsS RI v' (first b).1 := by
  have ev := eq13 (callω cfg) (loopω cfg) .empty v
  have no : ∀ (e : Int) (τ : Store), stepK cfg (callω cfg) (loopω cfg) 13 [v] .empty = some (.tuple [.nilsl, .int .i64 0, .int .i64 e], τ) → ∃ v', pureω cfg 13 [v] = some (.tuple [v', .int .i64 ((0 : Nat) : Int), .int .i64 e]) ∧ IsS RI v' [] :=
    fun e τ h => ⟨_, pureω_of (hT _) h rfl, IsS.nil⟩
  unfold first
  by_cases h2 : b.length < 2
  · have h2' : decide (((b.length : Nat) : Int) < 2) = true := decide_eq_true (by omega)
    simp only [h.len TB, bind_some', asInt_int, h2', if_true] at ev
    rw [if_pos h2]
    exact no _ _ ev
  · have h2' : decide (((b.length : Nat) : Int) < 2) = false := decide_eq_false (by omega)
    rw [if_neg h2]
    obtain ⟨e0, i0, j0⟩ := idxB h (i := 0) (by omega)
    obtain ⟨e1, i1, j1⟩ := idxB h (i := 1) (by omega)
    rw [natz] at i0
    have i1' : indexAddrv Try.prog 24 v (.int .i64 1) = some (.pref [e1]) := i1
    have hs2 : IntKind.wrap .i64 (((b.length : Nat) : Int) - 2) = ((b.length - 2 : Nat) : Int) := by rw [wrap_i64 (by omega) (by omega)]; omega
    simp only [h.len TB, bind_some', asInt_int, h2', Bool.false_eq_true, if_false, i0, j0, i1', j1, hs2, q8, or256 (b.getD 0 0).toNat_lt (b.getD 1 0).toNat_lt] at ev
    have hnum : (b.getD 0 0).toNat * 256 + (b.getD 1 0).toNat = num2 b := rfl
    rw [hnum] at ev
    have hn : num2 b < 65536 := by have := (b.getD 0 0).toNat_lt; have := (b.getD 1 0).toNat_lt; unfold num2; omega
    by_cases h3 : b.length - 2 < num2 b
    · have h3' : decide (((b.length - 2 : Nat) : Int) < ((num2 b : Nat) : Int)) = true := decide_eq_true (by omega)
      simp only [h3', if_true] at ev
      rw [if_pos h3]
      exact no _ _ ev
    · have h3' : decide (((b.length - 2 : Nat) : Int) < ((num2 b : Nat) : Int)) = false := decide_eq_false (by omega)
      rw [if_neg h3]
      have hadd : IntKind.wrap .i64 (2 + ((num2 b : Nat) : Int)) = ((2 + num2 b : Nat) : Int) := by rw [wrap_i64 (by omega) (by omega)]; omega
      obtain ⟨v1, c1, w1⟩ := h.cut TB okB (lo := some (.int .i64 2)) (hi := some (.int .i64 ((2 + num2 b : Nat) : Int))) (numOf_nat .i64 2 0) (numOf_nat .i64 _ _) (by omega) (by omega)
      rw [show 2 + num2 b - 2 = num2 b by omega] at w1
      obtain ⟨v2, c2, w2⟩ := cEOpen (c2 := cfg) rfl rfl w1 (by simp; omega) .empty
      generalize hx : openB ((b.drop 2).take (num2 b)) = ox at c2 w2
      have hxl : ox.1.length ≤ 65536 := by
        rw [← hx]; unfold openB
        split
        · simp
        · split
          · simp; omega
          · simp
      simp only [h3', Bool.false_eq_true, if_false, hadd, c1, bind_some', c2, tupv_0, tupv_1, asInt_int] at ev
      by_cases h4 : ox.2 = 0
      · have h4' : (ox.2 != 0) = false := by simpa using h4
        rw [if_neg (by simpa using h4)]
        have hm : Int.tmod ((ox.1.length : Nat) : Int) 513 = ((ox.1.length % 513 : Nat) : Int) := tmod_nat _ 513
        have hdv : Int.tdiv ((ox.1.length : Nat) : Int) 513 = ((ox.1.length / 513 : Nat) : Int) := tdiv_nat _ 513
        simp only [h4', Bool.false_eq_true, if_false, w2.len TB, bind_some', asInt_int, hm, hdv] at ev
        by_cases h5 : ox.1.length % 513 = 1
        · have h5' : (((ox.1.length % 513 : Nat) : Int) != 1) = false := by rw [h5]; rfl
          rw [if_neg (by simpa using h5)]
          obtain ⟨e2, i2, j2⟩ := idxB w2 (i := 0) (by omega)
          rw [natz] at i2
          have hb2 := (ox.1.getD 0 0).toNat_lt
          have hw1 : IntKind.wrap .i64 (((ox.1.getD 0 0).toNat : Nat) : Int) = (((ox.1.getD 0 0).toNat : Nat) : Int) := wrap_i64 (by omega) (by omega)
          have hw2 : IntKind.wrap .i64 ((ox.1.length / 513 : Nat) : Int) = ((ox.1.length / 513 : Nat) : Int) := wrap_i64 (by omega) (by omega)
          simp only [h5', Bool.false_eq_true, if_false, i2, j2, bind_some', asInt_int, hw1, hw2] at ev
          by_cases h6 : (ox.1.getD 0 0).toNat = ox.1.length / 513
          · have h6' : ((((ox.1.getD 0 0).toNat : Nat) : Int) != ((ox.1.length / 513 : Nat) : Int)) = false := by rw [h6]; simp
            rw [if_neg (by simpa using h6)]
            obtain ⟨v3, c3, w3⟩ := w2.cut TB okB (lo := some (.int .i64 1)) (hi := none) (numOf_nat .i64 1 0) rfl (by omega) (Nat.le_refl _)
            rw [List.take_of_length_le (by simp)] at w3
            obtain ⟨u, τ, r1, r2⟩ := lpFirst ((num2 b : Nat) : Int) (ox.1.length / 513) (ox.1.drop 1) v3 .empty .nilsl [] w3 (by simp; omega) (by simp; omega) (AxS.nil _)
            rw [List.nil_append] at r2
            have hcl : (chunks (ox.1.length / 513) (ox.1.drop 1)).length ≤ 1000 := by rw [chunks_len]; omega
            simp only [h6', Bool.false_eq_true, if_false, c3, bind_some', r1, onEx_exit, if_true, out13_13_5, out13_13_8, asInt_int, cECheck (c2 := cfg) rfl rfl r2.q (by omega), hadd] at ev
            cases hmy : may (chunks (ox.1.length / 513) (ox.1.drop 1)) with
            | true =>
              have h0 : ((0 : Int) != 0) = false := rfl
              simp only [hmy, if_true, h0, Bool.false_eq_true, if_false] at ev
              rw [if_pos rfl]
              exact ⟨_, pureω_of (hT _) ev rfl, r2.frz okI 5⟩
            | false =>
              have h0 : ((1 : Int) != 0) = true := rfl
              simp only [hmy, if_true, h0, Bool.false_eq_true, if_false] at ev
              rw [if_neg (by simp)]
              exact no _ _ ev
          · have h6' : ((((ox.1.getD 0 0).toNat : Nat) : Int) != ((ox.1.length / 513 : Nat) : Int)) = true := by simp only [bne_iff_ne, ne_eq]; omega
            simp only [h6', if_true] at ev
            rw [if_pos (by simpa using h6)]
            exact no _ _ ev
        · have h5' : (((ox.1.length % 513 : Nat) : Int) != 1) = true := by simp only [bne_iff_ne, ne_eq]; omega
          simp only [h5', if_true] at ev
          rw [if_pos (by simpa using h5)]
          exact no _ _ ev
      · have h4' : (ox.2 != 0) = true := by simpa using h4
        simp only [h4', if_true] at ev
        rw [if_pos (by simpa using h4)]
        exact no _ _ ev
theorem cEFirst (h : QS RB σ 1 v b) (hlf : ∀ id ∈ tops v, Lf σ id) (hl : b.length ≤ 400000) : ∃ v' τ, callE cfg (callω cfg) 13 [v] σ = some (.tuple [v', .int .i64 (((first b).2.1 : Nat) : Int), .int .i64 (first b).2.2], τ) ∧ IsS RI v' (first b).1 ∧ Rl σ τ := by
  obtain ⟨v', h1, h2⟩ := spFirst (h.frz okB 6) hl
  obtain ⟨τ, h3, h4⟩ := callQ (c2 := cfg) (f := 13) (args := [v]) (σ := σ) rfl rfl (by kernel_rfl) rfl h1 (by rw [topss1]; exact hlf)
  exact ⟨v', τ, h3, h2, h4⟩
theorem cEFirstP (h : IsS RB v b) (hl : b.length ≤ 400000) (σ : Store) : ∃ v', callE cfg (callω cfg) 13 [v] σ = some (.tuple [v', .int .i64 (((first b).2.1 : Nat) : Int), .int .i64 (first b).2.2], σ) ∧ IsS RI v' (first b).1 := by
  obtain ⟨v', h1, h2⟩ := spFirst h hl
  exact ⟨v', callE_pure rfl (by kernel_rfl) (by simp only [List.map_cons, List.map_nil]; rw [fzA h]) h1 (.inr (lfs1 h.lf)), h2⟩

end
end Go.Pvm.S
