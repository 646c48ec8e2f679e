/- Part of the proof: a page written again and again: each sector is one that was written since. -/
import Derived.Test.YtgcfmhlgbakdfaaDevK
set_option linter.unusedSimpArgs false
set_option linter.unusedVariables false
set_option maxRecDepth 100000
namespace Go.Pvm.S
open Go.Pvm Go.Proofs

/-! ### Plain -/
def Uni (lo hi : Nat) (pg : By) : Prop := pg.length = 512 ∧ ∀ i, i < 512 → pg.getD i 0 = pg.getD (i / 128 * 128) 0 ∧ lo ≤ (pg.getD i 0).toNat ∧ (pg.getD i 0).toNat ≤ hi
theorem putP_get {pg : By} {s : Nat} {c : UInt8} (hl : pg.length = 512) (hs : s < 4) {i : Nat} (hi : i < 512) : (putP pg (((s : Nat) : Int), List.replicate 128 c)).getD i 0 = if 128 * s ≤ i ∧ i < 128 * s + 128 then c else pg.getD i 0 := by
  unfold putP
  simp only [Int.toNat_natCast]
  rw [List.getD_eq_getElem?_getD, List.getD_eq_getElem?_getD]
  have ht : (pg.take (128 * s)).length = 128 * s := by rw [List.length_take]; omega
  have hr : (List.replicate 128 c).length = 128 := List.length_replicate
  by_cases h1 : i < 128 * s
  · rw [List.append_assoc, List.getElem?_append_left (by omega), List.getElem?_take, if_pos h1, if_neg (by omega)]
  · by_cases h2 : i < 128 * s + 128
    · rw [List.getElem?_append_left (by rw [List.length_append]; omega), List.getElem?_append_right (by omega), if_pos ⟨by omega, h2⟩, List.getElem?_replicate, if_pos (by omega)]
      rfl
    · rw [List.getElem?_append_right (by rw [List.length_append]; omega), List.getElem?_drop, if_neg (by omega)]
      congr 2
      rw [List.length_append]
      omega
theorem Uni.put {lo hi : Nat} {pg : By} (h : Uni lo hi pg) {s : Nat} {c : UInt8} (hs : s < 4) (h1 : lo ≤ c.toNat) (h2 : c.toNat ≤ hi) : Uni lo hi (putP pg (((s : Nat) : Int), List.replicate 128 c)) := by
  refine ⟨by rw [putP_len (by rw [h.1]; simp only [Int.toNat_natCast]; omega) List.length_replicate]; exact h.1, fun i hi' => ?_⟩
  rw [putP_get h.1 hs hi', putP_get h.1 hs (by omega)]
  obtain ⟨a, b, e⟩ := h.2 i hi'
  by_cases c1 : 128 * s ≤ i ∧ i < 128 * s + 128
  · rw [if_pos c1, if_pos (by omega)]
    exact ⟨rfl, h1, h2⟩
  · rw [if_neg c1, if_neg (by omega)]
    exact ⟨a, b, e⟩
theorem Uni.mono {lo hi lo' hi' : Nat} {pg : By} (h : Uni lo hi pg) (h1 : lo' ≤ lo) (h2 : hi ≤ hi') : Uni lo' hi' pg := ⟨h.1, fun i hi => let ⟨a, b, c⟩ := h.2 i hi; ⟨a, Nat.le_trans h1 b, Nat.le_trans c h2⟩⟩
def goodW (lo hi : Nat) (w : Int × By) : Prop := ∃ (s : Nat) (c : UInt8), w = (((s : Nat) : Int), List.replicate 128 c) ∧ s < 4 ∧ lo ≤ c.toNat ∧ c.toNat ≤ hi
def J (lo hi : Nat) (d : Dv) : Prop := Uni lo hi d.kept.pg ∧ ∀ w ∈ d.ws, goodW lo hi w
theorem J.wr1 {lo hi : Nat} {d : Dv} (h : J lo hi d) {w : Int × By} (hw : goodW lo hi w) : J lo hi (d.wr1 w) := by
  obtain ⟨e1, e2, e3, e4⟩ := wr1_same d w
  refine ⟨by rw [e2]; exact h.1, fun y hy => ?_⟩
  rcases e4 with e4 | e4 <;> rw [e4] at hy
  · exact h.2 y hy
  · rcases List.mem_append.1 hy with hy | hy
    · exact h.2 y hy
    · rw [List.mem_singleton.1 hy]; exact hw
theorem cutRep (c : UInt8) {i : Nat} (hi : i < 4) : ((List.replicate 512 c).drop (i * 128)).take 128 = List.replicate 128 c := by
  rw [List.drop_replicate, List.take_replicate]
  congr 1
  omega
theorem J.wrF {lo hi : Nat} {c : UInt8} (h1 : lo ≤ c.toNat) (h2 : c.toNat ≤ hi) : ∀ (k i : Nat) (d : Dv), i + k = 4 → J lo hi d → J lo hi (wrF 0 (List.replicate 512 c) k i d)
  | 0, _, _, _, h => h
  | k + 1, i, d, hi, h => J.wrF h1 h2 k (i + 1) _ (by omega) (h.wr1 ⟨i, c, by rw [cutRep c (by omega), Nat.zero_mul, Nat.zero_add], by omega, h1, h2⟩)
theorem wr1_calm {d : Dv} (w : Int × By) (ha : d.armed = -1) (hg : d.gone = false) : (d.wr1 w).armed = -1 ∧ (d.wr1 w).gone = false := by
  have h : (({ d with seen := d.seen.put w } : Dv).counts 1) = (1, { d with seen := d.seen.put w }) := by
    unfold Dv.counts
    rw [if_neg (by rw [hg]; decide), if_pos (by show d.armed < 0; rw [ha]; decide)]
  unfold Dv.wr1
  rw [h]
  simp only [if_true]
  exact ⟨ha, hg⟩
theorem wrF_calm {page : Nat} {b : By} : ∀ (k i : Nat) (d : Dv), d.armed = -1 → d.gone = false → (wrF page b k i d).armed = -1 ∧ (wrF page b k i d).gone = false
  | 0, _, _, ha, hg => ⟨ha, hg⟩
  | k + 1, i, d, ha, hg => let ⟨h1, h2⟩ := wr1_calm (d := d) (((page * 4 + i : Nat) : Int), (b.drop (i * 128)).take 128) ha hg; wrF_calm k (i + 1) _ h1 h2
theorem wrF_seen {c : UInt8} : ∀ (k i : Nat) (d : Dv), i + k = 4 → d.seen.pg.length = 512 → (∀ j, j < 128 * i → d.seen.pg.getD j 0 = c) → (wrF 0 (List.replicate 512 c) k i d).seen.pg.length = 512 ∧ ∀ j, j < 512 → (wrF 0 (List.replicate 512 c) k i d).seen.pg.getD j 0 = c
  | 0, i, d, hi, hl, h => ⟨hl, fun j hj => h j (by omega)⟩
  | k + 1, i, d, hi, hl, h => by
    obtain ⟨e1, _⟩ := wr1_same d (((0 * 4 + i : Nat) : Int), ((List.replicate 512 c).drop (i * 128)).take 128)
    have e5 : (d.wr1 (((0 * 4 + i : Nat) : Int), ((List.replicate 512 c).drop (i * 128)).take 128)).seen.pg = putP d.seen.pg (((i : Nat) : Int), List.replicate 128 c) := by
      rw [e1, cutRep c (by omega), Nat.zero_mul, Nat.zero_add]; rfl
    refine wrF_seen k (i + 1) _ (by omega) (by rw [e5, putP_len (by rw [hl]; simp only [Int.toNat_natCast]; omega) List.length_replicate]; exact hl) fun j hj => ?_
    rw [e5, putP_get hl (by omega) (by omega)]
    by_cases c1 : 128 * i ≤ j ∧ j < 128 * i + 128
    · rw [if_pos c1]
    · rw [if_neg c1]; exact h j (by omega)
theorem Uni.all {pg : By} {c : UInt8} (hl : pg.length = 512) (h : ∀ j, j < 512 → pg.getD j 0 = c) : Uni c.toNat c.toNat pg := ⟨hl, fun i hi => by rw [h i hi, h _ (by omega)]; exact ⟨rfl, Nat.le_refl _, Nat.le_refl _⟩⟩
theorem Uni.crashW {lo hi : Nat} (pat : List Bool) : ∀ (ws : List (Int × By)) (x : Dk) (i : Nat), Uni lo hi x.pg → (∀ w ∈ ws, goodW lo hi w) → Uni lo hi (crashW pat x ws i).pg
  | [], _, _, h, _ => h
  | w :: ws, x, i, h, hw => by
    obtain ⟨s, c, e, h1, h2, h3⟩ := hw w (.head _)
    unfold Go.Pvm.S.crashW
    split
    · exact Uni.crashW pat ws _ _ (by rw [e]; exact h.put h1 h2 h3) fun y hy => hw y (.tail _ hy)
    · exact Uni.crashW pat ws _ _ h fun y hy => hw y (.tail _ hy)
theorem J.crash {lo hi : Nat} {d : Dv} (h : J lo hi d) (pat : List Bool) (n : Int) : Uni lo hi (d.crash pat n).seen.pg := by
  show Uni lo hi (crashT (Go.Pvm.S.crashW pat d.kept d.ws 0) d.ts n).pg
  rw [crashT_pg]
  exact Uni.crashW pat _ _ _ h.1 h.2
theorem Uni.zero : Uni 0 0 (Dk.new 1).pg := by
  have : (Dk.new 1).pg = List.replicate 512 0 := rfl
  rw [this]
  refine Uni.all (c := 0) List.length_replicate fun j hj => ?_
  rw [List.getD_eq_getElem?_getD, List.getElem?_replicate, if_pos hj]
  rfl

/-! ### The program's -/
section
variable {σ : Store} {v u : PV} {pat : List Bool} {id : Nat} {arm : Int}
/-- How it stands ahead of the write of i. -/
def St (m k i : Nat) (d : Dv) : Prop := (1 ≤ k ∧ k < i → J k m d) ∧ (¬ (1 ≤ k ∧ k < i) → d.armed = -1 ∧ d.gone = false ∧ J 0 m d)
theorem lpKeeps (ha : -9223372036854775808 ≤ arm ∧ arm ≤ 9223372036854775807) {m k : Nat} (hm : m ≤ 12) (hk : k ≤ m) : ∀ (n i : Nat) (g : Nat → Nat) (σ : Store) (d : Dv), i + n = m + 1 → 1 ≤ i → DevS g σ id d → Inv 1 0 d → d.ws.length ≤ 4 * i → d.ts = [] → St m k i d →
    ∃ g' τ d', loopω cfg 3 lc3_8 (st3_8 arm v (.ref id 0 0) (m : Nat) (k : Nat) (i : Nat)) σ = some (.exit 0, out3_8 v (.ref id 0 0) (m : Nat) (k : Nat), τ) ∧ DevS g' τ id d' ∧ Inv 1 0 d' ∧ d'.ws.length ≤ 100 ∧ d'.ts = [] ∧ St m k (m + 1) d'
  | 0, i, g, σ, d, hi, h1, h, hI, hw, ht, hS => by
    have hd : decide (((i : Nat) : Int) ≤ ((m : Nat) : Int)) = false := decide_eq_false (by omega)
    refine ⟨g, σ, d, loopω_ofK ((lq3_8 _ _ _ _ _ _ _ _ _).trans ?_), h, hI, by omega, ht, by rw [show m + 1 = i by omega]; exact hS⟩
    simp only [hd, Bool.false_eq_true, if_false]
  | n + 1, i, g, σ, d, hi, h1, h, hI, hw, ht, hS => by
    have hd : decide (((i : Nat) : Int) ≤ ((m : Nat) : Int)) = true := decide_eq_true (by omega)
    have hc : (UInt8.ofNat i).toNat = i := by rw [UInt8.toNat_ofNat']; omega
    obtain ⟨v1, f1, f2⟩ := cEFull (c2 := cfg) rfl rfl (UInt8.ofNat i) σ
    have l512 : (List.replicate 512 (UInt8.ofNat i)).length = 512 := List.length_replicate
    obtain ⟨g2, τ2, b1, b2, b3⟩ := spWrite f2 h (P := 1) (by omega) hI.pl hI.arm (by omega) 0 (by rw [l512]; omega)
    rw [if_pos (by omega), if_pos l512] at b1
    rw [if_pos ⟨by omega, by omega, l512⟩] at b2
    have b2 : DevS g2 τ2 id (wrF 0 (List.replicate 512 (UInt8.ofNat i)) 4 0 d) := b2
    have i1 : Inv 1 0 (wrF 0 (List.replicate 512 (UInt8.ofNat i)) 4 0 d) := Inv.wrF (by omega) l512 4 0 _ (by omega) hI
    have k1 := wrF_ws (page := 0) (b := List.replicate 512 (UInt8.ofNat i)) 4 0 d
    have c1 : callE cfg (callω cfg) 9 [.ref id 0 0, .int .i64 0, v1] σ = some (.int .i64 0, τ2) := by rw [callE_live rfl (by kernel_rfl)]; exact b1
    have ev := lq3_8 (callω cfg) (loopω cfg) σ arm v (.ref id 0 0) (m : Nat) (k : Nat) (i : Nat)
    simp only [hd, if_true, wrap_u8_nat, f1, bind_some', c1, asInt_int, wrap_succ (show i < 4611686018427387904 by omega)] at ev
    by_cases ce : i = k
    · have ceq : (((i : Nat) : Int) == ((k : Nat) : Int)) = true := by rw [ce]; simp
      rw [if_pos ceq] at ev
      obtain ⟨a1, a2, a3⟩ := hS.2 (by omega)
      obtain ⟨y1, y2⟩ := wrF_calm (page := 0) (b := List.replicate 512 (UInt8.ofNat i)) 4 0 d a1 a2
      obtain ⟨z1, z2⟩ := wrF_seen (c := UInt8.ofNat i) 4 0 d (by omega) hI.pl (fun j hj => by omega)
      obtain ⟨g3, τ3, s1, s2, s3⟩ := spSync b2 (P := 1) (by omega) i1.kl i1.ws i1.ts (by omega) (by rw [k1.2.1, ht]; exact Nat.zero_le _)
      obtain ⟨τ4, r1, r2, r3⟩ := spArm s2 arm
      have c2 : callE cfg (callω cfg) 11 [.ref id 0 0] τ2 = some (.tuple [], τ3) := by rw [callE_live rfl (by kernel_rfl)]; exact s1
      have c3 : callE cfg (callω cfg) 12 [.ref id 0 0, .int .i64 arm] τ3 = some (.tuple [], τ4) := by rw [callE_live rfl (by kernel_rfl)]; exact r1
      simp only [c2, c3, bind_some'] at ev
      have hsy : (wrF 0 (List.replicate 512 (UInt8.ofNat i)) 4 0 d).sync = { (wrF 0 (List.replicate 512 (UInt8.ofNat i)) 4 0 d) with kept := (wrF 0 (List.replicate 512 (UInt8.ofNat i)) 4 0 d).seen, ws := [], ts := [] } := by
        unfold Dv.sync
        rw [if_neg (by rw [y2]; decide), i1.sy y2]
      have hJ : J k m ((wrF 0 (List.replicate 512 (UInt8.ofNat i)) 4 0 d).sync.arm arm) ∧ ((wrF 0 (List.replicate 512 (UInt8.ofNat i)) 4 0 d).sync.arm arm).ws = [] ∧ ((wrF 0 (List.replicate 512 (UInt8.ofNat i)) 4 0 d).sync.arm arm).ts = [] := by
        rw [hsy]
        unfold Dv.arm
        rw [if_neg (by show ¬ (wrF 0 _ 4 0 d).gone = true; rw [y2]; decide)]
        exact ⟨⟨(Uni.all z1 z2).mono (by rw [hc]; omega) (by rw [hc]; omega), fun w hw => by (cases hw)⟩, rfl, rfl⟩
      obtain ⟨g', τ', d', q1, q2, q3, q4, q5, q6⟩ := lpKeeps ha hm hk n (i + 1) g3 τ4 _ (by omega) (by omega) r2 (i1.sync.armed ha.2) (by rw [hJ.2.1]; exact Nat.zero_le _) hJ.2.2 ⟨fun _ => hJ.1, fun hn => absurd ⟨by omega, by omega⟩ hn⟩
      exact ⟨g', τ', d', loopω_ofK (ev.trans q1), q2, q3, q4, q5, q6⟩
    · have ceq : ¬ (((i : Nat) : Int) == ((k : Nat) : Int)) = true := by simp; omega
      rw [if_neg ceq] at ev
      have hS' : St m k (i + 1) (wrF 0 (List.replicate 512 (UInt8.ofNat i)) 4 0 d) := by
        refine ⟨fun hn => J.wrF (by rw [hc]; omega) (by rw [hc]; omega) 4 0 _ (by omega) (hS.1 (by omega)), fun hn => ?_⟩
        obtain ⟨a1, a2, a3⟩ := hS.2 (by omega)
        obtain ⟨y1, y2⟩ := wrF_calm (page := 0) (b := List.replicate 512 (UInt8.ofNat i)) 4 0 d a1 a2
        exact ⟨y1, y2, J.wrF (Nat.zero_le _) (by rw [hc]; omega) 4 0 _ (by omega) a3⟩
      obtain ⟨g', τ', d', q1, q2, q3, q4, q5, q6⟩ := lpKeeps ha hm hk n (i + 1) g2 τ2 _ (by omega) (by omega) b2 i1 (by omega) (by rw [k1.2.1]; exact ht) hS'
      exact ⟨g', τ', d', loopω_ofK (ev.trans q1), q2, q3, q4, q5, q6⟩
theorem lpLook {m k : Nat} {pg : By} (hU : Uni k m pg) (hm : m ≤ 12) (h : QS RB σ 1 u pg) : ∀ (n i : Nat), i + n = 512 → loopω cfg 3 lc3_19 (st3_19 (m : Nat) (k : Nat) u (i : Nat)) σ = some (.exit 2, out3_19, σ)
  | 0, i, hi => by
    have hd : decide (((i : Nat) : Int) < 512) = false := decide_eq_false (by omega)
    refine loopω_ofK ((lq3_19 _ _ _ _ _ _ _).trans ?_)
    simp only [hd, Bool.false_eq_true, if_false]
  | n + 1, i, hi => by
    have hd : decide (((i : Nat) : Int) < 512) = true := decide_eq_true (by omega)
    obtain ⟨a, b, c⟩ := hU.2 i (by omega)
    obtain ⟨r1, q1, q1'⟩ := idxQ h (i := i) (by rw [hU.1]; omega)
    obtain ⟨r2, q2, q2'⟩ := idxQ h (i := i / 128 * 128) (by rw [hU.1]; omega)
    have hq : IntKind.wrap .i64 (IntKind.wrap .i64 (Int.tdiv ((i : Nat) : Int) 128) * 128) = ((i / 128 * 128 : Nat) : Int) := by
      have e : Int.tdiv ((i : Nat) : Int) 128 = ((i / 128 : Nat) : Int) := by rw [Int.tdiv_eq_ediv_of_nonneg (by omega)]; rfl
      rw [e, wrapId (x := ((i / 128 : Nat) : Int)) (by omega) (by omega), wrapId (by omega) (by omega)]
      omega
    rw [← a] at q2'
    have hlt := (pg.getD i 0).toNat_lt
    have w1 : IntKind.wrap .i64 (((pg.getD i 0).toNat : Nat) : Int) = (((pg.getD i 0).toNat : Nat) : Int) := wrapId (by omega) (by omega)
    have d1 : decide ((((pg.getD i 0).toNat : Nat) : Int) < ((k : Nat) : Int)) = false := decide_eq_false (by omega)
    have d2 : decide ((((pg.getD i 0).toNat : Nat) : Int) > ((m : Nat) : Int)) = false := decide_eq_false (by omega)
    have ne : ((((pg.getD i 0).toNat : Nat) : Int) != (((pg.getD i 0).toNat : Nat) : Int)) = false := by simp
    refine loopω_ofK ((lq3_19 _ _ _ _ _ _ _).trans ?_)
    simp only [hd, if_true, q1, q1', bind_some', asInt_int, hq, q2, q2', ne, Bool.false_eq_true, if_false, w1, d1, d2, wrap_succ (show i < 4611686018427387904 by omega)]
    exact lpLook hU hm h n (i + 1) (by omega)
theorem iaA0 (n : Nat) : indexAddrv Try.prog 22 (.ref n 0 0) (.int .i64 0) = some (.ref n 0 0) := by kernel_rfl
theorem iaA1 (n : Nat) : indexAddrv Try.prog 22 (.ref n 0 0) (.int .i64 1) = some (.ref n 0 1) := by kernel_rfl
theorem oB : OneT Try.prog 5 := .of (by kernel_rfl) (by kernel_rfl)
theorem neNilR (id : Nat) : binv Try.prog .neq 24 (.ref id 0 0) .nilptr = some (.bool true) := by kernel_rfl

theorem spKeeps {x0 x1 : Nat} (h0 : x0 < 256) (h1 : x1 < 256) (ha : -9223372036854775808 ≤ arm ∧ arm ≤ 9223372036854775807) (hv : IsS RBo v pat) : ∃ τ, callω cfg 3 [.agg [.int .u8 (x0 : Nat), .int .u8 (x1 : Nat)], .int .i64 arm, v] .empty = some (.bool true, τ) := by
  have ev := eq3 (callω cfg) (loopω cfg) .empty (x0 : Nat) (x1 : Nat) arm v
  let σ0 := Store.empty.push (.cells 0 [[.int .u8 (x0 : Nat), .int .u8 (x1 : Nat)]])
  have l0 : loadv Try.prog (Store.empty.push (.cells 0 [[.int .u8 (x0 : Nat), .int .u8 (x1 : Nat)]])) 5 (.ref Store.empty.next 0 0) = some (.int .u8 (x0 : Nat)) := ldOne oB (push_obj _ _) rfl
  have l1 : loadv Try.prog (Store.empty.push (.cells 0 [[.int .u8 (x0 : Nat), .int .u8 (x1 : Nat)]])) 5 (.ref Store.empty.next 0 1) = some (.int .u8 (x1 : Nat)) := ldOne oB (push_obj _ _) rfl
  obtain ⟨g1, τ1, a1, a2, a3⟩ := spNew (P := 1) (by omega) (fun _ => 7) (Store.empty.push (.cells 0 [[.int .u8 (x0 : Nat), .int .u8 (x1 : Nat)]]))
  have i0 := Inv.new (P := 1) (by omega)
  have c1 : callE cfg (callω cfg) 7 [.int .i64 1] (Store.empty.push (.cells 0 [[.int .u8 (x0 : Nat), .int .u8 (x1 : Nat)]])) = some (.tuple [.ref ((Store.empty.push (.cells 0 [[.int .u8 (x0 : Nat), .int .u8 (x1 : Nat)]])).next + 2) 0 0, .int .i64 0], τ1) := by rw [callE_live rfl (by kernel_rfl)]; exact a1
  generalize (Store.empty.push (.cells 0 [[.int .u8 (x0 : Nat), .int .u8 (x1 : Nat)]])).next + 2 = id at a2 c1
  have n0 : ((0 : Int) != 0) = false := by decide
  have n1 : ((0 : Int) == 0) = true := by decide
  simp only [iaA0, iaA1, l0, l1, bind_some', asInt_int, c1, tupv_0, tupv_1, n0, Bool.false_eq_true, if_false, neNilL, asBool_bool, hv.len TBo] at ev
  by_cases cp : ((pat.length : Nat) : Int) > 100
  · rw [if_pos (decide_eq_true cp)] at ev
    simp only [n1, if_true, neNilR, bind_some', asBool_bool, cEAwake (c2 := cfg) rfl rfl] at ev
    exact ⟨_, callω_ofK (hT _) ev⟩
  · rw [if_neg (by simpa using cp)] at ev
    have hm : IntKind.wrap .i64 (1 + IntKind.wrap .i64 (Int.tmod ((x0 : Nat) : Int) 12)) = ((1 + x0 % 12 : Nat) : Int) := by
      have e : Int.tmod ((x0 : Nat) : Int) 12 = ((x0 % 12 : Nat) : Int) := by rw [Int.tmod_eq_emod_of_nonneg (by omega)]; rfl
      rw [e, wrapId (x := ((x0 % 12 : Nat) : Int)) (by omega) (by omega), wrapId (by omega) (by omega)]
      omega
    have hm1 : IntKind.wrap .i64 (((1 + x0 % 12 : Nat) : Int) + 1) = ((1 + x0 % 12 + 1 : Nat) : Int) := wrap_succ (by omega)
    have hx1 : IntKind.wrap .i64 ((x1 : Nat) : Int) = ((x1 : Nat) : Int) := wrapId (by omega) (by omega)
    have hrem := remN (a := x1) (b := 1 + x0 % 12 + 1) (by omega) 3 uInt
    have hmle : 1 + x0 % 12 ≤ 12 := by omega
    generalize 1 + x0 % 12 = m at hm hm1 hrem hmle
    have hkle : x1 % (m + 1) ≤ m := by have := Nat.mod_lt x1 (show 0 < m + 1 by omega); omega
    generalize x1 % (m + 1) = k at hrem hkle
    obtain ⟨g2, τ2, d2, b1, b2, b3, b4, b5, b6⟩ := lpKeeps (v := v) ha hmle hkle m 1 g1 τ1 (Dv.new 1) (by omega) (by omega) a2 i0 (Nat.zero_le _) rfl
      ⟨fun hn => absurd hn.2 (by omega), fun _ => ⟨rfl, rfl, Uni.zero.mono (Nat.le_refl _) (Nat.zero_le _), fun w hw => by (cases hw)⟩⟩
    have hJ : J k m d2 := by
      by_cases hk0 : 1 ≤ k
      · exact b6.1 ⟨hk0, by omega⟩
      · have h3 := (b6.2 (by omega)).2.2
        have : k = 0 := by omega
        rw [this]; exact h3
    obtain ⟨g3, τ3, y1, y2, y3⟩ := spCrash b2 (hv.q τ2 1) (fun j hj => by rw [hv.tops] at hj; cases hj) (P := 1) ⟨by omega, by omega⟩ b3.kl b3.ws b3.ts (by omega) (by rw [b5]; exact Nat.zero_le _) (n := 0) ⟨by decide, by decide⟩ (b3.crashFit 0)
    have i4 := b3.crash pat 0
    have hU := hJ.crash pat 0
    obtain ⟨g6, τ6, u, z1, z2, _, z3, _⟩ := spRead y2 (P := 1) (by omega) i4.pl (page := 0) (by omega)
    have hz : ((d2.crash pat 0).seen.pg.drop (0 * 512)).take 512 = (d2.crash pat 0).seen.pg := by rw [Nat.zero_mul, List.drop_zero, List.take_of_length_le (by rw [i4.pl]; omega)]
    rw [hz] at z2
    have c2 : callE cfg (callω cfg) 13 [.ref id 0 0, v, .int .i64 0] τ2 = some (.tuple [], τ3) := by rw [callE_live rfl (by kernel_rfl)]; exact y1
    have c3 : callE cfg (callω cfg) 14 [.ref id 0 0, .int .i64 0] τ3 = some (.tuple [u, .int .i64 0], τ6) := by rw [callE_live rfl (by kernel_rfl)]; exact z1
    have hlook := lpLook hU hmle z2 512 0 (by omega)
    have hlen : pureB Try.prog .len [30] [u] = some (.int .i64 512) := by rw [z2.len TB, hU.1]; rfl
    have n3 : ((512 : Int) != 512) = false := by decide
    rw [natz] at hlook
    have b1 : loopω cfg 3 lc3_8 (st3_8 arm v (.ref id 0 0) (m : Nat) (k : Nat) 1) τ1 = some (.exit 0, out3_8 v (.ref id 0 0) (m : Nat) (k : Nat), τ2) := b1
    simp only [hm, hm1, hx1, hrem, bind_some', asInt_int, b1, onEx_exit, if_true, out3_8_2, out3_8_9, out3_8_11, out3_8_12, c2, c3, tupv_0, tupv_1, n0, Bool.false_eq_true, if_false, hlen, n3, hlook, cEAwake (c2 := cfg) rfl rfl, asBool_bool] at ev
    exact ⟨_, callω_ofK (hT _) ev⟩
end
end Go.Pvm.S
