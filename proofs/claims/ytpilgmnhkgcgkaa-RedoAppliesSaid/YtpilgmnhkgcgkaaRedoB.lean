/- Part of the proof: groups of images: records, pages. -/
import Derived.Test.YtpilgmnhkgcgkaaRedoA
set_option linter.unusedSimpArgs false
set_option linter.unusedVariables false
set_option maxRecDepth 100000
namespace Go.Pvm.S
open Go.Pvm Go.Proofs Go.Pvm.Crc

/-! ### Plain -/
def recF (g : List Img) : List UInt8 := g.flatMap fun m => UInt8.ofNat m.1.toNat :: m.2
def recB (g : List Img) : List UInt8 := UInt8.ofNat g.length :: recF g
def head2 (s : List UInt8) : List UInt8 := UInt8.ofNat (s.length / 256) :: UInt8.ofNat s.length :: s
def record (g : List Img) : List UInt8 := head2 (sealB (recB g))
theorem recF_cons (m : Img) (g : List Img) : recF (m :: g) = (UInt8.ofNat m.1.toNat :: m.2) ++ recF g := by simp [recF]
theorem chk_all : ∀ (g : List Img) (p : Option Int), chk p g = true → ∀ m ∈ g, 0 ≤ m.1 ∧ m.1 ≤ 63 ∧ m.2.length = 512
  | [], _, _, m, hm => by cases hm
  | x :: g, p, h, m, hm => by
    rw [chk, Bool.and_eq_true] at h
    rcases List.mem_cons.1 hm with rfl | hm
    · have h1 := h.1
      unfold okI1 at h1
      simp only [Bool.and_eq_true, decide_eq_true_eq] at h1
      exact ⟨h1.1, h1.2.1, h1.2.2.1⟩
    · exact chk_all g _ h.2 m hm
theorem may_all {g : List Img} (h : may g = true) : ∀ m ∈ g, 0 ≤ m.1 ∧ m.1 ≤ 63 ∧ m.2.length = 512 := by
  unfold may at h
  simp only [Bool.and_eq_true] at h
  exact chk_all g _ h.2.2
theorem recF_len : ∀ {g : List Img}, (∀ m ∈ g, m.2.length = 512) → (recF g).length = 513 * g.length
  | [], _ => rfl
  | m :: g, h => by
    rw [recF_cons, List.length_append, recF_len fun x hx => h x (.tail _ hx), List.length_cons, h m (.head _), List.length_cons]
    omega
theorem sealB_len (l : List UInt8) : (sealB l).length = 4 + l.length := by
  unfold sealB; rw [List.length_append, four_len]
theorem record_len {g : List Img} (h : ∀ m ∈ g, m.2.length = 512) : (record g).length = 7 + 513 * g.length := by
  unfold record head2
  rw [List.length_cons, List.length_cons, sealB_len]
  unfold recB
  rw [List.length_cons, recF_len h]
  omega
theorem wrap_u8_int {x : Int} (h : 0 ≤ x) : IntKind.wrap .u8 x = ((UInt8.ofNat x.toNat).toNat : Int) := by
  obtain ⟨n, rfl⟩ := Int.eq_ofNat_of_zero_le h
  exact wrap_u8_nat n

/-- A page that begins with bytes, again and again. -/
def pgF (b : List UInt8) (i : Nat) : Nat → List UInt8
  | 0 => []
  | k + 1 => b.getD (i % b.length) 0 :: pgF b (i + 1) k
def pg (b : List UInt8) : List UInt8 := if b = [] then List.replicate 512 0 else pgF b 0 512
theorem pgF_len (b : List UInt8) : ∀ (k i : Nat), (pgF b i k).length = k
  | 0, _ => rfl
  | k + 1, i => by rw [pgF, List.length_cons, pgF_len b k]
theorem pg_len (b : List UInt8) : (pg b).length = 512 := by
  unfold pg
  split
  · simp
  · exact pgF_len b 512 0
def imgs (ps : List Int) (bs : List (List UInt8)) : List Img := ((ps.zip bs).take 9).map fun x => (x.1, pg x.2)
theorem imgs_len (ps : List Int) (bs : List (List UInt8)) : (imgs ps bs).length ≤ 9 := by
  unfold imgs; simp; omega

section
variable {v v' : PV} {g g' : List Img} {b : List UInt8} {σ : Store}
/-! ### Records -/
theorem lpEnc (h : QS RI σ 2 v g) (ha : ∀ m ∈ g, 0 ≤ m.1 ∧ m.1 ≤ 63 ∧ m.2.length = 512) (hl : g.length ≤ 6) : ∀ (k i : Nat) (τ : Store) (u : PV) (acc : List UInt8), i + k = g.length → acc.length ≤ 1 + 513 * i → AxS RB τ 1 u acc → Kp σ τ [] → (∀ j ∈ tops u, σ.next ≤ j) →
    ∃ u' τ', loopω cfg 10 lc10_6 (st10_6 u v (g.length : Nat) (i : Nat)) τ = some (.exit 0, out10_6 u', τ') ∧ AxS RB τ' 1 u' (acc ++ recF (g.drop i)) ∧ Kp σ τ' [] ∧ ∀ j ∈ tops u', σ.next ≤ j
  | 0, i, τ, u, acc, hi, hac, hu, hk, ht => by
    refine ⟨u, τ, loopω_ofK ((lq10_6 _ _ _ _ _ _ _).trans ?_), ?_, hk, ht⟩
    · simp only [nltN (show g.length ≤ i by omega), Bool.false_eq_true, if_false]
    · rw [List.drop_eq_nil_of_le (by omega)]; simpa [recF] using hu
  | k + 1, i, τ, u, acc, hi, hac, hu, hk, ht => by
    have hw := List.getElem?_eq_getElem (show i < g.length by omega)
    have hd : g.drop i = g[i]'(by omega) :: g.drop (i + 1) := (List.drop_eq_getElem_cons (by omega))
    generalize g[i]'(by omega) = m at hw hd
    obtain ⟨m1, m2, m3⟩ := ha m (List.mem_of_getElem? hw)
    obtain ⟨x, e, h1, _, h2, ub, rfl, hub⟩ := (h.kp hk fun _ _ h => by cases h).idx TI okI hw .i64
    have ev := lq10_6 (callω cfg) (loopω cfg) τ u v (g.length : Nat) (i : Nat)
    have hpl : ∀ c ∈ [PV.int .i64 m.1, ub], c.plain = true := okI.plain _ m ⟨ub, rfl, hub⟩
    simp only [ltN (show i < g.length by omega), if_true, h1, h2, partI, bind_some', stI τ m.1 hub.plain, roPush (lfs_plain hpl), fzNew hpl, faI0, faI1, ldcInt, ldctB, asInt_int, bsB1i, wrap_u8_int m1, wrap_succ (show i < 4611686018427387904 by omega)] at ev
    obtain ⟨u1, τ1, q1, q2, q3, q4⟩ := (hu.push (.cells 1 [[PV.int .i64 m.1, ub]])).app1 TB okB (All2.one (show RB [PV.int .u8 ((UInt8.ofNat m.1.toNat).toNat : Int)] (UInt8.ofNat m.1.toNat) from rfl)) (by simp; omega) (n := 1) rfl
    rw [q1] at ev
    simp only [bind_some'] at ev
    obtain ⟨u2, τ2, p1, p2, p3, p4⟩ := q2.appQ TB okB (hub.q τ1 1) (by simp; omega)
    rw [p1] at ev
    simp only [bind_some'] at ev
    have k1 : Kp σ τ1 [] := (hk.trans (Mod.push τ _ []).kp (fun _ h => by cases h)).trans q3.kp (fun j hj => .inr (ht j hj))
    have t1 : ∀ j ∈ tops u1, σ.next ≤ j := fun j hj => (q4 j hj).elim (ht j) (fun e => by have := hk.1; have := e.1; rw [push_next] at this; omega)
    have k2 : Kp σ τ2 [] := k1.trans p3.kp (fun j hj => .inr (t1 j hj))
    have t2 : ∀ j ∈ tops u2, σ.next ≤ j := fun j hj => (p4 j hj).elim (t1 j) (fun e => by have := k1.1; omega)
    obtain ⟨u3, τ3, r1, r2, r3, r4⟩ := lpEnc h ha hl k (i + 1) τ2 u2 _ (by omega) (by simp; omega) p2 k2 t2
    refine ⟨u3, τ3, loopω_ofK (ev.trans r1), ?_, r3, r4⟩
    rw [hd, recF_cons]
    simpa using r2
theorem spEncode (h : QS RI σ 2 v g) (hg : may g = true) : ∃ τ id, callω cfg 10 [v] σ = some (.tuple [.lsl id 1 0 (record g).length none, .int .i64 0], τ) ∧ τ.objs id = some (.cells 0 ((record g).map cB)) ∧ σ.next ≤ id ∧ id < τ.next ∧ Kp σ τ [] := by
  have ev := eq10 (callω cfg) (loopω cfg) σ v
  obtain ⟨hl1, hl6⟩ := may_len hg
  have ha := may_all hg
  have h0 : ((0 : Int) != 0) = false := rfl
  simp only [cECheck (c2 := cfg) rfl rfl h (by omega), hg, if_true, bind_some', asInt_int, h0, Bool.false_eq_true, if_false, h.len TI, wrap_u8_nat, bsB1i] at ev
  have hf := AxS.fresh (R := RB) (All2.one (show RB [PV.int .u8 ((UInt8.ofNat g.length).toNat : Int)] (UInt8.ofNat g.length) from rfl)) σ 1 (n := 1) rfl
  obtain ⟨u, τ, r1, r2, r3, r4⟩ := lpEnc h ha hl6 g.length 0 _ _ _ (by omega) (by simp) hf (Mod.push σ _ []).kp (fun j hj => by simp [tops] at hj; omega)
  rw [natz] at r1
  rw [List.drop_zero] at r2
  have hr : [UInt8.ofNat g.length] ++ recF g = recB g := rfl
  rw [hr] at r2
  have hrl : (recB g).length = 1 + 513 * g.length := by unfold recB; rw [List.length_cons, recF_len fun m hm => (ha m hm).2.2]; omega
  obtain ⟨w, s1, s2⟩ := spSeal (r2.frz okB 6) (by omega)
  obtain ⟨τ1, t1, t2⟩ := callQ (c2 := cfg) (f := 22) (args := [u]) (σ := τ) rfl rfl (by kernel_rfl) rfl s1 (by rw [topss1]; exact r2.lf okB)
  have hsl := sealB_len (recB g)
  have hfd : ∀ n : Nat, Int.fdiv ((n : Nat) : Int) 256 = ((n / 256 : Nat) : Int) := fun n => fdiv_nat n 256
  simp only [r1, bind_some', onEx_exit, if_true, out10_6_5, t1, s2.len TB, asInt_int, q8, hfd, wrap_u8_nat, bsB2i] at ev
  obtain ⟨es, x1, x2⟩ := s2
  have x2' := x2.toMap
  subst x2'
  rw [appFull TB (n := 2) (push_obj _ _) rfl x1.q (okB.els x2).all1 (by simp [sealB, four]) (by simp; omega)] at ev
  have hcells : [[PV.int .u8 ((UInt8.ofNat ((sealB (recB g)).length / 256)).toNat : Int)], [PV.int .u8 ((UInt8.ofNat (sealB (recB g)).length).toNat : Int)]] ++ (sealB (recB g)).map cB = (record g).map cB := rfl
  rw [hcells] at ev
  have hlen : 2 + ((sealB (recB g)).map cB).length = (record g).length := by unfold record head2; simp; omega
  rw [hlen] at ev
  refine ⟨_, _, callω_ofK (hT _) ev, push_obj _ _, ?_, Nat.lt_succ_self _, ?_⟩
  · have := r3.1; have := t2.1; rw [push_next]; omega
  · exact ((r3.trans (t2.kp []) (fun _ h => by cases h)).trans (Mod.push _ _ []).kp (fun _ h => by cases h)).trans (Mod.push _ _ []).kp (fun _ h => by cases h)
theorem spEncodeNo (h : QS RI σ 2 v g) (hl : g.length ≤ 1000000) (hg : may g = false) : callω cfg 10 [v] σ = some (.tuple [.nilsl, .int .i64 1], σ) := by
  have ev := eq10 (callω cfg) (loopω cfg) σ v
  have h0 : ((1 : Int) != 0) = true := rfl
  simp only [cECheck (c2 := cfg) rfl rfl h hl, hg, if_false, Bool.false_eq_true, bind_some', asInt_int, h0, if_true] at ev
  exact callω_ofK (hT _) ev

theorem lpRec (h : IsS RI v g) (ha : ∀ m ∈ g, 0 ≤ m.1 ∧ m.1 ≤ 63 ∧ m.2.length = 512) (hl : g.length ≤ 6) : ∀ (k i : Nat) (τ : Store) (u : PV) (acc : List UInt8), i + k = g.length → acc.length ≤ 1 + 513 * i → AxS RB τ 1 u acc →
    ∃ u' τ', loopω cfg 14 lc14_3 (st14_3 v u (i : Nat)) τ = some (.exit 0, out14_3 u', τ') ∧ AxS RB τ' 1 u' (acc ++ recF (g.drop i))
  | 0, i, τ, u, acc, hi, hac, hu => by
    refine ⟨u, τ, loopω_ofK ((lq14_3 _ _ _ _ _ _).trans ?_), ?_⟩
    · simp only [h.len TI, bind_some', asInt_int, nltN (show g.length ≤ i by omega), Bool.false_eq_true, if_false]
    · rw [List.drop_eq_nil_of_le (by omega)]; simpa [recF] using hu
  | k + 1, i, τ, u, acc, hi, hac, hu => by
    have hw := List.getElem?_eq_getElem (show i < g.length by omega)
    have hd : g.drop i = g[i]'(by omega) :: g.drop (i + 1) := (List.drop_eq_getElem_cons (by omega))
    generalize g[i]'(by omega) = m at hw hd
    obtain ⟨m1, m2, m3⟩ := ha m (List.mem_of_getElem? hw)
    obtain ⟨ub, h1, hub⟩ := idxI h hw
    have ev := lq14_3 (callω cfg) (loopω cfg) τ v u (i : Nat)
    simp only [h.len TI, ltN (show i < g.length by omega), if_true, h1, bind_some', faI0, faI1, ldInt, ldtB, asInt_int, bsB1i, wrap_u8_int m1, wrap_succ (show i < 4611686018427387904 by omega)] at ev
    obtain ⟨u1, τ1, q1, q2, q3, q4⟩ := hu.app1 TB okB (All2.one (show RB [PV.int .u8 ((UInt8.ofNat m.1.toNat).toNat : Int)] (UInt8.ofNat m.1.toNat) from rfl)) (by simp; omega) (n := 1) rfl
    rw [q1] at ev
    simp only [bind_some', ldtB] at ev
    obtain ⟨u2, τ2, p1, p2, p3, p4⟩ := q2.appQ TB okB (hub.q τ1 1) (by simp; omega)
    rw [p1] at ev
    simp only [bind_some'] at ev
    obtain ⟨u3, τ3, r1, r2⟩ := lpRec h ha hl k (i + 1) τ2 u2 _ (by omega) (by simp; omega) p2
    refine ⟨u3, τ3, loopω_ofK (ev.trans r1), ?_⟩
    rw [hd, recF_cons]
    simpa using r2
theorem spRecord (h : IsS RI v g) (hg : may g = true) : ∃ v', pureω cfg 14 [v] = some v' ∧ IsS RB v' (record g) := by
  have ev := eq14 (callω cfg) (loopω cfg) .empty v
  obtain ⟨hl1, hl6⟩ := may_len hg
  have ha := may_all hg
  simp only [bind_some', asInt_int, h.len TI, wrap_u8_nat, bsB1i] at ev
  have hf := AxS.fresh (R := RB) (All2.one (show RB [PV.int .u8 ((UInt8.ofNat g.length).toNat : Int)] (UInt8.ofNat g.length) from rfl)) .empty 1 (n := 1) rfl
  obtain ⟨u, τ, r1, r2⟩ := lpRec h ha hl6 g.length 0 _ _ _ (by omega) (by simp) hf
  rw [natz] at r1
  rw [List.drop_zero] at r2
  have hr : [UInt8.ofNat g.length] ++ recF g = recB g := rfl
  rw [hr] at r2
  have hrl : (recB g).length = 1 + 513 * g.length := by unfold recB; rw [List.length_cons, recF_len fun m hm => (ha m hm).2.2]; omega
  obtain ⟨w, s1, s2⟩ := spRSeal (r2.frz okB 6) (by omega)
  obtain ⟨τ1, t1, t2⟩ := callQ (c2 := cfg) (f := 25) (args := [u]) (σ := τ) rfl rfl (by kernel_rfl) rfl s1 (by rw [topss1]; exact r2.lf okB)
  have hsl := sealB_len (recB g)
  have hfd : IntKind.wrap .i64 (Int.tdiv (((sealB (recB g)).length : Nat) : Int) 256) = (((sealB (recB g)).length / 256 : Nat) : Int) := by
    rw [show (256 : Int) = ((256 : Nat) : Int) from rfl, tdiv_nat, wrap_i64 (by omega) (by omega)]
  simp only [r1, bind_some', onEx_exit, if_true, out14_3_3, t1, s2.len TB, asInt_int, hfd, wrap_u8_nat, bsB2i] at ev
  have h2 : All2 RB [[PV.int .u8 ((UInt8.ofNat ((sealB (recB g)).length / 256)).toNat : Int)], [PV.int .u8 ((UInt8.ofNat (sealB (recB g)).length).toNat : Int)]] [UInt8.ofNat ((sealB (recB g)).length / 256), UInt8.ofNat (sealB (recB g)).length] := .cons rfl (.one rfl)
  obtain ⟨u3, τ3, x1, x2, _, _⟩ := (AxS.fresh h2 τ1 1 (n := 2) rfl).appQ TB okB (s2.q _ 1) (by simp; omega)
  rw [x1] at ev
  exact ⟨_, pureω_of (hT _) ev rfl, x2.frz okB 6⟩

/-! ### Pages -/
theorem lpPage (h : IsS RB v b) (hb : b ≠ []) (hl : b.length < 4611686018427387904) (id : Nat) : ∀ (k i : Nat) (τ : Store) (cur : List UInt8), i + k = 512 → cur.length = 512 → τ.objs id = some (.cells 0 (cur.map cB)) →
    ∃ τ', loopω cfg 16 lc16_3 (st16_3 v (.lsl id 1 0 512 (some 512)) (i : Nat)) τ = some (.exit 0, out16_3 (.lsl id 1 0 512 (some 512)), τ') ∧ τ'.objs id = some (.cells 0 ((cur.take i ++ pgF b i k).map cB)) ∧ τ'.next = τ.next
  | 0, i, τ, cur, hi, hc, ho => by
    refine ⟨τ, loopω_ofK ((lq16_3 _ _ _ _ _ _).trans ?_), ?_, rfl⟩
    · have : decide (((i : Nat) : Int) < 512) = false := decide_eq_false (by omega)
      simp only [this, Bool.false_eq_true, if_false]
    · rw [List.take_of_length_le (by omega), pgF, List.append_nil]; exact ho
  | k + 1, i, τ, cur, hi, hc, ho => by
    have h1 : decide (((i : Nat) : Int) < 512) = true := decide_eq_true (by omega)
    have hpos : 0 < b.length := List.length_pos_iff.2 hb
    have h2 : decide (((b.length : Nat) : Int) > 0) = true := decide_eq_true (by omega)
    have hmod : i % b.length < b.length := Nat.mod_lt _ hpos
    have hrem : binv Try.prog .rem 3 (.int .i64 ((i : Nat) : Int)) (.int .i64 ((b.length : Nat) : Int)) = some (.int .i64 ((i % b.length : Nat) : Int)) := by
      have hz : ¬ (((b.length : Nat) : Int) = 0) := by omega
      simp only [binv, arith, if_true, hz, if_false, tmod_nat]
    have hw := List.getElem?_eq_getElem hmod
    have hgd : b.getD (i % b.length) 0 = b[i % b.length] := by rw [List.getD_eq_getElem?_getD, hw]; rfl
    generalize b[i % b.length] = c at hw hgd
    obtain ⟨e, q1, rfl⟩ := h.idx TB okB hw .i64
    have hic : (cur.map cB)[i]? = some (cB (cur[i]'(by omega))) := by rw [List.getElem?_map, List.getElem?_eq_getElem (by omega)]; rfl
    have hst := stRef (P := Try.prog) (t := 5) (n := 1) (by kernel_rfl) ho (Nat.zero_le i) hic rfl (v := .int .u8 ((c.toNat : Nat) : Int)) rfl rfl
    have hia := ia_lsl (sz := 1) (id := id) (idx := 0) (len := 512) (i := i) (cap := some 512) TB.u TB.el.hsz (by omega) .i64
    rw [Nat.zero_add] at hia
    have hset : (cur.map cB).set i (PV.int .u8 ((c.toNat : Nat) : Int)).cells = (cur.set i c).map cB := by rw [List.map_set]; rfl
    rw [hset] at hst
    have ev := lq16_3 (callω cfg) (loopω cfg) τ v (.lsl id 1 0 512 (some 512)) (i : Nat)
    simp only [h1, h2, if_true, h.len TB, bind_some', asInt_int, hrem, q1, ldcB, hia, hst, wrap_succ (show i < 4611686018427387904 by omega)] at ev
    obtain ⟨τ', r1, r2, r3⟩ := lpPage h hb hl id k (i + 1) _ (cur.set i c) (by omega) (by simpa using hc) (put_obj _ _ _)
    refine ⟨τ', loopω_ofK (ev.trans r1), ?_, r3⟩
    rw [r2, pgF, hgd]
    have : (cur.set i c).take (i + 1) = cur.take i ++ [c] := by
      rw [List.take_add_one, List.take_set_of_le (Nat.le_refl _), List.getElem?_set_self (by omega)]; rfl
    rw [this]
    simp
theorem spPage (h : IsS RB v b) (hl : b.length < 4611686018427387904) : ∃ v', pureω cfg 16 [v] = some v' ∧ IsS RB v' (pg b) := by
  have ev := eq16 (callω cfg) (loopω cfg) .empty v
  have hmk : makeSlv Try.prog .empty 24 (.int .i64 512) (.int .i64 512) = some (.lsl Store.empty.next 1 0 512 (some 512), Store.empty.push (.cells 0 (List.replicate 512 [.int .u8 0]))) := by kernel_rfl
  have hz : List.replicate 512 [PV.int .u8 0] = (List.replicate 512 (0 : UInt8)).map cB := by rw [List.map_replicate]; rfl
  have fin : ∀ (τ : Store) (cur : List UInt8), cur.length = 512 → τ.objs Store.empty.next = some (.cells 0 (cur.map cB)) → Store.empty.next < τ.next → IsS RB (fz fuelFz τ (.lsl Store.empty.next 1 0 512 (some 512))) cur := fun τ cur hc ho hn => by
    refine QS.frz okB (σ := τ) (sz := 1) ⟨cur.map cB, ?_, All2.ofMap cur⟩ 6
    exact .inr ⟨Store.empty.next, 0, some 512, 0, cur.map cB, by simp [hc], ho, by simp, by rw [List.drop_zero, List.take_length], hn⟩
  by_cases hb : b = []
  · have hq : loopω cfg 16 lc16_3 (st16_3 v (.lsl Store.empty.next 1 0 512 (some 512)) 0) (Store.empty.push (.cells 0 (List.replicate 512 [.int .u8 0]))) = some (.exit 0, out16_3 (.lsl Store.empty.next 1 0 512 (some 512)), Store.empty.push (.cells 0 (List.replicate 512 [.int .u8 0]))) := by
      refine loopω_ofK ((lq16_3 _ _ _ _ _ _).trans ?_)
      have h1 : decide ((0 : Int) < 512) = true := by decide
      have h2 : decide (((b.length : Nat) : Int) > 0) = false := by rw [hb]; rfl
      simp only [h1, if_true, h.len TB, bind_some', asInt_int, h2, Bool.false_eq_true, if_false]
    simp only [hmk, bind_some', hq, onEx_exit, if_true, out16_3_3] at ev
    refine ⟨_, pureω_of (hT _) ev rfl, ?_⟩
    unfold pg
    rw [if_pos hb]
    exact fin _ _ (by simp) (by rw [push_obj, hz]) (Nat.lt_succ_self _)
  · obtain ⟨τ', r1, r2, r3⟩ := lpPage h hb hl Store.empty.next 512 0 (Store.empty.push (.cells 0 (List.replicate 512 [.int .u8 0]))) (List.replicate 512 0) (by omega) (by simp) (by rw [push_obj, hz])
    rw [natz] at r1
    simp only [hmk, bind_some', r1, onEx_exit, if_true, out16_3_3] at ev
    refine ⟨_, pureω_of (hT _) ev rfl, ?_⟩
    unfold pg
    rw [if_neg hb]
    rw [List.take_zero, List.nil_append] at r2
    have hid : Store.empty.next < τ'.next := by rw [r3]; exact Nat.lt_succ_self _
    exact fin _ _ (pgF_len b 512 0) r2 hid
end
end Go.Pvm.S
