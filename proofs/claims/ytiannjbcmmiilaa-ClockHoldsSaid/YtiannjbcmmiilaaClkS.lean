/- Part of the proof: clocks with pins: the loops, and the law. -/
import Derived.Test.YtiannjbcmmiilaaClkR
set_option linter.unusedSimpArgs false
set_option linter.unusedVariables false
set_option linter.unusedSectionVars false
set_option maxRecDepth 100000
set_option maxHeartbeats 2000000
namespace Go.Pvm.S
open Go.Pvm Go.Proofs
theorem tupv_3 (a b c d : PV) (l : List PV) : tupv (.tuple (a :: b :: c :: d :: l)) 3 = some d := rfl
/-- A new variable that holds a clock. -/
def boxC (σ : Store) (cs : List PV) : Store := (σ.push (.cells 0 [[.nilsl, .int .i64 0]])).put σ.next (.cells 0 [cs])
theorem boxC_st {c : Ck} {cs : List PV} (h : CC c cs) (σ : Store) : storev Try.prog (σ.push (.cells 0 [[.nilsl, .int .i64 0]])) 24 (.ref σ.next 0 0) (.agg cs) = some (boxC σ cs) :=
  stRef szClock (push_obj _ _) (Nat.le_refl _) rfl rfl h.ln (ones_plain h.pl)
theorem boxC_at (σ : Store) (cs : List PV) : (boxC σ cs).objs σ.next = some (.cells 0 [cs]) := put_obj _ _ _
theorem boxC_old {σ : Store} {cs : List PV} {i : Nat} (h : i < σ.next) : (boxC σ cs).objs i = σ.objs i := by
  unfold boxC
  rw [put_other (by omega), push_old h]
theorem boxC_next (σ : Store) (cs : List PV) : (boxC σ cs).next = σ.next + 1 := rfl
theorem ldC {σ : Store} {c : Ck} {cs : List PV} {i : Nat} (h : CC c cs) (ho : σ.objs i = some (.cells 0 [cs])) : loadv Try.prog σ 24 (.ref i 0 0) = some (.agg cs) := by
  rw [ldRef ho rfl, aggClock.part h.ln]
/-- The law's variables. -/
structure LI (σ : Store) (id m : Nat) (c : Ck) (hd : Hd) : Prop where
  o1 : ∃ cs, CC c cs ∧ σ.objs id = some (.cells 0 [cs])
  o2 : σ.objs m = some (.map (hdv hd))
  n1 : id < σ.next
  n2 : m < σ.next
theorem LI.ne {σ : Store} {id m : Nat} {c : Ck} {hd : Hd} (h : LI σ id m c hd) : id ≠ m := fun e => by
  obtain ⟨cs, _, h1⟩ := h.o1
  have h2 := h.o2
  rw [← e, h1] at h2
  cases h2
theorem LI.box {σ : Store} {id m : Nat} {c : Ck} {hd : Hd} (h : LI σ id m c hd) (cs : List PV) : LI (boxC σ cs) id m c hd := by
  obtain ⟨⟨cs', h1, h2⟩, h3, h4, h5⟩ := h
  exact ⟨⟨cs', h1, by rw [boxC_old h4]; exact h2⟩, by rw [boxC_old h5]; exact h3, Nat.lt_succ_of_lt h4, Nat.lt_succ_of_lt h5⟩
theorem LI.set {σ : Store} {id m : Nat} {c c' : Ck} {cs : List PV} {hd : Hd} (h : LI σ id m c hd) (hc : CC c' cs) : storev Try.prog σ 24 (.ref id 0 0) (.agg cs) = some (σ.put id (.cells 0 [cs])) ∧ LI (σ.put id (.cells 0 [cs])) id m c' hd := by
  have hne := h.ne
  obtain ⟨⟨cs', h1, h2⟩, h3, h4, h5⟩ := h
  exact ⟨stRef szClock h2 (Nat.le_refl _) rfl h1.ln hc.ln (ones_plain hc.pl), ⟨cs, hc, put_obj _ _ _⟩, by rw [put_other (Ne.symm hne)]; exact h3, h4, h5⟩
theorem LI.upd {σ : Store} {id m : Nat} {c : Ck} {hd : Hd} (h : LI σ id m c hd) (hd' : Hd) : LI (σ.put m (.map (hdv hd'))) id m c hd' := by
  have hne := h.ne
  obtain ⟨⟨cs', h1, h2⟩, h3, h4, h5⟩ := h
  exact ⟨⟨cs', h1, by rw [put_other hne]; exact h2⟩, put_obj _ _ _, h4, h5⟩
theorem modB (b : UInt8) : IntKind.wrap .i64 (((b.toNat : Nat) : Int).tmod 64) = ((b.toNat % 64 : Nat) : Int) := by
  rw [show (((b.toNat : Nat) : Int)).tmod 64 = ((b.toNat % 64 : Nat) : Int) from rfl, wrap_i64 (by omega) (by omega)]
theorem okB : ROk 1 (Fn fun b : UInt8 => [.int .u8 b.toNat]) := ROk.fn fun a => ⟨rfl, by simp [PV.plain]⟩
abbrev SB (v : PV) (l : List UInt8) : Prop := IsS (Fn fun b : UInt8 => [.int .u8 b.toNat]) v l
section
variable {id m n : Nat} (h1 : 1 ≤ n) (h2 : n ≤ 64)
include h1 h2
/-- Pages are pinned. -/
theorem lpPins {y z : PV} {l : List UInt8} (hy : SB y l) : ∀ (k i : Nat) (σ : Store) (c : Ck) (hd : Hd), i + k = n → hd.length ≤ i → LI σ id m c hd → J n c hd →
    ∃ τ c' hd', loopω cfg 5 lc5_7 (st5_7 y z (n : Nat) (.ref id 0 0) (.mref m) (i : Nat)) σ = some (.exit 0, out5_7 z (n : Nat) (.ref id 0 0) (.mref m), τ) ∧ LI τ id m c' hd' ∧ J n c' hd'
  | k, i, σ, c, hd, hi, hh, hL, hJ => by
    have ev := lq5_7 (callω cfg) (loopω cfg) σ y z (n : Nat) (.ref id 0 0) (.mref m) (i : Nat)
    rw [hy.len TB, bind_some', asInt_int] at ev
    by_cases hil : i < l.length
    case neg =>
      rw [if_neg (by rw [decide_eq_true_eq]; omega)] at ev
      exact ⟨σ, c, hd, loopω_ofK ev, hL, hJ⟩
    rw [if_pos (by rw [decide_eq_true_eq]; omega)] at ev
    cases k with
    | zero =>
      rw [if_neg (by rw [decide_eq_true_eq]; omega)] at ev
      exact ⟨σ, c, hd, loopω_ofK ev, hL, hJ⟩
    | succ k =>
    rw [if_pos (by rw [decide_eq_true_eq]; omega)] at ev
    obtain ⟨e, k1, rfl⟩ := hy.idx TB okB (List.getElem?_eq_getElem hil) .i64
    generalize l[i] = b at k1
    have e1 : loadv Try.prog σ 5 (.pref [.int .u8 b.toNat]) = some (.int .u8 b.toNat) := ldP oB rfl
    obtain ⟨cs, hc, ho⟩ := hL.o1
    have hl : c.l.length ≤ 100 := by rw [hJ.ln]; omega
    obtain ⟨cs1, a1, a2⟩ := cETouch hc hl ((b.toNat % 64 : Nat) : Int) σ
    have ht := hJ.touch h1 h2 (p := ((b.toNat % 64 : Nat) : Int)) (by omega) (by omega)
    generalize touchS c ((b.toNat % 64 : Nat) : Int) = t at a1 a2 ht
    obtain ⟨c1, kk, was, er⟩ := t
    rcases ht with ⟨he, ht⟩ | ⟨_, hn, _⟩
    case inr => omega
    simp only at he ht a1 a2
    subst he
    have hl1 : c1.l.length ≤ 100 := by rw [ht.j.ln]; omega
    have hk := ht.k0
    obtain ⟨g1, g2⟩ := J.pinned h1 h2 (by omega) (by omega) ht
    have L1 := hL.box cs1
    obtain ⟨cs2, b1, b2⟩ := cEPin a2 hl1 ((b.toNat % 64 : Nat) : Int) true (boxC σ cs1)
    rw [g1] at b1
    have L2 := L1.box cs2
    have e2 := boxC_st a2 σ
    have e3 := ldC a2 (boxC_at σ cs1)
    have e4 := boxC_st b2 (boxC σ cs1)
    have e5 := ldC b2 (boxC_at (boxC σ cs1) cs2)
    obtain ⟨e6, L3⟩ := L2.set b2
    have e7 := setH L3.o2 ((b.toNat % 64 : Nat) : Int) kk
    have L4 := L3.upd (updH hd ((b.toNat % 64 : Nat) : Int) kk)
    have z0 : ((0 : Int) != 0) = false := by decide
    have d1 : decide (kk < 0) = false := decide_eq_false (by omega)
    have d2 : decide (kk ≥ ((n : Nat) : Int)) = false := decide_eq_false (by omega)
    have wi : IntKind.wrap .i64 (((i : Nat) : Int) + 1) = ((i + 1 : Nat) : Int) := wrap_succ (by omega)
    have l0 := ldC hc ho
    simp only [k1, bind_some', e1, asInt_int, modB, l0, a1, tupv_0, tupv_1, tupv_2, tupv_3, e2, e3, b1, e4, z0, d1, d2, Bool.false_eq_true, if_false, e5, e6, e7, wi] at ev
    have hul := updH_len hd ((b.toNat % 64 : Nat) : Int) kk
    obtain ⟨τ, c', hd', r1, r2, r3⟩ := lpPins hy k (i + 1) _ _ _ (by omega) (by omega) L4 g2
    exact ⟨τ, c', hd', loopω_ofK (ev.trans r1), r2, r3⟩
/-- What is held is where it was. -/
theorem lpHeld {z : PV} {i : Int} {xi : Nat} {c : Ck} {hd : Hd} {cs : List PV} {σ : Store} (hc : CC c cs) (ho : σ.objs xi = some (.cells 0 [cs])) (hm : σ.objs m = some (.map (hdv hd))) (hJ : J n c hd) : ∀ (k q : Nat), q + k = 64 →
    loopω cfg 5 lc5_29 (st5_29 z (n : Nat) (.ref id 0 0) (.mref m) i (.ref xi 0 0) (q : Nat)) σ = some (.exit 4, out5_29 z (n : Nat) (.ref id 0 0) (.mref m) i (.ref xi 0 0), σ)
  | 0, q, hq => by
    have ev := lq5_29 (callω cfg) (loopω cfg) σ z (n : Nat) (.ref id 0 0) (.mref m) i (.ref xi 0 0) (q : Nat)
    rw [if_neg (by rw [decide_eq_true_eq]; omega)] at ev
    exact loopω_ofK ev
  | k + 1, q, hq => by
    have ev := lq5_29 (callω cfg) (loopω cfg) σ z (n : Nat) (.ref id 0 0) (.mref m) i (.ref xi 0 0) (q : Nat)
    rw [if_pos (by rw [decide_eq_true_eq]; omega)] at ev
    have wi : IntKind.wrap .i64 (((q : Nat) : Int) + 1) = ((q + 1 : Nat) : Int) := wrap_succ (by omega)
    have ih := lpHeld (z := z) (i := i) hc ho hm hJ k (q + 1) (by omega)
    rcases lookH hm (q : Nat) with ⟨kk, a1, a2⟩ | ⟨a1, a2⟩
    · obtain ⟨p0, p1, p2, u, p3⟩ := hJ.pin _ a1
      simp only at p0 p1 p2 p3
      obtain ⟨qv, rfl, hs⟩ := hc
      obtain ⟨e, b1, rfl⟩ := hs.idx TSp okSp p3 .i64
      rw [show ((kk.toNat : Nat) : Int) = kk by omega] at b1
      have l0 := ldOne (σ := σ) (off := 0) otSp ho rfl
      have l1 : loadv Try.prog σ 3 (.pref (Sp.e ⟨(q : Nat), u, true⟩)) = some (.int .i64 (q : Nat)) := ldP oInt rfl
      have l2 : loadv Try.prog σ 4 (.pref [.bool true]) = some (.bool true) := ldP oBool rfl
      have f2 := fPin ⟨(q : Nat), u, true⟩
      have bb : (((q : Nat) : Int) != ((q : Nat) : Int)) = false := bne_self_eq_false _
      simp only [a2, bind_some', tupv_0, tupv_1, asInt_int, asBool_bool, if_true, fCl, l0, b1, fSp, l1, bb, Bool.false_eq_true, if_false, f2, l2, Bool.not_true, wi, ih] at ev
      exact loopω_ofK ev
    · simp only [a2, bind_some', tupv_0, tupv_1, asInt_int, asBool_bool, Bool.false_eq_true, if_false, wi, ih] at ev
      exact loopω_ofK ev
/-- Pages are touched. -/
theorem lpPages {z : PV} {l : List UInt8} (hz : SB z l) : ∀ (k i : Nat) (σ : Store) (c : Ck) (hd : Hd), i + k = 200 → LI σ id m c hd → J n c hd →
    ∃ τ, loopω cfg 5 lc5_17 (st5_17 z (n : Nat) (.ref id 0 0) (.mref m) (i : Nat)) σ = some (.exit 2, out5_17, τ)
  | k, i, σ, c, hd, hi, hL, hJ => by
    have ev := lq5_17 (callω cfg) (loopω cfg) σ z (n : Nat) (.ref id 0 0) (.mref m) (i : Nat)
    rw [hz.len TB, bind_some', asInt_int] at ev
    by_cases hil : i < l.length
    case neg =>
      rw [if_neg (by rw [decide_eq_true_eq]; omega)] at ev
      exact ⟨σ, loopω_ofK ev⟩
    rw [if_pos (by rw [decide_eq_true_eq]; omega)] at ev
    cases k with
    | zero =>
      rw [if_neg (by rw [decide_eq_true_eq]; omega)] at ev
      exact ⟨σ, loopω_ofK ev⟩
    | succ k =>
    rw [if_pos (by rw [decide_eq_true_eq]; omega)] at ev
    obtain ⟨e, k1, rfl⟩ := hz.idx TB okB (List.getElem?_eq_getElem hil) .i64
    generalize l[i] = b at k1
    have e1 : loadv Try.prog σ 5 (.pref [.int .u8 b.toNat]) = some (.int .u8 b.toNat) := ldP oB rfl
    have p0 : (0 : Int) ≤ ((b.toNat % 64 : Nat) : Int) := by omega
    have p1 : ((b.toNat % 64 : Nat) : Int) < 64 := by omega
    have hmb := modB b
    generalize ((b.toNat % 64 : Nat) : Int) = p at p0 p1 hmb
    obtain ⟨cs, hc, ho⟩ := hL.o1
    have hl : c.l.length ≤ 100 := by rw [hJ.ln]; omega
    obtain ⟨cs1, a1, a2⟩ := cETouch hc hl p σ
    have ht := hJ.touch h1 h2 p0 p1
    generalize touchS c p = t at a1 a2 ht
    obtain ⟨c1, kk, was, er⟩ := t
    have L1 := hL.box cs1
    have e2 := boxC_st a2 σ
    have l0 := ldC hc ho
    have wi : IntKind.wrap .i64 (((i : Nat) : Int) + 1) = ((i + 1 : Nat) : Int) := wrap_succ (by omega)
    have look1 : ∃ v b, lookupv Try.prog σ 36 (.mref m) (.int .i64 p) true = some (.tuple [.int .i64 v, .bool b]) ∧ (b = true → ∃ x ∈ hd, x.1 = p) := by
      rcases lookH hL.o2 p with ⟨kk, q1, q2⟩ | ⟨q1, q2⟩
      · exact ⟨_, _, q2, fun _ => ⟨_, q1, rfl⟩⟩
      · exact ⟨_, _, q2, fun e => by cases e⟩
    obtain ⟨v, pin, q1, q2⟩ := look1
    rcases ht with ⟨he, ht⟩ | ⟨he, hn, hno, hcc⟩
    · simp only at he ht a1 a2
      subst he
      have hk := ht.k0
      obtain ⟨u, bb, hat⟩ := ht.at_
      have look2 : lookupv Try.prog (boxC σ cs1) 36 (.mref m) (.int .i64 was) true = some (.tuple [.int .i64 0, .bool false]) := by
        rcases lookH L1.o2 was with ⟨kk, q3, q4⟩ | ⟨_, q4⟩
        · exact absurd rfl (ht.was _ q3)
        · exact q4
      have a3 := a2
      obtain ⟨qv, hqv, hs⟩ := a3
      subst hqv
      have ho1 := boxC_at σ [qv, .int .i64 c1.h]
      have l1 := ldOne (off := 0 + 0) otSp ho1 rfl
      have ln := hs.len TSp
      rw [ht.j.ln] at ln
      obtain ⟨e, b1, rfl⟩ := hs.idx TSp okSp hat .i64
      rw [show ((kk.toNat : Nat) : Int) = kk by omega] at b1
      have l2 : loadv Try.prog (boxC σ [qv, .int .i64 c1.h]) 3 (.pref (Sp.e ⟨p, u, bb⟩)) = some (.int .i64 p) := ldP oInt rfl
      have hl29 := lpHeld (id := id) (m := m) (z := z) (i := (i : Nat)) (n := n) h1 h2 a2 ho1 L1.o2 ht.j 64 0 rfl
      rw [natz] at hl29
      have l3 := ldC a2 ho1
      obtain ⟨e6, L3⟩ := L1.set a2
      have z0 : ((0 : Int) != 0) = false := by decide
      have d1 : decide (kk < 0) = false := decide_eq_false (by omega)
      have d2 : decide (kk ≥ ((n : Nat) : Int)) = false := decide_eq_false (by omega)
      have nb : (((n : Nat) : Int) != ((n : Nat) : Int)) = false := bne_self_eq_false _
      have pb : (p != p) = false := bne_self_eq_false _
      have i43 : ((4 : Nat) = 4) = True := by simp
      simp only [k1, bind_some', e1, asInt_int, hmb, q1, l0, a1, tupv_0, tupv_1, tupv_2, tupv_3, asBool_bool, e2, z0, look2, d1, d2, Bool.false_eq_true, if_false, l1, ln, nb, b1, fSp, l2, pb, hl29, onEx_exit, out5_29_2, out5_29_7, out5_29_8, out5_29_10, out5_29_19, out5_29_23, if_true, l3, e6, wi] at ev
      obtain ⟨τ, r1⟩ := lpPages hz k (i + 1) _ _ _ (by omega) L3 ht.j
      exact ⟨τ, loopω_ofK (ev.trans r1)⟩
    · simp only at he a1
      subst he
      have hp : pin = false := by
        cases pin with
        | false => rfl
        | true => obtain ⟨x, hx, e⟩ := q2 rfl; exact absurd e (hno x hx)
      subst hp
      have z0 : ((11 : Int) != 0) = true := by decide
      have z1 : ((11 : Int) != 11) = false := by decide
      have d1 : decide (((hd.length : Nat) : Int) < ((n : Nat) : Int)) = false := decide_eq_false (by omega)
      simp only [k1, bind_some', e1, asInt_int, hmb, q1, l0, a1, tupv_0, tupv_1, tupv_2, tupv_3, asBool_bool, e2, z0, if_true, z1, Bool.false_eq_true, if_false, lenH L1.o2, d1, wi] at ev
      obtain ⟨τ, r1⟩ := lpPages hz k (i + 1) _ _ _ (by omega) L1 hJ
      exact ⟨τ, loopω_ofK (ev.trans r1)⟩
end
theorem lawHolds (a : Nat) (ha : a < 256) {y z : PV} {l l' : List UInt8} (hy : SB y l) (hz : SB z l') : ∃ τ, callω cfg 5 [.int .u8 (a : Nat), y, z] .empty = some (.bool true, τ) := by
  have ev := eq5 (callω cfg) (loopω cfg) .empty (a : Nat) y z
  have hn : IntKind.wrap .i64 (1 + IntKind.wrap .i64 (((a : Nat) : Int).tmod 8)) = ((a % 8 + 1 : Nat) : Int) := by
    rw [show ((a : Nat) : Int).tmod 8 = ((a % 8 : Nat) : Int) from rfl, wrap_i64 (x := ((a % 8 : Nat) : Int)) (by omega) (by omega), wrap_i64 (by omega) (by omega)]
    omega
  have h1 : 1 ≤ a % 8 + 1 := by omega
  have h2 : a % 8 + 1 ≤ 64 := by omega
  rw [hn] at ev
  generalize a % 8 + 1 = n at ev h1 h2
  obtain ⟨cs, a1, a2⟩ := cENew (n : Nat) .empty
  unfold newS at a1 a2
  rw [if_neg (by omega), Int.toNat_natCast] at a1 a2
  have e1 := boxC_st a2 .empty
  have z0 : ((0 : Int) != 0) = false := by decide
  have e2 : makeMapv Try.prog (boxC .empty cs) 36 none = some (.mref (boxC .empty cs).next, (boxC .empty cs).push (.map [])) := by
    unfold makeMapv
    rw [mapInt]
    rfl
  have hL : LI ((boxC .empty cs).push (.map [])) Store.empty.next (boxC .empty cs).next ⟨List.replicate n noSp, 0⟩ [] :=
    ⟨⟨cs, a2, by rw [push_old (Nat.lt_succ_self _)]; exact boxC_at _ _⟩, push_obj _ _, Nat.lt_succ_of_lt (Nat.lt_succ_self _), Nat.lt_succ_self _⟩
  obtain ⟨τ, c', hd', r1, r2, r3⟩ := lpPins (id := Store.empty.next) (m := (boxC .empty cs).next) (n := n) h1 h2 (z := z) hy n 0 _ _ _ (by omega) (Nat.le_refl _) hL (J.new h1)
  obtain ⟨τ', s1⟩ := lpPages (id := Store.empty.next) (m := (boxC .empty cs).next) (n := n) h1 h2 hz 200 0 τ c' hd' rfl r2 r3
  rw [natz] at r1 s1
  simp only [a1, bind_some', tupv_0, tupv_1, asInt_int, e1, z0, Bool.false_eq_true, if_false, e2, r1, onEx_exit, out5_7_2, out5_7_7, out5_7_8, out5_7_10, if_true, s1, cEAwake, asBool_bool] at ev
  exact ⟨_, callω_ofK rfl ev⟩
end Go.Pvm.S
