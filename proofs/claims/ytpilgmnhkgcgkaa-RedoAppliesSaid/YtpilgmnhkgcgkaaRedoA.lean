/- Part of the proof: groups of images: which may be, whether they are alike, their records. -/
import Derived.Test.YtpilgmnhkgcgkaaTally
set_option linter.unusedSimpArgs false
set_option linter.unusedVariables false
set_option maxRecDepth 100000
namespace Go.Pvm.S
open Go.Pvm Go.Proofs Go.Pvm.Crc

abbrev Img := Int × List UInt8
def RI : ElR Img := fun e m => ∃ u, e = [.int .i64 m.1, u] ∧ IsS RB u m.2
theorem okI : ROk 2 RI := ⟨fun e m h => by obtain ⟨u, rfl, _⟩ := h; rfl, fun e m h c hc => by
  obtain ⟨u, rfl, hu⟩ := h
  rcases List.mem_cons.1 hc with rfl | hc
  · rfl
  · rw [List.mem_singleton.1 hc]; exact hu.plain⟩
theorem TI : SlT Try.prog 25 28 2 32 := ⟨by kernel_rfl, by kernel_rfl, by kernel_rfl, ⟨.agg [.int .i64 0, .nilsl], by kernel_rfl, rfl, rfl⟩, by decide, by decide⟩
theorem faI0 (a b : PV) : fieldAddrv Try.prog 28 (.pref [a, b]) 0 = some (.pref [a, b]) := by kernel_rfl
theorem faI1 (a b : PV) : fieldAddrv Try.prog 28 (.pref [a, b]) 1 = some (.pref [b]) := by kernel_rfl
theorem ldInt (σ : Store) (c : PV) (r : List PV) : loadv Try.prog σ 3 (.pref (c :: r)) = some c := by kernel_rfl
theorem ldtB (σ : Store) (c : PV) (r : List PV) : loadv Try.prog σ 24 (.pref (c :: r)) = some c := by kernel_rfl
theorem ldcInt (c : PV) (r : List PV) : loadcv Try.prog 3 (.pref (c :: r)) = some c := by kernel_rfl
theorem ldctB (c : PV) (r : List PV) : loadcv Try.prog 24 (.pref (c :: r)) = some c := by kernel_rfl
theorem partI (a b : PV) : partOf Try.prog 28 [a, b] 0 = some (.agg [a, b]) := by kernel_rfl
theorem partI0 (a b : PV) : partOf Try.prog 3 [a, b] (0 + 0) = some a := by kernel_rfl
theorem partI1 (a b : PV) : partOf Try.prog 24 [a, b] (0 + 1) = some b := by kernel_rfl
theorem ldI (σ : Store) (a b : PV) : loadv Try.prog σ 28 (.pref [a, b]) = some (.agg [a, b]) := by kernel_rfl
theorem szI : szOf Try.prog 28 = some 2 := by kernel_rfl
theorem stI (σ : Store) (p : Int) {u : PV} (hu : u.plain = true) : storev Try.prog (σ.push (.cells 0 [[.int .i64 0, .nilsl]])) 28 (.ref σ.next 0 0) (.agg [.int .i64 p, u]) = some (σ.push (.cells 0 [[.int .i64 p, u]])) :=
  stNew szI rfl rfl (by show ([PV.int .i64 p, u]).all PV.one = true; simp only [List.all_cons, List.all_nil, one_plain hu]; rfl)

/-! ### Plain -/
def okI1 (prev : Option Int) (m : Img) : Bool := decide (0 ≤ m.1) && (decide (m.1 ≤ 63) && (decide (m.2.length = 512) && (match prev with | none => true | some q => decide (q < m.1))))
def chk : Option Int → List Img → Bool
  | _, [] => true
  | p, m :: r => okI1 p m && chk (some m.1) r
def may (g : List Img) : Bool := decide (1 ≤ g.length) && (decide (g.length ≤ 6) && chk none g)
def prevOf (g : List Img) (i : Nat) : Option Int := match i with | 0 => none | i + 1 => (g[i]?).map (·.1)
theorem may_len {g : List Img} (h : may g = true) : 1 ≤ g.length ∧ g.length ≤ 6 := by
  unfold may at h
  simp at h
  exact ⟨h.1, h.2.1⟩

section
variable {v v' : PV} {g g' : List Img} {σ : Store}
theorem RI.inv {e : List PV} {m : Img} (h : RI e m) : ∃ u, e = [.int .i64 m.1, u] ∧ IsS RB u m.2 := h
theorem idxI {g : List Img} (h : IsS RI v g) {i : Nat} {m : Img} (hi : g[i]? = some m) : ∃ u, indexAddrv Try.prog 25 v (.int .i64 (i : Nat)) = some (.pref [.int .i64 m.1, u]) ∧ IsS RB u m.2 := by
  obtain ⟨e, h1, u, rfl, h2⟩ := h.idx TI okI hi .i64
  exact ⟨u, h1, h2⟩

theorem lpCheck (h : IsS RI v g) (hl : g.length ≤ 1000000) : ∀ (k i : Nat) (σ : Store), i + k = g.length →
    ∃ τ, loopω cfg 11 lc11_4 (st11_4 v v (g.length : Nat) (i : Nat)) σ = some (if chk (prevOf g i) (g.drop i) = true then (.exit 0, out11_4, τ) else (.ret, ret11_4 1, τ))
  | 0, i, σ, hi => by
    refine ⟨σ, loopω_ofK ((lq11_4 _ _ _ _ _ _ _).trans ?_)⟩
    simp only [nltN (show g.length ≤ i by omega), Bool.false_eq_true, if_false]
    rw [List.drop_eq_nil_of_le (by omega)]
    rfl
  | k + 1, i, σ, hi => by
    have hw := List.getElem?_eq_getElem (show i < g.length by omega)
    have hd : g.drop i = g[i]'(by omega) :: g.drop (i + 1) := (List.drop_eq_getElem_cons (by omega))
    generalize g[i]'(by omega) = m at hw hd
    obtain ⟨u, h1, hu⟩ := idxI h hw
    have ev := lq11_4 (callω cfg) (loopω cfg) σ v v (g.length : Nat) (i : Nat)
    obtain ⟨τ, hτ⟩ := lpCheck h hl k (i + 1) (σ.push (.cells 0 [[.int .i64 m.1, u]])) (by omega)
    simp only [ltN (show i < g.length by omega), if_true, h1, ldI, bind_some', stI σ m.1 hu.plain, ldPush, partI0, partI1, asInt_int, hu.len TB, wrap_succ (show i < 4611686018427387904 by omega), hτ] at ev
    have hp' : prevOf g (i + 1) = some m.1 := by simp [prevOf, hw]
    rw [hd, chk, ← hp']
    unfold okI1
    by_cases c1 : m.1 < 0
    · refine ⟨σ.push (.cells 0 [[.int .i64 m.1, u]]), loopω_ofK (ev.trans ?_)⟩
      have : ¬ 0 ≤ m.1 := by omega
      simp only [c1, this, decide_true, decide_false, if_true, Bool.false_and, Bool.false_eq_true, if_false]
      all_goals rfl
    · by_cases c2 : m.1 ≥ 64
      · refine ⟨σ.push (.cells 0 [[.int .i64 m.1, u]]), loopω_ofK (ev.trans ?_)⟩
        have : ¬ m.1 ≤ 63 := by omega
        simp only [c1, c2, this, decide_true, decide_false, if_true, Bool.false_and, Bool.and_false, Bool.false_eq_true, if_false]
        all_goals rfl
      · have c1' : 0 ≤ m.1 := by omega
        have c2' : m.1 ≤ 63 := by omega
        by_cases c3 : m.2.length = 512
        · have c3' : (((m.2.length : Nat) : Int) != 512) = false := by simp [c3]
          have c3d : decide (m.2.length = 512) = true := by simp [c3]
          cases i with
          | zero =>
            refine ⟨τ, loopω_ofK (ev.trans ?_)⟩
            have hz : decide (((0 : Nat) : Int) > 0) = false := by decide
            simp only [c1, c2, c1', c2', c3d, c3', hz, decide_true, decide_false, Bool.true_and, Bool.false_eq_true, if_false, show prevOf g 0 = none from rfl]
          | succ j =>
            have hj := List.getElem?_eq_getElem (show j < g.length by omega)
            generalize g[j]'(by omega) = q at hj
            obtain ⟨u2, h2, hu2⟩ := idxI h hj
            have hsub : IntKind.wrap .i64 (((j + 1 : Nat) : Int) - 1) = ((j : Nat) : Int) := by rw [wrap_i64 (by omega) (by omega)]; omega
            have hgt : decide (((j + 1 : Nat) : Int) > 0) = true := by simp
            simp only [hsub, h2, faI0, ldInt, bind_some', asInt_int, hgt, if_true] at ev
            have hpv : prevOf g (j + 1) = some q.1 := by simp [prevOf, hj]
            by_cases c4 : m.1 ≤ q.1
            · refine ⟨σ.push (.cells 0 [[.int .i64 m.1, u]]), loopω_ofK (ev.trans ?_)⟩
              have : ¬ q.1 < m.1 := by omega
              simp only [c1, c2, c1', c2', c3d, c3', c4, hpv, this, decide_true, decide_false, Bool.true_and, Bool.false_and, Bool.false_eq_true, if_false, if_true]
              all_goals rfl
            · refine ⟨τ, loopω_ofK (ev.trans ?_)⟩
              have : q.1 < m.1 := by omega
              simp only [c1, c2, c1', c2', c3d, c3', c4, hpv, this, decide_true, decide_false, Bool.true_and, Bool.false_eq_true, if_false, if_true]
        · refine ⟨σ.push (.cells 0 [[.int .i64 m.1, u]]), loopω_ofK (ev.trans ?_)⟩
          have c3' : (((m.2.length : Nat) : Int) != 512) = true := by simp only [bne_iff_ne, ne_eq]; omega
          have c3d : decide (m.2.length = 512) = false := by simp [c3]
          simp only [c1, c2, c1', c2', c3d, c3', decide_true, decide_false, if_true, Bool.false_and, Bool.true_and, Bool.false_eq_true, if_false]
          all_goals rfl
theorem spCheck (h : IsS RI v g) (hl : g.length ≤ 1000000) : pureω cfg 11 [v] = some (.int .i64 (if may g = true then 0 else 1)) := by
  have ev := eq11 (callω cfg) (loopω cfg) .empty v
  obtain ⟨τ, h0⟩ := lpCheck h hl g.length 0 .empty (by omega)
  rw [natz, List.drop_zero] at h0
  simp only [h.len TI, bind_some', asInt_int, h0] at ev
  unfold may
  by_cases c1 : g.length < 1
  · have c1' : decide (((g.length : Nat) : Int) < 1) = true := by simp; omega
    have c1'' : ¬ 1 ≤ g.length := by omega
    simp only [c1', if_true] at ev
    simp only [c1'', decide_false, Bool.false_and, Bool.false_eq_true, if_false]
    exact pureω_of (hT _) ev rfl
  · have c1' : decide (((g.length : Nat) : Int) < 1) = false := by simp; omega
    have c1'' : 1 ≤ g.length := by omega
    by_cases c2 : g.length > 6
    · have c2' : decide (((g.length : Nat) : Int) > 6) = true := by simp; omega
      have c2'' : ¬ g.length ≤ 6 := by omega
      simp only [c1', c2', if_true, Bool.false_eq_true, if_false] at ev
      simp only [c1'', c2'', decide_false, Bool.false_and, Bool.and_false, Bool.false_eq_true, if_false]
      exact pureω_of (hT _) ev rfl
    · have c2' : decide (((g.length : Nat) : Int) > 6) = false := by simp; omega
      have c2'' : g.length ≤ 6 := by omega
      simp only [c1', c2', Bool.false_eq_true, if_false, show prevOf g 0 = none from rfl] at ev
      simp only [c1'', c2'', decide_true, Bool.true_and]
      cases hq : chk none g with
      | true =>
        simp only [hq, if_true, bind_some', onEx_exit] at ev
        exact pureω_of (hT _) ev rfl
      | false =>
        simp only [hq, if_false, Bool.false_eq_true, bind_some', onEx_ret, ret11_4_2, asInt_int] at ev
        exact pureω_of (hT _) ev rfl
theorem cECheck {c2 : Cfg} (hm : c2.mode 11 = .pure) (hP : c2.P = Try.prog) (h : QS RI σ 2 v g) (hl : g.length ≤ 1000000) : callE c2 (callω cfg) 11 [v] σ = some (.int .i64 (if may g = true then 0 else 1), σ) :=
  callE_pure hm (by rw [hP]; kernel_rfl) rfl (spCheck (h.frz okI 6) hl) (.inl rfl)

theorem lpMay (h : IsS RI v g) (hl : g.length ≤ 1000000) (σ : Store) : ∀ (k i : Nat), i + k = g.length →
    loopω cfg 12 lc12_2 (st12_2 v (i : Nat)) σ = some (if chk (prevOf g i) (g.drop i) = true then (.exit 0, out12_2 v, σ) else (.ret, ret12_2 false, σ))
  | 0, i, hi => by
    refine loopω_ofK ((lq12_2 _ _ _ _ _).trans ?_)
    simp only [h.len TI, bind_some', asInt_int, nltN (show g.length ≤ i by omega), Bool.false_eq_true, if_false]
    rw [List.drop_eq_nil_of_le (by omega)]
    rfl
  | k + 1, i, hi => by
    have hw := List.getElem?_eq_getElem (show i < g.length by omega)
    have hd : g.drop i = g[i]'(by omega) :: g.drop (i + 1) := (List.drop_eq_getElem_cons (by omega))
    generalize g[i]'(by omega) = m at hw hd
    obtain ⟨u, h1, hu⟩ := idxI h hw
    have ev := lq12_2 (callω cfg) (loopω cfg) σ v (i : Nat)
    simp only [h.len TI, ltN (show i < g.length by omega), if_true, h1, faI0, faI1, ldInt, ldtB, bind_some', asInt_int, hu.len TB, wrap_succ (show i < 4611686018427387904 by omega), lpMay h hl σ k (i + 1) (by omega)] at ev
    have hp' : prevOf g (i + 1) = some m.1 := by simp [prevOf, hw]
    refine loopω_ofK (ev.trans ?_)
    rw [hd, chk, ← hp']
    unfold okI1
    by_cases c1 : m.1 < 0
    · have : ¬ 0 ≤ m.1 := by omega
      simp only [c1, this, decide_true, decide_false, if_true, Bool.false_and, Bool.false_eq_true, if_false]
    · by_cases c2 : m.1 > 63
      · have : ¬ m.1 ≤ 63 := by omega
        simp only [c1, c2, this, decide_true, decide_false, if_true, Bool.false_and, Bool.and_false, Bool.false_eq_true, if_false]
      · have c1' : 0 ≤ m.1 := by omega
        have c2' : m.1 ≤ 63 := by omega
        by_cases c3 : m.2.length = 512
        · have c3' : (((m.2.length : Nat) : Int) != 512) = false := by simp [c3]
          have c3d : decide (m.2.length = 512) = true := by simp [c3]
          cases i with
          | zero =>
            have hz : decide (((0 : Nat) : Int) > 0) = false := by decide
            simp only [c1, c2, c1', c2', c3d, c3', hz, decide_true, decide_false, Bool.true_and, Bool.false_eq_true, if_false, show prevOf g 0 = none from rfl]
          | succ j =>
            have hj := List.getElem?_eq_getElem (show j < g.length by omega)
            generalize g[j]'(by omega) = q at hj
            obtain ⟨u2, h2, hu2⟩ := idxI h hj
            have hsub : IntKind.wrap .i64 (((j + 1 : Nat) : Int) - 1) = ((j : Nat) : Int) := by rw [wrap_i64 (by omega) (by omega)]; omega
            have hgt : decide (((j + 1 : Nat) : Int) > 0) = true := by simp
            have hpv : prevOf g (j + 1) = some q.1 := by simp [prevOf, hj]
            by_cases c4 : q.1 ≥ m.1
            · have : ¬ q.1 < m.1 := by omega
              simp only [hsub, h2, faI0, ldInt, bind_some', asInt_int, hgt, c1, c2, c1', c2', c3d, c3', c4, hpv, this, decide_true, decide_false, Bool.true_and, Bool.false_and, Bool.false_eq_true, if_false, if_true]
            · have : q.1 < m.1 := by omega
              simp only [hsub, h2, faI0, ldInt, bind_some', asInt_int, hgt, c1, c2, c1', c2', c3d, c3', c4, hpv, this, decide_true, decide_false, Bool.true_and, Bool.false_eq_true, if_false, if_true]
        · have c3' : (((m.2.length : Nat) : Int) != 512) = true := by simp only [bne_iff_ne, ne_eq]; omega
          have c3d : decide (m.2.length = 512) = false := by simp [c3]
          simp only [c1, c2, c1', c2', c3d, c3', decide_true, decide_false, if_true, Bool.false_and, Bool.true_and, Bool.false_eq_true, if_false]
theorem spMay (h : IsS RI v g) (hl : g.length ≤ 1000000) : pureω cfg 12 [v] = some (.bool (may g)) := by
  have ev := eq12 (callω cfg) (loopω cfg) .empty v
  have h0 := lpMay h hl .empty g.length 0 (by omega)
  rw [natz, List.drop_zero] at h0
  simp only [h0, show prevOf g 0 = none from rfl] at ev
  unfold may
  cases hq : chk none g with
  | true =>
    have e1 : decide (((g.length : Nat) : Int) ≥ 1) = decide (1 ≤ g.length) := by rw [decide_eq_decide]; omega
    have e2 : decide (((g.length : Nat) : Int) ≤ 6) = decide (g.length ≤ 6) := by rw [decide_eq_decide]; omega
    simp only [hq, if_true, bind_some', onEx_exit, out12_2_0, h.len TI, asInt_int, e1, e2] at ev
    rw [Bool.and_true]
    cases hq1 : decide (1 ≤ g.length) with
    | true => simp only [hq1, if_true] at ev; exact pureω_of (hT _) ev rfl
    | false => simp only [hq1, if_false, Bool.false_eq_true] at ev; exact pureω_of (hT _) ev rfl
  | false =>
    simp only [hq, if_false, Bool.false_eq_true, bind_some', onEx_ret, ret12_2_2, asBool_bool] at ev
    simp only [Bool.and_false]
    exact pureω_of (hT _) ev rfl
theorem cEMay {c2 : Cfg} (hm : c2.mode 12 = .pure) (hP : c2.P = Try.prog) (h : QS RI σ 2 v g) (hl : g.length ≤ 1000000) : callE c2 (callω cfg) 12 [v] σ = some (.bool (may g), σ) :=
  callE_pure hm (by rw [hP]; kernel_rfl) rfl (spMay (h.frz okI 6) hl) (.inl rfl)

theorem lpSame (h : IsS RI v g) (h' : IsS RI v' g') (hq : g.length = g'.length) (hl : g.length ≤ 1000000) (σ : Store) : ∀ (k i : Nat), i + k = g.length →
    loopω cfg 15 lc15_4 (st15_4 v v' (i : Nat)) σ = some (if g.drop i = g'.drop i then (.exit 0, out15_4, σ) else (.ret, ret15_4 false, σ))
  | 0, i, hi => by
    refine loopω_ofK ((lq15_4 _ _ _ _ _ _).trans ?_)
    simp only [h.len TI, bind_some', asInt_int, nltN (show g.length ≤ i by omega), Bool.false_eq_true, if_false]
    rw [List.drop_eq_nil_of_le (by omega), List.drop_eq_nil_of_le (by omega), if_pos rfl]
  | k + 1, i, hi => by
    refine loopω_ofK ((lq15_4 _ _ _ _ _ _).trans ?_)
    have hw := List.getElem?_eq_getElem (show i < g.length by omega)
    have hd : g.drop i = g[i]'(by omega) :: g.drop (i + 1) := (List.drop_eq_getElem_cons (by omega))
    have hw' := List.getElem?_eq_getElem (show i < g'.length by omega)
    have hd' : g'.drop i = g'[i]'(by omega) :: g'.drop (i + 1) := (List.drop_eq_getElem_cons (by omega))
    generalize g[i]'(by omega) = m at hw hd
    generalize g'[i]'(by omega) = m' at hw' hd'
    obtain ⟨u, h1, hu⟩ := idxI h hw
    obtain ⟨u', h1', hu'⟩ := idxI h' hw'
    simp only [h.len TI, ltN (show i < g.length by omega), if_true, h1, h1', faI0, faI1, ldInt, ldtB, bind_some', asInt_int, asStr_str, asBool_bool, hu.str uStr TB uB, hu'.str uStr TB uB, strNe, wrap_succ (show i < 4611686018427387904 by omega), lpSame h h' hq hl σ k (i + 1) (by omega)]
    rw [hd, hd']
    obtain ⟨p, b⟩ := m
    obtain ⟨p', b'⟩ := m'
    by_cases c1 : p = p'
    · have c1' : (p != p') = false := by simp [c1]
      by_cases c2 : b = b'
      · have c2' : (b == b') = true := by simpa using c2
        simp [c1, c2]
      · have c2' : (b == b') = false := by simpa using c2
        simp [c1, c2]
    · simp [c1]
theorem spSame (h : IsS RI v g) (h' : IsS RI v' g') (hl : g.length ≤ 1000000) : pureω cfg 15 [v, v'] = some (.bool (decide (g = g'))) := by
  have ev := eq15 (callω cfg) (loopω cfg) .empty v v'
  simp only [h.len TI, h'.len TI, bind_some', asInt_int] at ev
  by_cases hq : g.length = g'.length
  · have h0 := lpSame h h' hq hl .empty g.length 0 (by omega)
    rw [natz, List.drop_zero, List.drop_zero] at h0
    simp only [hq, bne_self_eq_false, Bool.false_eq_true, if_false, h0] at ev
    by_cases e : g = g'
    · simp only [e, if_true, bind_some', onEx_exit] at ev
      simp only [e, decide_true]
      exact pureω_of (hT _) ev rfl
    · simp only [e, if_false, bind_some', onEx_ret, ret15_4_4, asBool_bool] at ev
      simp only [e, decide_false]
      exact pureω_of (hT _) ev rfl
  · have : (((g.length : Nat) : Int) != ((g'.length : Nat) : Int)) = true := by simp only [bne_iff_ne, ne_eq]; omega
    have e : ¬ g = g' := fun e => hq (by rw [e])
    simp only [this, if_true] at ev
    simp only [e, decide_false]
    exact pureω_of (hT _) ev rfl
theorem cESame {c2 : Cfg} (hm : c2.mode 15 = .pure) (hP : c2.P = Try.prog) (h : QS RI σ 2 v g) (h' : QS RI σ 2 v' g') (hl : g.length ≤ 1000000) : callE c2 (callω cfg) 15 [v, v'] σ = some (.bool (decide (g = g')), σ) :=
  callE_pure hm (by rw [hP]; kernel_rfl) rfl (spSame (h.frz okI 6) (h'.frz okI 6) hl) (.inl rfl)
end
end Go.Pvm.S
