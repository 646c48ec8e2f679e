/- Part of the proof: the theorem of waiting: what the program comes to. -/
import Derived.Test.YtmmjkeiophcjcaaWaitN
set_option linter.unusedSimpArgs false
set_option linter.unusedVariables false
set_option maxRecDepth 100000
namespace Go.Pvm.Wait
open Go.Pvm Go.Proofs

/-! ### Plain -/
def freeF (l : List W) : Int → List W → Int
  | f, [] => f
  | f, w :: r => freeF l (if (nx l w.2).getD 0 = 0 then w.2 else f) r
theorem freeF_mem (l : List W) : ∀ (r : List W) (f : Int), freeF l f r = f ∨ ∃ w ∈ r, freeF l f r = w.2 ∧ (nx l w.2).getD 0 = 0
  | [], f => .inl rfl
  | w :: r, f => by
    rw [freeF]
    by_cases h : (nx l w.2).getD 0 = 0
    · rw [if_pos h]
      rcases freeF_mem l r w.2 with e | ⟨v, hv, e⟩
      · exact .inr ⟨w, .head _, e, h⟩
      · exact .inr ⟨v, .tail _ hv, e⟩
    · rw [if_neg h]
      rcases freeF_mem l r f with e | ⟨v, hv, e⟩
      · exact .inl e
      · exact .inr ⟨v, .tail _ hv, e⟩
theorem freeF_some (l : List W) : ∀ (r : List W) (f : Int) (w : W), w ∈ r → (nx l w.2).getD 0 = 0 → ∃ v ∈ r, freeF l f r = v.2 ∧ (nx l v.2).getD 0 = 0
  | [], f, w, h, _ => by cases h
  | x :: r, f, w, h, hw => by
    rw [freeF]
    rcases List.mem_cons.1 h with rfl | h
    · rw [if_pos hw]
      rcases freeF_mem l r w.2 with e | ⟨v, hv, e⟩
      · exact ⟨w, .head _, e, hw⟩
      · exact ⟨v, .tail _ hv, e⟩
    · obtain ⟨v, hv, e⟩ := freeF_some l r (if (nx l x.2).getD 0 = 0 then x.2 else f) w h hw
      exact ⟨v, .tail _ hv, e⟩
/-- Whoever is free: somebody waits for him, and he is a number that may be. -/
theorem freeF_good {l : List W} (g : Good l) (hne : l ≠ []) : ∃ w ∈ l, freeF l 0 l = w.2 ∧ 1 ≤ freeF l 0 l := by
  obtain ⟨w, hw, hn⟩ := good_end g hne
  obtain ⟨v, hv, e, _⟩ := freeF_some l l 0 w hw (by rw [hn]; rfl)
  refine ⟨v, hv, e, ?_⟩
  have := (g.rng v hv).2
  unfold inR at this
  simp at this
  rw [e]; exact this.1
def dropAll (l : List W) (who : List Int) : List W := who.foldl dropW l
theorem dropAll_good : ∀ (who : List Int) {l : List W}, Good l → Good (dropAll l who) ∧ (dropAll l who).length ≤ l.length
  | [], l, g => ⟨g, Nat.le_refl _⟩
  | x :: who, l, g => by
    have h1 : Good (dropW l x) := good_filter g _
    have h2 : (dropW l x).length ≤ l.length := List.length_filter_le _ _
    obtain ⟨k1, k2⟩ := dropAll_good who h1
    exact ⟨k1, Nat.le_trans k2 h2⟩
theorem dropAll_less {l : List W} (g : Good l) {w : W} (hw : w ∈ l) : (dropAll l (onW l w.2)).length < l.length := by
  have hm : w.1 ∈ onW l w.2 := List.mem_map.2 ⟨w, List.mem_filter.2 ⟨hw, by simp⟩, rfl⟩
  cases ho : onW l w.2 with
  | nil => rw [ho] at hm; cases hm
  | cons x r =>
    have hx : x ∈ onW l w.2 := by rw [ho]; exact .head _
    obtain ⟨v, hv, rfl⟩ := List.mem_map.1 hx
    have h1 : (dropAll l (v.1 :: r)).length ≤ (dropW l v.1).length := (dropAll_good r (good_filter g _)).2
    refine Nat.lt_of_le_of_lt h1 ?_
    unfold dropW
    rw [List.length_filter_lt_length_iff_exists]
    exact ⟨v, (List.mem_filter.1 hv).1, by simp⟩

/-! ### The program -/
/-- Waits, read only; or none, in the store. -/
def IsV (σ : Store) (v : PV) (l : List W) : Prop := IsW v l ∨ (l = [] ∧ ∃ id cap ro, v = .lsl id 2 0 0 cap ∧ σ.objs id = some (.cells ro []))
section
variable {v : PV} {l : List W} {σ τ : Store}
theorem IsV.rl (h : IsV σ v l) (r : Rl σ τ) : IsV τ v l := by
  rcases h with h | ⟨rfl, id, cap, ro, rfl, ho⟩
  · exact .inl h
  · refine .inr ⟨rfl, id, cap, ?_⟩
    rcases r.2 id with e | ⟨ro', es, e1, e2⟩
    · exact ⟨ro, rfl, e.trans ho⟩
    · rw [ho] at e1; cases e1; exact ⟨_, rfl, e2⟩
theorem IsV.len (h : IsV σ v l) : pureB Try.prog .len [22] [v] = some (.int .i64 (l.length : Nat)) := by
  rcases h with h | ⟨rfl, id, cap, ro, rfl, ho⟩
  · exact h.len
  · exact len_lsl u22 _ _ _ _ _
theorem IsV.frz (h : IsV σ v l) : IsW (fz fuelFz σ v) l := by
  rcases h with h | ⟨rfl, id, cap, ro, rfl, ho⟩
  · rw [h.frz]; exact h
  · exact .inr ⟨_, (frz_lsl ho (Nat.le_refl _) 7)⟩
theorem IsV.lfs (h : IsV σ v l) (a : List PV) (ha : tops.topss a = []) : ∀ id ∈ tops.topss (v :: a), Lf σ id := by
  intro id hid
  rcases h with h | ⟨rfl, id', cap, ro, rfl, ho⟩
  · have : tops v = [] := h.p.tops
    simp [tops.topss, this, ha] at hid
  · simp [tops.topss, tops, ha] at hid
    subst hid
    exact ⟨ro, [], ho, rfl⟩
theorem cE6V (h : IsV σ v l) (a b : Int) (hl : l.length < 4611686018427387904) : ∃ v' τ, callE cfg (callω cfg) 6 [v, .int .i64 a, .int .i64 b] σ = some (.tuple [v', .int .i64 (addW l a b).2], τ) ∧ IsW v' (addW l a b).1 ∧ Rl σ τ := by
  obtain ⟨v', h1, h2⟩ := sp6 h.frz a b hl
  obtain ⟨τ, h3, h4⟩ := callQ (c2 := cfg) (f := 6) (args := [v, .int .i64 a, .int .i64 b]) (σ := σ) rfl rfl en6 rfl h1 (h.lfs _ rfl)
  exact ⟨v', τ, h3, h2, h4⟩
theorem cE14V (h : IsV σ v l) (n : Int) (hl : l.length ≤ 1000000) : ∃ v' τ, callE cfg (callω cfg) 14 [v, .int .i64 n] σ = some (v', τ) ∧ IsW v' (dropW l n) ∧ Rl σ τ := by
  obtain ⟨v', h1, h2⟩ := sp14 h.frz n hl
  obtain ⟨τ, h3, h4⟩ := callQ (c2 := cfg) (f := 14) (args := [v, .int .i64 n]) (σ := σ) rfl rfl en14 rfl h1 (h.lfs _ rfl)
  exact ⟨v', τ, h3, h2, h4⟩
theorem cE14 (h : IsW v l) (n : Int) (hl : l.length ≤ 1000000) (σ : Store) : ∃ v', callE cfg (callω cfg) 14 [v, .int .i64 n] σ = some (v', σ) ∧ IsW v' (dropW l n) := by
  obtain ⟨v', h1, h2⟩ := sp14 h n hl
  exact ⟨v', callE_pure rfl en14 (by simp only [List.map_cons, List.map_nil, h.frz, frz_int]) h1 (.inr (by simp [PV.lf.lfs, PV.lf, h.lf])), h2⟩
theorem cE16 (h : IsW v l) (n : Int) (hl : l.length ≤ 1000000) (σ : Store) : ∃ v', callE cfg (callω cfg) 16 [v, .int .i64 n] σ = some (v', σ) ∧ IsP v' ((onW l n).map cI) := by
  obtain ⟨v', h1, h2⟩ := sp16 h n hl
  exact ⟨v', callE_pure rfl en16 (by simp only [List.map_cons, List.map_nil, h.frz, frz_int]) h1 (.inr (by simp [PV.lf.lfs, PV.lf, h.lf])), h2⟩

/-- Whoever begins to wait and ends. -/
def cU (p : Int × Int) : List PV := [.int .u8 p.1, .int .u8 p.2]
theorem u33 : Try.prog.underlying 33 = some (.slice 34) := by kernel_rfl
theorem s34 : szOf Try.prog 34 = some 2 := by kernel_rfl
theorem mod10 {x : Int} (h : 0 ≤ x ∧ x ≤ 255) : IntKind.wrap .i64 (1 + IntKind.wrap .i64 (Int.tmod x 10)) = 1 + x % 10 := by
  rw [Int.tmod_eq_emod_of_nonneg h.1, wrap_i64 (x := x % 10) (by omega) (by omega), wrap_i64 (by omega) (by omega)]
theorem lp5a {a0 : PV} {ps : List (Int × Int)} (ha : IsP a0 (ps.map cU)) (hr : ∀ p ∈ ps, (0 ≤ p.1 ∧ p.1 ≤ 255) ∧ (0 ≤ p.2 ∧ p.2 ≤ 255)) (hpl : ps.length < 4611686018427387904) : ∀ (k i : Nat) (v : PV) (l : List W) (σ : Store), i + k = ps.length → IsV σ v l → Good l →
    ∃ v' l' τ, loopω cfg 5 lc5_3 (st5_3 a0 v (i : Nat)) σ = some (.exit 0, out5_3 v', τ) ∧ IsV τ v' l' ∧ Good l'
  | 0, i, v, l, σ, hi, hv, g => by
    refine ⟨v, l, σ, loopω_ofK ((lq5_3 _ _ _ _ _ _).trans ?_), hv, g⟩
    simp only [ha.len u33, List.length_map, bind_some', asInt_int, nltN (show ps.length ≤ i by omega), Bool.false_eq_true, if_false]
  | k + 1, i, v, l, σ, hi, hv, g => by
    have ev := lq5_3 (callω cfg) (loopω cfg) σ a0 v (i : Nat)
    by_cases h100 : ((i : Nat) : Int) < 100
    · have hw := List.getElem?_eq_getElem (show i < ps.length by omega)
      generalize hp : ps[i]'(by omega) = p at hw
      obtain ⟨r1, r2⟩ := hr p (List.mem_of_getElem? hw)
      have hw' : (ps.map cU)[i]? = some (cU p) := by rw [List.getElem?_map, hw]; rfl
      have i0 : ∀ a b : PV, indexAddrv Try.prog 34 (.pref [a, b]) (.int .i64 0) = some (.pref [a, b]) := by intro a b; kernel_rfl
      have i1 : ∀ a b : PV, indexAddrv Try.prog 34 (.pref [a, b]) (.int .i64 1) = some (.pref [b]) := by intro a b; kernel_rfl
      have i0' : indexAddrv Try.prog 34 (.pref (cU p)) (.int .i64 0) = some (.pref (cU p)) := i0 _ _
      have i1' : indexAddrv Try.prog 34 (.pref (cU p)) (.int .i64 1) = some (.pref [.int .u8 p.2]) := i1 _ _
      have l5 : ∀ (σ : Store) (c : PV) (r : List PV), loadv Try.prog σ 5 (.pref (c :: r)) = some c := by intro σ c r; kernel_rfl
      have l5' : ∀ σ, loadv Try.prog σ 5 (.pref (cU p)) = some (.int .u8 p.1) := fun σ => l5 σ _ _
      simp only [ha.len u33, List.length_map, ha.idx u33 s34 hw' rfl, i0', i1', l5', l5, bind_some', asInt_int, ltN (show i < ps.length by omega), h100, decide_true, if_true, mod10 r1, mod10 r2, wrap_succ (show i < 4611686018427387904 by omega)] at ev
      have hlen := g.len
      by_cases h200 : p.1 > 200
      · obtain ⟨v1, τ1, e1, w1, rl1⟩ := cE14V hv (1 + p.1 % 10) (by omega)
        simp only [h200, decide_true, if_true, e1, bind_some'] at ev
        obtain ⟨v2, l2, τ2, e2, w2⟩ := lp5a ha hr hpl k (i + 1) v1 (dropW l (1 + p.1 % 10)) τ1 (by omega) (.inl w1) (good_filter g _)
        exact ⟨v2, l2, τ2, loopω_ofK (ev.trans e2), w2⟩
      · obtain ⟨v1, τ1, e1, w1, rl1⟩ := cE6V hv (1 + p.1 % 10) (1 + p.2 % 10) (by omega)
        simp only [h200, decide_false, Bool.false_eq_true, if_false, e1, bind_some', tupv_0, tupv_1, asInt_int] at ev
        by_cases h0 : (addW l (1 + p.1 % 10) (1 + p.2 % 10)).2 = 0
        · have h0' : ((addW l (1 + p.1 % 10) (1 + p.2 % 10)).2 == 0) = true := by simpa using h0
          simp only [h0', if_true] at ev
          have ga : Good (addW l (1 + p.1 % 10) (1 + p.2 % 10)).1 := (good_iff _).1 (check_add ((good_iff _).2 g) (by unfold inR; simp; omega) (by unfold inR; simp; omega))
          obtain ⟨v2, l2, τ2, e2, w2⟩ := lp5a ha hr hpl k (i + 1) v1 _ τ1 (by omega) (.inl w1) ga
          exact ⟨v2, l2, τ2, loopω_ofK (ev.trans e2), w2⟩
        · have h0' : ((addW l (1 + p.1 % 10) (1 + p.2 % 10)).2 == 0) = false := by simpa using h0
          simp only [h0', Bool.false_eq_true, if_false] at ev
          obtain ⟨v2, l2, τ2, e2, w2⟩ := lp5a ha hr hpl k (i + 1) v l τ1 (by omega) (hv.rl rl1) g
          exact ⟨v2, l2, τ2, loopω_ofK (ev.trans e2), w2⟩
    · refine ⟨v, l, σ, loopω_ofK (ev.trans ?_), hv, g⟩
      simp only [ha.len u33, List.length_map, bind_some', asInt_int, ltN (show i < ps.length by omega), h100, decide_false, if_true, Bool.false_eq_true, if_false]

/-- Who waits for nobody. -/
theorem lp5c (h : IsW v l) (hl : l.length < 4611686018427387904) (n r : Int) (σ : Store) : ∀ (k i : Nat) (f : Int), i + k = l.length →
    loopω cfg 5 lc5_17 (st5_17 v n r f (i : Nat)) σ = some (.exit 4, out5_17 v n r (freeF l f (l.drop i)), σ)
  | 0, i, f, hi => by
    refine loopω_ofK ((lq5_17 _ _ _ _ _ _ _ _).trans ?_)
    simp only [h.len, bind_some', asInt_int, nltN (show l.length ≤ i by omega), Bool.false_eq_true, if_false]
    rw [List.drop_eq_nil_of_le (by omega)]
    rfl
  | k + 1, i, f, hi => by
    refine loopω_ofK ((lq5_17 _ _ _ _ _ _ _ _).trans ?_)
    have hw := List.getElem?_eq_getElem (show i < l.length by omega)
    have hd : l.drop i = l[i]'(by omega) :: l.drop (i + 1) := (List.drop_eq_getElem_cons (by omega))
    simp only [h.len, bind_some', asInt_int, ltN (show i < l.length by omega), if_true, h.idx hw, fa1, ld3, cE15 h _ hl, wrap_succ (show i < 4611686018427387904 by omega)]
    rw [hd, freeF]
    by_cases hb : (nx l (l[i]'(by omega)).2).getD 0 = 0
    · have hb' : ((nx l (l[i]'(by omega)).2).getD 0 == 0) = true := by simpa using hb
      simp only [hb', if_true, hb]
      exact lp5c h hl n r σ k (i + 1) _ (by omega)
    · have hb' : ((nx l (l[i]'(by omega)).2).getD 0 == 0) = false := by simpa using hb
      simp only [hb', Bool.false_eq_true, if_false, hb]
      exact lp5c h hl n r σ k (i + 1) _ (by omega)

/-- Those who waited for somebody end. -/
theorem lp5d {w : PV} {who : List Int} (hw : IsP w (who.map cI)) (hwl : who.length < 4611686018427387904) (n r : Int) (σ : Store) : ∀ (k i : Nat) (v : PV) (l : List W), i + k = who.length → IsW v l → l.length ≤ 1000000 →
    ∃ v', loopω cfg 5 lc5_25 (st5_25 v n r w (i : Nat)) σ = some (.exit 6, out5_25 v' n r, σ) ∧ IsW v' (dropAll l (who.drop i))
  | 0, i, v, l, hi, h, hl => by
    refine ⟨v, loopω_ofK ((lq5_25 _ _ _ _ _ _ _ _).trans ?_), ?_⟩
    · simp only [hw.len u39, List.length_map, bind_some', asInt_int, nltN (show who.length ≤ i by omega), Bool.false_eq_true, if_false]
    · rw [List.drop_eq_nil_of_le (by omega)]; exact h
  | k + 1, i, v, l, hi, h, hl => by
    have hx := List.getElem?_eq_getElem (show i < who.length by omega)
    have hx' : (who.map cI)[i]? = some (cI (who[i]'(by omega))) := by rw [List.getElem?_map, hx]; rfl
    have hd : who.drop i = who[i]'(by omega) :: who.drop (i + 1) := (List.drop_eq_getElem_cons (by omega))
    have ld : ∀ σ x, loadv Try.prog σ 3 (.pref (cI x)) = some (.int .i64 x) := fun σ x => ld3 σ _ _
    obtain ⟨v1, e1, w1⟩ := cE14 h (who[i]'(by omega)) hl σ
    have hl1 : (dropW l (who[i]'(by omega))).length ≤ l.length := List.length_filter_le _ _
    obtain ⟨v2, e2, w2⟩ := lp5d hw hwl n r σ k (i + 1) v1 _ (by omega) w1 (by omega)
    refine ⟨v2, loopω_ofK ((lq5_25 _ _ _ _ _ _ _ _).trans ?_), ?_⟩
    · simp only [hw.len u39, List.length_map, bind_some', asInt_int, ltN (show i < who.length by omega), if_true, hw.idx u39 (by kernel_rfl) hx' rfl, ld, e1, wrap_succ (show i < 4611686018427387904 by omega), e2]
    · rw [hd]; exact w2

theorem lp5b {n : Nat} (hn : n < 4611686018427387904) (σ : Store) : ∀ (k i : Nat) (v : PV) (l : List W), i + k = n → IsV σ v l → Good l → l.length ≤ k →
    ∃ v', loopω cfg 5 lc5_13 (st5_13 v (n : Nat) (i : Nat)) σ = some (.exit 2, out5_13 v', σ) ∧ IsV σ v' []
  | 0, i, v, l, hi, h, g, hl => by
    have hl0 : l = [] := List.length_eq_zero_iff.1 (by omega)
    subst hl0
    refine ⟨v, loopω_ofK ((lq5_13 _ _ _ _ _ _).trans ?_), h⟩
    simp only [nltN (show n ≤ i by omega), Bool.false_eq_true, if_false]
  | k + 1, i, v, l, hi, h, g, hl => by
    have ev := lq5_13 (callω cfg) (loopω cfg) σ v (n : Nat) (i : Nat)
    by_cases hl0 : l = []
    · subst hl0
      refine ⟨v, loopω_ofK (ev.trans ?_), h⟩
      simp only [ltN (show i < n by omega), if_true, h.len, bind_some', asInt_int]
      rfl
    · have hpos : 0 < l.length := List.length_pos_iff.2 hl0
      have hv : IsW v l := by
        rcases h with h | ⟨e, _⟩
        · exact h
        · exact absurd e hl0
      have hlen := g.len
      obtain ⟨w, hw, hf, hf1⟩ := freeF_good g hl0
      have hc := lp5c hv (by omega) (n : Nat) (i : Nat) σ l.length 0 0 (by omega)
      rw [natz, List.drop_zero] at hc
      have hgt : decide (((l.length : Nat) : Int) > 0) = true := by simp; omega
      have hfz : (freeF l 0 l == 0) = false := by rw [beq_eq_false_iff_ne]; omega
      obtain ⟨u, e1, w1⟩ := cE16 hv (freeF l 0 l) (by omega) σ
      have hwho : (onW l (freeF l 0 l)).length ≤ 64 := by
        unfold onW
        rw [List.length_map]
        exact Nat.le_trans (List.length_filter_le _ _) hlen
      obtain ⟨v2, e2, w2⟩ := lp5d w1 (by omega) (n : Nat) (i : Nat) σ (onW l (freeF l 0 l)).length 0 v l (by omega) hv (by omega)
      rw [natz] at e2
      rw [List.drop_zero] at w2
      simp only [ltN (show i < n by omega), if_true, h.len, bind_some', asInt_int, hgt, hc, onEx_exit, out5_17_3, out5_17_9, out5_17_10, out5_17_11, hfz, Bool.false_eq_true, if_false, e1, e2, out5_25_3, out5_25_9, out5_25_10, wrap_succ (show i < 4611686018427387904 by omega)] at ev
      rw [hf] at w2
      have hless := dropAll_less g hw
      obtain ⟨v3, e3, w3⟩ := lp5b hn σ k (i + 1) v2 _ (by omega) (.inl w2) (dropAll_good (onW l w.2) g).1 (by omega)
      exact ⟨v3, loopω_ofK (ev.trans e3), w3⟩

theorem sp5 {a0 : PV} {ps : List (Int × Int)} (ha : IsP a0 (ps.map cU)) (hr : ∀ p ∈ ps, (0 ≤ p.1 ∧ p.1 ≤ 255) ∧ (0 ≤ p.2 ∧ p.2 ≤ 255)) (hpl : ps.length < 4611686018427387904) : ∃ σ', callω cfg 5 [a0] .empty = some (.bool true, σ') := by
  have ev := eq5 (callω cfg) (loopω cfg) .empty a0
  have hn : Store.empty.next = 0 := rfl
  obtain ⟨v1, l1, τ1, e1, w1, g1⟩ := lp5a ha hr hpl ps.length 0 (.lsl Store.empty.next 2 0 0 (some 0)) [] (Store.push .empty (.cells 0 [])) (by omega) (.inr ⟨rfl, _, _, 0, rfl, push_obj _ _⟩)
    ⟨by simp, by simp, by simp, by simp⟩
  rw [natz] at e1
  have hlen := g1.len
  obtain ⟨v2, e2, w2⟩ := lp5b (n := l1.length) (by omega) τ1 l1.length 0 v1 l1 (by omega) w1 g1 (Nat.le_refl _)
  rw [natz] at e2
  have hz : ((([] : List W).length : Nat) : Int) = 0 := rfl
  simp only [bs0, bind_some', e1, onEx_exit, if_true, out5_3_3, w1.len, asInt_int, e2, out5_13_3, w2.len, hz, beq_self_eq_true, cE7, asBool_bool] at ev
  exact ⟨_, callω_ofK hT ev⟩
end
/-- What a row's argument is: pairs of bytes. -/
theorem wt_pairs {n : Nat} (es : List (List PV)) (h : ∀ c ∈ es, c.length = Try.prog.cellsOf 34 ∧ WT Try.prog false n 34 c) : ∃ l : List (Int × Int), es = l.map cU ∧ ∀ p ∈ l, (0 ≤ p.1 ∧ p.1 ≤ 255) ∧ (0 ≤ p.2 ∧ p.2 ≤ 255) :=
  each_map (enc := cU) es fun c hc => by
    have ht : Try.prog.underlying 34 = some (.array 2 5) := by kernel_rfl
    obtain ⟨m, parts, rfl, hp, hf⟩ := wt_array ht (h c hc).2
    have h5 : Try.prog.underlying 5 = some (.int .u8) := by kernel_rfl
    match parts, hp with
    | [p, q], _ =>
      obtain ⟨x, rfl, x1, x2⟩ := wt_int h5 (hf p (.head _)).2
      obtain ⟨y, rfl, y1, y2⟩ := wt_int h5 (hf q (.tail _ (.head _))).2
      exact ⟨(x, y), rfl, ⟨x1, x2⟩, ⟨y1, y2⟩⟩
end Go.Pvm.Wait
