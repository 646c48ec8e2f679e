/- Part of the proof: lists of waits: 'leads', 'Check'. -/
import Derived.Test.YtmmjkeiophcjcaaWaitA
set_option linter.unusedSimpArgs false
set_option linter.unusedVariables false
set_option maxRecDepth 100000
namespace Go.Pvm.Wait
open Go.Pvm Go.Proofs

/-- One step behind another, at most as often as told: 'none': it was not told. -/
def leadsR (l : List W) (b : Int) : Nat → Int → Option Bool
  | 0, _ => none
  | k + 1, a => if a = b then some true else match at_ l a with
    | none => some false
    | some j => leadsR l b k ((l.getD j (0, 0)).2)
def leads (l : List W) (a b : Int) : Bool := (leadsR l b (l.length + 1) a).getD false

theorem at_lt {l : List W} {n : Int} {j : Nat} (h : at_ l n = some j) : j < l.length := by
  unfold at_ at h
  rw [List.findIdx?_eq_some_iff_getElem] at h
  exact h.1

section
variable {v : PV} {l : List W} {σ : Store}
theorem cE19 {c2 : Cfg} (hm : c2.mode 19 = .pure) (hP : c2.P = Try.prog) (h : IsW v l) (n : Int) (hl : l.length < 4611686018427387904) (σ : Store) : callE c2 (callω cfg) 19 [v, .int .i64 n] σ = some (.int .i64 (idxI (at_ l n)), σ) :=
  callE_pure hm (by rw [hP]; exact en19) (by simp only [List.map_cons, List.map_nil, h.frz, frz_int]) (sp19 h n hl) (.inl rfl)

theorem lp20 (h : IsW v l) (b : Int) (hl : l.length < 4611686018427387904) (σ : Store) : ∀ (k i : Nat) (a : Int), i + k = l.length + 1 →
    loopω cfg 20 lc20_2 (st20_2 v a b ((l.length + 1 : Nat) : Int) (i : Nat)) σ = some (match leadsR l b k a with | some r => (.ret, ret20_2 r, σ) | none => (.exit 0, out20_2, σ))
  | 0, i, a, hi => by
    refine loopω_ofK ((lq20_2 _ _ _ _ _ _ _ _).trans ?_)
    have : ¬ ((i : Nat) : Int) < ((l.length + 1 : Nat) : Int) := by omega
    simp only [this, decide_false, Bool.false_eq_true, if_false]
    rfl
  | k + 1, i, a, hi => by
    refine loopω_ofK ((lq20_2 _ _ _ _ _ _ _ _).trans ?_)
    have hlt : ((i : Nat) : Int) < ((l.length + 1 : Nat) : Int) := by omega
    simp only [hlt, decide_true, if_true]
    unfold leadsR
    by_cases hab : a = b
    · simp only [hab, beq_self_eq_true, if_true]
    · have hab' : (a == b) = false := by simpa using hab
      simp only [hab', hab, Bool.false_eq_true, if_false, cE19 (c2 := cfg) rfl rfl h a hl, bind_some', asInt_int]
      cases hat : at_ l a with
      | none => simp [idxI]
      | some j =>
        have hj := at_lt hat
        have hw := List.getElem?_eq_getElem hj
        have hneg : ¬ ((j : Nat) : Int) < 0 := by omega
        simp only [idxI, hneg, decide_false, Bool.false_eq_true, if_false, h.idx hw, fa1, ld3, bind_some', asInt_int]
        have hwr : IntKind.wrap .i64 (((i : Nat) : Int) + 1) = ((i + 1 : Nat) : Int) := by rw [wrap_i64 (by omega) (by omega)]; rfl
        rw [hwr, lp20 h b hl σ k (i + 1) _ (by omega)]
        have : l.getD j (0, 0) = l[j] := by rw [List.getD_eq_getElem?_getD, hw]; rfl
        rw [this]

theorem sp20 (h : IsW v l) (a b : Int) (hl : l.length < 4611686018427387904) : pureω cfg 20 [v, .int .i64 a, .int .i64 b] = some (.bool (leads l a b)) := by
  refine pureω_of hT (v := .bool (leads l a b)) (τ := .empty) ((eq20 _ _ _ _ _ _).trans ?_) rfl
  have hwr : IntKind.wrap .i64 (((l.length : Nat) : Int) + 1) = ((l.length + 1 : Nat) : Int) := by rw [wrap_i64 (by omega) (by omega)]; rfl
  have h0 := lp20 h b hl .empty (l.length + 1) 0 a (by omega)
  have hz : ((0 : Nat) : Int) = 0 := rfl
  rw [hz] at h0
  simp only [h.len, bind_some', asInt_int, hwr, h0]
  unfold leads
  cases leadsR l b (l.length + 1) a with
  | none => simp only [onEx_exit]; rfl
  | some r => simp only [onEx_ret, ret20_2_6, asBool_bool]; rfl

theorem cE20 {c2 : Cfg} (hm : c2.mode 20 = .pure) (hP : c2.P = Try.prog) (h : IsW v l) (a b : Int) (hl : l.length < 4611686018427387904) (σ : Store) : callE c2 (callω cfg) 20 [v, .int .i64 a, .int .i64 b] σ = some (.bool (leads l a b), σ) :=
  callE_pure hm (by rw [hP]; exact en20) (by simp only [List.map_cons, List.map_nil, h.frz, frz_int]) (sp20 h a b hl) (.inl rfl)

def inR (n : Int) : Bool := decide (1 ≤ n) && decide (n ≤ 2147483647)
theorem sp17 (n : Int) : pureω cfg 17 [.int .i64 n] = some (.bool (inR n)) := by
  refine pureω_of hT (v := .bool (inR n)) (τ := .empty) ((eq17 _ _ _ _).trans ?_) rfl
  unfold inR
  by_cases h : 1 ≤ n
  · simp [h]
  · simp [h]
theorem cE17 {c2 : Cfg} (hm : c2.mode 17 = .pure) (hP : c2.P = Try.prog) (n : Int) (σ : Store) : callE c2 (callω cfg) 17 [.int .i64 n] σ = some (.bool (inR n), σ) :=
  callE_pure hm (by rw [hP]; exact en17) rfl (sp17 n) (.inl rfl)

/-- A new variable that has been written. -/
def nv (σ : Store) (w : W) : Store := (Store.push σ (.cells 0 [[.int .i64 0, .int .i64 0]])).put σ.next (.cells 0 [cW w])
theorem nv_obj (σ : Store) (w : W) : (nv σ w).objs σ.next = some (.cells 0 [cW w]) := by simp [nv, Store.put]
theorem stNew (σ : Store) (w : W) : storev Try.prog (Store.push σ (.cells 0 [[.int .i64 0, .int .i64 0]])) 38 (.ref (Store.next σ) 0 0) (.agg (cW w)) = some (nv σ w) := by
  have h : (Store.push σ (.cells 0 [[.int .i64 0, .int .i64 0]])).objs σ.next = some (.cells 0 [[.int .i64 0, .int .i64 0]]) := by simp [Store.push]
  have h2 : szOf Try.prog 38 = some 2 := by kernel_rfl
  simp only [storev, h, h2, List.getElem?_cons_zero, bind_some']
  rfl
theorem ldv0 (σ : Store) (w : W) : loadv Try.prog (nv σ w) 3 (.ref (Store.next σ) 0 (0 + 0)) = some (.int .i64 w.1) := by
  have h2 : ∀ a b : PV, partOf Try.prog 3 [a, b] (0 + 0) = some a := by intro a b; kernel_rfl
  simp only [loadv, nv_obj, List.getElem?_cons_zero, bind_some']
  exact h2 _ _
theorem ldv1 (σ : Store) (w : W) : loadv Try.prog (nv σ w) 3 (.ref (Store.next σ) 0 (0 + 1)) = some (.int .i64 w.2) := by
  have h2 : ∀ a b : PV, partOf Try.prog 3 [a, b] (0 + 1) = some b := by intro a b; kernel_rfl
  simp only [loadv, nv_obj, List.getElem?_cons_zero, bind_some']
  exact h2 _ _
theorem ldv38 (σ : Store) (w : W) : loadv Try.prog (nv σ w) 38 (.ref (Store.next σ) 0 0) = some (.agg (cW w)) := by
  have h2 : ∀ a b : PV, partOf Try.prog 38 [a, b] 0 = some (.agg [a, b]) := by intro a b; kernel_rfl
  simp only [loadv, nv_obj, List.getElem?_cons_zero, bind_some']
  exact h2 _ _

def okAt (l : List W) (i : Nat) (w : W) : Bool := inR w.1 && (inR w.2 && (decide (at_ l w.1 = some i) && !leads l w.2 w.1))
def ckF (l : List W) : Nat → List W → Bool
  | _, [] => true
  | i, w :: r => okAt l i w && ckF l (i + 1) r
def check (l : List W) : Bool := decide (l.length ≤ 64) && ckF l 0 l

theorem lp8 (h : IsW v l) (hl : l.length < 4611686018427387904) : ∀ (k i : Nat) (σ : Store), i + k = l.length →
    ∃ τ, loopω cfg 8 lc8_4 (st8_4 v v (l.length : Nat) (i : Nat)) σ = some (if ckF l i (l.drop i) = true then (.exit 0, out8_4, τ) else (.ret, ret8_4 1, τ))
  | 0, i, σ, hi => by
    refine ⟨σ, loopω_ofK ((lq8_4 _ _ _ _ _ _ _).trans ?_)⟩
    have : ¬ ((i : Nat) : Int) < (l.length : Nat) := by omega
    simp only [this, decide_false, Bool.false_eq_true, if_false]
    rw [List.drop_eq_nil_of_le (by omega)]
    rfl
  | k + 1, i, σ, hi => by
    have hlt : ((i : Nat) : Int) < (l.length : Nat) := by omega
    have hw := List.getElem?_eq_getElem (show i < l.length by omega)
    have hd : l.drop i = l[i]'(by omega) :: l.drop (i + 1) := (List.drop_eq_getElem_cons (by omega))
    generalize hwe : l[i]'(by omega) = w at hw hd
    obtain ⟨τ, hτ⟩ := lp8 h hl k (i + 1) (nv σ w) (by omega)
    have hwr : IntKind.wrap .i64 (((i : Nat) : Int) + 1) = ((i + 1 : Nat) : Int) := by rw [wrap_i64 (by omega) (by omega)]; rfl
    have step : ∀ r, stepKL cfg (callω cfg) (loopω cfg) 8 lc8_4 (st8_4 v v (l.length : Nat) (i : Nat)) σ = r → loopω cfg 8 lc8_4 (st8_4 v v (l.length : Nat) (i : Nat)) σ = r ∨ r = none := fun r hr => by
      cases r with
      | none => exact .inr rfl
      | some r => exact .inl (loopω_ofK hr)
    rw [hd, ckF]
    have ev := lq8_4 (callω cfg) (loopω cfg) σ v v (l.length : Nat) (i : Nat)
    simp only [hlt, decide_true, if_true, h.idx hw, ld38, stNew, bind_some', ldv0, ldv1, asInt_int, asBool_bool, cE17 (c2 := cfg) rfl rfl, cE17 (c2 := cfgS) rfl rfl, cE19 (c2 := cfg) rfl rfl h _ hl, cE19 (c2 := cfgS) rfl rfl h _ hl, cE20 (c2 := cfg) rfl rfl h _ _ hl, cE20 (c2 := cfgS) rfl rfl h _ _ hl, hwr, hτ] at ev
    unfold okAt
    by_cases h1 : inR w.1 = true
    · by_cases h2 : inR w.2 = true
      · by_cases h3 : at_ l w.1 = some i
        · by_cases h4 : leads l w.2 w.1 = true
          · refine ⟨nv σ w, loopω_ofK (ev.trans ?_)⟩
            simp [h1, h2, h3, h4, idxI]
          · refine ⟨τ, loopω_ofK (ev.trans ?_)⟩
            simp [h1, h2, h3, h4, idxI]
        · refine ⟨nv σ w, loopω_ofK (ev.trans ?_)⟩
          have h3' : (idxI (at_ l w.1) != ((i : Nat) : Int)) = true := by
            cases hq : at_ l w.1 with
            | none => simp only [idxI, bne_iff_ne, ne_eq]; omega
            | some j => rw [hq] at h3; simp only [idxI, bne_iff_ne, ne_eq]; intro e; exact h3 (by rw [show j = i by omega])
          simp [h1, h2, h3, h3']
      · refine ⟨nv σ w, loopω_ofK (ev.trans ?_)⟩
        simp [h1, h2]
    · refine ⟨nv σ w, loopω_ofK (ev.trans ?_)⟩
      simp [h1]

theorem sp8 (h : IsW v l) (hl : l.length < 4611686018427387904) : pureω cfg 8 [v] = some (.int .i64 (if check l = true then 0 else 1)) := by
  have ev := eq8 (callω cfg) (loopω cfg) .empty v
  obtain ⟨τ, h0⟩ := lp8 h hl l.length 0 .empty (by omega)
  have hz : ((0 : Nat) : Int) = 0 := rfl
  rw [hz, List.drop_zero] at h0
  simp only [h.len, bind_some', asInt_int, h0] at ev
  unfold check
  by_cases h1 : l.length ≤ 64
  · have h1' : ¬ ((l.length : Nat) : Int) > 64 := by omega
    simp only [h1', decide_false, Bool.false_eq_true, if_false] at ev
    by_cases h2 : ckF l 0 l = true
    · refine pureω_of hT (v := .int .i64 0) (τ := τ) (ev.trans ?_) (by simp [h1, h2]; rfl)
      simp [h2, onEx_exit]
    · refine pureω_of hT (v := .int .i64 1) (τ := τ) (ev.trans ?_) (by simp [h1, h2]; rfl)
      simp only [h2, if_false, onEx_ret, ret8_4_2, asInt_int, Bool.false_eq_true]
  · have h1' : ((l.length : Nat) : Int) > 64 := by omega
    simp only [h1', decide_true, if_true] at ev
    exact pureω_of hT (v := .int .i64 1) (τ := .empty) ev (by simp [h1]; rfl)
end
end Go.Pvm.Wait
