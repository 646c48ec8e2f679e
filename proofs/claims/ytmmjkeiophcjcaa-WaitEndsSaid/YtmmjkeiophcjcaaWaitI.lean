/- Part of the proof: lists of waits compared; the reference's 'Add'. -/
import Derived.Test.YtmmjkeiophcjcaaWaitH
set_option linter.unusedSimpArgs false
set_option linter.unusedVariables false
set_option maxRecDepth 100000
namespace Go.Pvm.Wait
open Go.Pvm Go.Proofs

theorem nq (w w' : W) : binv Try.prog .neq 38 (.agg (cW w)) (.agg (cW w')) = some (.bool (!decide (w = w'))) := by
  have h : ∀ a b c d : Int, binv Try.prog .neq 38 (.agg [.int .i64 a, .int .i64 b]) (.agg [.int .i64 c, .int .i64 d]) = Option.map (fun b => PV.bool !b) (if (a == c) = true then (if (b == d) = true then some true else some false) else some false) := by intro a b c d; kernel_rfl
  refine (h _ _ _ _).trans ?_
  obtain ⟨a, b⟩ := w
  obtain ⟨c, d⟩ := w'
  by_cases h1 : a = c
  · by_cases h2 : b = d
    · simp [h1, h2]
    · simp [h1, h2]
  · simp [h1]

section
variable {v v' : PV} {l l' : List W} {σ : Store}
theorem lp12 (h : IsW v l) (h' : IsW v' l') (he : l.length = l'.length) (hl : l.length < 4611686018427387904) (σ : Store) : ∀ (k i : Nat), i + k = l.length →
    loopω cfg 12 lc12_4 (st12_4 v v' (i : Nat)) σ = some (if l.drop i = l'.drop i then (.exit 0, out12_4, σ) else (.ret, ret12_4 false, σ))
  | 0, i, hi => by
    refine loopω_ofK ((lq12_4 _ _ _ _ _ _).trans ?_)
    have : ¬ ((i : Nat) : Int) < (l.length : Nat) := by omega
    simp only [h.len, bind_some', asInt_int, this, decide_false, Bool.false_eq_true, if_false]
    rw [List.drop_eq_nil_of_le (by omega), List.drop_eq_nil_of_le (by omega), if_pos rfl]
  | k + 1, i, hi => by
    refine loopω_ofK ((lq12_4 _ _ _ _ _ _).trans ?_)
    have hlt : ((i : Nat) : Int) < (l.length : Nat) := by omega
    have hw := List.getElem?_eq_getElem (show i < l.length by omega)
    have hw' := List.getElem?_eq_getElem (show i < l'.length by omega)
    have hd : l.drop i = l[i]'(by omega) :: l.drop (i + 1) := (List.drop_eq_getElem_cons (by omega))
    have hd' : l'.drop i = l'[i]'(by omega) :: l'.drop (i + 1) := (List.drop_eq_getElem_cons (by omega))
    have hwr : IntKind.wrap .i64 (((i : Nat) : Int) + 1) = ((i + 1 : Nat) : Int) := by rw [wrap_i64 (by omega) (by omega)]; rfl
    simp only [h.len, bind_some', asInt_int, asBool_bool, hlt, decide_true, if_true, h.idx hw, h'.idx hw', ld38, nq]
    rw [hd, hd']
    by_cases hq : l[i]'(by omega) = l'[i]'(by omega)
    · simp only [hq, decide_true, Bool.not_true, Bool.false_eq_true, if_false, hwr, lp12 h h' he hl σ k (i + 1) (by omega), List.cons.injEq, true_and]
    · simp only [hq, decide_false, Bool.not_false, if_true, List.cons.injEq, false_and, if_false]

theorem sp12 (h : IsW v l) (h' : IsW v' l') (hl : l.length < 4611686018427387904) (hl' : l'.length < 4611686018427387904) : pureω cfg 12 [v, v'] = some (.bool (decide (l = l'))) := by
  refine pureω_of hT (v := .bool (decide (l = l'))) (τ := .empty) ((eq12 _ _ _ _ _).trans ?_) rfl
  simp only [h.len, h'.len, bind_some', asInt_int]
  by_cases he : l.length = l'.length
  · have h0 := lp12 h h' he hl .empty l.length 0 (by omega)
    have hz : ((0 : Nat) : Int) = 0 := rfl
    rw [hz, List.drop_zero, List.drop_zero] at h0
    simp only [he, bne_self_eq_false, Bool.false_eq_true, if_false, h0]
    by_cases hq : l = l'
    · simp only [hq, if_true, bind_some', onEx_exit, decide_true]
    · simp only [hq, if_false, bind_some', onEx_ret, ret12_4_4, asBool_bool, decide_false]
  · have : (((l.length : Nat) : Int) != ((l'.length : Nat) : Int)) = true := by simp only [bne_iff_ne, ne_eq]; omega
    have hq : ¬ l = l' := fun e => he (by rw [e])
    simp only [this, if_true, hq, decide_false]
theorem cE12 {c2 : Cfg} (hm : c2.mode 12 = .pure) (hP : c2.P = Try.prog) (h : IsW v l) (h' : IsW v' l') (hl : l.length < 4611686018427387904) (hl' : l'.length < 4611686018427387904) (σ : Store) : callE c2 (callω cfg) 12 [v, v'] σ = some (.bool (decide (l = l')), σ) :=
  callE_pure hm (by rw [hP]; exact en12) (by simp only [List.map_cons, List.map_nil, h.frz, h'.frz]) (sp12 h h' hl hl') (.inl rfl)

theorem lp24 (h : IsW v l) (h' : IsW v' l') (he : l.length = l'.length) (hl : l.length < 4611686018427387904) (σ : Store) : ∀ (k i : Nat), i + k = l.length →
    loopω cfg 24 lc24_4 (st24_4 v v' (l.length : Nat) (i : Nat)) σ = some (if l.drop i = l'.drop i then (.exit 0, out24_4, σ) else (.ret, ret24_4 false, σ))
  | 0, i, hi => by
    refine loopω_ofK ((lq24_4 _ _ _ _ _ _ _).trans ?_)
    have : ¬ ((i : Nat) : Int) < (l.length : Nat) := by omega
    simp only [this, decide_false, Bool.false_eq_true, if_false]
    rw [List.drop_eq_nil_of_le (by omega), List.drop_eq_nil_of_le (by omega), if_pos rfl]
  | k + 1, i, hi => by
    refine loopω_ofK ((lq24_4 _ _ _ _ _ _ _).trans ?_)
    have hlt : ((i : Nat) : Int) < (l.length : Nat) := by omega
    have hw := List.getElem?_eq_getElem (show i < l.length by omega)
    have hw' := List.getElem?_eq_getElem (show i < l'.length by omega)
    have hd : l.drop i = l[i]'(by omega) :: l.drop (i + 1) := (List.drop_eq_getElem_cons (by omega))
    have hd' : l'.drop i = l'[i]'(by omega) :: l'.drop (i + 1) := (List.drop_eq_getElem_cons (by omega))
    have hwr : IntKind.wrap .i64 (((i : Nat) : Int) + 1) = ((i + 1 : Nat) : Int) := by rw [wrap_i64 (by omega) (by omega)]; rfl
    simp only [bind_some', asInt_int, asBool_bool, hlt, decide_true, if_true, h.idx hw, h'.idx hw', ld38, nq]
    rw [hd, hd']
    by_cases hq : l[i]'(by omega) = l'[i]'(by omega)
    · simp only [hq, decide_true, Bool.not_true, Bool.false_eq_true, if_false, hwr, lp24 h h' he hl σ k (i + 1) (by omega), List.cons.injEq, true_and]
    · simp only [hq, decide_false, Bool.not_false, if_true, List.cons.injEq, false_and, if_false]
theorem sp24 (h : IsW v l) (h' : IsW v' l') (hl : l.length < 4611686018427387904) (hl' : l'.length < 4611686018427387904) : pureω cfg 24 [v, v'] = some (.bool (decide (l = l'))) := by
  refine pureω_of hT (v := .bool (decide (l = l'))) (τ := .empty) ((eq24 _ _ _ _ _).trans ?_) rfl
  simp only [h.len, h'.len, bind_some', asInt_int]
  by_cases he : l.length = l'.length
  · have h0 := lp24 h h' he hl .empty l.length 0 (by omega)
    have hz : ((0 : Nat) : Int) = 0 := rfl
    rw [hz, List.drop_zero, List.drop_zero] at h0
    rw [he] at h0
    simp only [he, bne_self_eq_false, Bool.false_eq_true, if_false, h0]
    by_cases hq : l = l'
    · simp only [hq, if_true, bind_some', onEx_exit, decide_true]
    · simp only [hq, if_false, bind_some', onEx_ret, ret24_4_4, asBool_bool, decide_false]
  · have : (((l.length : Nat) : Int) != ((l'.length : Nat) : Int)) = true := by simp only [bne_iff_ne, ne_eq]; omega
    have hq : ¬ l = l' := fun e => he (by rw [e])
    simp only [this, if_true, hq, decide_false]
theorem sp13 (h : IsW v l) (h' : IsW v' l') (hl : l.length < 4611686018427387904) (hl' : l'.length < 4611686018427387904) : pureω cfg 13 [v, v'] = some (.bool (decide (l = l'))) := by
  refine pureω_of hT (v := .bool (decide (l = l'))) (τ := .empty) ((eq13 _ _ _ _ _).trans ?_) rfl
  rw [callE_pure (c2 := cfg) rfl en24 (by simp only [List.map_cons, List.map_nil, h.frz, h'.frz]) (sp24 h h' hl hl') (.inl rfl)]
  rfl
theorem cE13 {c2 : Cfg} (hm : c2.mode 13 = .pure) (hP : c2.P = Try.prog) (h : IsW v l) (h' : IsW v' l') (hl : l.length < 4611686018427387904) (hl' : l'.length < 4611686018427387904) (σ : Store) : callE c2 (callω cfg) 13 [v, v'] σ = some (.bool (decide (l = l')), σ) :=
  callE_pure hm (by rw [hP]; exact en13) (by simp only [List.map_cons, List.map_nil, h.frz, h'.frz]) (sp13 h h' hl hl') (.inl rfl)
end
end Go.Pvm.Wait
