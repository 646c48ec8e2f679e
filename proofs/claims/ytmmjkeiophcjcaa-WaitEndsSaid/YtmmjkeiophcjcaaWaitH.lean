/- Part of the proof: the reference's 'May'. -/
import Derived.Test.YtmmjkeiophcjcaaWaitG
set_option linter.unusedSimpArgs false
set_option linter.unusedVariables false
set_option maxRecDepth 100000
namespace Go.Pvm.Wait
open Go.Pvm Go.Proofs

theorem at_take (n : Int) : ∀ (l : List W) (i : Nat) (w : W), l[i]? = some w → w.1 = n → (at_ l n = some i ↔ has (l.take i) n = false)
  | [], i, w, h, _ => by simp at h
  | x :: l, 0, w, h, hw => by
    simp at h; subst h
    rw [at_cons]
    have : (x.1 == n) = true := by simpa using hw
    simp [this, has]
  | x :: l, i + 1, w, h, hw => by
    have ih := at_take n l i w (by simpa using h) hw
    rw [at_cons, List.take_succ_cons, has_cons]
    cases hb : (x.1 == n) with
    | true => simp
    | false =>
      simp only [Bool.false_eq_true, if_false, Bool.false_or]
      rw [← ih]
      cases at_ l n with
      | none => simp
      | some j => simp

section
variable {v : PV} {l : List W} {σ : Store}
theorem IsW.take (h : IsW v l) {i : Nat} (hi : i < l.length) : ∃ v', cutv Try.prog 22 v none (some (.int .i64 (i : Nat))) none = some v' ∧ IsW v' (l.take i) := by
  have hs : szOf Try.prog 38 = some 2 := by kernel_rfl
  rcases h with ⟨rfl, rfl⟩ | ⟨b, rfl⟩
  · simp at hi
  · refine ⟨.psl (b && decide (i = (l.map cW).length)) (((l.map cW).drop 0).take (i - 0)), ?_, .inr ⟨_, by rw [List.drop_zero, Nat.sub_zero, List.map_take]⟩⟩
    have hall : ((l.map cW).all fun e => e.length == 2) = true := by
      rw [List.all_eq_true]
      intro e he
      obtain ⟨w, _, rfl⟩ := List.mem_map.1 he
      rfl
    have hn : numOf (some (.int .i64 ((i : Nat) : Int))) (l.map cW).length = some i := by simp [numOf]
    have hz : numOf none 0 = some 0 := rfl
    have hm : numOf none (l.map cW).length = some (l.map cW).length := rfl
    have hc : 0 ≤ i ∧ i ≤ (l.map cW).length ∧ (l.map cW).length ≤ (l.map cW).length ∧ ((l.map cW).all fun e => e.length == 2) = true := ⟨by omega, by simp; omega, Nat.le_refl _, hall⟩
    simp only [cutv, u22, hs, Option.bind_some, hn, hz, hm]
    rw [if_neg (by simp), if_pos hc]
    rfl

theorem lp9 (h : IsW v l) (hl : l.length < 4611686018427387904) (σ : Store) : ∀ (k i : Nat), i + k = l.length →
    loopω cfg 9 lc9_2 (st9_2 v (i : Nat)) σ = some (if ckF l i (l.drop i) = true then (.exit 0, out9_2 v, σ) else (.ret, ret9_2 false, σ))
  | 0, i, hi => by
    refine loopω_ofK ((lq9_2 _ _ _ _ _).trans ?_)
    have : ¬ ((i : Nat) : Int) < (l.length : Nat) := by omega
    simp only [h.len, bind_some', asInt_int, this, decide_false, Bool.false_eq_true, if_false]
    rw [List.drop_eq_nil_of_le (by omega)]
    rfl
  | k + 1, i, hi => by
    refine loopω_ofK ((lq9_2 _ _ _ _ _).trans ?_)
    have hlt : ((i : Nat) : Int) < (l.length : Nat) := by omega
    have hw := List.getElem?_eq_getElem (show i < l.length by omega)
    have hd : l.drop i = l[i]'(by omega) :: l.drop (i + 1) := (List.drop_eq_getElem_cons (by omega))
    have hwr : IntKind.wrap .i64 (((i : Nat) : Int) + 1) = ((i + 1 : Nat) : Int) := by rw [wrap_i64 (by omega) (by omega)]; rfl
    generalize hwe : l[i]'(by omega) = w at hw hd
    obtain ⟨v', hcut, hv'⟩ := h.take (show i < l.length by omega)
    have hl' : (l.take i).length < 4611686018427387904 := by simp; omega
    have hat := at_take w.1 l i w hw rfl
    rw [hd, ckF]
    unfold okAt
    simp only [h.len, bind_some', asInt_int, asBool_bool, hlt, decide_true, if_true, h.idx hw, fa0, fa1, ld3, ld3w, hcut, cE10 (c2 := cfg) rfl rfl, cE10 (c2 := cfgS) rfl rfl, cE22 (c2 := cfg) rfl rfl hv' _ hl', cE22 (c2 := cfgS) rfl rfl hv' _ hl', cE23 (c2 := cfg) rfl rfl h _ _ hl, cE23 (c2 := cfgS) rfl rfl h _ _ hl, hwr, lp9 h hl σ k (i + 1) (by omega)]
    cases h1 : inR w.1 with
    | false => simp
    | true =>
      cases h2 : inR w.2 with
      | false => simp
      | true =>
        cases h3 : has (l.take i) w.1 with
        | true =>
          have : ¬ at_ l w.1 = some i := fun e => by rw [hat.1 e] at h3; cases h3
          simp [this]
        | false =>
          have := hat.2 h3
          cases h4 : leads l w.2 w.1 <;> simp [this]

theorem sp9 (h : IsW v l) (hl : l.length < 4611686018427387904) : pureω cfg 9 [v] = some (.bool (check l)) := by
  refine pureω_of hT (v := .bool (check l)) (τ := .empty) ((eq9 _ _ _ _).trans ?_) rfl
  have h0 := lp9 h hl .empty l.length 0 (by omega)
  have hz : ((0 : Nat) : Int) = 0 := rfl
  rw [hz, List.drop_zero] at h0
  rw [h0]
  unfold check
  cases hq : ckF l 0 l with
  | true =>
    have : decide (((l.length : Nat) : Int) ≤ 64) = decide (l.length ≤ 64) := by rw [decide_eq_decide]; omega
    simp only [if_true, bind_some', onEx_exit, out9_2_0, h.len, asInt_int, this, Bool.and_true]
  | false => simp only [Bool.false_eq_true, if_false, bind_some', onEx_ret, ret9_2_2, asBool_bool, Bool.and_false]
theorem cE9 {c2 : Cfg} (hm : c2.mode 9 = .pure) (hP : c2.P = Try.prog) (h : IsW v l) (hl : l.length < 4611686018427387904) (σ : Store) : callE c2 (callω cfg) 9 [v] σ = some (.bool (check l), σ) :=
  callE_pure hm (by rw [hP]; exact en9) (by simp only [List.map_cons, List.map_nil, h.frz]) (sp9 h hl) (.inl rfl)
end
end Go.Pvm.Wait
