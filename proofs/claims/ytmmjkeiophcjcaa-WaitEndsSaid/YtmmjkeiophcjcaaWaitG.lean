/- Part of the proof: the reference's 'Leads' and 'May'. -/
import Derived.Test.YtmmjkeiophcjcaaWaitF
set_option linter.unusedSimpArgs false
set_option linter.unusedVariables false
set_option maxRecDepth 100000
namespace Go.Pvm.Wait
open Go.Pvm Go.Proofs

theorem at_cons (w : W) (l : List W) (n : Int) : at_ (w :: l) n = if (w.1 == n) = true then some 0 else (at_ l n).map (· + 1) := by
  unfold at_
  rw [List.findIdx?_cons]
theorem has_cons (w : W) (l : List W) (n : Int) : has (w :: l) n = ((w.1 == n) || has l n) := rfl
theorem has_at (n : Int) : ∀ l : List W, (∀ j, at_ l n = some j → has l n = true ∧ next_ l n = (l.getD j (0, 0)).2) ∧ (at_ l n = none → has l n = false)
  | [] => ⟨fun j h => (by cases h), fun _ => rfl⟩
  | w :: l => by
    obtain ⟨h1, h2⟩ := has_at n l
    rw [at_cons, has_cons]
    cases hb : (w.1 == n) with
    | true =>
      simp only [if_true, Bool.true_or]
      refine ⟨fun j hj => ⟨trivial, ?_⟩, fun h => (by cases h)⟩
      cases hj
      simp [next_, List.find?_cons, hb]
    | false =>
      simp only [Bool.false_eq_true, if_false, Bool.false_or]
      refine ⟨fun j hj => ?_, fun h => h2 (by simpa using h)⟩
      rw [Option.map_eq_some_iff] at hj
      obtain ⟨i, hi, rfl⟩ := hj
      obtain ⟨k1, k2⟩ := h1 i hi
      refine ⟨k1, ?_⟩
      rw [List.getD_cons_succ, ← k2]
      simp [next_, List.find?_cons, hb]

section
variable {v : PV} {l : List W} {σ : Store}
theorem lp23 (h : IsW v l) (b : Int) (hl : l.length < 4611686018427387904) (σ : Store) : ∀ (k i : Nat) (a : Int), i + k = l.length + 1 →
    loopω cfg 23 lc23_2 (st23_2 v a b (i : Nat)) σ = some (match leadsR l b k a with | some r => (.ret, ret23_2 r, σ) | none => (.exit 0, out23_2, σ))
  | 0, i, a, hi => by
    refine loopω_ofK ((lq23_2 _ _ _ _ _ _ _).trans ?_)
    have : ¬ ((i : Nat) : Int) ≤ (l.length : Nat) := by omega
    simp only [h.len, bind_some', asInt_int, this, decide_false, Bool.false_eq_true, if_false]
    rfl
  | k + 1, i, a, hi => by
    refine loopω_ofK ((lq23_2 _ _ _ _ _ _ _).trans ?_)
    have hlt : ((i : Nat) : Int) ≤ (l.length : Nat) := by omega
    have hwr : IntKind.wrap .i64 (((i : Nat) : Int) + 1) = ((i + 1 : Nat) : Int) := by rw [wrap_i64 (by omega) (by omega)]; rfl
    simp only [h.len, bind_some', asInt_int, hlt, decide_true, if_true]
    unfold leadsR
    by_cases hab : a = b
    · simp only [hab, beq_self_eq_true, if_true]
    · have hab' : (a == b) = false := by simpa using hab
      simp only [hab', hab, Bool.false_eq_true, if_false, cE22 (c2 := cfg) rfl rfl h a hl, cE29 (c2 := cfg) rfl rfl h a hl, bind_some', asInt_int, asBool_bool, hwr]
      cases hat : at_ l a with
      | none =>
        have := (has_at a l).2 hat
        simp only [this, Bool.not_false, if_true]
      | some j =>
        obtain ⟨k1, k2⟩ := (has_at a l).1 j hat
        simp only [k1, Bool.not_true, Bool.false_eq_true, if_false]
        rw [lp23 h b hl σ k (i + 1) (next_ l a) (by omega), k2]

theorem sp23 (h : IsW v l) (a b : Int) (hl : l.length < 4611686018427387904) : pureω cfg 23 [v, .int .i64 a, .int .i64 b] = some (.bool (leads l a b)) := by
  refine pureω_of hT (v := .bool (leads l a b)) (τ := .empty) ((eq23 _ _ _ _ _ _).trans ?_) rfl
  have h0 := lp23 h b hl .empty (l.length + 1) 0 a (by omega)
  have hz : ((0 : Nat) : Int) = 0 := rfl
  rw [hz] at h0
  rw [h0]
  unfold leads
  cases leadsR l b (l.length + 1) a with
  | none => simp only [bind_some', onEx_exit]; rfl
  | some r => simp only [bind_some', onEx_ret, ret23_2_6, asBool_bool]; rfl
theorem cE23 {c2 : Cfg} (hm : c2.mode 23 = .pure) (hP : c2.P = Try.prog) (h : IsW v l) (a b : Int) (hl : l.length < 4611686018427387904) (σ : Store) : callE c2 (callω cfg) 23 [v, .int .i64 a, .int .i64 b] σ = some (.bool (leads l a b), σ) :=
  callE_pure hm (by rw [hP]; exact en23) (by simp only [List.map_cons, List.map_nil, h.frz, frz_int]) (sp23 h a b hl) (.inl rfl)
end
end Go.Pvm.Wait
