/- Part of the proof: the reference's 'Add'. -/
import Derived.Test.YtmmjkeiophcjcaaWaitI
set_option linter.unusedSimpArgs false
set_option linter.unusedVariables false
set_option maxRecDepth 100000
namespace Go.Pvm.Wait
open Go.Pvm Go.Proofs

def refAdd (l : List W) (a b : Int) : List W × Int :=
  if has l a = true then (l, 2) else if leads l b a = true then (l, 15) else if l.length = 64 then (l, 12) else (l ++ [(a, b)], 0)

section
variable {v : PV} {l : List W} {σ : Store}
theorem IsW.frz7 (h : IsW v l) {σ : Store} : fz 7 σ v = v := by rcases h with ⟨rfl, rfl⟩ | ⟨b, rfl⟩ <;> rfl
theorem sp11 (h : IsW v l) (a b : Int) (hl : l.length ≤ 1000000) : ∃ v', pureω cfg 11 [v, .int .i64 a, .int .i64 b] = some (.tuple [v', .int .i64 (refAdd l a b).2]) ∧ IsW v' (refAdd l a b).1 := by
  have ev := eq11 (callω cfg) (loopω cfg) .empty v a b
  have hl' : l.length < 4611686018427387904 := by omega
  simp only [cE22 (c2 := cfg) rfl rfl h a hl', bind_some', asBool_bool, cE23 (c2 := cfg) rfl rfl h b a hl', h.len, asInt_int, bs0] at ev
  have done : ∀ c, stepK cfg (callω cfg) (loopω cfg) 11 [v, .int .i64 a, .int .i64 b] .empty = some (.tuple [v, .int .i64 c], .empty) → ∃ v', pureω cfg 11 [v, .int .i64 a, .int .i64 b] = some (.tuple [v', .int .i64 c]) ∧ IsW v' l := fun c hc =>
    ⟨fz 7 .empty v, pureω_of hT hc (frz_tuple2 _ _ _), by rw [h.frz7]; exact h⟩
  unfold refAdd
  cases h1 : has l a with
  | true =>
    simp only [h1, if_true] at ev ⊢
    exact done 2 ev
  | false =>
    cases h2 : leads l b a with
    | true =>
      simp only [h1, h2, if_true, Bool.false_eq_true, if_false] at ev ⊢
      exact done 15 ev
    | false =>
      by_cases h64 : l.length = 64
      · have h64' : (((l.length : Nat) : Int) == 64) = true := by rw [h64]; rfl
        simp only [h1, h2, h64', if_true, Bool.false_eq_true, if_false] at ev
        simp only [h64, if_true, Bool.false_eq_true, if_false]
        exact done 12 ev
      · have h64' : (((l.length : Nat) : Int) == 64) = false := by simp; omega
        simp only [h1, h2, h64', Bool.false_eq_true, if_false, writeB_append u22 u22 h.nostr] at ev
        simp only [h64, Bool.false_eq_true, if_false]
        -- what has been copied
        obtain ⟨u, τ, hcopy, id, cap, rfl, ho, hcap, hid⟩ : ∃ u τ, appendv Try.prog (Store.push .empty (.cells 0 [])) 38 (.lsl Store.empty.next 2 0 0 (some 0)) v = some (u, τ) ∧ ∃ id cap, u = .lsl id 2 0 l.length cap ∧ τ.objs id = some (.cells 0 (l.map cW)) ∧ (cap = none ∨ cap = some l.length) ∧ id < τ.next := by
          by_cases hn : l = []
          · subst hn
            rw [appendv_none E38 (h.elems _)]
            exact ⟨_, _, rfl, _, some 0, rfl, push_new _ _, .inr rfl, Nat.lt_succ_self _⟩
          · rw [appendv_full E38 (h.elems _) (all1_cW l) (by simpa using hn) (push_new _ _) (Nat.le_refl _) (by simp; omega)]
            refine ⟨_, _, rfl, _, none, ?_, ?_, .inl rfl, Nat.lt_succ_self _⟩
            · simp
            · rw [push_new]; simp
        rw [hcopy] at ev
        simp only [bind_some', bs1] at ev
        have hx : elemsOf (τ.push (.cells 0 [cW (a, b)])) (.lsl τ.next 2 0 1 (some 1)) = some [cW (a, b)] := by
          simp [elemsOf, push_new]
        have ho2 : (τ.push (.cells 0 [cW (a, b)])).objs id = some (.cells 0 (l.map cW)) := by
          show (if id = τ.next then _ else τ.objs id) = _
          rw [if_neg (by omega)]; exact ho
        obtain ⟨id', τ', hw, ho', hid'⟩ : ∃ id' τ', writeB Try.prog (τ.push (.cells 0 [cW (a, b)])) .append [22, 22] [.lsl id 2 0 l.length cap, .lsl τ.next 2 0 1 (some 1)] = some (.lsl id' 2 0 (l ++ [(a, b)]).length none, τ') ∧ τ'.objs id' = some (.cells 0 ((l ++ [(a, b)]).map cW)) ∧ id' < τ'.next := by
          rw [writeB_append u22 u22 rfl]
          simp only [List.length_append, List.length_singleton]
          rcases hcap with rfl | rfl
          · rw [appendv_open E38 hx (all1_cW [(a, b)]) (by simp) ho2 (by simp) (by omega) (by simp; omega)]
            refine ⟨_, _, rfl, ?_, Nat.lt_succ_self _⟩
            have hk : ∀ (σ : Store) (i : Nat) (o : Obj), ((σ.kill i).push o).objs σ.next = some o := fun σ i o => by simp [Store.push, Store.kill]
            rw [hk, List.drop_zero, List.take_of_length_le (by simp)]; simp
          · rw [appendv_full E38 hx (all1_cW [(a, b)]) (by simp) ho2 (by simp) (by simp; omega)]
            refine ⟨_, _, rfl, ?_, Nat.lt_succ_self _⟩
            rw [push_new, List.drop_zero, List.take_of_length_le (by simp)]; simp
        rw [hw] at ev
        have hL' : IsL τ' (.lsl id' 2 0 (l ++ [(a, b)]).length none) (l ++ [(a, b)]) := .inr ⟨id', none, rfl, ho', .inl rfl, hid'⟩
        exact ⟨fz 7 τ' (.lsl id' 2 0 (l ++ [(a, b)]).length none), pureω_of hT ev (frz_tuple2 _ _ _), hL'.frz7⟩
theorem cE11 (h : IsW v l) (a b : Int) (hl : l.length ≤ 1000000) (σ : Store) : ∃ v', callE cfg (callω cfg) 11 [v, .int .i64 a, .int .i64 b] σ = some (.tuple [v', .int .i64 (refAdd l a b).2], σ) ∧ IsW v' (refAdd l a b).1 := by
  obtain ⟨v', h1, h2⟩ := sp11 h a b hl
  exact ⟨v', callE_pure rfl en11 (by simp only [List.map_cons, List.map_nil, h.frz, frz_int]) h1 (.inr (by simp [PV.lf.lfs, PV.lf, h.lf])), h2⟩
end
end Go.Pvm.Wait
