/- Part of the proof: lists of waits: 'Add'. -/
import Derived.Test.YtmmjkeiophcjcaaWaitB
set_option linter.unusedSimpArgs false
set_option linter.unusedVariables false
set_option maxRecDepth 100000
namespace Go.Pvm.Wait
open Go.Pvm Go.Proofs

theorem E38 : El Try.prog 38 2 16 := ⟨by kernel_rfl, by kernel_rfl, ⟨.agg [.int .i64 0, .int .i64 0], by kernel_rfl, rfl, rfl⟩, by decide, by decide⟩
theorem all1_cW (l : List W) : all1 2 (l.map cW) = true := by
  unfold all1
  rw [List.all_eq_true]
  intro e he
  obtain ⟨w, _, rfl⟩ := List.mem_map.1 he
  rfl

/-- A list of waits in a store. -/
def IsL (τ : Store) (u : PV) (l : List W) : Prop := (u = .nilsl ∧ l = []) ∨ ∃ id cap, u = .lsl id 2 0 l.length cap ∧ τ.objs id = some (.cells 0 (l.map cW)) ∧ (cap = none ∨ cap = some l.length) ∧ id < τ.next

section
variable {v u : PV} {l : List W} {σ τ : Store}
theorem map_cW (τ : Store) (n : Nat) (l : List W) : (l.map cW).map (fun e => e.map (fz (n + 1) τ)) = l.map cW := by
  rw [List.map_map]
  exact List.map_congr_left fun w _ => rfl
theorem IsL.frzN (h : IsL τ u l) (n : Nat) : IsW (fz (n + 2) τ u) l := by
  rcases h with ⟨rfl, rfl⟩ | ⟨id, cap, rfl, ho, _⟩
  · exact .inl ⟨rfl, rfl⟩
  · refine .inr ⟨cap == some l.length, ?_⟩
    rw [frz_lsl ho (by simp) (n + 1), List.drop_zero, List.take_of_length_le (by simp), map_cW τ n]
theorem IsL.frz (h : IsL τ u l) : IsW (fz fuelFz τ u) l := h.frzN 6
theorem IsL.frz7 (h : IsL τ u l) : IsW (fz 7 τ u) l := h.frzN 5
theorem IsL.len (h : IsL τ u l) : pureB Try.prog .len [22] [u] = some (.int .i64 (l.length : Nat)) := by
  rcases h with ⟨rfl, rfl⟩ | ⟨id, cap, rfl, _⟩
  · exact IsW.len (.inl ⟨rfl, rfl⟩)
  · have : ∀ id idx len cap, pureB Try.prog .len [22] [.lsl id 2 idx len cap] = some (.int .i64 (len : Nat)) := by intro id idx len cap; kernel_rfl
    exact this _ _ _ _
theorem u22 : Try.prog.underlying 22 = some (.slice 38) := by kernel_rfl
theorem bs0 (σ : Store) : buildSlv Try.prog σ 22 0 [] = some (.lsl σ.next 2 0 0 (some 0), σ.push (.cells 0 [])) := by kernel_rfl
theorem bs1 (σ : Store) (a b : Int) : buildSlv Try.prog σ 22 1 [(0, .agg [.int .i64 a, .int .i64 b])] = some (.lsl σ.next 2 0 1 (some 1), σ.push (.cells 0 [cW (a, b)])) := by
  have : ∀ x y : PV, buildSlv Try.prog σ 22 1 [(0, .agg [x, y])] = some (.lsl σ.next 2 0 1 (some 1), σ.push (.cells 0 [[x, y]])) := by intro x y; kernel_rfl
  exact this _ _
theorem push_new (σ : Store) (o : Obj) : (σ.push o).objs σ.next = some o := by simp [Store.push]
theorem IsW.elems (h : IsW v l) (σ : Store) : elemsOf σ v = some (l.map cW) := by rcases h with ⟨rfl, rfl⟩ | ⟨b, rfl⟩ <;> rfl
theorem IsW.nostr (h : IsW v l) : isStr v = false := by rcases h with ⟨rfl, rfl⟩ | ⟨b, rfl⟩ <;> rfl

theorem en18 : enters Try.prog 18 = true := by kernel_rfl
theorem en21 : enters Try.prog 21 = true := by kernel_rfl
theorem en6 : enters Try.prog 6 = true := by kernel_rfl
theorem en8 : enters Try.prog 8 = true := by kernel_rfl

theorem sp18 (h : IsW v l) (hl : l.length ≤ 1000000) (σ : Store) : ∃ u τ, callω cfg 18 [v] σ = some (u, τ) ∧ IsL τ u l := by
  have ev := eq18 (callω cfg) (loopω cfg) σ v
  have hb : binv Try.prog .eql 22 .nilsl .nilsl = some (.bool true) := by kernel_rfl
  have hb2 : ∀ b es, binv Try.prog .eql 22 (.psl b es) .nilsl = some (.bool false) := by intro b es; kernel_rfl
  have h' := h
  rcases h' with ⟨rfl, rfl⟩ | ⟨b, rfl⟩
  · simp only [hb, bind_some', asBool_bool, if_true] at ev
    exact ⟨_, _, callω_ofK hT ev, .inl ⟨rfl, rfl⟩⟩
  · simp only [hb2, bind_some', asBool_bool, Bool.false_eq_true, if_false, bs0, writeB_append u22 u22 h.nostr] at ev
    by_cases hn : l = []
    · subst hn
      rw [appendv_none E38 (h.elems _)] at ev
      exact ⟨_, _, callω_ofK hT ev, .inr ⟨_, some 0, rfl, push_new _ _, .inr rfl, Nat.lt_succ_self _⟩⟩
    · rw [appendv_full E38 (h.elems _) (all1_cW l) (by simpa using hn) (push_new _ _) (Nat.le_refl _) (by simp; omega)] at ev
      refine ⟨_, _, callω_ofK hT ev, .inr ⟨_, none, ?_, ?_, .inl rfl, Nat.lt_succ_self _⟩⟩
      · simp
      · rw [push_new]; simp

theorem cE18 (h : IsW v l) (hl : l.length ≤ 1000000) (σ : Store) : ∃ u τ, callE cfg (callω cfg) 18 [v] σ = some (u, τ) ∧ IsL τ u l := by
  rw [callE_live rfl en18]
  exact sp18 h hl σ

/-- Clipped, and one appended. -/
theorem sp21 (h : IsL τ u l) : ∃ u', callω cfg 21 [u] τ = some (u', τ) ∧ ((u' = .nilsl ∧ l = []) ∨ ∃ id, u' = .lsl id 2 0 l.length (some l.length) ∧ τ.objs id = some (.cells 0 (l.map cW)) ∧ id < τ.next) := by
  have ev := eq21 (callω cfg) (loopω cfg) τ u
  simp only [h.len, bind_some', asInt_int] at ev
  rcases h with ⟨rfl, rfl⟩ | ⟨id, cap, rfl, ho, hc, hid⟩
  · have hq : cutv Try.prog 22 .nilsl none (some (.int .i64 0)) (some (.int .i64 0)) = some .nilsl := by kernel_rfl
    have hz : ((([] : List W).length : Nat) : Int) = 0 := rfl
    rw [hz, hq] at ev
    exact ⟨_, callω_ofK hT ev, .inl ⟨rfl, rfl⟩⟩
  · have hs : szOf Try.prog 38 = some 2 := by kernel_rfl
    have hq : cutv Try.prog 22 (.lsl id 2 0 l.length cap) none (some (.int .i64 (l.length : Nat))) (some (.int .i64 (l.length : Nat))) = some (.lsl id 2 0 l.length (some l.length)) := by
      have hcap : cap.getD l.length = l.length := by rcases hc with rfl | rfl <;> rfl
      simp [cutv, u22, hs, numOf, hcap]
    rw [hq] at ev
    exact ⟨_, callω_ofK hT ev, .inr ⟨id, rfl, ho, hid⟩⟩

/-- What 'Add' comes to. -/
def addW (l : List W) (a b : Int) : List W × Int :=
  if check l = true then (if inR a = true ∧ inR b = true then (if at_ l a = none then (if leads l b a = true then (l, 15) else if l.length = 64 then (l, 12) else (l ++ [(a, b)], 0)) else (l, 2)) else ([], 1)) else ([], 1)

theorem cE8 {c2 : Cfg} (hm : c2.mode 8 = .pure) (hP : c2.P = Try.prog) (h : IsW v l) (hl : l.length < 4611686018427387904) (σ : Store) : callE c2 (callω cfg) 8 [v] σ = some (.int .i64 (if check l = true then 0 else 1), σ) :=
  callE_pure hm (by rw [hP]; exact en8) (by simp only [List.map_cons, List.map_nil, h.frz]) (sp8 h hl) (.inl rfl)

theorem cE19L (h : IsL τ u l) (n : Int) (hl : l.length < 4611686018427387904) : callE cfg (callω cfg) 19 [u, .int .i64 n] τ = some (.int .i64 (idxI (at_ l n)), τ) :=
  callE_pure rfl en19 (by simp only [List.map_cons, List.map_nil, frz_int]) (sp19 h.frz n hl) (.inl rfl)
theorem cE20L (h : IsL τ u l) (a b : Int) (hl : l.length < 4611686018427387904) : callE cfg (callω cfg) 20 [u, .int .i64 a, .int .i64 b] τ = some (.bool (leads l a b), τ) :=
  callE_pure rfl en20 (by simp only [List.map_cons, List.map_nil, frz_int]) (sp20 h.frz a b hl) (.inl rfl)

theorem check_len (h : check l = true) : l.length ≤ 64 := by
  unfold check at h
  simp at h
  exact h.1

theorem sp6 (h : IsW v l) (a b : Int) (hl : l.length < 4611686018427387904) : ∃ v', pureω cfg 6 [v, .int .i64 a, .int .i64 b] = some (.tuple [v', .int .i64 (addW l a b).2]) ∧ IsW v' (addW l a b).1 := by
  have ev := eq6 (callω cfg) (loopω cfg) .empty v a b
  simp only [cE8 (c2 := cfg) rfl rfl h hl, bind_some', asInt_int, cE17 (c2 := cfg) rfl rfl, asBool_bool] at ev
  have fails : stepK cfg (callω cfg) (loopω cfg) 6 [v, .int .i64 a, .int .i64 b] .empty = some (.tuple [.nilsl, .int .i64 1], .empty) → pureω cfg 6 [v, .int .i64 a, .int .i64 b] = some (.tuple [.nilsl, .int .i64 1]) := fun h => pureω_of hT h rfl
  unfold addW
  by_cases hc : check l = true
  · by_cases ha : inR a = true
    · by_cases hb : inR b = true
      · obtain ⟨u, τ, h18, hL⟩ := cE18 h (by have := check_len hc; omega) .empty
        simp only [h18, bind_some', cE19L hL _ hl, asInt_int, cE20L hL _ _ hl, asBool_bool, hL.len] at ev
        have done : ∀ c, stepK cfg (callω cfg) (loopω cfg) 6 [v, .int .i64 a, .int .i64 b] .empty = some (.tuple [u, .int .i64 c], τ) → ∃ v', pureω cfg 6 [v, .int .i64 a, .int .i64 b] = some (.tuple [v', .int .i64 c]) ∧ IsW v' l := fun c hc =>
          ⟨fz 7 τ u, pureω_of hT hc (frz_tuple2 _ _ _), hL.frz7⟩
        cases hat : at_ l a with
        | some j =>
          have hj : ((j : Nat) : Int) ≥ 0 := by omega
          simp only [hc, ha, hb, hat, idxI, hj, decide_true, if_true, bne_self_eq_false, Bool.not_true, Bool.false_eq_true, if_false] at ev
          simpa [hc, ha, hb, hat] using done 2 ev
        | none =>
          have hj : ¬ ((-1 : Int) ≥ 0) := by omega
          by_cases hle : leads l b a = true
          · simp only [hc, ha, hb, hat, idxI, hj, hle, decide_false, decide_true, if_true, bne_self_eq_false, Bool.not_true, Bool.false_eq_true, if_false] at ev
            simpa [hc, ha, hb, hat, hle] using done 15 ev
          · by_cases h64 : l.length = 64
            · have h64' : (((l.length : Nat) : Int) == 64) = true := by rw [h64]; rfl
              simp only [hc, ha, hb, hat, idxI, hj, hle, h64', decide_false, decide_true, if_true, bne_self_eq_false, Bool.not_true, Bool.false_eq_true, if_false] at ev
              simpa [hc, ha, hb, hat, hle, h64] using done 12 ev
            · have h64' : (((l.length : Nat) : Int) == 64) = false := by simp; omega
              obtain ⟨u', h21, hu'⟩ := sp21 hL
              have hcall : callE cfg (callω cfg) 21 [u] τ = some (u', τ) := by rw [callE_live rfl en21]; exact h21
              simp only [hc, ha, hb, hat, idxI, hj, hle, h64', hcall, bs1, bind_some', decide_false, decide_true, if_true, bne_self_eq_false, Bool.not_true, Bool.false_eq_true, if_false] at ev
              have hx : elemsOf (τ.push (.cells 0 [cW (a, b)])) (.lsl τ.next 2 0 1 (some 1)) = some [cW (a, b)] := by
                simp [elemsOf, push_new]
              have h64l := check_len hc
              have fin : ∃ id' τ', writeB Try.prog (τ.push (.cells 0 [cW (a, b)])) .append [22, 22] [u', .lsl τ.next 2 0 1 (some 1)] = some (.lsl id' 2 0 (l ++ [(a, b)]).length none, τ') ∧ τ'.objs id' = some (.cells 0 ((l ++ [(a, b)]).map cW)) ∧ id' < τ'.next := by
                rw [writeB_append u22 u22 rfl]
                rcases hu' with ⟨rfl, rfl⟩ | ⟨id, rfl, ho, hid⟩
                · rw [appendv_nil E38 hx (all1_cW [(a, b)]) (by simp) (by simp)]
                  exact ⟨_, _, rfl, push_new _ _, Nat.lt_succ_self _⟩
                · have ho2 : (τ.push (.cells 0 [cW (a, b)])).objs id = some (.cells 0 (l.map cW)) := by
                    show (if id = τ.next then _ else τ.objs id) = _
                    rw [if_neg (by omega)]; exact ho
                  rw [appendv_full E38 hx (all1_cW [(a, b)]) (by simp) ho2 (by simp) (by simp; omega)]
                  simp only [List.length_append, List.length_singleton]
                  refine ⟨_, _, rfl, ?_, Nat.lt_succ_self _⟩
                  rw [push_new, List.drop_zero, List.take_of_length_le (by simp)]; simp
              obtain ⟨id', τ', hw, ho', hid'⟩ := fin
              rw [hw] at ev
              have hL' : IsL τ' (.lsl id' 2 0 (l ++ [(a, b)]).length none) (l ++ [(a, b)]) := .inr ⟨id', none, rfl, ho', .inl rfl, hid'⟩
              refine ⟨fz 7 τ' (.lsl id' 2 0 (l ++ [(a, b)]).length none), ?_, ?_⟩
              rotate_left
              · have := hL'.frz7
                simp only [hc, ha, hb, hat, hle, h64, if_true, if_false, and_self, Bool.false_eq_true]
                exact this
              · refine (pureω_of hT ev (frz_tuple2 _ _ _)).trans ?_
                simp [hc, ha, hb, hat, hle, h64]
                rfl
      · simp only [hc, ha, hb, if_true, bne_self_eq_false, Bool.not_true, Bool.not_false, Bool.false_eq_true, if_false] at ev
        refine ⟨.nilsl, (fails ev).trans ?_, ?_⟩ <;> simp [hc, ha, hb, IsW]
    · simp only [hc, ha, if_true, bne_self_eq_false, Bool.not_true, Bool.not_false, Bool.false_eq_true, if_false] at ev
      refine ⟨.nilsl, (fails ev).trans ?_, ?_⟩ <;> simp [hc, ha, IsW]
  · have h10 : ((1 : Int) != 0) = true := rfl
    simp only [hc, if_false, Bool.false_eq_true, h10, if_true] at ev
    refine ⟨.nilsl, (fails ev).trans ?_, ?_⟩ <;> simp [hc, IsW]
end
end Go.Pvm.Wait
