/- Part of the proof: the document's device, plainly: behind a crash. -/
import Derived.Test.YtgcfmhlgbakdfaaDevP
set_option linter.unusedSimpArgs false
set_option linter.unusedVariables false
set_option maxRecDepth 100000
namespace Go.Pvm.S
open Go.Pvm Go.Proofs
def crashR (pat : List Bool) : Dk → List Pt → Nat → Int → Dk
  | x, [], _, _ => x
  | x, u :: r, k, n => if 0 ≤ u.at_ then crashR pat (if 0 < pat.length ∧ pat.getD (k % pat.length) false = true then x.part u else x) r (k + 1) n
    else crashR pat (if (u.first n).2 = true then x.part (u.first n).1 else x) r k (if n < u.size then 0 else n - u.size)
def Rf.crash (r : Rf) (pat : List Bool) (n : Int) : Rf :=
  let x := crashR pat r.kept r.done 0 n
  { kept := x, now := x, done := [], gone := false, armed := -1 }
theorem crashW_turn (pat : List Bool) : ∀ (ws : List (Int × By)) (x : Dk) (k : Nat) (t : Tn), crashW pat (x.turn t) ws k = (crashW pat x ws k).turn t
  | [], _, _, _ => rfl
  | w :: ws, x, k, t => by
    unfold crashW
    by_cases c : 0 < pat.length ∧ pat.getD (k % pat.length) false = true
    · rw [if_pos c, if_pos c, ← turn_put, crashW_turn pat ws]
    · rw [if_neg c, if_neg c, crashW_turn pat ws]
theorem crashT_none : ∀ (ts : List Tn) (x : Dk), (∀ t ∈ ts, 0 < t.units) → crashT x ts 0 = x
  | [], _, _ => rfl
  | t :: ts, x, h => by
    unfold crashT
    rw [if_pos (h t (.head _)), if_neg (by decide)]
theorem size_units {u : Pt} (h : ¬ 0 ≤ u.at_) : u.size = Tn.units ⟨u.b, u.trim, u.to⟩ := by
  unfold Pt.size Tn.units
  cases ht : u.trim with
  | true => rw [if_neg (by rintro ⟨_, e⟩; cases e)]; rfl
  | false => rw [if_pos ⟨by omega, rfl⟩]; rfl
theorem part_turn {x : Dk} {u : Pt} (h : ¬ 0 ≤ u.at_) : x.part u = x.turn ⟨u.b, u.trim, u.to⟩ := by unfold Dk.part; rw [if_neg h]
theorem tsOf_pos : ∀ (l : List Pt), (∀ u ∈ l, 0 < u.size) → ∀ t ∈ tsOf l, 0 < t.units
  | [], _, t, ht => by cases ht
  | u :: l, h, t, ht => by
    rw [tsOf_cons] at ht
    by_cases c : 0 ≤ u.at_
    · rw [if_pos c] at ht
      exact tsOf_pos l (fun x hx => h x (.tail _ hx)) t ht
    · rw [if_neg c] at ht
      rcases List.mem_cons.1 ht with rfl | ht
      · rw [← size_units c]; exact h u (.head _)
      · exact tsOf_pos l (fun x hx => h x (.tail _ hx)) t ht
theorem crash_eq (pat : List Bool) : ∀ (l : List Pt) (x : Dk) (k : Nat) (n : Int), (∀ u ∈ l, 0 < u.size) → crashR pat x l k n = crashT (crashW pat x (wsOf l) k) (tsOf l) n
  | [], _, _, _, _ => rfl
  | u :: l, x, k, n, h => by
    have hl : ∀ v ∈ l, 0 < v.size := fun v hv => h v (.tail _ hv)
    have hu := h u (.head _)
    unfold crashR
    rw [wsOf_cons, tsOf_cons]
    by_cases c : 0 ≤ u.at_
    · rw [if_pos c, if_pos c, if_pos c, crash_eq pat l _ _ _ hl]
      show _ = crashT (crashW pat (if 0 < pat.length ∧ pat.getD (k % pat.length) false = true then x.put (u.at_, u.b) else x) (wsOf l) (k + 1)) (tsOf l) n
      have : x.part u = x.put (u.at_, u.b) := by unfold Dk.part; rw [if_pos c]
      rw [this]
    · rw [if_neg c, if_neg c, if_neg c, crash_eq pat l _ _ _ hl]
      have hs := size_units c
      show _ = crashT (crashW pat x (wsOf l) k) (⟨u.b, u.trim, u.to⟩ :: tsOf l) n
      have e1 : crashT (crashW pat x (wsOf l) k) (⟨u.b, u.trim, u.to⟩ :: tsOf l) n = if Tn.units ⟨u.b, u.trim, u.to⟩ > n then (if n > 0 then (crashW pat x (wsOf l) k).turn ⟨u.b.take n.toNat, false, 0⟩ else crashW pat x (wsOf l) k) else crashT ((crashW pat x (wsOf l) k).turn ⟨u.b, u.trim, u.to⟩) (tsOf l) (n - Tn.units ⟨u.b, u.trim, u.to⟩) := rfl
      rw [e1, ← hs]
      by_cases c1 : u.size > n
      · rw [if_pos c1, if_pos c1, crashT_none _ _ (tsOf_pos l hl)]
        by_cases c2 : n > 0
        · have htr : u.trim = false := by
            cases ht : u.trim with
            | false => rfl
            | true =>
              have : u.size = 1 := by unfold Pt.size; rw [if_neg (by rintro ⟨_, e⟩; rw [ht] at e; cases e)]
              omega
          have hf : u.first n = ({ u with b := u.b.take n.toNat }, true) := by
            unfold Pt.first
            rw [if_neg (by omega), if_neg (by rintro (e | e | e)
                                              · omega
                                              · exact c e
                                              · rw [htr] at e; cases e)]
          have hp : x.part { u with b := u.b.take n.toNat } = x.turn ⟨u.b.take n.toNat, u.trim, u.to⟩ := part_turn (u := { u with b := u.b.take n.toNat }) c
          rw [hf, if_pos rfl, if_pos c2]
          show crashW pat (x.part { u with b := u.b.take n.toNat }) (wsOf l) k = _
          rw [hp, crashW_turn]
          unfold Dk.turn
          rw [htr]
          rfl
        · rw [first_one (by omega) (.inr (.inr (by omega))), if_neg c2, if_neg (show ¬ false = true by decide)]
      · rw [if_neg c1, if_neg c1]
        have hf : u.first n = (u, true) := by
          unfold Pt.first
          rw [if_pos (by omega), decide_eq_true hu]
        rw [hf, if_pos rfl]
        show crashT (crashW pat (x.part u) (wsOf l) k) (tsOf l) (n - u.size) = _
        rw [part_turn c, crashW_turn]
theorem Sim.crash {d : Dv} {r : Rf} (h : Sim d r) (pat : List Bool) (n : Int) : Sim (d.crash pat n) (r.crash pat n) := by
  have e := crash_eq pat r.done r.kept 0 n h.p
  rw [h.w, h.t, h.k] at e
  unfold Dv.crash Rf.crash
  rw [h.k]
  simp only [e]
  exact ⟨rfl, rfl, rfl, rfl, rfl, rfl, fun u hu => by cases hu⟩
end Go.Pvm.S
