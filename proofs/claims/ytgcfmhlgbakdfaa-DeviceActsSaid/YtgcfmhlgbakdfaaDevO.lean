/- Part of the proof: the document's device, plainly, and that it is the program's. -/
import Derived.Test.YtgcfmhlgbakdfaaDevM
set_option linter.unusedSimpArgs false
set_option linter.unusedVariables false
set_option maxRecDepth 100000
namespace Go.Pvm.S
open Go.Pvm Go.Proofs

structure Pt where
  at_ : Int
  b : By
  trim : Bool
  to : Int
structure Rf where
  kept : Dk
  now : Dk
  done : List Pt
  gone : Bool
  armed : Int
def Pt.size (u : Pt) : Int := if u.at_ < 0 ∧ u.trim = false then (u.b.length : Nat) else 1
def Dk.part (x : Dk) (u : Pt) : Dk := if 0 ≤ u.at_ then x.put (u.at_, u.b) else x.turn ⟨u.b, u.trim, u.to⟩
def Pt.first (u : Pt) (n : Int) : Pt × Bool := if n ≥ u.size then (u, decide (u.size > 0)) else if n ≤ 0 ∨ u.at_ ≥ 0 ∨ u.trim = true then (u, false) else ({ u with b := u.b.take n.toNat }, true)
def Rf.act (d : Rf) (u : Pt) : Rf :=
  if d.gone = true then { d with now := d.now.part u } else
  if 0 ≤ d.armed ∧ u.size > d.armed then
    { kept := d.kept, now := d.now.part u, done := if (u.first d.armed).2 = true then d.done ++ [(u.first d.armed).1] else d.done, gone := true, armed := 0 }
  else { kept := d.kept, now := d.now.part u, done := if (u.first u.size).2 = true then d.done ++ [(u.first u.size).1] else d.done, gone := false, armed := if 0 ≤ d.armed then d.armed - u.size else d.armed }
/-- The program's lists out of the document's. -/
def wsOf : List Pt → List (Int × By)
  | [] => []
  | u :: r => if 0 ≤ u.at_ then (u.at_, u.b) :: wsOf r else wsOf r
def tsOf : List Pt → List Tn
  | [] => []
  | u :: r => if 0 ≤ u.at_ then tsOf r else ⟨u.b, u.trim, u.to⟩ :: tsOf r
theorem wsOf_cons (u : Pt) (r : List Pt) : wsOf (u :: r) = if 0 ≤ u.at_ then (u.at_, u.b) :: wsOf r else wsOf r := rfl
theorem tsOf_cons (u : Pt) (r : List Pt) : tsOf (u :: r) = if 0 ≤ u.at_ then tsOf r else ⟨u.b, u.trim, u.to⟩ :: tsOf r := rfl
theorem wsOf_app : ∀ a b : List Pt, wsOf (a ++ b) = wsOf a ++ wsOf b
  | [], b => rfl
  | u :: a, b => by
    rw [List.cons_append, wsOf_cons, wsOf_cons, wsOf_app a b]
    split <;> rfl
theorem tsOf_app : ∀ a b : List Pt, tsOf (a ++ b) = tsOf a ++ tsOf b
  | [], b => rfl
  | u :: a, b => by
    rw [List.cons_append, tsOf_cons, tsOf_cons, tsOf_app a b]
    split <;> rfl
structure Sim (d : Dv) (r : Rf) : Prop where
  k : r.kept = d.kept
  n : r.now = d.seen
  g : r.gone = d.gone
  a : r.armed = d.armed
  w : wsOf r.done = d.ws
  t : tsOf r.done = d.ts
  p : ∀ u ∈ r.done, 0 < u.size
/-! What a write, bytes, a trim come to, case by case. -/
theorem wr1_gone {d : Dv} {w : Int × By} (hg : d.gone = true) : d.wr1 w = { d with seen := d.seen.put w } := by simp [Dv.wr1, Dv.counts, hg]
theorem wr1_free {d : Dv} {w : Int × By} (hg : d.gone = false) (ha : d.armed < 0) : d.wr1 w = { d with seen := d.seen.put w, ws := d.ws ++ [w] } := by simp [Dv.wr1, Dv.counts, hg, ha]
theorem wr1_last {d : Dv} {w : Int × By} (hg : d.gone = false) (ha : d.armed = 0) : d.wr1 w = { d with seen := d.seen.put w, gone := true, armed := 0 } := by simp [Dv.wr1, Dv.counts, hg, ha]
theorem wr1_more {d : Dv} {w : Int × By} (hg : d.gone = false) (ha : 0 < d.armed) : d.wr1 w = { d with seen := d.seen.put w, ws := d.ws ++ [w], armed := d.armed - 1 } := by
  have h1 : ¬ d.armed < 0 := by omega
  have h2 : ¬ (1 : Int) > d.armed := by omega
  simp [Dv.wr1, Dv.counts, hg, h1, h2]
theorem trim_gone {d : Dv} {p : Int} (hg : d.gone = true) : d.trim p = { d with seen := d.seen.turn ⟨[], true, p⟩ } := by simp [Dv.trim, Dv.counts, hg]
theorem trim_free {d : Dv} {p : Int} (hg : d.gone = false) (ha : d.armed < 0) : d.trim p = { d with seen := d.seen.turn ⟨[], true, p⟩, ts := d.ts ++ [⟨[], true, p⟩] } := by simp [Dv.trim, Dv.counts, hg, ha]
theorem trim_last {d : Dv} {p : Int} (hg : d.gone = false) (ha : d.armed = 0) : d.trim p = { d with seen := d.seen.turn ⟨[], true, p⟩, gone := true, armed := 0 } := by simp [Dv.trim, Dv.counts, hg, ha]
theorem trim_more {d : Dv} {p : Int} (hg : d.gone = false) (ha : 0 < d.armed) : d.trim p = { d with seen := d.seen.turn ⟨[], true, p⟩, ts := d.ts ++ [⟨[], true, p⟩], armed := d.armed - 1 } := by
  have h1 : ¬ d.armed < 0 := by omega
  have h2 : ¬ (1 : Int) > d.armed := by omega
  simp [Dv.trim, Dv.counts, hg, h1, h2]
theorem act_gone {r : Rf} {u : Pt} (hg : r.gone = true) : r.act u = { r with now := r.now.part u } := by simp [Rf.act, hg]
theorem act_free {r : Rf} {u : Pt} (hg : r.gone = false) (ha : r.armed < 0) (hf : (u.first u.size) = (u, true)) : r.act u = { r with now := r.now.part u, done := r.done ++ [u] } := by
  have h1 : ¬ 0 ≤ r.armed := by omega
  simp [Rf.act, hg, h1, hf]
theorem act_none {r : Rf} {u : Pt} (hg : r.gone = false) (hs : u.size ≤ 0) (h0 : 0 ≤ u.size) (hf : (u.first u.size) = (u, false)) : r.act u = { r with now := r.now.part u } := by
  have h1 : u.size = 0 := by omega
  by_cases h : 0 ≤ r.armed
  · have h2 : ¬ u.size > r.armed := by omega
    have h3 : ¬ (0 : Int) > r.armed := by omega
    rw [h1] at hf
    simp [Rf.act, hg, h, h1, h3, hf]
  · rw [h1] at hf
    simp [Rf.act, hg, h, h1, hf]
theorem act_more {r : Rf} {u : Pt} (hg : r.gone = false) (ha : 0 ≤ r.armed) (hs : u.size ≤ r.armed) (hf : (u.first u.size) = (u, true)) : r.act u = { r with now := r.now.part u, done := r.done ++ [u], armed := r.armed - u.size } := by
  have h1 : ¬ u.size > r.armed := by omega
  simp [Rf.act, hg, ha, h1, hf]
theorem act_cut {r : Rf} {u : Pt} (hg : r.gone = false) (ha : 0 ≤ r.armed) (hs : u.size > r.armed) : r.act u = { r with now := r.now.part u, done := if (u.first r.armed).2 = true then r.done ++ [(u.first r.armed).1] else r.done, gone := true, armed := 0 } := by
  simp [Rf.act, hg, ha, hs]
theorem first_all {u : Pt} (h : 0 < u.size) : u.first u.size = (u, true) := by
  unfold Pt.first
  rw [if_pos (Int.le_refl _), decide_eq_true h]
theorem first_one {u : Pt} {n : Int} (h : ¬ n ≥ u.size) (h2 : u.at_ ≥ 0 ∨ u.trim = true ∨ n ≤ 0) : u.first n = (u, false) := by
  unfold Pt.first
  rw [if_neg h, if_pos]
  rcases h2 with h2 | h2 | h2
  · exact .inr (.inl h2)
  · exact .inr (.inr h2)
  · exact .inl h2
theorem Sim.snocW {d : Dv} {r : Rf} (h : Sim d r) {u : Pt} (hu : 0 ≤ u.at_) : wsOf (r.done ++ [u]) = d.ws ++ [(u.at_, u.b)] ∧ tsOf (r.done ++ [u]) = d.ts := by
  rw [wsOf_app, tsOf_app, h.w, h.t, wsOf_cons, tsOf_cons, if_pos hu, if_pos hu]
  exact ⟨rfl, List.append_nil _⟩
theorem Sim.snocT {d : Dv} {r : Rf} (h : Sim d r) {u : Pt} (hu : ¬ 0 ≤ u.at_) : wsOf (r.done ++ [u]) = d.ws ∧ tsOf (r.done ++ [u]) = d.ts ++ [⟨u.b, u.trim, u.to⟩] := by
  rw [wsOf_app, tsOf_app, h.w, h.t, wsOf_cons, tsOf_cons, if_neg hu, if_neg hu]
  exact ⟨List.append_nil _, rfl⟩
theorem Sim.pos {d : Dv} {r : Rf} (h : Sim d r) {u : Pt} (hu : 0 < u.size) : ∀ x ∈ r.done ++ [u], 0 < x.size := fun x hx => by
  rcases List.mem_append.1 hx with hx | hx
  · exact h.p x hx
  · rw [List.mem_singleton.1 hx]; exact hu
/-- A sector's write. -/
theorem Sim.wr1 {d : Dv} {r : Rf} (h : Sim d r) (w : Int × By) (hw : 0 ≤ w.1) : Sim (d.wr1 w) (r.act ⟨w.1, w.2, false, 0⟩) := by
  have hsz : Pt.size ⟨w.1, w.2, false, 0⟩ = 1 := by unfold Pt.size; rw [if_neg (by show ¬ (w.1 < 0 ∧ _); omega)]
  have hpart : r.now.part ⟨w.1, w.2, false, 0⟩ = d.seen.put w := by unfold Dk.part; rw [if_pos hw, h.n]
  have hs1 : (0 : Int) < Pt.size ⟨w.1, w.2, false, 0⟩ := by rw [hsz]; decide
  have hf := first_all hs1
  obtain ⟨s1, s2⟩ := h.snocW (u := ⟨w.1, w.2, false, 0⟩) hw
  have hp := h.pos hs1
  cases hg : d.gone with
  | true =>
    rw [wr1_gone hg, act_gone (by rw [h.g]; exact hg), hpart]
    exact ⟨h.k, rfl, h.g, h.a, h.w, h.t, h.p⟩
  | false =>
    have hgr : r.gone = false := by rw [h.g]; exact hg
    rcases Int.lt_trichotomy d.armed 0 with ha | ha | ha
    · rw [wr1_free hg ha, act_free hgr (by rw [h.a]; exact ha) hf, hpart]
      exact ⟨h.k, rfl, h.g, h.a, s1, s2, hp⟩
    · rw [wr1_last hg ha, act_cut hgr (by rw [h.a]; omega) (by rw [h.a, hsz]; omega), hpart, first_one (by rw [hsz, h.a]; omega) (.inl hw)]
      exact ⟨h.k, rfl, rfl, rfl, h.w, h.t, h.p⟩
    · rw [wr1_more hg ha, act_more hgr (by rw [h.a]; omega) (by rw [h.a, hsz]; omega) hf, hpart, hsz, h.a]
      exact ⟨h.k, rfl, h.g, rfl, s1, s2, hp⟩
/-- A trim. -/
theorem Sim.trim {d : Dv} {r : Rf} (h : Sim d r) (p : Int) : Sim (d.trim p) (r.act ⟨-1, [], true, p⟩) := by
  have hat : ¬ (0 : Int) ≤ Pt.at_ ⟨-1, [], true, p⟩ := by show ¬ (0 : Int) ≤ -1; decide
  have hsz : Pt.size ⟨-1, [], true, p⟩ = 1 := by unfold Pt.size; rw [if_neg (by rintro ⟨_, e⟩; cases e)]
  have hpart : r.now.part ⟨-1, [], true, p⟩ = d.seen.turn ⟨[], true, p⟩ := by unfold Dk.part; rw [if_neg hat, h.n]
  have hs1 : (0 : Int) < Pt.size ⟨-1, [], true, p⟩ := by rw [hsz]; decide
  have hf := first_all hs1
  obtain ⟨s1, s2⟩ := h.snocT hat
  have hp := h.pos hs1
  cases hg : d.gone with
  | true =>
    rw [trim_gone hg, act_gone (by rw [h.g]; exact hg), hpart]
    exact ⟨h.k, rfl, h.g, h.a, h.w, h.t, h.p⟩
  | false =>
    have hgr : r.gone = false := by rw [h.g]; exact hg
    rcases Int.lt_trichotomy d.armed 0 with ha | ha | ha
    · rw [trim_free hg ha, act_free hgr (by rw [h.a]; exact ha) hf, hpart]
      exact ⟨h.k, rfl, h.g, h.a, s1, s2, hp⟩
    · rw [trim_last hg ha, act_cut hgr (by rw [h.a]; omega) (by rw [h.a, hsz]; omega), hpart, first_one (by rw [hsz, h.a]; omega) (.inr (.inl rfl))]
      exact ⟨h.k, rfl, rfl, rfl, h.w, h.t, h.p⟩
    · rw [trim_more hg ha, act_more hgr (by rw [h.a]; omega) (by rw [h.a, hsz]; omega) hf, hpart, hsz, h.a]
      exact ⟨h.k, rfl, h.g, rfl, s1, s2, hp⟩
end Go.Pvm.S
