/- Part of the proof: the document's device, plainly: bytes that follow, what is kept. -/
import Derived.Test.YtgcfmhlgbakdfaaDevO
set_option linter.unusedSimpArgs false
set_option linter.unusedVariables false
set_option maxRecDepth 100000
namespace Go.Pvm.S
open Go.Pvm Go.Proofs
theorem app_eq (d : Dv) (b : By) : d.app b = if (({ d with seen := d.seen.turn ⟨b, false, 0⟩ } : Dv).counts (b.length : Nat)).1 > 0 then { (({ d with seen := d.seen.turn ⟨b, false, 0⟩ } : Dv).counts (b.length : Nat)).2 with ts := d.ts ++ [⟨b.take (({ d with seen := d.seen.turn ⟨b, false, 0⟩ } : Dv).counts (b.length : Nat)).1.toNat, false, 0⟩] } else (({ d with seen := d.seen.turn ⟨b, false, 0⟩ } : Dv).counts (b.length : Nat)).2 := rfl
theorem app_gone {d : Dv} {b : By} (hg : d.gone = true) : d.app b = { d with seen := d.seen.turn ⟨b, false, 0⟩ } := by
  have hc : (({ d with seen := d.seen.turn ⟨b, false, 0⟩ } : Dv).counts (b.length : Nat)) = (0, { d with seen := d.seen.turn ⟨b, false, 0⟩ }) := by simp [Dv.counts, hg]
  rw [app_eq, hc, if_neg (show ¬ (0 : Int) > 0 by decide)]
theorem app_free {d : Dv} {b : By} (hg : d.gone = false) (ha : d.armed < 0) : d.app b = { d with seen := d.seen.turn ⟨b, false, 0⟩, ts := if 0 < b.length then d.ts ++ [⟨b, false, 0⟩] else d.ts } := by
  have hc : (({ d with seen := d.seen.turn ⟨b, false, 0⟩ } : Dv).counts (b.length : Nat)) = (((b.length : Nat) : Int), { d with seen := d.seen.turn ⟨b, false, 0⟩ }) := by simp [Dv.counts, hg, ha]
  rw [app_eq, hc]
  simp only [Int.toNat_natCast, List.take_length]
  by_cases hb : 0 < b.length
  · rw [if_pos (by omega), if_pos hb]
  · rw [if_neg (by omega), if_neg hb]
theorem app_more {d : Dv} {b : By} (hg : d.gone = false) (ha : ((b.length : Nat) : Int) ≤ d.armed) : d.app b = { d with seen := d.seen.turn ⟨b, false, 0⟩, ts := if 0 < b.length then d.ts ++ [⟨b, false, 0⟩] else d.ts, armed := d.armed - (b.length : Nat) } := by
  have h1 : ¬ d.armed < 0 := by omega
  have h2 : ¬ ((b.length : Nat) : Int) > d.armed := by omega
  have hc : (({ d with seen := d.seen.turn ⟨b, false, 0⟩ } : Dv).counts (b.length : Nat)) = (((b.length : Nat) : Int), { d with seen := d.seen.turn ⟨b, false, 0⟩, armed := d.armed - (b.length : Nat) }) := by
    unfold Dv.counts
    rw [if_neg (by show ¬ d.gone = true; rw [hg]; decide), if_neg (by exact h1), if_neg (by exact h2)]
  rw [app_eq, hc]
  simp only [Int.toNat_natCast, List.take_length]
  by_cases hb : 0 < b.length
  · rw [if_pos (by omega), if_pos hb]
  · rw [if_neg (by omega), if_neg hb]
theorem app_cut {d : Dv} {b : By} (hg : d.gone = false) (ha : 0 ≤ d.armed) (hb : ((b.length : Nat) : Int) > d.armed) : d.app b = { d with seen := d.seen.turn ⟨b, false, 0⟩, ts := if 0 < d.armed then d.ts ++ [⟨b.take d.armed.toNat, false, 0⟩] else d.ts, armed := 0, gone := true } := by
  have h1 : ¬ d.armed < 0 := by omega
  have hc : (({ d with seen := d.seen.turn ⟨b, false, 0⟩ } : Dv).counts (b.length : Nat)) = (d.armed, { d with seen := d.seen.turn ⟨b, false, 0⟩, gone := true, armed := 0 }) := by
    unfold Dv.counts
    rw [if_neg (by show ¬ d.gone = true; rw [hg]; decide), if_neg (by exact h1), if_pos (by exact hb)]
  rw [app_eq, hc]
  by_cases h2 : 0 < d.armed
  · rw [if_pos h2, if_pos h2]
  · rw [if_neg h2, if_neg h2]
/-- Bytes that follow. -/
theorem Sim.app {d : Dv} {r : Rf} (h : Sim d r) (b : By) : Sim (d.app b) (r.act ⟨-1, b, false, 0⟩) := by
  have hat : ¬ (0 : Int) ≤ Pt.at_ ⟨-1, b, false, 0⟩ := by show ¬ (0 : Int) ≤ -1; decide
  have hsz : ∀ c : By, Pt.size ⟨-1, c, false, 0⟩ = (c.length : Nat) := fun c => by unfold Pt.size; rw [if_pos ⟨by show (-1 : Int) < 0; decide, rfl⟩]
  have hpart : r.now.part ⟨-1, b, false, 0⟩ = d.seen.turn ⟨b, false, 0⟩ := by unfold Dk.part; rw [if_neg hat, h.n]
  obtain ⟨s1, s2⟩ := h.snocT hat
  cases hg : d.gone with
  | true =>
    rw [app_gone hg, act_gone (by rw [h.g]; exact hg), hpart]
    exact ⟨h.k, rfl, h.g, h.a, h.w, h.t, h.p⟩
  | false =>
    have hgr : r.gone = false := by rw [h.g]; exact hg
    by_cases hb : 0 < b.length
    · have hs1 : (0 : Int) < Pt.size ⟨-1, b, false, 0⟩ := by rw [hsz]; omega
      have hf := first_all hs1
      have hp := h.pos hs1
      by_cases ha : d.armed < 0
      · rw [app_free hg ha, act_free hgr (by rw [h.a]; exact ha) hf, hpart, if_pos hb]
        exact ⟨h.k, rfl, h.g, h.a, s1, s2, hp⟩
      · by_cases hc : ((b.length : Nat) : Int) ≤ d.armed
        · rw [app_more hg hc, act_more hgr (by rw [h.a]; omega) (by rw [h.a, hsz]; exact hc) hf, hpart, hsz, h.a, if_pos hb]
          exact ⟨h.k, rfl, h.g, rfl, s1, s2, hp⟩
        · rw [app_cut hg (by omega) (by omega), act_cut hgr (by rw [h.a]; omega) (by rw [h.a, hsz]; omega), hpart, h.a]
          by_cases h0 : 0 < d.armed
          · have hfc : Pt.first ⟨-1, b, false, 0⟩ d.armed = (⟨-1, b.take d.armed.toNat, false, 0⟩, true) := by
              unfold Pt.first
              rw [hsz, if_neg (by omega), if_neg (by rintro (e | e | e)
                                                     · omega
                                                     · exact hat e
                                                     · cases e)]
            have hs2 : (0 : Int) < Pt.size ⟨-1, b.take d.armed.toNat, false, 0⟩ := by rw [hsz, List.length_take]; omega
            obtain ⟨t1, t2⟩ := h.snocT (u := ⟨-1, b.take d.armed.toNat, false, 0⟩) hat
            rw [hfc, if_pos rfl, if_pos h0]
            exact ⟨h.k, rfl, rfl, rfl, t1, t2, h.pos hs2⟩
          · rw [first_one (by rw [hsz]; omega) (.inr (.inr (by omega))), if_neg h0, if_neg (show ¬ false = true by decide)]
            exact ⟨h.k, rfl, rfl, rfl, h.w, h.t, h.p⟩
    · have hb0 : b.length = 0 := by omega
      have hfn : Pt.first ⟨-1, b, false, 0⟩ (Pt.size ⟨-1, b, false, 0⟩) = (⟨-1, b, false, 0⟩, false) := by
        unfold Pt.first
        rw [if_pos (Int.le_refl _), hsz, hb0]
        rfl
      rw [act_none hgr (by rw [hsz]; omega) (by rw [hsz]; omega) hfn, hpart]
      by_cases ha : d.armed < 0
      · rw [app_free hg ha, if_neg hb]
        exact ⟨h.k, rfl, h.g, h.a, h.w, h.t, h.p⟩
      · rw [app_more hg (by omega), if_neg hb]
        exact ⟨h.k, rfl, h.g, by show r.armed = d.armed - (b.length : Nat); rw [h.a, hb0]; omega, h.w, h.t, h.p⟩
def Rf.sync (r : Rf) : Rf := if r.gone = true then r else { kept := r.now, now := r.now, done := [], gone := false, armed := r.armed }
def Rf.arm (r : Rf) (n : Int) : Rf := if r.gone = true then r else { r with armed := if n < 0 then -1 else n }
theorem Sim.sync {d : Dv} {r : Rf} (h : Sim d r) {P : Nat} {T : Int} (hI : Inv P T d) : Sim d.sync r.sync := by
  unfold Dv.sync Rf.sync
  cases hg : d.gone with
  | true =>
    rw [if_pos rfl, if_pos (by rw [h.g]; exact hg)]
    exact h
  | false =>
    rw [if_neg (by decide), if_neg (by rw [h.g, hg]; decide), hI.sy hg]
    exact ⟨h.n, h.n, rfl, h.a, rfl, rfl, fun u hu => by cases hu⟩
theorem Sim.armed {d : Dv} {r : Rf} (h : Sim d r) (n : Int) : Sim (d.arm n) (r.arm n) := by
  unfold Dv.arm Rf.arm
  cases hg : d.gone with
  | true =>
    rw [if_pos rfl, if_pos (by rw [h.g]; exact hg)]
    exact h
  | false =>
    rw [if_neg (by decide), if_neg (by rw [h.g, hg]; decide)]
    refine ⟨h.k, h.n, h.g.trans hg, ?_, h.w, h.t, h.p⟩
    show (if n < 0 then -1 else n) = max (-1) n
    split <;> omega
end Go.Pvm.S
