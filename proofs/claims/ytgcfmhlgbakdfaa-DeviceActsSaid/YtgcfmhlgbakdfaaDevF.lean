/- Part of the proof: the device: appending to its stream, trimming it. -/
import Derived.Test.YtgcfmhlgbakdfaaDevE
set_option linter.unusedSimpArgs false
set_option linter.unusedVariables false
set_option maxRecDepth 100000
namespace Go.Pvm.S
open Go.Pvm Go.Proofs
theorem bvT (u : PV) (hu : u.plain = true) : buildv Try.prog 78 [(0, u)] = some (.agg [u, .bool false, .int .i64 0]) := by
  cases u <;> first | (cases hu; done) | kernel_rfl
theorem stT (σ : Store) (e : List PV) (he : e.length = 3) (h1 : e.all PV.one = true) : storev Try.prog (σ.push (.cells 0 [[.nilsl, .bool false, .int .i64 0]])) 78 (.ref σ.next 0 0) (.agg e) = some (σ.push (.cells 0 [e])) :=
  stNew szT rfl he h1

section
variable {g g' : Nat → Nat} {σ τ : Store} {id : Nat} {d : Dv} {u v : PV} {b : By}
theorem DevS.ldBase (h : DevS g σ id d) : loadv Try.prog σ 3 (.ref id 0 1) = some (.int .i64 d.seen.base) := by
  obtain ⟨x, q1, q2, q3, q4⟩ := h
  exact ldOne oInt q1 rfl
theorem DevS.ldSt (h : DevS g σ id d) : ∃ v, loadv Try.prog σ 30 (.ref id 0 2) = some v ∧ AxS RB σ 1 v d.seen.st := by
  obtain ⟨x, q1, q2, q3, q4⟩ := h
  exact ⟨x.vs, ldOne otB q1 rfl, q4.vs⟩
theorem DevS.ldPg (h : DevS g σ id d) : ∃ v, loadv Try.prog σ 30 (.ref id 0 0) = some v ∧ Wr RB σ 1 v d.seen.pg := by
  obtain ⟨x, q1, q2, q3, q4⟩ := h
  exact ⟨x.vp, ldOne otB q1 rfl, q4.vp⟩
theorem Lf.of {es : List (List PV)} {ro i : Nat} (ho : σ.objs i = some (.cells ro es)) (h : (es.all fun e => PV.lf.lfs e) = true) : Lf σ i := ⟨ro, es, ho, h⟩
/-- What is handed over is closed. -/
theorem closeV (h : DevS g σ id d) (hv : QS RB σ 1 v b) (hlf : ∀ i ∈ tops v, Lf σ i) (h7 : ∀ i ∈ tops v, g i = 7) : ∃ σ1, roAll (tops v) σ = some σ1 ∧ DevS g σ1 id d ∧ Out g σ g σ1 ∧ σ1.next = σ.next := by
  obtain ⟨es, q1, q2⟩ := hv
  rcases q1 with q1 | ⟨i, idx, cap, ro, full, rfl, o2, o3, o4, o5⟩
  · exact ⟨σ, roAll_pure q1.tops σ, h, Out.refl _ _, rfl⟩
  · obtain ⟨ro', es', e1, e2⟩ := hlf i (.head _)
    rw [o2] at e1
    cases e1
    have h7 := h7 i (.head _)
    refine ⟨σ.put i (.cells full.length full), ?_, h.mod (Mod.put (ids := [i]) (.head _)) fun j hj _ => by rw [List.mem_singleton.1 hj]; exact Nat.le_of_eq h7.symm, ⟨Nat.le_refl _, fun _ _ => rfl, fun j _ _ => ?_⟩, rfl⟩
    · show roAll [i] σ = _
      simp only [roAll, o2, e2, if_true]
    · by_cases hj : j = i
      · subst hj; exact .inr ⟨h7, ro, full, o2, put_obj _ _ _⟩
      · exact .inl (put_other hj)

theorem spAppend (h : DevS g σ id d) (hv : QS RB σ 1 v b) (hlf : ∀ i ∈ tops v, Lf σ i) (h7 : ∀ i ∈ tops v, g i = 7) {P : Nat} (hP : 1 ≤ P ∧ P ≤ 1000000) (hl : d.seen.pg.length = 512 * P) (hs : d.seen.st.length ≤ 65536) (hb : 0 ≤ d.seen.base ∧ d.seen.base ≤ 1000000000)
    (ha : -1 ≤ d.armed ∧ d.armed ≤ 9223372036854775807) (hw : d.ts.length ≤ 1000000) (hbl : b.length < 4611686018427387904) :
    ∃ g' τ, callω cfg 15 [.ref id 0 0, v] σ = some (.int .i64 (if b.length + d.seen.st.length ≤ 65536 then 0 else 10), τ) ∧ DevS g' τ id (if b.length + d.seen.st.length ≤ 65536 then d.app b else d) ∧ Out g σ g' τ := by
  have ev := eq15 (callω cfg) (loopω cfg) σ id 0 0 v
  obtain ⟨σ1, z1, z2, z3, z4⟩ := closeV h hv hlf h7
  have hu : IsS RB (fz fuelFz σ v) b := hv.frz okB 6
  obtain ⟨vs, l1, l2⟩ := z2.ldSt
  have hp0 : (((P : Nat) : Int) == 0) = false := by
    have : ¬ ((P : Nat) : Int) = 0 := by omega
    simpa using this
  have w1 : IntKind.wrap .i64 (65536 - ((d.seen.st.length : Nat) : Int)) = 65536 - ((d.seen.st.length : Nat) : Int) := wrapId (by omega) (by omega)
  simp only [z1, bind_some', cEPages (c2 := cfg15) rfl rfl z2 hl hP.2, asInt_int, hp0, Bool.false_eq_true, if_false, hu.len TB, Nat.add_zero, Nat.zero_add, l1, l2.len TB, w1] at ev
  by_cases c1 : b.length + d.seen.st.length ≤ 65536
  · rw [if_pos c1, if_pos c1]
    rw [if_neg (by simp; omega)] at ev
    have harg := bvT _ hu.plain
    obtain ⟨g2, τ1, t1, t2, t3⟩ := turnSeen z2 (t := ⟨b, false, 0⟩) hu (by show _ + b.length ≤ _; omega) (fun e => by cases e) hb
    have ht : callE cfg15 (callω cfg) 33 [.ref id 0 0, .agg [fz fuelFz σ v, .bool false, .int .i64 0]] σ1 = some (.tuple [], τ1) := by rw [callE_live rfl (by kernel_rfl)]; exact t1
    obtain ⟨τ2, s1, s2, s3⟩ := spCounts t2 (n := (b.length : Nat)) (by omega) ha
    have hc : callE cfg15 (callω cfg) 32 [.ref id 0 0, .int .i64 (b.length : Nat)] τ1 = some (.int .i64 (({ d with seen := d.seen.turn ⟨b, false, 0⟩ } : Dv).counts (b.length : Nat)).1, τ2) := by rw [callE_live rfl (by kernel_rfl)]; exact s1
    simp only [harg, bind_some', ht, hc, asInt_int] at ev
    have hle := counts_le { d with seen := d.seen.turn ⟨b, false, 0⟩ } (n := (b.length : Nat)) (by omega)
    have hsame := counts_same { d with seen := d.seen.turn ⟨b, false, 0⟩ } (b.length : Nat)
    have happ : d.app b = if (({ d with seen := d.seen.turn ⟨b, false, 0⟩ } : Dv).counts (b.length : Nat)).1 > 0 then { (({ d with seen := d.seen.turn ⟨b, false, 0⟩ } : Dv).counts (b.length : Nat)).2 with ts := d.ts ++ [⟨b.take (({ d with seen := d.seen.turn ⟨b, false, 0⟩ } : Dv).counts (b.length : Nat)).1.toNat, false, 0⟩] } else (({ d with seen := d.seen.turn ⟨b, false, 0⟩ } : Dv).counts (b.length : Nat)).2 := rfl
    rw [happ]
    generalize (({ d with seen := d.seen.turn ⟨b, false, 0⟩ } : Dv).counts (b.length : Nat)) = r at hle hsame ev s2
    obtain ⟨n, d2⟩ := r
    simp only at hle hsame ev s2
    by_cases c2 : n > 0
    · rw [if_pos c2]
      rw [if_pos (decide_eq_true c2)] at ev
      have hn : ((n.toNat : Nat) : Int) = n := by omega
      obtain ⟨v', k1, k2⟩ := hu.cut TB okB (lo := none) (hi := some (.int .i64 ((n.toNat : Nat) : Int))) rfl (numOf_nat .i64 _ _) (Nat.zero_le _) (by omega)
      rw [hn] at k1
      simp only [List.drop_zero, Nat.sub_zero] at k2
      obtain ⟨v2, j1, j2⟩ := cEClone (c2 := cfg15S) rfl rfl k2 (by simp; omega) τ2
      obtain ⟨vt, u', τ3, τ4, a1, a2, a3, a4, a5⟩ := appT s2 (t := ⟨b.take n.toNat, false, 0⟩) j2 (by rw [hsame.2.2.2]; exact hw)
      simp only [a1, k1, j1, bvT _ j2.plain, bsT1, a2, a3, bind_some'] at ev
      refine ⟨_, τ4, callω_ofK (hT _) ev, ?_, ((z3.trans t3).trans s3).trans a5⟩
      rw [hsame.2.2.2] at a4
      exact a4
    · rw [if_neg c2]
      rw [if_neg (by simpa using c2)] at ev
      exact ⟨_, τ2, callω_ofK (hT _) ev, s2, (z3.trans t3).trans s3⟩
  · rw [if_neg c1, if_neg c1]
    rw [if_pos (by simp; omega)] at ev
    exact ⟨g, σ1, callω_ofK (hT _) ev, z2, z3⟩

theorem spTrim (h : DevS g σ id d) {P : Nat} (hP : 1 ≤ P ∧ P ≤ 1000000) (hl : d.seen.pg.length = 512 * P) (hs : d.seen.st.length ≤ 65536) (hb : 0 ≤ d.seen.base ∧ d.seen.base ≤ 1000000000)
    (ha : -1 ≤ d.armed ∧ d.armed ≤ 9223372036854775807) (hw : d.ts.length ≤ 1000000) {place : Int} (hpl : place ≤ 9223372036854775807) :
    ∃ g' τ, callω cfg 18 [.ref id 0 0, .int .i64 place] σ = some (.int .i64 (if d.seen.base ≤ place ∧ place ≤ d.seen.base + d.seen.st.length then 0 else 1), τ) ∧ DevS g' τ id (if d.seen.base ≤ place ∧ place ≤ d.seen.base + d.seen.st.length then d.trim place else d) ∧ Out g σ g' τ := by
  have ev := eq18 (callω cfg) (loopω cfg) σ id 0 0 place
  obtain ⟨vs, l1, l2⟩ := h.ldSt
  have lb := h.ldBase
  have hp0 : (((P : Nat) : Int) == 0) = false := by
    have : ¬ ((P : Nat) : Int) = 0 := by omega
    simpa using this
  simp only [bind_some', cEPages (c2 := cfgS) rfl rfl h hl hP.2, asInt_int, hp0, Bool.false_eq_true, if_false, Nat.add_zero, Nat.zero_add, lb, l1, l2.len TB] at ev
  by_cases c0 : place < d.seen.base
  · rw [if_pos (decide_eq_true c0)] at ev
    rw [if_neg (by omega), if_neg (by omega)]
    exact ⟨g, σ, callω_ofK (hT _) ev, h, Out.refl _ _⟩
  rw [if_neg (by simpa using c0)] at ev
  have w1 : IntKind.wrap .i64 (place - d.seen.base) = place - d.seen.base := wrap_i64 (by omega) (by omega)
  rw [w1] at ev
  by_cases c1 : place - d.seen.base > ((d.seen.st.length : Nat) : Int)
  · rw [if_pos (decide_eq_true c1)] at ev
    rw [if_neg (by omega), if_neg (by omega)]
    exact ⟨g, σ, callω_ofK (hT _) ev, h, Out.refl _ _⟩
  rw [if_neg (by simpa using c1)] at ev
  rw [if_pos (by omega), if_pos (by omega)]
  obtain ⟨k1, k2, k3⟩ := h.box (.cells 0 [[.nilsl, .bool true, .int .i64 place]])
  have hbox : (σ.push (.cells 0 [[.nilsl, .bool true, .int .i64 place]])).objs σ.next = some (.cells 0 [[.nilsl, .bool true, .int .i64 place]]) := push_obj _ _
  obtain ⟨g2, τ1, t1, t2, t3⟩ := turnSeen k1 (t := ⟨[], true, place⟩) (u := .nilsl) IsS.nil (by show _ + 0 ≤ _; omega) (fun _ => ⟨by show d.seen.base ≤ place; omega, by show place ≤ _; omega⟩) hb
  have ht : callE cfgS (callω cfg) 33 [.ref id 0 0, .agg [.nilsl, .bool true, .int .i64 place]] (σ.push (.cells 0 [[.nilsl, .bool true, .int .i64 place]])) = some (.tuple [], τ1) := by rw [callE_live rfl (by kernel_rfl)]; exact t1
  obtain ⟨τ2, s1, s2, s3⟩ := spCounts t2 (n := 1) (by omega) ha
  have hc : callE cfg (callω cfg) 32 [.ref id 0 0, .int .i64 1] τ1 = some (.int .i64 (({ d with seen := d.seen.turn ⟨[], true, place⟩ } : Dv).counts 1).1, τ2) := by rw [callE_live rfl (by kernel_rfl)]; exact s1
  obtain ⟨ro', hbox2⟩ := (t3.trans s3).get (Nat.lt_succ_self _) (by rw [k3]; exact Nat.le_refl _) hbox
  simp only [stT σ [.nilsl, .bool true, .int .i64 place] rfl rfl, bind_some', ldT hbox rfl, ht, hc, asInt_int] at ev
  have hsame := counts_same { d with seen := d.seen.turn ⟨[], true, place⟩ } 1
  have htr : d.trim place = if (({ d with seen := d.seen.turn ⟨[], true, place⟩ } : Dv).counts 1).1 = 1 then { (({ d with seen := d.seen.turn ⟨[], true, place⟩ } : Dv).counts 1).2 with ts := d.ts ++ [⟨[], true, place⟩] } else (({ d with seen := d.seen.turn ⟨[], true, place⟩ } : Dv).counts 1).2 := rfl
  rw [htr]
  generalize (({ d with seen := d.seen.turn ⟨[], true, place⟩ } : Dv).counts 1) = r at hsame ev s2
  obtain ⟨n, d2⟩ := r
  simp only at hsame ev s2
  by_cases c2 : n = 1
  · rw [if_pos c2]
    rw [if_pos (by rw [c2]; rfl)] at ev
    obtain ⟨vt, u', τ3, τ4, a1, a2, a3, a4, a5⟩ := appT s2 (t := ⟨[], true, place⟩) (u := .nilsl) IsS.nil (by rw [hsame.2.2.2]; exact hw)
    simp only [a1, ldT hbox2 rfl, bsT1, a2, a3, bind_some'] at ev
    refine ⟨_, τ4, callω_ofK (hT _) ev, ?_, ((k2.trans t3).trans s3).trans a5⟩
    rw [hsame.2.2.2] at a4
    exact a4
  · rw [if_neg c2]
    rw [if_neg (by simpa using c2)] at ev
    exact ⟨_, τ2, callω_ofK (hT _) ev, s2, (k2.trans t3).trans s3⟩
end
end Go.Pvm.S
