/- Part of the proof: the device: made, read, synced. -/
import Derived.Test.YtgcfmhlgbakdfaaDevF
set_option linter.unusedSimpArgs false
set_option linter.unusedVariables false
set_option maxRecDepth 100000
namespace Go.Pvm.S
open Go.Pvm Go.Proofs

/-! ### Plain -/
def oks : Dk → List Tn → Prop
  | _, [] => True
  | x, t :: r => (t.trim = true → x.base ≤ t.place ∧ t.place ≤ x.base + x.st.length) ∧ (0 ≤ x.base ∧ x.base ≤ 1000000000) ∧ x.st.length + t.b.length ≤ 65536 ∧ oks (x.turn t) r
def okws (P : Nat) (ws : List (Int × By)) : Prop := ∀ w ∈ ws, 0 ≤ w.1 ∧ 128 * w.1.toNat + 128 ≤ 512 * P ∧ w.2.length = 128
def Dv.sync (d : Dv) : Dv := if d.gone = true then d else { d with kept := d.ts.foldl Dk.turn (d.ws.foldl Dk.put d.kept), ws := [], ts := [] }
theorem foldPut_len {P : Nat} : ∀ (ws : List (Int × By)) (x : Dk), okws P ws → x.pg.length = 512 * P → (ws.foldl Dk.put x).pg.length = 512 * P
  | [], _, _, h => h
  | w :: ws, x, hw, h => by
    obtain ⟨h1, h2, h3⟩ := hw w (.head _)
    refine foldPut_len ws (x.put w) (fun y hy => hw y (.tail _ hy)) ?_
    show (putP x.pg w).length = _
    rw [putP_len (by omega) h3, h]
theorem foldPut_st : ∀ (ws : List (Int × By)) (x : Dk), (ws.foldl Dk.put x).st = x.st ∧ (ws.foldl Dk.put x).base = x.base
  | [], _ => ⟨rfl, rfl⟩
  | w :: ws, x => foldPut_st ws (x.put w)
theorem foldTurn_pg : ∀ (ts : List Tn) (x : Dk), (ts.foldl Dk.turn x).pg = x.pg
  | [], _ => rfl
  | t :: ts, x => (foldTurn_pg ts (x.turn t)).trans (turn_pg x t)
theorem oks_pg : ∀ (ts : List Tn) (x y : Dk), x.st = y.st → x.base = y.base → oks x ts → oks y ts
  | [], _, _, _, _, _ => trivial
  | t :: ts, x, y, h1, h2, h => by
    obtain ⟨a, b, c, d⟩ := h
    refine ⟨by rw [← h1, ← h2]; exact a, by rw [← h2]; exact b, by rw [← h1]; exact c, oks_pg ts _ _ ?_ ?_ d⟩
    · unfold Dk.turn; split <;> simp [h1, h2]
    · unfold Dk.turn; split <;> simp [h2]

/-! ### The device with its values at hand -/
def DevX (g : Nat → Nat) (σ : Store) (id : Nat) (d : Dv) (x : Vals) : Prop := σ.objs id = some (.cells 0 [x.cells d]) ∧ id < σ.next ∧ g id = 0 ∧ Comp g σ x d
section
variable {g g' : Nat → Nat} {σ τ : Store} {id : Nat} {d : Dv} {x : Vals} {u v : PV} {b : By}
theorem DevX.s (h : DevX g σ id d x) : DevS g σ id d := ⟨x, h⟩
theorem DevX.box (h : DevX g σ id d x) (o : Obj) : DevX (tag g σ.next 7) (σ.push o) id d x ∧ Out g σ (tag g σ.next 7) (σ.push o) ∧ tag g σ.next 7 σ.next = 7 := by
  obtain ⟨q1, q2, q3, q4⟩ := h
  have hg : ∀ i, i < σ.next → tag g σ.next 7 i = g i := fun i hi => tag_old hi
  exact ⟨⟨push_at q1 q2, Nat.lt_succ_of_lt q2, (hg id q2).trans q3, (q4.retag hg).mod (Mod.push σ o []) fun i hi => by cases hi⟩, (Out.retag hg).trans (Out.push _ σ o), tag_new (Nat.le_refl _)⟩
theorem putKeptX (h : DevX g σ id d x) (hu : IsS RB u b) (h1 : b.length = 128) {at_ : Nat} (h2 : 128 * at_ + 128 ≤ d.kept.pg.length) (hs : d.kept.pg.length ≤ 1000000000) :
    ∃ τ, callω cfg 31 [.ref id 0 3, .agg [.int .i64 (at_ : Nat), u]] σ = some (.tuple [], τ) ∧ DevX g τ id { d with kept := d.kept.put ((at_ : Nat), b) } x ∧ Out g σ g τ := by
  obtain ⟨q1, q2, q3, q4⟩ := h
  obtain ⟨τ, k1, k2, k3⟩ := spPut (off := 3) q1 q2 rfl q4.wp hu h1 h2 hs
  have key : ∀ {k : Nat} {v : PV}, k ≠ 3 → Sl g k v → ∀ i ∈ tops v, i ∉ tops x.wp := fun a c i hi hm => a ((c i hi).symm.trans (q4.g3 i hm))
  refine ⟨τ, k1, ⟨(k2.2 id q2 fun hm => by have := q4.g3 id hm; omega).trans q1, Nat.lt_of_lt_of_le q2 k2.1, q3, ?_⟩, Out.mod k2 (fun i hi _ => by rw [q4.g3 i hi]; decide) fun _ _ => rfl⟩
  exact ⟨q4.vp.mod k2 (key (by decide) q4.g1), q4.vs.mod k2 (key (by decide) q4.g2), k3, q4.ws.mod k2 (key (by decide) q4.g4), q4.vw.mod k2 (key (by decide) q4.g5), q4.vt.mod k2 (key (by decide) q4.g6), q4.g1, q4.g2, q4.g3, q4.g4, q4.g5, q4.g6⟩
theorem turnKeptX (h : DevX g σ id d x) {t : Tn} (hu : IsS RB u t.b) (hs : d.kept.st.length + t.b.length ≤ 1000000000) (hv : t.trim = true → d.kept.base ≤ t.place ∧ t.place ≤ d.kept.base + d.kept.st.length) (hb : 0 ≤ d.kept.base ∧ d.kept.base ≤ 1000000000) :
    ∃ g' τ u', callω cfg 33 [.ref id 0 3, .agg [u, .bool t.trim, .int .i64 t.place]] σ = some (.tuple [], τ) ∧ DevX g' τ id { d with kept := d.kept.turn t } { x with ws := u' } ∧ Out g σ g' τ := by
  obtain ⟨q1, q2, q3, q4⟩ := h
  obtain ⟨u', τ, k1, k2, k3, k4, k5⟩ := spTurn (off := 3) q1 q2 (by show 5 < 10; decide) rfl rfl q4.ws (fun i hi e => by have := q4.g4 i hi; rw [e] at this; omega) hu hs hv hb
  have key : ∀ {k : Nat} {v : PV}, k ≠ 4 → 0 < k → Sl g k v → ∀ i ∈ tops v, i ∉ id :: tops x.ws := fun a a0 c i hi hm => by
    rcases List.mem_cons.1 hm with rfl | hm
    · have := c _ hi; omega
    · exact a ((c i hi).symm.trans (q4.g4 i hm))
  have hg : ∀ i, i < σ.next → tag g σ.next 4 i = g i := fun i hi => tag_old hi
  obtain ⟨e1, e2⟩ := turn_mk d.kept [] t
  have e3 := turn_pg d.kept t
  have r := q4.retag hg
  refine ⟨tag g σ.next 4, τ, u', k1, ⟨?_, Nat.lt_of_lt_of_le q2 k2.1, (hg id q2).trans q3, ?_⟩, Out.mod k2 (fun i hi _ => ?_) hg⟩
  · rw [k3, e2]
    rfl
  · refine ⟨q4.vp.mod k2 (key (by decide) (by decide) q4.g1), q4.vs.mod k2 (key (by decide) (by decide) q4.g2), ?_, ?_, q4.vw.mod k2 (key (by decide) (by decide) q4.g5), q4.vt.mod k2 (key (by decide) (by decide) q4.g6), r.g1, r.g2, r.g3, q4.g4.tag q4.ws.lt k5, r.g5, r.g6⟩
    · show Wr RB τ 1 x.wp (d.kept.turn t).pg
      rw [e3]
      exact q4.wp.mod k2 (key (by decide) (by decide) q4.g3)
    · show AxS RB τ 1 u' (d.kept.turn t).st
      rw [← e1]
      exact k4
  · rcases List.mem_cons.1 hi with rfl | hi
    · omega
    · rw [q4.g4 i hi]; decide
/-- A write, a turn, at hand. -/
theorem DevX.w (h : DevX g σ id d x) {i : Nat} (hi : i < d.ws.length) : ∃ w r u, d.ws[i]? = some w ∧ indexAddrv Try.prog 69 x.vw (.int .i64 (i : Nat)) = some r ∧ loadv Try.prog σ 74 r = some (.agg [.int .i64 w.1, u]) ∧ IsS RB u w.2 := by
  have hw := List.getElem?_eq_getElem hi
  obtain ⟨r, e, k1, _, k2, u, rfl, k3⟩ := h.2.2.2.vw.q.idx TW okW hw .i64
  exact ⟨_, r, u, hw, k1, by rw [k2, aggW.part rfl], k3⟩
theorem DevX.t (h : DevX g σ id d x) {i : Nat} (hi : i < d.ts.length) : ∃ t r u, d.ts[i]? = some t ∧ indexAddrv Try.prog 70 x.vt (.int .i64 (i : Nat)) = some r ∧ loadv Try.prog σ 78 r = some (.agg [u, .bool t.trim, .int .i64 t.place]) ∧ IsS RB u t.b := by
  have hw := List.getElem?_eq_getElem hi
  obtain ⟨r, e, k1, _, k2, u, rfl, k3⟩ := h.2.2.2.vt.q.idx TT okT hw .i64
  exact ⟨_, r, u, hw, k1, by rw [k2, aggT.part rfl], k3⟩
theorem drop_at {α : Type} {l : List α} {i : Nat} {a : α} (h : l[i]? = some a) : l.drop i = a :: l.drop (i + 1) := by
  have hi := (List.getElem?_eq_some_iff.1 h).1
  rw [List.drop_eq_getElem_cons hi]
  rw [List.getElem?_eq_getElem hi] at h
  cases h
  rfl
theorem pl2 {u : PV} (hu : u.plain = true) (k : IntKind) (y : Int) : ([PV.int k y, u]).all PV.one = true := by simp only [List.all_cons, List.all_nil, one_plain hu]; rfl
theorem pl3' {u : PV} (hu : u.plain = true) (a : Bool) (k : IntKind) (y : Int) : ([u, PV.bool a, PV.int k y]).all PV.one = true := by simp only [List.all_cons, List.all_nil, one_plain hu]; rfl

theorem lpSyncW {P : Nat} (hP : P ≤ 1000000) : ∀ (k i : Nat) (g : Nat → Nat) (σ : Store) (d : Dv), i + k = d.ws.length → DevX g σ id d x → okws P d.ws → d.kept.pg.length = 512 * P → d.ws.length ≤ 1000000 →
    ∃ g' τ, loopω cfg 11 lc11_2 (st11_2 (.ref id 0 0) x.vw (d.ws.length : Nat) (i : Nat)) σ = some (.exit 0, out11_2 (.ref id 0 0), τ) ∧ DevX g' τ id { d with kept := (d.ws.drop i).foldl Dk.put d.kept } x ∧ Out g σ g' τ
  | 0, i, g, σ, d, hi, h, hw, hl, hn => by
    refine ⟨g, σ, loopω_ofK ((lq11_2 _ _ _ _ _ _ _).trans ?_), ?_, Out.refl _ _⟩
    · simp only [nltN (show d.ws.length ≤ i by omega), Bool.false_eq_true, if_false]
    · rw [List.drop_eq_nil_of_le (by omega)]; exact h
  | k + 1, i, g, σ, d, hi, h, hw, hl, hn => by
    obtain ⟨w, r, u, e1, e2, e3, e4⟩ := h.w (show i < d.ws.length by omega)
    obtain ⟨w1, w2, w3⟩ := hw w (List.mem_of_getElem? e1)
    obtain ⟨k1, k2, k3⟩ := h.box (.cells 0 [[.int .i64 w.1, u]])
    have hat : ((w.1.toNat : Nat) : Int) = w.1 := by omega
    obtain ⟨τ1, p1, p2, p3⟩ := putKeptX k1 e4 w3 (at_ := w.1.toNat) (by rw [hl]; exact w2) (by omega)
    rw [hat] at p1 p2
    have hp : callE cfgS (callω cfg) 31 [.ref id 0 3, .agg [.int .i64 w.1, u]] (σ.push (.cells 0 [[.int .i64 w.1, u]])) = some (.tuple [], τ1) := by rw [callE_live rfl (by kernel_rfl)]; exact p1
    have ev := lq11_2 (callω cfg) (loopω cfg) σ (.ref id 0 0) x.vw (d.ws.length : Nat) (i : Nat)
    simp only [ltN (show i < d.ws.length by omega), if_true, e2, e3, bind_some', stW σ w.1 e4.plain, nilvR, (faV id).2.1, ldW (push_obj σ (.cells 0 [[.int .i64 w.1, u]])) rfl, hp, wrap_succ (show i < 4611686018427387904 by omega)] at ev
    obtain ⟨g', τ2, r1, r2, r3⟩ := lpSyncW hP k (i + 1) _ τ1 { d with kept := d.kept.put w } (by show i + 1 + k = d.ws.length; omega) p2 hw (by
      show (putP d.kept.pg w).length = _
      rw [putP_len (by omega) w3, hl]) hn
    refine ⟨g', τ2, loopω_ofK (ev.trans r1), ?_, (k2.trans p3).trans r3⟩
    rw [drop_at e1]
    exact r2
theorem lpSyncT : ∀ (k i : Nat) (g : Nat → Nat) (σ : Store) (d : Dv) (x : Vals), i + k = d.ts.length → DevX g σ id d x → oks d.kept (d.ts.drop i) → d.ts.length ≤ 1000000 →
    ∃ g' τ u', loopω cfg 11 lc11_7 (st11_7 (.ref id 0 0) x.vt (d.ts.length : Nat) (i : Nat)) σ = some (.exit 2, out11_7 (.ref id 0 0), τ) ∧ DevX g' τ id { d with kept := (d.ts.drop i).foldl Dk.turn d.kept } { x with ws := u' } ∧ Out g σ g' τ
  | 0, i, g, σ, d, x, hi, h, hw, hn => by
    refine ⟨g, σ, x.ws, loopω_ofK ((lq11_7 _ _ _ _ _ _ _).trans ?_), ?_, Out.refl _ _⟩
    · simp only [nltN (show d.ts.length ≤ i by omega), Bool.false_eq_true, if_false]
    · rw [List.drop_eq_nil_of_le (by omega)]; exact h
  | k + 1, i, g, σ, d, x, hi, h, hw, hn => by
    obtain ⟨t, r, u, e1, e2, e3, e4⟩ := h.t (show i < d.ts.length by omega)
    rw [drop_at e1] at hw
    obtain ⟨o1, o2, o3, o4⟩ := hw
    obtain ⟨k1, k2, k3⟩ := h.box (.cells 0 [[u, .bool t.trim, .int .i64 t.place]])
    obtain ⟨g1, τ1, u1, p1, p2, p3⟩ := turnKeptX k1 e4 (by omega) o1 o2
    have hp : callE cfgS (callω cfg) 33 [.ref id 0 3, .agg [u, .bool t.trim, .int .i64 t.place]] (σ.push (.cells 0 [[u, .bool t.trim, .int .i64 t.place]])) = some (.tuple [], τ1) := by rw [callE_live rfl (by kernel_rfl)]; exact p1
    have ev := lq11_7 (callω cfg) (loopω cfg) σ (.ref id 0 0) x.vt (d.ts.length : Nat) (i : Nat)
    simp only [ltN (show i < d.ts.length by omega), if_true, e2, e3, bind_some', stT σ [u, .bool t.trim, .int .i64 t.place] rfl (pl3' e4.plain _ _ _), nilvR, (faV id).2.1, ldT (push_obj σ (.cells 0 [[u, .bool t.trim, .int .i64 t.place]])) rfl, hp, wrap_succ (show i < 4611686018427387904 by omega)] at ev
    obtain ⟨g', τ2, u2, r1, r2, r3⟩ := lpSyncT k (i + 1) _ τ1 { d with kept := d.kept.turn t } _ (by show i + 1 + k = d.ts.length; omega) p2 o4 hn
    refine ⟨g', τ2, u2, loopω_ofK (ev.trans r1), ?_, (k2.trans p3).trans r3⟩
    rw [drop_at e1]
    exact r2
theorem neNil (id : Nat) : binv Try.prog .eql 24 (.ref id 0 0) .nilptr = some (.bool false) ∧ binv Try.prog .neq 24 (.ref id 0 0) .nilptr = some (.bool true) := ⟨by kernel_rfl, by kernel_rfl⟩
/-- Nothing is to be synced any more. -/
theorem DevX.none (h : DevX g σ id d x) : storev Try.prog σ 69 (.ref id 0 6) .nilsl = some (σ.put id (.cells 0 [(x.cells d).set 6 .nilsl])) ∧ storev Try.prog (σ.put id (.cells 0 [(x.cells d).set 6 .nilsl])) 70 (.ref id 0 7) .nilsl = some (σ.put id (.cells 0 [((x.cells d).set 6 .nilsl).set 7 .nilsl])) ∧
    DevX g (σ.put id (.cells 0 [((x.cells d).set 6 .nilsl).set 7 .nilsl])) id { d with ws := [], ts := [] } { x with vw := .nilsl, vt := .nilsl } ∧ Out g σ g (σ.put id (.cells 0 [((x.cells d).set 6 .nilsl).set 7 .nilsl])) := by
  obtain ⟨q1, q2, q3, q4⟩ := h
  have s1 := stOne (σ := σ) (off := 6) (v := .nilsl) otW q1 (by show 6 < 10; decide) rfl rfl
  have s2 := stOne (σ := σ.put id (.cells 0 [(x.cells d).set 6 .nilsl])) (off := 7) (v := .nilsl) otT (put_obj _ _ _) (by show 7 < 10; decide) rfl rfl
  rw [put_put] at s2
  have m : Mod σ (σ.put id (.cells 0 [((x.cells d).set 6 .nilsl).set 7 .nilsl])) [id] := Mod.put (.head _)
  have c := q4.mod m fun i hi _ => by rw [List.mem_singleton.1 hi]; exact .inl q3
  exact ⟨s1, s2, ⟨put_obj _ _ _, q2, q3, ⟨c.vp, c.vs, c.wp, c.ws, AxS.nil _, AxS.nil _, c.g1, c.g2, c.g3, c.g4, fun i hi => by (cases hi), fun i hi => by (cases hi)⟩⟩, Out.mod m (fun i hi _ => by rw [List.mem_singleton.1 hi, q3]; decide) fun _ _ => rfl⟩

theorem spSync (h : DevS g σ id d) {P : Nat} (hP : P ≤ 1000000) (hl : d.kept.pg.length = 512 * P) (hw : okws P d.ws) (ht : oks d.kept d.ts) (h1 : d.ws.length ≤ 1000000) (h2 : d.ts.length ≤ 1000000) :
    ∃ g' τ, callω cfg 11 [.ref id 0 0] σ = some (.tuple [], τ) ∧ DevS g' τ id d.sync ∧ Out g σ g' τ := by
  obtain ⟨x, q⟩ := h
  have q' := q
  obtain ⟨q1, q2, q3, q4⟩ := q'
  have ev := eq11 (callω cfg) (loopω cfg) σ id 0 0
  have lg : loadv Try.prog σ 4 (.ref id 0 9) = some (.bool d.gone) := ldOne oBool q1 rfl
  have lw : loadv Try.prog σ 69 (.ref id 0 6) = some x.vw := ldOne otW q1 rfl
  simp only [(neNil id).1, bind_some', asBool_bool, Bool.false_eq_true, if_false, Nat.zero_add, lg] at ev
  unfold Dv.sync
  by_cases hg : d.gone = true
  · rw [if_pos hg] at ev ⊢
    exact ⟨g, σ, callω_ofK (hT _) ev, ⟨x, q⟩, Out.refl _ _⟩
  · rw [if_neg hg] at ev ⊢
    obtain ⟨g1, τ1, a1, a2, a3⟩ := lpSyncW hP d.ws.length 0 g σ d (by omega) q hw hl h1
    rw [natz] at a1
    rw [List.drop_zero] at a2
    have lt : loadv Try.prog τ1 70 (.ref id 0 7) = some x.vt := ldOne otT a2.1 rfl
    have hk := foldPut_st d.ws d.kept
    obtain ⟨g2, τ2, u', b1, b2, b3⟩ := lpSyncT d.ts.length 0 g1 τ1 _ x (by show 0 + d.ts.length = d.ts.length; omega) a2 (by
      show oks _ (d.ts.drop 0)
      rw [List.drop_zero]
      exact oks_pg _ _ _ hk.1.symm hk.2.symm ht) h2
    rw [natz] at b1
    simp only [List.drop_zero] at b2
    obtain ⟨c1, c2, c3, c4⟩ := b2.none
    have hlw : pureB Try.prog .len [69] [x.vw] = some (.int .i64 (d.ws.length : Nat)) := q4.vw.len TW
    have hlt : pureB Try.prog .len [70] [x.vt] = some (.int .i64 (d.ts.length : Nat)) := a2.2.2.2.vt.len TT
    simp only [lw, hlw, asInt_int, bind_some', a1, onEx_exit, if_true, out11_2_0, nilvR, (faV id).2.2.2.1, lt, hlt, b1, out11_7_0, (faV id).2.2.1, c1, c2] at ev
    exact ⟨g2, _, callω_ofK (hT _) ev, ⟨_, c3⟩, (a3.trans b3).trans c4⟩
end
end Go.Pvm.S
