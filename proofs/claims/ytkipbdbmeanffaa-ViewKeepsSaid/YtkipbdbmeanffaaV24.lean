/- Part of the proof: slices, read only or in the store: reading, cutting, appending; calls that are handed them. -/
import Derived.Test.YtkipbdbmeanffaaV23
import Derived.KernelRfl
set_option linter.unusedSimpArgs false
set_option linter.unusedVariables false
namespace Go.Pvm

theorem push_obj (σ : Store) (o : Obj) : (σ.push o).objs σ.next = some o := by simp [Store.push]
theorem push_old {σ : Store} {o : Obj} {i : Nat} (h : i < σ.next) : (σ.push o).objs i = σ.objs i := by
  show (if i = σ.next then _ else _) = _
  rw [if_neg (by omega)]
theorem push_next (σ : Store) (o : Obj) : (σ.push o).next = σ.next + 1 := rfl
theorem put_obj (σ : Store) (id : Nat) (o : Obj) : (σ.put id o).objs id = some o := by simp [Store.put]
theorem put_other {σ : Store} {id i : Nat} {o : Obj} (h : i ≠ id) : (σ.put id o).objs i = σ.objs i := by simp [Store.put, h]
theorem put_next (σ : Store) (id : Nat) (o : Obj) : (σ.put id o).next = σ.next := rfl

theorem natz : ((0 : Nat) : Int) = 0 := rfl
theorem wrap_succ {i : Nat} (h : i < 4611686018427387904) : IntKind.wrap .i64 (((i : Nat) : Int) + 1) = ((i + 1 : Nat) : Int) := by rw [wrap_i64 (by omega) (by omega)]; rfl
theorem ltN {i n : Nat} (h : i < n) : decide (((i : Nat) : Int) < ((n : Nat) : Int)) = true := by simp; omega
theorem nltN {i n : Nat} (h : n ≤ i) : decide (((i : Nat) : Int) < ((n : Nat) : Int)) = false := by simp; omega

/-- A value that names nothing and is read as it stands. -/
def PV.plain : PV → Bool
  | .bool _ | .int .. | .float .. | .str _ | .nilptr | .nilsl | .psl .. | .pref _ | .nilmap | .nilfunc | .niliface => true
  | _ => false
theorem fz_plain {v : PV} (h : v.plain = true) (n : Nat) (σ : Store) : fz (n + 1) σ v = v := by cases v <;> first | rfl | cases h
theorem fz_plains {e : List PV} (h : ∀ c ∈ e, c.plain = true) (n : Nat) (σ : Store) : e.map (fz (n + 1) σ) = e := by
  induction e with
  | nil => rfl
  | cons c e ih => rw [List.map_cons, fz_plain (h c (.head _)), ih fun c hc => h c (.tail _ hc)]
theorem lf_plain {v : PV} (h : v.plain = true) : v.lf = true := by cases v <;> first | rfl | cases h
theorem lfs_plain {e : List PV} (h : ∀ c ∈ e, c.plain = true) : PV.lf.lfs e = true := by
  induction e with
  | nil => rfl
  | cons c e ih => simp [PV.lf.lfs, lf_plain (h c (.head _)), ih fun c hc => h c (.tail _ hc)]
def Plain (es : List (List PV)) : Prop := ∀ e ∈ es, ∀ c ∈ e, c.plain = true
theorem Plain.fz {es : List (List PV)} (h : Plain es) (n : Nat) (σ : Store) : es.map (fun e => e.map (fz (n + 1) σ)) = es := by
  induction es with
  | nil => rfl
  | cons e es ih => rw [List.map_cons, fz_plains (h e (.head _)), ih fun e he => h e (.tail _ he)]
theorem Plain.lf {es : List (List PV)} (h : Plain es) : (es.all fun e => PV.lf.lfs e) = true := by
  rw [List.all_eq_true]
  exact fun e he => lfs_plain (h e he)
theorem Plain.app {a b : List (List PV)} (h : Plain a) (h' : Plain b) : Plain (a ++ b) := fun e he => (List.mem_append.1 he).elim (h e) (h' e)

/-- What a call by itself has made of the store: some is written no more. -/
def Rl (σ τ : Store) : Prop := τ.next = σ.next ∧ ∀ i, τ.objs i = σ.objs i ∨ ∃ ro es, σ.objs i = some (.cells ro es) ∧ τ.objs i = some (.cells es.length es)
theorem Rl.rfl' (σ : Store) : Rl σ σ := ⟨rfl, fun _ => .inl rfl⟩
theorem Rl.trans {σ τ υ : Store} (h : Rl σ τ) (h' : Rl τ υ) : Rl σ υ := by
  refine ⟨h'.1.trans h.1, fun i => ?_⟩
  rcases h.2 i with e | ⟨ro, es, e1, e2⟩
  · rcases h'.2 i with e' | ⟨ro, es, e1, e2⟩
    · exact .inl (e'.trans e)
    · exact .inr ⟨ro, es, by rw [← e]; exact e1, e2⟩
  · rcases h'.2 i with e' | ⟨ro', es', e1', e2'⟩
    · exact .inr ⟨ro, es, e1, e'.trans e2⟩
    · rw [e2] at e1'
      cases e1'
      exact .inr ⟨ro, es, e1, e2'⟩
/-- What stands by a number is cells that name nothing. -/
def Lf (σ : Store) (id : Nat) : Prop := ∃ ro es, σ.objs id = some (.cells ro es) ∧ (es.all fun e => PV.lf.lfs e) = true
theorem Rl.lf {σ τ : Store} (h : Rl σ τ) {id : Nat} (hl : Lf σ id) : Lf τ id := by
  obtain ⟨ro, es, h1, h2⟩ := hl
  rcases h.2 id with e | ⟨ro', es', e1, e2⟩
  · exact ⟨ro, es, e.trans h1, h2⟩
  · rw [h1] at e1; cases e1; exact ⟨_, es, e2, h2⟩
theorem roAll_ok : ∀ (ids : List Nat) (σ : Store), (∀ id ∈ ids, Lf σ id) → ∃ τ, roAll ids σ = some τ ∧ Rl σ τ
  | [], σ, _ => ⟨σ, rfl, Rl.rfl' σ⟩
  | id :: ids, σ, h => by
    obtain ⟨ro, es, h1, h2⟩ := h id (.head _)
    have hr : Rl σ (σ.put id (.cells es.length es)) := by
      refine ⟨rfl, fun i => ?_⟩
      by_cases hi : i = id
      · subst hi; exact .inr ⟨ro, es, h1, put_obj _ _ _⟩
      · exact .inl (put_other hi)
    obtain ⟨τ, h3, h4⟩ := roAll_ok ids _ fun j hj => hr.lf (h j (.tail _ hj))
    refine ⟨τ, ?_, hr.trans h4⟩
    simp only [roAll, h1]
    rw [if_pos h2]
    exact h3

/-- A call by itself, in an open region's outside. -/
theorem callQ {cfg c2 : Cfg} {f : FuncId} {args args' : List PV} {σ : Store} {v : PV} (hm : c2.mode f = .pure) (hst : c2.strict = false) (he : enters c2.P f = true) (ha : args.map (fz fuelFz σ) = args') (hv : pureω cfg f args' = some v)
    (hl : ∀ id ∈ tops.topss args, Lf σ id) : ∃ τ, callE c2 (callω cfg) f args σ = some (v, τ) ∧ Rl σ τ := by
  obtain ⟨σ1, hr, hR⟩ := roAll_ok _ _ hl
  unfold callE callv
  rw [if_pos he, hm]
  simp only
  unfold pureω at hv
  rw [Option.map_eq_some_iff] at hv
  obtain ⟨⟨u, τ⟩, h1, h2⟩ := hv
  rw [ha, h1]
  simp only [Option.bind_some] at h2 ⊢
  rw [h2]
  by_cases hsc : v.scalar = true
  · exact ⟨σ, by rw [if_pos hsc], Rl.rfl' σ⟩
  · exact ⟨σ1, by rw [if_neg hsc, hst, hr]; rfl, hR⟩

/-! ### Slices that are read -/
def IsP (v : PV) (es : List (List PV)) : Prop := (v = .nilsl ∧ es = []) ∨ ∃ b, v = .psl b es
/-- A slice, read only or in the store. -/
def IsQ (σ : Store) (sz : Nat) (v : PV) (es : List (List PV)) : Prop :=
  IsP v es ∨ ∃ id idx cap ro full, v = .lsl id sz idx es.length cap ∧ σ.objs id = some (.cells ro full) ∧ idx + es.length ≤ full.length ∧ (full.drop idx).take es.length = es ∧ id < σ.next
theorem IsP.q {v : PV} {es : List (List PV)} (h : IsP v es) {σ : Store} {sz : Nat} : IsQ σ sz v es := .inl h

section
variable {P : Program} {σ τ : Store} {t el : TypeId} {sz : Nat} {v : PV} {es : List (List PV)}
theorem IsQ.rl (h : IsQ σ sz v es) (r : Rl σ τ) : IsQ τ sz v es := by
  rcases h with h | ⟨id, idx, cap, ro, full, h1, h2, h3, h4, h5⟩
  · exact .inl h
  · have h5' : id < τ.next := by rw [r.1]; exact h5
    rcases r.2 id with e | ⟨ro', es', e1, e2⟩
    · exact .inr ⟨id, idx, cap, ro, full, h1, e.trans h2, h3, h4, h5'⟩
    · rw [h2] at e1; cases e1; exact .inr ⟨id, idx, cap, _, full, h1, e2, h3, h4, h5'⟩
theorem IsQ.len (hu : P.underlying t = some (.slice el)) (h : IsQ σ sz v es) : pureB P .len [t] [v] = some (.int .i64 (es.length : Nat)) := by
  rcases h with (⟨rfl, rfl⟩ | ⟨b, rfl⟩) | ⟨id, idx, cap, ro, full, rfl, _⟩ <;> simp [pureB, hu]
theorem IsP.len (hu : P.underlying t = some (.slice el)) (h : IsP v es) : pureB P .len [t] [v] = some (.int .i64 (es.length : Nat)) := IsQ.len (σ := .empty) (sz := 0) hu h.q
theorem IsP.idx (hu : P.underlying t = some (.slice el)) (hs : szOf P el = some sz) (h : IsP v es) {i : Nat} {e : List PV} (hi : es[i]? = some e) (he : e.length = sz) (κ : IntKind) : indexAddrv P t v (.int κ (i : Nat)) = some (.pref e) := by
  rcases h with ⟨rfl, rfl⟩ | ⟨b, rfl⟩
  · simp at hi
  · have hn : (0 : Int) ≤ ((i : Nat) : Int) := by omega
    simp [indexAddrv, intOf?, hu, hs, hi, he]
theorem IsQ.frz (h : IsQ σ sz v es) (hp : Plain es) (n : Nat) : IsP (fz (n + 2) σ v) es := by
  rcases h with (⟨rfl, rfl⟩ | ⟨b, rfl⟩) | ⟨id, idx, cap, ro, full, rfl, h2, h3, h4, h5⟩
  · exact .inl ⟨rfl, rfl⟩
  · exact .inr ⟨b, rfl⟩
  · refine .inr ⟨cap == some es.length, ?_⟩
    rw [frz_lsl h2 h3 (n + 1), h4, hp.fz]
theorem IsP.frz (h : IsP v es) (n : Nat) (σ : Store) : fz (n + 1) σ v = v := by rcases h with ⟨rfl, rfl⟩ | ⟨b, rfl⟩ <;> rfl
theorem IsP.plain (h : IsP v es) : v.plain = true := by rcases h with ⟨rfl, rfl⟩ | ⟨b, rfl⟩ <;> rfl
theorem IsP.lf (h : IsP v es) : v.lf = true := lf_plain h.plain
theorem IsP.tops (h : IsP v es) : tops v = [] := by rcases h with ⟨rfl, rfl⟩ | ⟨b, rfl⟩ <;> rfl
theorem IsQ.elems (h : IsQ σ sz v es) : elemsOf σ v = some es := by
  rcases h with (⟨rfl, rfl⟩ | ⟨b, rfl⟩) | ⟨id, idx, cap, ro, full, rfl, h2, h3, h4, h5⟩
  · rfl
  · rfl
  · simp only [elemsOf, h2]
    rw [if_pos h3, h4]
theorem IsQ.nostr (h : IsQ σ sz v es) : isStr v = false := by rcases h with (⟨rfl, rfl⟩ | ⟨b, rfl⟩) | ⟨id, idx, cap, ro, full, rfl, _⟩ <;> rfl

/-- Reading an element, wherever it stands. -/
theorem IsQ.idx (hu : P.underlying t = some (.slice el)) (hs : szOf P el = some sz) (h : IsQ σ sz v es) {i : Nat} {e : List PV} (hi : es[i]? = some e) (he : e.length = sz) (κ : IntKind) :
    ∃ a, indexAddrv P t v (.int κ (i : Nat)) = some a ∧ ((∃ r, a = .pref r) ∨ ∃ id k, a = .ref id k 0) ∧ ∀ t', loadv P σ t' a = partOf P t' e 0 := by
  rcases h with h | ⟨id, idx, cap, ro, full, rfl, h2, h3, h4, h5⟩
  · exact ⟨_, h.idx hu hs hi he κ, .inl ⟨_, rfl⟩, fun t' => rfl⟩
  · have hlt : i < es.length := (List.getElem?_eq_some_iff.1 hi).1
    have hn : (0 : Int) ≤ ((i : Nat) : Int) ∧ ((i : Nat) : Int) < (es.length : Nat) ∧ sz = sz := ⟨by omega, by omega, rfl⟩
    refine ⟨.ref id (idx + i) 0, ?_, .inr ⟨_, _, rfl⟩, fun t' => ?_⟩
    · simp only [indexAddrv, intOf?, hu, hs, Option.bind_some]
      rw [if_pos ⟨hn.1, hn.2.1, trivial⟩, Int.toNat_natCast]
    · have hg : full[idx + i]? = some e := by
        have hq : ((full.drop idx).take es.length)[i]? = es[i]? := by rw [h4]
        rw [List.getElem?_take, if_pos hlt, List.getElem?_drop] at hq
        rw [hq, hi]
      simp only [loadv, h2, hg, Option.bind_some]
/-- A cut, read only. -/
theorem IsP.cut (hu : P.underlying t = some (.slice el)) (hs : szOf P el = some sz) (h : IsP v es) (he : ∀ e ∈ es, e.length = sz) {lo hi : Option PV} {l k : Nat} (hl : numOf lo 0 = some l) (hh : numOf hi es.length = some k) (h1 : l ≤ k) (h2 : k ≤ es.length) :
    ∃ v', cutv P t v lo hi none = some v' ∧ IsP v' ((es.drop l).take (k - l)) := by
  rcases h with ⟨rfl, rfl⟩ | ⟨b, rfl⟩
  · have hk : k = 0 := by simpa using h2
    subst hk
    have hl0 : l = 0 := by omega
    subst hl0
    have hh' : numOf hi 0 = some 0 := hh
    refine ⟨.nilsl, ?_, .inl ⟨rfl, by simp⟩⟩
    simp only [cutv, hu, hs, Option.bind_some, hh', hl]
    rw [if_neg (by simp)]
    rfl
  · have hall : (es.all fun e => e.length == sz) = true := by
      rw [List.all_eq_true]; intro e h; simpa using he e h
    refine ⟨.psl (b && decide (k = es.length)) ((es.drop l).take (k - l)), ?_, .inr ⟨_, rfl⟩⟩
    have hm : numOf none es.length = some es.length := rfl
    simp only [cutv, hu, hs, Option.bind_some, hh, hl, hm]
    rw [if_neg (by simp), if_pos ⟨h1, h2, Nat.le_refl _, hall⟩]
    rfl
theorem numOf_nat (κ : IntKind) (n d : Nat) : numOf (some (.int κ (n : Nat))) d = some n := by simp [numOf]
theorem numOf_none (d : Nat) : numOf none d = some d := rfl
end

/-! ### What is old stays -/
def Mod (σ τ : Store) (ids : List Nat) : Prop := σ.next ≤ τ.next ∧ ∀ i, i < σ.next → i ∉ ids → τ.objs i = σ.objs i
theorem Mod.refl (σ : Store) (ids : List Nat) : Mod σ σ ids := ⟨Nat.le_refl _, fun _ _ _ => rfl⟩
theorem Mod.push (σ : Store) (o : Obj) (ids : List Nat) : Mod σ (σ.push o) ids := ⟨Nat.le_succ _, fun i h _ => push_old h⟩
theorem Mod.put {σ : Store} {id : Nat} {o : Obj} {ids : List Nat} (h : id ∈ ids) : Mod σ (σ.put id o) ids := ⟨Nat.le_refl _, fun i _ hi => put_other fun e => hi (e ▸ h)⟩
theorem Mod.kill {σ : Store} {id : Nat} {ids : List Nat} (h : id ∈ ids) : Mod σ (σ.kill id) ids := ⟨Nat.le_refl _, fun i _ hi => by
  show (if i = id then none else σ.objs i) = _
  rw [if_neg (by rintro rfl; exact hi h)]⟩
theorem Mod.trans {σ τ υ : Store} {a b : List Nat} (h : Mod σ τ a) (h' : Mod τ υ b) : Mod σ υ (a ++ b) :=
  ⟨Nat.le_trans h.1 h'.1, fun i hi hn => by
    rw [h'.2 i (Nat.lt_of_lt_of_le hi h.1) fun k => hn (List.mem_append_right _ k), h.2 i hi fun k => hn (List.mem_append_left _ k)]⟩
theorem Mod.mono {σ τ : Store} {a b : List Nat} (h : Mod σ τ a) (hs : ∀ i, i < σ.next → i ∈ a → i ∈ b) : Mod σ τ b := ⟨h.1, fun i hi hn => h.2 i hi fun k => hn (hs i hi k)⟩
theorem Mod.trans' {σ τ υ : Store} {a b : List Nat} (h : Mod σ τ a) (h' : Mod τ υ b) (hs : ∀ i ∈ b, i ∈ a ∨ σ.next ≤ i) : Mod σ υ a :=
  (h.trans h').mono fun i hi hm => (List.mem_append.1 hm).elim id fun k => (hs i k).elim id fun e => absurd hi (by omega)

/-! ### Slices that are appended to -/
def Ap (σ : Store) (sz : Nat) (v : PV) (es : List (List PV)) : Prop :=
  (v = .nilsl ∧ es = []) ∨ v = .psl true es ∨ ∃ id idx cap ro full, v = .lsl id sz idx es.length cap ∧ σ.objs id = some (.cells ro full) ∧ idx + es.length ≤ full.length ∧ (full.drop idx).take es.length = es ∧
    ((cap = none ∧ idx + es.length = full.length ∧ ro ≤ full.length) ∨ cap = some es.length) ∧ id < σ.next

section
variable {P : Program} {σ τ : Store} {t el : TypeId} {sz by_ : Nat} {u x : PV} {es new : List (List PV)}
theorem Ap.q (h : Ap σ sz u es) : IsQ σ sz u es := by
  rcases h with ⟨rfl, rfl⟩ | rfl | ⟨id, idx, cap, ro, full, h1, h2, h3, h4, h5⟩
  · exact .inl (.inl ⟨rfl, rfl⟩)
  · exact .inl (.inr ⟨_, rfl⟩)
  · exact .inr ⟨id, idx, cap, ro, full, h1, h2, h3, h4, h5.2⟩
theorem Ap.mod (h : Ap σ sz u es) {ids : List Nat} (m : Mod σ τ ids) (hd : ∀ i ∈ tops u, i ∉ ids) : Ap τ sz u es := by
  rcases h with h | h | ⟨id, idx, cap, ro, full, rfl, h2, h3, h4, h5, h6⟩
  · exact .inl h
  · exact .inr (.inl h)
  · exact .inr (.inr ⟨id, idx, cap, ro, full, rfl, (m.2 id h6 (hd id (.head _))).trans h2, h3, h4, h5, Nat.lt_of_lt_of_le h6 m.1⟩)
theorem IsQ.mod (h : IsQ σ sz u es) {ids : List Nat} (m : Mod σ τ ids) (hd : ∀ i ∈ tops u, i ∉ ids) : IsQ τ sz u es := by
  rcases h with h | ⟨id, idx, cap, ro, full, rfl, h2, h3, h4, h6⟩
  · exact .inl h
  · exact .inr ⟨id, idx, cap, ro, full, rfl, (m.2 id h6 (hd id (.head _))).trans h2, h3, h4, Nat.lt_of_lt_of_le h6 m.1⟩
theorem IsQ.push (h : IsQ σ sz u es) (o : Obj) : IsQ (σ.push o) sz u es := h.mod (Mod.push σ o []) fun _ _ => by simp
theorem Ap.push (h : Ap σ sz u es) (o : Obj) : Ap (σ.push o) sz u es := h.mod (Mod.push σ o []) fun _ _ => by simp
theorem Ap.nil (σ : Store) (sz : Nat) : Ap σ sz .nilsl [] := .inl ⟨rfl, rfl⟩
theorem Ap.fresh (σ : Store) (sz : Nat) (es : List (List PV)) : Ap (σ.push (.cells 0 es)) sz (.lsl σ.next sz 0 es.length (some es.length)) es :=
  .inr (.inr ⟨_, 0, _, 0, es, rfl, push_obj _ _, by omega, by simp, .inr rfl, Nat.lt_succ_self _⟩)
theorem Ap.app (E : El P el sz by_) (h : Ap σ sz u es) (hes : ∀ e ∈ es, e.length = sz) (hx : elemsOf σ x = some new) (ha : all1 sz new = true) (hb : (es.length + new.length) * by_ ≤ 140737488355328) :
    ∃ u' τ, appendv P σ el u x = some (u', τ) ∧ Ap τ sz u' (es ++ new) ∧ Mod σ τ (tops u) ∧ ∀ i ∈ tops u', i ∈ tops u ∨ (σ.next ≤ i ∧ i < τ.next) := by
  by_cases hn : new = []
  · subst hn
    refine ⟨u, σ, ?_, by rw [List.append_nil]; exact h, Mod.refl _ _, fun i hi => .inl hi⟩
    rw [appendv_start E hx ha]
    rcases h with ⟨rfl, rfl⟩ | rfl | ⟨id, idx, cap, ro, full, rfl, _⟩ <;> rfl
  · have h0 : 0 < new.length := List.length_pos_iff.2 hn
    rcases h with ⟨rfl, rfl⟩ | rfl | ⟨id, idx, cap, ro, full, rfl, h2, h3, h4, h5, h6⟩
    · refine ⟨_, _, appendv_nil E hx ha hn (by simpa using hb), ?_, Mod.push _ _ _, fun i hi => ?_⟩
      · exact .inr (.inr ⟨_, 0, _, 0, new, rfl, push_obj _ _, by simp, by simp, .inl ⟨rfl, by simp, Nat.zero_le _⟩, Nat.lt_succ_self _⟩)
      · simp [tops] at hi; subst hi; exact .inr ⟨Nat.le_refl _, Nat.lt_succ_self _⟩
    · have hall : (es.all fun e => e.length == sz) = true := by
        rw [List.all_eq_true]; intro e h; simpa using hes e h
      refine ⟨.lsl σ.next sz 0 (es.length + new.length) none, σ.push (.cells 0 (es ++ new)), ?_, ?_, Mod.push _ _ _, fun i hi => ?_⟩
      · rw [appendv_start E hx ha]
        simp only
        rw [if_neg (by omega), if_pos trivial, if_pos hb, if_pos hall]
      · exact .inr (.inr ⟨_, 0, none, 0, es ++ new, by simp, push_obj _ _, by simp, by rw [List.drop_zero, List.take_length], .inl ⟨rfl, by simp, Nat.zero_le _⟩, Nat.lt_succ_self _⟩)
      · simp [tops] at hi; subst hi; exact .inr ⟨Nat.le_refl _, Nat.lt_succ_self _⟩
    · rcases h5 with ⟨rfl, h5, h7⟩ | rfl
      · refine ⟨_, _, appendv_open E hx ha hn h2 h5 (by omega) hb, ?_, ?_, fun i hi => ?_⟩
        · rw [h4]
          refine .inr (.inr ⟨_, 0, none, _, es ++ new, by simp; rfl, push_obj _ _, by simp, by rw [List.drop_zero, List.take_length], .inl ⟨rfl, by simp, ?_⟩, Nat.lt_succ_self _⟩)
          simp; omega
        · refine (Mod.kill (ids := [id]) (.head _)).trans' (Mod.push _ _ []) (fun _ h => by cases h)
        · simp [tops] at hi; subst hi; exact .inr ⟨Nat.le_refl _, Nat.lt_succ_self _⟩
      · refine ⟨_, _, appendv_full E hx ha hn h2 h3 hb, ?_, Mod.push _ _ _, fun i hi => ?_⟩
        · rw [h4]
          exact .inr (.inr ⟨_, 0, none, 0, es ++ new, by simp, push_obj _ _, by simp, by rw [List.drop_zero, List.take_length], .inl ⟨rfl, by simp, Nat.zero_le _⟩, Nat.lt_succ_self _⟩)
        · simp [tops] at hi; subst hi; exact .inr ⟨Nat.le_refl _, Nat.lt_succ_self _⟩
/-- Elements laid and appended. -/
theorem Ap.app1 (E : El P el sz by_) (hu : P.underlying t = some (.slice el)) (h : Ap σ sz u es) (hes : ∀ e ∈ es, e.length = sz) (ha : all1 sz new = true) (hb : (es.length + new.length) * by_ ≤ 140737488355328) :
    ∃ u' τ, writeB P (σ.push (.cells 0 new)) .append [t, t] [u, .lsl σ.next sz 0 new.length (some new.length)] = some (u', τ) ∧ Ap τ sz u' (es ++ new) ∧ Mod σ τ (tops u) ∧ ∀ i ∈ tops u', i ∈ tops u ∨ (σ.next ≤ i ∧ i < τ.next) := by
  have hx : elemsOf (σ.push (.cells 0 new)) (.lsl σ.next sz 0 new.length (some new.length)) = some new := by
    simp [elemsOf, push_obj]
  obtain ⟨u', τ, h1, h2, h3, h4⟩ := (h.push (.cells 0 new)).app E hes hx ha hb
  refine ⟨u', τ, by rw [writeB_append hu hu rfl]; exact h1, h2, ?_, fun i hi => ?_⟩
  · have := (Mod.push σ (.cells 0 new) (tops u)).trans h3
    exact this.mono fun i _ hi => by simpa using hi
  · rcases h4 i hi with h | h
    · exact .inl h
    · exact .inr ⟨by have := h.1; rw [push_next] at this; omega, h.2⟩
/-- Elements of another slice appended. -/
theorem Ap.appQ (E : El P el sz by_) (hu : P.underlying t = some (.slice el)) (h : Ap σ sz u es) (hes : ∀ e ∈ es, e.length = sz) (hx : IsQ σ sz x new) (ha : all1 sz new = true) (hb : (es.length + new.length) * by_ ≤ 140737488355328) :
    ∃ u' τ, writeB P σ .append [t, t] [u, x] = some (u', τ) ∧ Ap τ sz u' (es ++ new) ∧ Mod σ τ (tops u) ∧ ∀ i ∈ tops u', i ∈ tops u ∨ (σ.next ≤ i ∧ i < τ.next) := by
  obtain ⟨u', τ, h1, h2, h3, h4⟩ := h.app E hes hx.elems ha hb
  exact ⟨u', τ, by rw [writeB_append hu hu hx.nostr]; exact h1, h2, h3, h4⟩
end

/-! ### Arguments -/
def structTys (P : Program) (t : TypeId) : Option (List TypeId) := match P.underlying t with
  | some (.struct fs) => some (fs.toList.map (·.type))
  | _ => none
theorem wt_fields {P : Program} {top : Bool} {n : Nat} {t : TypeId} {tys : List TypeId} {cs : List PV} (ht : structTys P t = some tys) (h : WT P top n t cs) :
    ∃ m, ∃ parts : List (List PV), cs = parts.flatten ∧ parts.length = tys.length ∧ ∀ (i : Nat) (ty : TypeId) (p : List PV), tys[i]? = some ty → parts[i]? = some p → p.length = P.cellsOf ty ∧ WT P top m ty p := by
  unfold structTys at ht
  cases hu : P.underlying t with
  | none => rw [hu] at ht; cases ht
  | some d =>
    rw [hu] at ht
    cases d with
    | struct fs =>
      have ht : fs.toList.map (·.type) = tys := Option.some.inj ht
      obtain ⟨m, parts, h1, h2, h3⟩ := wt_struct hu h
      refine ⟨m, parts, h1, by rw [← ht, List.length_map, h2, Array.length_toList], fun i ty p hi hp => ?_⟩
      rw [← ht, List.getElem?_map, Option.map_eq_some_iff] at hi
      obtain ⟨f, hf, rfl⟩ := hi
      exact h3 i f p (by simpa using hf) hp
    | _ => cases ht
theorem wt_bool {P : Program} {top : Bool} {n : Nat} {t : TypeId} {cs : List PV} (ht : P.underlying t = some .bool) (h : WT P top n t cs) : ∃ x, cs = [.bool x] := by
  cases n with
  | zero => exact h.elim
  | succ n => unfold WT at h; rw [ht] at h; exact h
/-- Elements told one by one. -/
theorem each_map {α : Type} {enc : α → List PV} {Q : α → Prop} : ∀ (es : List (List PV)), (∀ c ∈ es, ∃ w, c = enc w ∧ Q w) → ∃ l : List α, es = l.map enc ∧ ∀ w ∈ l, Q w
  | [], _ => ⟨[], rfl, fun _ h => by cases h⟩
  | c :: es, h => by
    obtain ⟨l, rfl, hl⟩ := each_map es fun c hc => h c (.tail _ hc)
    obtain ⟨w, rfl, hw⟩ := h c (.head _)
    exact ⟨w :: l, rfl, fun x hx => (List.mem_cons.1 hx).elim (fun e => e ▸ hw) (hl x)⟩
end Go.Pvm
