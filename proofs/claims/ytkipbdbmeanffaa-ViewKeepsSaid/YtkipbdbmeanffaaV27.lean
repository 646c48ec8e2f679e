/- Part of the proof: what is kept from store to store; variables read whole; rows filled. -/
import Derived.Test.YtkipbdbmeanffaaWords
set_option linter.unusedSimpArgs false
set_option linter.unusedVariables false
namespace Go.Pvm

/-- What is old stays, but that some is written no more. -/
def Kp (σ τ : Store) (ids : List Nat) : Prop := σ.next ≤ τ.next ∧ ∀ i, i < σ.next → i ∉ ids → τ.objs i = σ.objs i ∨ ∃ ro es, σ.objs i = some (.cells ro es) ∧ τ.objs i = some (.cells es.length es)
section
variable {σ τ υ : Store} {ids a b : List Nat}
theorem Kp.refl (σ : Store) (ids : List Nat) : Kp σ σ ids := ⟨Nat.le_refl _, fun _ _ _ => .inl rfl⟩
theorem Mod.kp (h : Mod σ τ ids) : Kp σ τ ids := ⟨h.1, fun i hi hn => .inl (h.2 i hi hn)⟩
theorem Rl.kp (h : Rl σ τ) (ids : List Nat) : Kp σ τ ids := ⟨Nat.le_of_eq h.1.symm, fun i _ _ => h.2 i⟩
theorem Kp.trans (h : Kp σ τ a) (h' : Kp τ υ b) (hs : ∀ i ∈ b, i ∈ a ∨ σ.next ≤ i) : Kp σ υ a := by
  refine ⟨Nat.le_trans h.1 h'.1, fun i hi hn => ?_⟩
  have hb : i ∉ b := fun k => (hs i k).elim hn (fun e => by omega)
  rcases h.2 i hi hn with e | ⟨ro, es, e1, e2⟩
  · rcases h'.2 i (Nat.lt_of_lt_of_le hi h.1) hb with e' | ⟨ro, es, e1, e2⟩
    · exact .inl (e'.trans e)
    · exact .inr ⟨ro, es, by rw [← e]; exact e1, e2⟩
  · rcases h'.2 i (Nat.lt_of_lt_of_le hi h.1) hb with e' | ⟨ro', es', e1', e2'⟩
    · exact .inr ⟨ro, es, e1, e'.trans e2⟩
    · rw [e2] at e1'; cases e1'; exact .inr ⟨ro, es, e1, e2'⟩
theorem Kp.mono (h : Kp σ τ a) (hs : ∀ i, i < σ.next → i ∈ a → i ∈ b) : Kp σ τ b := ⟨h.1, fun i hi hn => h.2 i hi fun k => hn (hs i hi k)⟩
theorem Kp.lf (h : Kp σ τ ids) {id : Nat} (hi : id < σ.next) (hn : id ∉ ids) (hl : Lf σ id) : Lf τ id := by
  obtain ⟨ro, es, h1, h2⟩ := hl
  rcases h.2 id hi hn with e | ⟨ro', es', e1, e2⟩
  · exact ⟨ro, es, e.trans h1, h2⟩
  · rw [h1] at e1; cases e1; exact ⟨_, es, e2, h2⟩
variable {sz : Nat} {v u : PV} {es : List (List PV)}
theorem IsQ.kp (h : IsQ σ sz v es) (k : Kp σ τ ids) (hd : ∀ i ∈ tops v, i ∉ ids) : IsQ τ sz v es := by
  rcases h with h | ⟨id, idx, cap, ro, full, rfl, h2, h3, h4, h5⟩
  · exact .inl h
  · have h5' : id < τ.next := Nat.lt_of_lt_of_le h5 k.1
    rcases k.2 id h5 (hd id (.head _)) with e | ⟨ro', es', e1, e2⟩
    · exact .inr ⟨id, idx, cap, ro, full, rfl, e.trans h2, h3, h4, h5'⟩
    · rw [h2] at e1; cases e1; exact .inr ⟨id, idx, cap, _, full, rfl, e2, h3, h4, h5'⟩
theorem Ax.kp (h : Ax σ sz u es) (k : Kp σ τ ids) (hd : ∀ i ∈ tops u, i ∉ ids) : Ax τ sz u es := by
  rcases h with h | h | ⟨id, cap, ro, rfl, h2, h3, h4, h5⟩
  · exact .inl h
  · exact .inr (.inl h)
  · have h5' : id < τ.next := Nat.lt_of_lt_of_le h5 k.1
    rcases k.2 id h5 (hd id (.head _)) with e | ⟨ro', es', e1, e2⟩
    · exact .inr (.inr ⟨id, cap, ro, rfl, e.trans h2, h3, h4, h5'⟩)
    · rw [h2] at e1; cases e1; exact .inr (.inr ⟨id, cap, _, rfl, e2, Nat.le_refl _, h4, h5'⟩)
theorem Ax.lt (h : Ax σ sz u es) : ∀ i ∈ tops u, i < σ.next := by
  intro i hi
  rcases h with ⟨rfl, _⟩ | rfl | ⟨id, cap, ro, rfl, h2, h3, h4, h5⟩
  · cases hi
  · cases hi
  · simp [tops] at hi; omega
theorem IsQ.lt (h : IsQ σ sz v es) : ∀ i ∈ tops v, i < σ.next := by
  intro i hi
  rcases h with h | ⟨id, idx, cap, ro, full, rfl, h2, h3, h4, h5⟩
  · rw [h.tops] at hi; cases hi
  · simp [tops] at hi; omega
variable {α : Type} {R : ElR α} {l : List α}
theorem QS.kp (h : QS R σ sz v l) (k : Kp σ τ ids) (hd : ∀ i ∈ tops v, i ∉ ids) : QS R τ sz v l := let ⟨es, h1, h2⟩ := h; ⟨es, h1.kp k hd, h2⟩
theorem AxS.kp (h : AxS R σ sz u l) (k : Kp σ τ ids) (hd : ∀ i ∈ tops u, i ∉ ids) : AxS R τ sz u l := let ⟨es, h1, h2⟩ := h; ⟨es, h1.kp k hd, h2⟩
theorem AxS.lt (h : AxS R σ sz u l) : ∀ i ∈ tops u, i < σ.next := let ⟨_, h1, _⟩ := h; h1.lt
theorem QS.lt (h : QS R σ sz v l) : ∀ i ∈ tops v, i < σ.next := let ⟨_, h1, _⟩ := h; h1.lt
end

/-- A variable just laid is closed. -/
theorem roPush {σ : Store} {e : List PV} (h : PV.lf.lfs e = true) (k : Nat) : roAll [σ.next] (σ.push (.cells k [e])) = some (σ.push (.cells 1 [e])) := by
  simp only [roAll, push_obj, List.all_cons, List.all_nil, h, Bool.and_true, if_true]
  exact congrArg some (push_put _ _ _)
theorem fzNew {σ : Store} {e : List PV} (hp : ∀ c ∈ e, c.plain = true) (k : Nat) : fz fuelFz (σ.push (.cells k [e])) (.ref σ.next 0 0) = .pref e := fz_ref (push_obj _ _) hp 6

section
variable {P : Program} {σ : Store} {t el : TypeId} {sz by_ id : Nat} {x : PV} {es new : List (List PV)}
/-- A full row, and more. -/
theorem appFull (T : SlT P t el sz by_) {ro n : Nat} (ho : σ.objs id = some (.cells ro es)) (hn : n = es.length) (hx : IsQ σ sz x new) (ha : all1 sz new = true) (hne : new ≠ []) (hb : (n + new.length) * by_ ≤ 140737488355328) :
    writeB P σ .append [t, t] [.lsl id sz 0 n (some n), x] = some (.lsl σ.next sz 0 (n + new.length) none, σ.push (.cells 0 (es ++ new))) := by
  subst hn
  rw [writeB_append T.u T.u hx.nostr, appendv_full T.el hx.elems ha hne ho (by omega) hb]
  simp
theorem roAll_pure {v : PV} (h : tops v = []) (σ : Store) : roAll (tops v) σ = some σ := by rw [h]; rfl
end
/-- A made slice, cut. -/
theorem AxS.cut {α : Type} {P : Program} {σ : Store} {t el : TypeId} {sz by_ : Nat} {R : ElR α} {u : PV} {l : List α} (T : SlT P t el sz by_) (ok : ROk sz R) (h : AxS R σ sz u l) {lo hi : Option PV} {a b : Nat} (hl : numOf lo 0 = some a) (hh : numOf hi l.length = some b) (h1 : a ≤ b) (h2 : b ≤ l.length) :
    ∃ v', cutv P t u lo hi none = some v' ∧ QS R σ sz v' ((l.drop a).take (b - a)) ∧ ∀ j ∈ tops v', j ∈ tops u := by
  obtain ⟨es, q1, q2⟩ := h
  rcases q1 with ⟨rfl, rfl⟩ | rfl | ⟨id, cap, ro, rfl, o1, o2, o3, o4⟩
  · obtain ⟨v', r1, r2⟩ := IsS.cut T ok (show IsS R .nilsl l from ⟨[], .inl ⟨rfl, rfl⟩, q2⟩) hl hh h1 h2
    exact ⟨v', r1, r2.q σ sz, fun j hj => by rw [r2.tops] at hj; cases hj⟩
  · obtain ⟨v', r1, r2⟩ := IsS.cut T ok (show IsS R (.psl true es) l from ⟨es, .inr ⟨_, rfl⟩, q2⟩) hl hh h1 h2
    exact ⟨v', r1, r2.q σ sz, fun j hj => by rw [r2.tops] at hj; cases hj⟩
  · have hle := q2.len
    have hc := cut_lsl (P := P) (t := t) (sz := sz) (id := id) (idx := 0) (len := es.length) (cap := cap) T.u T.el.hsz hl (by rw [hle]; exact hh) h1 (by omega) (fun c hc => by rcases o3 with rfl | rfl <;> simp at hc; omega)
    refine ⟨_, hc, ⟨(es.drop a).take (b - a), .inr ⟨id, 0 + a, cap.map (· - a), ro, es, ?_, o1, by simp; omega, ?_, o4⟩, (q2.drop a).take (b - a)⟩, fun j hj => by simpa [tops] using hj⟩
    · have : ((es.drop a).take (b - a)).length = b - a := by simp; omega
      rw [this]
    · have : ((es.drop a).take (b - a)).length = b - a := by simp; omega
      rw [this, Nat.zero_add]
/-! ### Arguments of a row -/
/-- A type's cells stand for things. -/
def ArgR {α : Type} (P : Program) (el : TypeId) (R : ElR α) (Q : α → Prop) : Prop := ∀ n c, c.length = P.cellsOf el → WT P false n el c → ∃ a, R c a ∧ Q a
theorem wt_sliceR {α : Type} {P : Program} {t el : TypeId} {sz by_ : Nat} {R : ElR α} {Q : α → Prop} (T : SlT P t el sz by_) (hc : P.cellsOf el = sz) (hb : P.bytesOf el = by_) (he : ArgR P el R Q) {top : Bool} {n : Nat} {cs : List PV} (h : WT P top n t cs) :
    ∃ u, cs = [u] ∧ ∃ l, IsS R u l ∧ l.length * by_ ≤ reachBytes ∧ ∀ a ∈ l, Q a := by
  cases n with
  | zero => exact h.elim
  | succ n =>
    unfold WT at h
    rw [T.u] at h
    rcases h with h | ⟨es, h1, _, h2, h3⟩ | ⟨_, h1, _⟩
    · exact ⟨_, h, [], IsS.nil, by simp, fun a ha => by cases ha⟩
    · obtain ⟨l, hl⟩ := All2.each (R := fun c a => R c a ∧ Q a) es fun c hc => he n c (h3 c hc).1 (h3 c hc).2
      refine ⟨_, h1, l, ⟨es, .inr ⟨_, rfl⟩, hl.mono fun _ _ h => h.1⟩, ?_, fun a ha => ?_⟩
      · rw [hb, hl.len] at h2; exact h2
      · obtain ⟨i, hi⟩ := List.getElem?_of_mem ha
        obtain ⟨c, _, hc⟩ := hl.get hi
        exact hc.2
    · exact absurd (hc.symm.trans h1) T.el.pos.1
theorem wtv_sliceR {α : Type} {P : Program} {t el : TypeId} {sz by_ : Nat} {R : ElR α} {Q : α → Prop} (T : SlT P t el sz by_) (hc : P.cellsOf el = sz) (hb : P.bytesOf el = by_) (he : ArgR P el R Q) {v : PV} (h : WTV P t v) :
    ∃ l, IsS R v l ∧ l.length * by_ ≤ reachBytes ∧ ∀ a ∈ l, Q a := by
  obtain ⟨n, h⟩ := h
  rw [T.u] at h
  simp only [Option.getD_some, aggD] at h
  obtain ⟨u, h1, h2⟩ := wt_sliceR T hc hb he h
  simp at h1
  subst h1
  exact h2
theorem reach62 : reachBytes < 4611686018427387904 := by decide
theorem argInt {P : Program} {t : TypeId} {k : IntKind} (h : P.underlying t = some (.int k)) : ArgR P t (Fn fun n : Int => [.int k n]) (fun n => k.min ≤ n ∧ n ≤ k.max) := fun n c _ hw => by
  obtain ⟨x, rfl, hx⟩ := wt_int h hw
  exact ⟨x, rfl, hx⟩
theorem argByte {P : Program} {t : TypeId} (h : P.underlying t = some (.int .u8)) : ArgR P t RB (fun _ => True) := fun n c _ hw => by
  obtain ⟨x, rfl, x1, x2⟩ := wt_int h hw
  have x1 : (0 : Int) ≤ x := x1
  have x2 : x ≤ 255 := x2
  refine ⟨UInt8.ofNat x.toNat, ?_, trivial⟩
  show _ = [PV.int .u8 ((UInt8.ofNat x.toNat).toNat : Int)]
  rw [UInt8.toNat_ofNat']
  congr 2
  omega
theorem argSlice {α : Type} {P : Program} {t el : TypeId} {sz by_ : Nat} {R : ElR α} {Q : α → Prop} (T : SlT P t el sz by_) (hc : P.cellsOf el = sz) (hb : P.bytesOf el = by_) (he : ArgR P el R Q) :
    ArgR P t (fun e l => ∃ u, e = [u] ∧ IsS R u l) (fun l => l.length * by_ ≤ reachBytes ∧ ∀ a ∈ l, Q a) := fun n c _ hw => by
  obtain ⟨u, rfl, l, h1, h2⟩ := wt_sliceR T hc hb he hw
  exact ⟨l, ⟨u, rfl, h1⟩, h2⟩
theorem lfs1 {v : PV} (h : v.lf = true) : PV.lf.lfs [v] = true := by simp [PV.lf.lfs, h]
/-- Arguments, read as they stand. -/
theorem fzA {α : Type} {R : ElR α} {v : PV} {l : List α} (h : IsS R v l) (σ : Store) : fz fuelFz σ v = v := h.frz 7 σ
theorem topss1 (v : PV) : tops.topss [v] = tops v := by simp [tops.topss]
/-- Through a field of an element. -/
theorem part_drop {P : Program} {t : TypeId} {e : List PV} {off : Nat} (h : off ≤ e.length) : partOf P t (e.drop off) 0 = partOf P t e off := by
  unfold partOf
  cases szOf P t with
  | none => rfl
  | some n =>
    simp only [Option.bind_some]
    cases P.underlying t with
    | none => rfl
    | some d =>
      simp only [Option.bind_some, Nat.zero_add, List.drop_zero, List.length_drop]
      by_cases ha : aggD d = true
      · rw [if_pos ha, if_pos ha]
        by_cases hn : off + n ≤ e.length
        · rw [if_pos hn, if_pos (by omega)]
        · rw [if_neg hn, if_neg (by omega)]
      · rw [if_neg ha, if_neg ha, List.getElem?_drop, Nat.add_zero]
end Go.Pvm
