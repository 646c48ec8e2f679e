/- Part of the proof: rows that are written in place; stores laid behind one another; what calls hand back as their own. -/
import Derived.Test.YtkipbdbmeanffaaV27
set_option linter.unusedSimpArgs false
set_option linter.unusedVariables false
namespace Go.Pvm

/-- A slice, all its row being it, that may be written. -/
def Wr {α : Type} (R : ElR α) (σ : Store) (sz : Nat) (v : PV) (l : List α) : Prop :=
  ∃ id cap es, v = .lsl id sz 0 l.length cap ∧ (cap = none ∨ cap = some l.length) ∧ σ.objs id = some (.cells 0 es) ∧ All2 R es l ∧ id < σ.next
section
variable {α : Type} {P : Program} {σ τ : Store} {t el : TypeId} {sz by_ : Nat} {R : ElR α} {v u x : PV} {l ln : List α} {ids : List Nat}
theorem Wr.ax (h : Wr R σ sz v l) : AxS R σ sz v l := by
  obtain ⟨id, cap, es, rfl, h1, h2, h3, h4⟩ := h
  exact ⟨es, .inr (.inr ⟨id, cap, 0, by rw [h3.len], h2, Nat.zero_le _, h1.imp (fun e => e) (fun e => by rw [e, h3.len]), h4⟩), h3⟩
theorem Wr.q (h : Wr R σ sz v l) : QS R σ sz v l := h.ax.q
theorem Wr.mod (h : Wr R σ sz v l) (m : Mod σ τ ids) (hd : ∀ i ∈ tops v, i ∉ ids) : Wr R τ sz v l := by
  obtain ⟨id, cap, es, rfl, h1, h2, h3, h4⟩ := h
  exact ⟨id, cap, es, rfl, h1, (m.2 id h4 (hd id (.head _))).trans h2, h3, Nat.lt_of_lt_of_le h4 m.1⟩
theorem Wr.lt (h : Wr R σ sz v l) : ∀ i ∈ tops v, i < σ.next := h.ax.lt
/-- Copied into a row. -/
theorem copy_lsl {t' e2 : TypeId} (hu : P.underlying t = some (.slice el)) (hu2 : P.underlying t' = some (.slice e2)) (hs : szOf P el = some sz) (hp : sz ≠ 0) {id idx len ro : Nat} {cap : Option Nat} {es src : List (List PV)} (hx : elemsOf σ x = some src) (ha : all1 sz src = true)
    (ho : σ.objs id = some (.cells ro es)) (hi : idx + len ≤ es.length) (hr : ro ≤ idx) :
    writeB P σ .copy [t, t'] [.lsl id sz idx len cap, x] = some (.int .i64 (Nat.min src.length len), σ.put id (.cells ro (es.take idx ++ src.take len ++ es.drop (idx + (src.take len).length)))) := by
  simp only [writeB, hu, hu2, copyv, hs, hx, Option.bind_some, ho]
  rw [if_neg hp, if_neg (by simp), if_pos ⟨hi, hr⟩, if_pos ha]
theorem Wr.copy (T : SlT P t el sz by_) (ok : ROk sz R) (h : Wr R σ sz v l) {lo : Option PV} {a : Nat} (hl : numOf lo 0 = some a) (ha : a + ln.length ≤ l.length) (hx : QS R σ sz x ln) :
    ∃ v' n τ, cutv P t v lo none none = some v' ∧ writeB P σ .copy [t, t] [v', x] = some (.int .i64 n, τ) ∧ Mod σ τ (tops v) ∧ Wr R τ sz v (l.take a ++ ln ++ l.drop (a + ln.length)) := by
  obtain ⟨id, cap, es, rfl, h1, h2, h3, h4⟩ := h
  obtain ⟨new, x1, x2⟩ := hx
  have hel := h3.len
  have hnl := x2.len
  have hc := cut_lsl (P := P) (t := t) (sz := sz) (id := id) (idx := 0) (len := l.length) (cap := cap) (lo := lo) (hi := none) (a := a) (b := l.length) T.u T.el.hsz hl rfl (by omega) (Nat.le_refl _) (fun c hc => by rcases h1 with rfl | rfl <;> simp at hc; omega)
  have hcp := copy_lsl (P := P) (t := t) (t' := t) (σ := σ) (x := x) (idx := 0 + a) (len := l.length - a) (cap := cap.map (· - a)) T.u T.u T.el.hsz T.el.pos.1 x1.elems (ok.els x2).all1 h2 (by omega) (Nat.zero_le _)
  rw [List.take_of_length_le (show new.length ≤ l.length - a by omega), Nat.zero_add, hnl] at hcp
  rw [Nat.zero_add] at hc
  refine ⟨_, _, _, hc, hcp, Mod.put (.head _), id, cap, _, ?_, ?_, put_obj _ _ _, ((h3.take a).app x2).app (h3.drop _), h4⟩
  · congr 1
    simp; omega
  · rcases h1 with h1 | h1
    · exact .inl h1
    · refine .inr (h1.trans ?_)
      congr 1
      simp; omega
end

/-! ### Stores laid behind one another -/
section
variable {σ τ : Store}
theorem join_next (σ τ : Store) : (σ.join τ).next = τ.next := rfl
theorem join_old {i : Nat} (h : i < σ.next) : (σ.join τ).objs i = σ.objs i := by
  show (if i < σ.next then _ else _) = _
  rw [if_pos h]
theorem join_new {i : Nat} (h : σ.next ≤ i) : (σ.join τ).objs i = τ.objs i := by
  show (if i < σ.next then _ else _) = _
  rw [if_neg (by omega)]
theorem Mod.join (h : σ.next ≤ τ.next) (ids : List Nat) : Mod σ (σ.join τ) ids := ⟨h, fun i hi _ => join_old hi⟩
variable {α : Type} {R : ElR α} {sz : Nat} {u : PV} {l : List α}
theorem AxS.join (h : AxS R τ sz u l) (hn : ∀ i ∈ tops u, σ.next ≤ i) : AxS R (σ.join τ) sz u l := by
  obtain ⟨es, h1, h2⟩ := h
  refine ⟨es, ?_, h2⟩
  rcases h1 with h | h | ⟨id, cap, ro, rfl, q2, q3, q4, q5⟩
  · exact .inl h
  · exact .inr (.inl h)
  · exact .inr (.inr ⟨id, cap, ro, rfl, (join_new (hn id (.head _))).trans q2, q3, q4, q5⟩)
theorem Wr.join (h : Wr R τ sz u l) (hn : ∀ i ∈ tops u, σ.next ≤ i) : Wr R (σ.join τ) sz u l := by
  obtain ⟨id, cap, es, rfl, h1, h2, h3, h4⟩ := h
  exact ⟨id, cap, es, rfl, h1, (join_new (hn id (.head _))).trans h2, h3, h4⟩
theorem ownObjs_at (n : Nat) : ownObjs (.at_ n) n = true := by
  unfold ownObjs
  simp [Store.at_]
theorem ownObjs_push {a : Nat} (h : ownObjs τ a = true) (hn : a ≤ τ.next) {k : Nat} {es : List (List PV)} (he : es.all PV.own.owns = true) : ownObjs (τ.push (.cells k es)) a = true := by
  unfold ownObjs at h ⊢
  rw [List.all_eq_true] at h ⊢
  intro i hi
  have hi : i < τ.next + 1 - a := by simpa [Store.push] using hi
  by_cases hq : a + i = τ.next
  · have : (τ.push (.cells k es)).objs (a + i) = some (.cells k es) := by rw [hq]; exact push_obj _ _
    rw [this]
    exact he
  · have h1 : (τ.push (.cells k es)).objs (a + i) = τ.objs (a + i) := push_old (by omega)
    rw [h1]
    exact h i (by simp; omega)
theorem owns_cB (l : List UInt8) : (l.map cB).all PV.own.owns = true := by
  rw [List.all_eq_true]
  intro e he
  obtain ⟨b, _, rfl⟩ := List.mem_map.1 he
  rfl
end
end Go.Pvm
