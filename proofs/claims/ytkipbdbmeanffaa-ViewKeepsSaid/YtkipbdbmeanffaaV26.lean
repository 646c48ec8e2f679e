/- Part of the proof: slices as lists of any things; texts and bytes. -/
import Derived.Test.YtkipbdbmeanffaaV25
import Derived.Laws.Strings
set_option linter.unusedSimpArgs false
set_option linter.unusedVariables false
namespace Go.Pvm

/-! ### Two lists, one by one -/
inductive All2 {α β : Type} (R : α → β → Prop) : List α → List β → Prop
  | nil : All2 R [] []
  | cons {a : α} {b : β} {as : List α} {bs : List β} (h : R a b) (t : All2 R as bs) : All2 R (a :: as) (b :: bs)
namespace All2
variable {α β γ : Type} {R : α → β → Prop} {as as' : List α} {bs bs' : List β}
theorem len (h : All2 R as bs) : as.length = bs.length := by
  induction h with
  | nil => rfl
  | cons _ _ ih => simp [ih]
theorem app (h : All2 R as bs) (h' : All2 R as' bs') : All2 R (as ++ as') (bs ++ bs') := by
  induction h with
  | nil => exact h'
  | cons h _ ih => exact .cons h ih
theorem one {a : α} {b : β} (h : R a b) : All2 R [a] [b] := .cons h .nil
theorem get (h : All2 R as bs) : ∀ {i : Nat} {b : β}, bs[i]? = some b → ∃ a, as[i]? = some a ∧ R a b := by
  induction h with
  | nil => intro i b e; simp at e
  | cons h _ ih =>
    intro i b e
    cases i with
    | zero => simp at e; subst e; exact ⟨_, rfl, h⟩
    | succ i => exact ih (by simpa using e)
theorem get' (h : All2 R as bs) : ∀ {i : Nat} {a : α}, as[i]? = some a → ∃ b, bs[i]? = some b ∧ R a b := by
  induction h with
  | nil => intro i b e; simp at e
  | cons h _ ih =>
    intro i b e
    cases i with
    | zero => simp at e; subst e; exact ⟨_, rfl, h⟩
    | succ i => exact ih (by simpa using e)
theorem drop (h : All2 R as bs) : ∀ n, All2 R (as.drop n) (bs.drop n) := by
  induction h with
  | nil => intro n; simpa using All2.nil
  | cons h t ih =>
    intro n
    cases n with
    | zero => exact .cons h t
    | succ n => exact ih n
theorem take (h : All2 R as bs) : ∀ n, All2 R (as.take n) (bs.take n) := by
  induction h with
  | nil => intro n; simpa using All2.nil
  | cons h t ih =>
    intro n
    cases n with
    | zero => exact .nil
    | succ n => exact .cons h (ih n)
theorem set (h : All2 R as bs) {a : α} {b : β} (hab : R a b) : ∀ n, All2 R (as.set n a) (bs.set n b) := by
  induction h with
  | nil => intro n; exact .nil
  | cons h t ih =>
    intro n
    cases n with
    | zero => exact .cons hab t
    | succ n => exact .cons h (ih n)
theorem mem (h : All2 R as bs) {a : α} (ha : a ∈ as) : ∃ b ∈ bs, R a b := by
  induction h with
  | nil => cases ha
  | cons h _ ih =>
    rcases List.mem_cons.1 ha with rfl | ha
    · exact ⟨_, .head _, h⟩
    · obtain ⟨b, hb, r⟩ := ih ha
      exact ⟨b, .tail _ hb, r⟩
theorem mono {S : α → β → Prop} (h : All2 R as bs) (hs : ∀ a b, R a b → S a b) : All2 S as bs := by
  induction h with
  | nil => exact .nil
  | cons h _ ih => exact .cons (hs _ _ h) ih
theorem ofMap {f : β → α} (l : List β) : All2 (fun a b => a = f b) (l.map f) l := by
  induction l with
  | nil => exact .nil
  | cons a l ih => exact .cons rfl ih
theorem toMap {f : β → α} (h : All2 (fun a b => a = f b) as bs) : as = bs.map f := by
  induction h with
  | nil => rfl
  | cons h _ ih => rw [List.map_cons, ← h, ← ih]
theorem replicate {a : α} {b : β} (h : R a b) (n : Nat) : All2 R (List.replicate n a) (List.replicate n b) := by
  induction n with
  | zero => exact .nil
  | succ n ih => exact .cons h ih
/-- From each one's. -/
theorem each : ∀ (as : List α), (∀ a ∈ as, ∃ b, R a b) → ∃ bs, All2 R as bs
  | [], _ => ⟨[], .nil⟩
  | a :: as, h => by
    obtain ⟨b, hb⟩ := h a (.head _)
    obtain ⟨bs, hbs⟩ := each as fun x hx => h x (.tail _ hx)
    exact ⟨b :: bs, .cons hb hbs⟩
end All2

/-- How elements stand. -/
abbrev ElR (α : Type) := List PV → α → Prop
structure ROk {α : Type} (sz : Nat) (R : ElR α) : Prop where
  len : ∀ e a, R e a → e.length = sz
  plain : ∀ e a, R e a → ∀ c ∈ e, c.plain = true
def Fn {α : Type} (f : α → List PV) : ElR α := fun e a => e = f a
theorem ROk.fn {α : Type} {sz : Nat} {f : α → List PV} (h : ∀ a, (f a).length = sz ∧ ∀ c ∈ f a, c.plain = true) : ROk sz (Fn f) := ⟨fun _ a e => e ▸ (h a).1, fun _ a e => e ▸ (h a).2⟩
theorem ROk.els {α : Type} {sz : Nat} {R : ElR α} (ok : ROk sz R) {es : List (List PV)} {l : List α} (h : All2 R es l) : Els sz es := fun e he => by
  obtain ⟨a, _, r⟩ := h.mem he
  exact ⟨ok.len e a r, ok.plain e a r⟩

/-- A slice's type. -/
structure SlT (P : Program) (t el : TypeId) (sz by_ : Nat) : Prop where
  u : P.underlying t = some (.slice el)
  el : El P el sz by_

/-- A slice, read only, as a list. -/
def IsS {α : Type} (R : ElR α) (v : PV) (l : List α) : Prop := ∃ es, IsP v es ∧ All2 R es l
/-- A slice, wherever it stands, as a list. -/
def QS {α : Type} (R : ElR α) (σ : Store) (sz : Nat) (v : PV) (l : List α) : Prop := ∃ es, IsQ σ sz v es ∧ All2 R es l

section
variable {α : Type} {P : Program} {σ τ : Store} {t el : TypeId} {sz by_ : Nat} {R : ElR α} {v u : PV} {l : List α}
theorem IsS.nil : IsS R .nilsl [] := ⟨[], .inl ⟨rfl, rfl⟩, .nil⟩
theorem IsS.q (h : IsS R v l) (σ : Store) (sz : Nat) : QS R σ sz v l := let ⟨es, h1, h2⟩ := h; ⟨es, h1.q, h2⟩
theorem QS.len (T : SlT P t el sz by_) (h : QS R σ sz v l) : pureB P .len [t] [v] = some (.int .i64 (l.length : Nat)) := by
  obtain ⟨es, h1, h2⟩ := h
  rw [h1.len T.u, h2.len]
theorem IsS.len (T : SlT P t el sz by_) (h : IsS R v l) : pureB P .len [t] [v] = some (.int .i64 (l.length : Nat)) := (h.q .empty sz).len T
theorem IsS.idx (T : SlT P t el sz by_) (ok : ROk sz R) (h : IsS R v l) {i : Nat} {a : α} (hi : l[i]? = some a) (κ : IntKind) : ∃ e, indexAddrv P t v (.int κ (i : Nat)) = some (.pref e) ∧ R e a := by
  obtain ⟨es, h1, h2⟩ := h
  obtain ⟨e, he, hr⟩ := h2.get hi
  exact ⟨e, h1.idx T.u T.el.hsz he (ok.len _ _ hr) κ, hr⟩
theorem QS.idx (T : SlT P t el sz by_) (ok : ROk sz R) (h : QS R σ sz v l) {i : Nat} {a : α} (hi : l[i]? = some a) (κ : IntKind) : ∃ x e, indexAddrv P t v (.int κ (i : Nat)) = some x ∧ ((∃ r, x = .pref r) ∨ ∃ id k, x = .ref id k 0) ∧ (∀ t', loadv P σ t' x = partOf P t' e 0) ∧ R e a := by
  obtain ⟨es, h1, h2⟩ := h
  obtain ⟨e, he, hr⟩ := h2.get hi
  obtain ⟨x, q1, q2, q3⟩ := h1.idx T.u T.el.hsz he (ok.len _ _ hr) κ
  exact ⟨x, e, q1, q2, q3, hr⟩
theorem IsS.cut (T : SlT P t el sz by_) (ok : ROk sz R) (h : IsS R v l) {lo hi : Option PV} {a b : Nat} (hl : numOf lo 0 = some a) (hh : numOf hi l.length = some b) (h1 : a ≤ b) (h2 : b ≤ l.length) : ∃ v', cutv P t v lo hi none = some v' ∧ IsS R v' ((l.drop a).take (b - a)) := by
  obtain ⟨es, q1, q2⟩ := h
  obtain ⟨v', r1, r2⟩ := q1.cut T.u T.el.hsz (ok.els q2).len hl (by rw [q2.len]; exact hh) h1 (by rw [q2.len]; exact h2)
  exact ⟨v', r1, _, r2, (q2.drop a).take (b - a)⟩
theorem QS.frz (ok : ROk sz R) (h : QS R σ sz v l) (n : Nat) : IsS R (fz (n + 2) σ v) l := by
  obtain ⟨es, q1, q2⟩ := h
  exact ⟨es, q1.frz (ok.els q2).plain n, q2⟩
theorem IsS.frz (h : IsS R v l) (n : Nat) (σ : Store) : fz (n + 1) σ v = v := let ⟨_, h1, _⟩ := h; h1.frz n σ
theorem IsS.plain (h : IsS R v l) : v.plain = true := let ⟨_, h1, _⟩ := h; h1.plain
theorem IsS.lf (h : IsS R v l) : v.lf = true := lf_plain h.plain
theorem IsS.tops (h : IsS R v l) : tops v = [] := let ⟨_, h1, _⟩ := h; h1.tops
theorem IsS.nostr (h : IsS R v l) : isStr v = false := let ⟨_, h1, _⟩ := h; (h1.q (σ := .empty) (sz := 0)).nostr
theorem QS.rl (h : QS R σ sz v l) (r : Rl σ τ) : QS R τ sz v l := let ⟨es, h1, h2⟩ := h; ⟨es, h1.rl r, h2⟩
theorem QS.mod (h : QS R σ sz v l) {ids : List Nat} (m : Mod σ τ ids) (hd : ∀ i ∈ Pvm.tops v, i ∉ ids) : QS R τ sz v l := let ⟨es, h1, h2⟩ := h; ⟨es, h1.mod m hd, h2⟩
end

/-! ### A slice that is made, all its row being it -/
def Ax (σ : Store) (sz : Nat) (v : PV) (es : List (List PV)) : Prop :=
  (v = .nilsl ∧ es = []) ∨ v = .psl true es ∨ ∃ id cap ro, v = .lsl id sz 0 es.length cap ∧ σ.objs id = some (.cells ro es) ∧ ro ≤ es.length ∧ (cap = none ∨ cap = some es.length) ∧ id < σ.next
section
variable {P : Program} {σ τ : Store} {t el : TypeId} {sz by_ : Nat} {u x : PV} {es new : List (List PV)}
theorem Ax.ap (h : Ax σ sz u es) : Ap σ sz u es := by
  rcases h with h | h | ⟨id, cap, ro, h1, h2, h3, h4, h5⟩
  · exact .inl h
  · exact .inr (.inl h)
  · exact .inr (.inr ⟨id, 0, cap, ro, es, h1, h2, by omega, by simp, h4.imp (fun e => ⟨e, by omega, h3⟩) (fun e => e), h5⟩)
theorem Ax.lf (h : Ax σ sz u es) (hp : Plain es) : ∀ id ∈ tops u, Lf σ id := by
  intro i hi
  rcases h with ⟨rfl, rfl⟩ | rfl | ⟨id, cap, ro, rfl, h2, h3, h4, h5⟩
  · cases hi
  · cases hi
  · simp [tops] at hi; subst hi; exact ⟨ro, es, h2, hp.lf⟩
theorem Ax.rl (h : Ax σ sz u es) (r : Rl σ τ) : Ax τ sz u es := by
  rcases h with h | h | ⟨id, cap, ro, h1, h2, h3, h4, h5⟩
  · exact .inl h
  · exact .inr (.inl h)
  · have h5' : id < τ.next := by rw [r.1]; exact h5
    rcases r.2 id with e | ⟨ro', es', e1, e2⟩
    · exact .inr (.inr ⟨id, cap, ro, h1, e.trans h2, h3, h4, h5'⟩)
    · rw [h2] at e1; cases e1; exact .inr (.inr ⟨id, cap, _, h1, e2, Nat.le_refl _, h4, h5'⟩)
theorem Ax.mod (h : Ax σ sz u es) {ids : List Nat} (m : Mod σ τ ids) (hd : ∀ i ∈ tops u, i ∉ ids) : Ax τ sz u es := by
  rcases h with h | h | ⟨id, cap, ro, rfl, h2, h3, h4, h5⟩
  · exact .inl h
  · exact .inr (.inl h)
  · exact .inr (.inr ⟨id, cap, ro, rfl, (m.2 id h5 (hd id (.head _))).trans h2, h3, h4, Nat.lt_of_lt_of_le h5 m.1⟩)
theorem Ax.push (h : Ax σ sz u es) (o : Obj) : Ax (σ.push o) sz u es := h.mod (Mod.push σ o []) fun _ _ => by simp
theorem Ax.nil (σ : Store) (sz : Nat) : Ax σ sz .nilsl [] := .inl ⟨rfl, rfl⟩
theorem Ax.fresh (σ : Store) (sz : Nat) (es : List (List PV)) : Ax (σ.push (.cells 0 es)) sz (.lsl σ.next sz 0 es.length (some es.length)) es :=
  .inr (.inr ⟨_, _, 0, rfl, push_obj _ _, Nat.zero_le _, .inr rfl, Nat.lt_succ_self _⟩)
theorem kill_push_obj (σ : Store) (i : Nat) (o : Obj) : ((σ.kill i).push o).objs σ.next = some o := by simp [Store.push, Store.kill]
theorem Ax.app (E : El P el sz by_) (h : Ax σ sz u es) (hes : ∀ e ∈ es, e.length = sz) (hx : elemsOf σ x = some new) (ha : all1 sz new = true) (hb : (es.length + new.length) * by_ ≤ 140737488355328) :
    ∃ u' τ, appendv P σ el u x = some (u', τ) ∧ Ax τ sz u' (es ++ new) ∧ Mod σ τ (tops u) ∧ ∀ i ∈ tops u', i ∈ tops u ∨ (σ.next ≤ i ∧ i < τ.next) := by
  by_cases hn : new = []
  · subst hn
    refine ⟨u, σ, ?_, by rw [List.append_nil]; exact h, Mod.refl _ _, fun i hi => .inl hi⟩
    rw [appendv_start E hx ha]
    rcases h with ⟨rfl, rfl⟩ | rfl | ⟨id, cap, ro, rfl, _⟩ <;> rfl
  · have h0 : 0 < new.length := List.length_pos_iff.2 hn
    rcases h with ⟨rfl, rfl⟩ | rfl | ⟨id, cap, ro, rfl, h2, h3, h5, h6⟩
    · refine ⟨_, _, appendv_nil E hx ha hn (by simpa using hb), ?_, Mod.push _ _ _, fun i hi => ?_⟩
      · exact .inr (.inr ⟨_, _, 0, rfl, push_obj _ _, Nat.zero_le _, .inl rfl, Nat.lt_succ_self _⟩)
      · simp [tops] at hi; subst hi; exact .inr ⟨Nat.le_refl _, Nat.lt_succ_self _⟩
    · have hall : (es.all fun e => e.length == sz) = true := by
        rw [List.all_eq_true]; intro e h; simpa using hes e h
      refine ⟨.lsl σ.next sz 0 (es.length + new.length) none, σ.push (.cells 0 (es ++ new)), ?_, ?_, Mod.push _ _ _, fun i hi => ?_⟩
      · rw [appendv_start E hx ha]
        simp only
        rw [if_neg (by omega), if_pos trivial, if_pos hb, if_pos hall]
      · exact .inr (.inr ⟨_, none, 0, by simp, push_obj _ _, Nat.zero_le _, .inl rfl, Nat.lt_succ_self _⟩)
      · simp [tops] at hi; subst hi; exact .inr ⟨Nat.le_refl _, Nat.lt_succ_self _⟩
    · have htk : (es.drop 0).take es.length = es := by simp
      rcases h5 with rfl | rfl
      · refine ⟨_, _, appendv_open E hx ha hn h2 (Nat.zero_add _) (by omega) hb, ?_, ?_, fun i hi => ?_⟩
        · rw [htk]
          exact .inr (.inr ⟨_, none, _, by simp, kill_push_obj _ _ _, by simp; omega, .inl rfl, Nat.lt_succ_self _⟩)
        · refine (Mod.kill (ids := [id]) (.head _)).trans' (Mod.push _ _ []) (fun _ h => by cases h)
        · simp [tops] at hi; subst hi; exact .inr ⟨Nat.le_refl _, Nat.lt_succ_self _⟩
      · refine ⟨_, _, appendv_full E hx ha hn h2 (by omega) hb, ?_, Mod.push _ _ _, fun i hi => ?_⟩
        · rw [htk]
          exact .inr (.inr ⟨_, none, 0, by simp, push_obj _ _, Nat.zero_le _, .inl rfl, Nat.lt_succ_self _⟩)
        · simp [tops] at hi; subst hi; exact .inr ⟨Nat.le_refl _, Nat.lt_succ_self _⟩
end

/-- A slice that is made, as a list. -/
def AxS {α : Type} (R : ElR α) (σ : Store) (sz : Nat) (v : PV) (l : List α) : Prop := ∃ es, Ax σ sz v es ∧ All2 R es l
section
variable {α : Type} {P : Program} {σ τ : Store} {t el : TypeId} {sz by_ : Nat} {R : ElR α} {v u x : PV} {l ln : List α}
theorem AxS.q (h : AxS R σ sz u l) : QS R σ sz u l := let ⟨es, h1, h2⟩ := h; ⟨es, h1.ap.q, h2⟩
theorem AxS.nil (σ : Store) : AxS R σ sz .nilsl [] := ⟨[], Ax.nil _ _, .nil⟩
theorem AxS.len (T : SlT P t el sz by_) (h : AxS R σ sz u l) : pureB P .len [t] [u] = some (.int .i64 (l.length : Nat)) := h.q.len T
theorem AxS.frz (ok : ROk sz R) (h : AxS R σ sz u l) (n : Nat) : IsS R (fz (n + 2) σ u) l := h.q.frz ok n
theorem AxS.lf (ok : ROk sz R) (h : AxS R σ sz u l) : ∀ id ∈ tops u, Lf σ id := let ⟨_, h1, h2⟩ := h; h1.lf (ok.els h2).plain
theorem AxS.rl (h : AxS R σ sz u l) (r : Rl σ τ) : AxS R τ sz u l := let ⟨es, h1, h2⟩ := h; ⟨es, h1.rl r, h2⟩
theorem AxS.mod (h : AxS R σ sz u l) {ids : List Nat} (m : Mod σ τ ids) (hd : ∀ i ∈ tops u, i ∉ ids) : AxS R τ sz u l := let ⟨es, h1, h2⟩ := h; ⟨es, h1.mod m hd, h2⟩
theorem AxS.push (h : AxS R σ sz u l) (o : Obj) : AxS R (σ.push o) sz u l := let ⟨es, h1, h2⟩ := h; ⟨es, h1.push o, h2⟩
theorem AxS.fresh {es : List (List PV)} (h : All2 R es l) (σ : Store) (sz : Nat) {n : Nat} (hn : n = l.length) : AxS R (σ.push (.cells 0 es)) sz (.lsl σ.next sz 0 n (some n)) l := by
  subst hn
  rw [← h.len]
  exact ⟨es, Ax.fresh _ _ _, h⟩
/-- Appended: elements of a slice. -/
theorem AxS.appQ (T : SlT P t el sz by_) (ok : ROk sz R) (h : AxS R σ sz u l) (hx : QS R σ sz x ln) (hb : (l.length + ln.length) * by_ ≤ 140737488355328) :
    ∃ u' τ, writeB P σ .append [t, t] [u, x] = some (u', τ) ∧ AxS R τ sz u' (l ++ ln) ∧ Mod σ τ (tops u) ∧ ∀ i ∈ tops u', i ∈ tops u ∨ (σ.next ≤ i ∧ i < τ.next) := by
  obtain ⟨es, h1, h2⟩ := h
  obtain ⟨new, x1, x2⟩ := hx
  obtain ⟨u', τ, q1, q2, q3, q4⟩ := h1.app T.el (ok.els h2).len x1.elems (ok.els x2).all1 (by rw [h2.len, x2.len]; exact hb)
  exact ⟨u', τ, by rw [writeB_append T.u T.u x1.nostr]; exact q1, ⟨_, q2, h2.app x2⟩, q3, q4⟩
/-- Appended: elements just laid. -/
theorem AxS.app1 (T : SlT P t el sz by_) (ok : ROk sz R) (h : AxS R σ sz u l) {new : List (List PV)} (hn : All2 R new ln) (hb : (l.length + ln.length) * by_ ≤ 140737488355328) {n : Nat} (hn' : n = new.length) :
    ∃ u' τ, writeB P (σ.push (.cells 0 new)) .append [t, t] [u, .lsl σ.next sz 0 n (some n)] = some (u', τ) ∧ AxS R τ sz u' (l ++ ln) ∧ Mod σ τ (tops u) ∧ ∀ i ∈ tops u', i ∈ tops u ∨ (σ.next ≤ i ∧ i < τ.next) := by
  subst hn'
  have hx : QS R (σ.push (.cells 0 new)) sz (.lsl σ.next sz 0 new.length (some new.length)) ln := (AxS.fresh hn σ sz hn.len).q
  obtain ⟨u', τ, q1, q2, q3, q4⟩ := (h.push (.cells 0 new)).appQ T ok hx hb
  refine ⟨u', τ, q1, q2, ((Mod.push σ (.cells 0 new) (tops u)).trans q3).mono fun i _ hi => by simpa using hi, fun i hi => ?_⟩
  rcases q4 i hi with h | h
  · exact .inl h
  · exact .inr ⟨by have := h.1; rw [push_next] at this; omega, h.2⟩
end

/-! ### Bytes and texts -/
def cB (b : UInt8) : List PV := [.int .u8 b.toNat]
abbrev RB : ElR UInt8 := Fn cB
theorem okB : ROk 1 RB := ROk.fn fun a => ⟨rfl, by simp [cB, PV.plain]⟩
theorem bytesOf_cB : ∀ l : List UInt8, bytesOf (l.map cB) = some l
  | [] => rfl
  | b :: l => by
    have h : cB b = [.int .u8 b.toNat] := rfl
    rw [List.map_cons, h]
    unfold bytesOf
    rw [bytesOf_cB l]
    simp
def strB (l : List UInt8) : ByteArray := ⟨l.toArray⟩
section
variable {P : Program} {σ : Store} {t el ts : TypeId} {by_ : Nat} {v : PV} {l l' : List UInt8}
theorem QS.str (hs : P.underlying ts = some .string) (T : SlT P t el 1 by_) (hu : P.underlying el = some (.int .u8)) (h : QS RB σ 1 v l) : convv P σ t ts v = some (.str (strB l)) := by
  obtain ⟨es, h1, h2⟩ := h
  have he : es = l.map cB := h2.toMap
  subst he
  simp only [convv, T.u, hs, hu, h1.nostr, h1.elems, Bool.false_eq_true, if_false, Option.bind_some, bytesOf_cB]
  rfl
theorem IsS.str (hs : P.underlying ts = some .string) (T : SlT P t el 1 by_) (hu : P.underlying el = some (.int .u8)) (h : IsS RB v l) (σ : Store) : convv P σ t ts v = some (.str (strB l)) := (h.q σ 1).str hs T hu
theorem strNe (t : TypeId) : binv P .neq t (.str (strB l)) (.str (strB l')) = some (.bool (!(l == l'))) := by
  have e : ∀ l : List UInt8, (strB l).toList = l := fun l => by rw [ByteArray.toList_eq]; rfl
  simp only [binv, strv, e]
theorem strEq (t : TypeId) : binv P .eql t (.str (strB l)) (.str (strB l')) = some (.bool (l == l')) := by
  have e : ∀ l : List UInt8, (strB l).toList = l := fun l => by rw [ByteArray.toList_eq]; rfl
  simp only [binv, strv, e]
end
theorem lenI (n : Nat) : ((n : Nat) : Int) = (n : Int) := rfl
end Go.Pvm
