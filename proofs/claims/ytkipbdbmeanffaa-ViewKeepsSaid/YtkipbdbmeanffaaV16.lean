/- Part of the proof: regions whose order is open: each order comes to what the text's order comes to. -/
import Derived.Test.YtkipbdbmeanffaaV15
import Derived.Orders
set_option linter.unusedSimpArgs false
set_option linter.unusedVariables false
namespace Go.Pvm

/-! ### What comes up before what -/
def preds (acc : List Nat) (o : Oper) : Nat := o.after.toList.foldl (fun s e => if Region.binds .any e then s ||| 2 ^ e.on ||| acc.getD e.on 0 else s) 0

theorem beforeL_snoc (l : List Oper) (o : Oper) : beforeL (l ++ [o]) = beforeL l ++ [preds (beforeL l) o] := by
  simp [beforeL, preds, List.foldl_append]
theorem beforeL_nil : beforeL [] = [] := rfl
theorem snocRec {α : Type} {P : List α → Prop} (h0 : P []) (h1 : ∀ l a, P l → P (l ++ [a])) (l : List α) : P l := by
  rw [← List.reverse_reverse l]
  induction l.reverse with
  | nil => exact h0
  | cons a r ih => rw [List.reverse_cons]; exact h1 _ _ ih

theorem beforeL_length (l : List Oper) : (beforeL l).length = l.length := by
  refine snocRec (P := fun l => (beforeL l).length = l.length) rfl (fun l o ih => ?_) l
  rw [beforeL_snoc]; simp [ih]

theorem fold_bits (b : Edge → Bool) (f : Edge → Nat) (j : Nat) : ∀ (es : List Edge) (s0 : Nat), (es.foldl (fun s e => if b e then s ||| 2 ^ e.on ||| f e else s) s0).testBit j = true → s0.testBit j = true ∨ ∃ e ∈ es, b e = true ∧ (e.on = j ∨ (f e).testBit j = true)
  | [], s0, h => .inl h
  | e :: r, s0, h => by
    rw [List.foldl_cons] at h
    rcases fold_bits b f j r _ h with h1 | ⟨e', he', h2⟩
    · split at h1
      · rename_i hb
        rw [Nat.testBit_or, Nat.testBit_or, Bool.or_eq_true, Bool.or_eq_true, Nat.testBit_two_pow] at h1
        rcases h1 with (h1 | h1) | h1
        · exact .inl h1
        · exact .inr ⟨e, .head _, hb, .inl (by simpa using h1)⟩
        · exact .inr ⟨e, .head _, hb, .inr h1⟩
      · exact .inl h1
    · exact .inr ⟨e', .tail _ he', h2⟩

/-- A bit that is set: an edge, or one of an edge's. -/
theorem before_edge (ops : List Oper) (i : Nat) (o : Oper) (ho : ops[i]? = some o) (hed : ∀ e ∈ o.after.toList, Region.binds .any e = true → e.on < i) (j : Nat) (h : ((beforeL ops).getD i 0).testBit j = true) :
    ∃ e ∈ o.after.toList, Region.binds .any e = true ∧ (e.on = j ∨ ((beforeL ops).getD e.on 0).testBit j = true) := by
  have key : ∀ l : List Oper, ∀ i o, l[i]? = some o → (∀ e ∈ o.after.toList, Region.binds .any e = true → e.on < i) → ((beforeL l).getD i 0).testBit j = true →
      ∃ e ∈ o.after.toList, Region.binds .any e = true ∧ (e.on = j ∨ ((beforeL l).getD e.on 0).testBit j = true) := by
    intro l
    refine snocRec (P := fun l => ∀ i o, l[i]? = some o → (∀ e ∈ o.after.toList, Region.binds .any e = true → e.on < i) → ((beforeL l).getD i 0).testBit j = true →
      ∃ e ∈ o.after.toList, Region.binds .any e = true ∧ (e.on = j ∨ ((beforeL l).getD e.on 0).testBit j = true)) ?_ ?_ l
    · intro i o h; simp at h
    · intro l a ih i o ho hed hb
      have hlen := beforeL_length l
      have pre : ∀ k, k < l.length → (beforeL (l ++ [a])).getD k 0 = (beforeL l).getD k 0 := fun k hk => by
        rw [beforeL_snoc, List.getD_eq_getElem?_getD, List.getElem?_append_left (by omega), List.getD_eq_getElem?_getD]
      by_cases hi : i < l.length
      · rw [List.getElem?_append_left hi] at ho
        rw [pre i hi] at hb
        obtain ⟨e, he, h1, h2⟩ := ih i o ho hed hb
        refine ⟨e, he, h1, h2.imp id fun h2 => ?_⟩
        rw [pre _ (Nat.lt_trans (hed e he h1) hi)]
        exact h2
      · have hil : i = l.length := by
          have := (List.getElem?_eq_some_iff.1 ho).1
          simp at this
          omega
        subst hil
        rw [List.getElem?_append_right (Nat.le_refl _), Nat.sub_self] at ho
        cases ho
        rw [beforeL_snoc, List.getD_eq_getElem?_getD, List.getElem?_append_right (by omega), hlen, Nat.sub_self] at hb
        have hb' : (preds (beforeL l) a).testBit j = true := hb
        rcases fold_bits _ _ _ _ _ hb' with h0 | ⟨e, he, h1, h2⟩
        · simp at h0
        · exact ⟨e, he, h1, h2.imp id fun h2 => by rw [pre _ (hed e he h1)]; exact h2⟩
  exact key ops i o ho hed h

/-! ### The run in the order of the text -/
structure Run (cfg : Cfg) (C : CallO) (ops : List Oper) (E : Nat → List PV) (S : Nat → Store) (V : Nat → PV) : Prop where
  step : ∀ i o, ops[i]? = some o → E (i + 1) = putv (E i) o.dst (V i) ∧
    ((wants ops (E i) o = some true ∧ evalOp cfg C (E i) (S i) o = some (V i, S (i + 1))) ∨ (wants ops (E i) o = some false ∧ V i = .tuple [] ∧ S (i + 1) = S i))

theorem run_of {cfg : Cfg} {C : CallO} {all : List Oper} : ∀ (l : List Oper) (env : List PV) (σ : Store) (env' : List PV) (σ' : Store), evalOps cfg C all l env σ = some (env', σ') →
    ∃ (E : Nat → List PV) (S : Nat → Store) (V : Nat → PV), E 0 = env ∧ S 0 = σ ∧ E l.length = env' ∧ S l.length = σ' ∧ ∀ i o, l[i]? = some o → E (i + 1) = putv (E i) o.dst (V i) ∧
    ((wants all (E i) o = some true ∧ evalOp cfg C (E i) (S i) o = some (V i, S (i + 1))) ∨ (wants all (E i) o = some false ∧ V i = .tuple [] ∧ S (i + 1) = S i))
  | [], env, σ, env', σ', h => by
    simp [evalOps] at h
    exact ⟨fun _ => env, fun _ => σ, fun _ => .undef, rfl, rfl, h.1, h.2, fun i o e => by simp at e⟩
  | o :: r, env, σ, env', σ', h => by
    simp only [evalOps, Option.bind_eq_some_iff] at h
    obtain ⟨b, hb, h⟩ := h
    split at h
    · rename_i hbt
      subst hbt
      simp only [Option.bind_eq_some_iff] at h
      obtain ⟨⟨v, τ⟩, h1, h2⟩ := h
      obtain ⟨E, S, V, e0, s0, en, sn, hst⟩ := run_of r _ _ _ _ h2
      refine ⟨fun i => match i with | 0 => env | k + 1 => E k, fun i => match i with | 0 => σ | k + 1 => S k, fun i => match i with | 0 => v | k + 1 => V k, rfl, rfl, en, sn, fun i q hq => ?_⟩
      cases i with
      | zero => simp at hq; subst hq; exact ⟨e0, .inl ⟨hb, by show evalOp cfg C env σ o = some (v, S 0); rw [s0]; exact h1⟩⟩
      | succ i => exact hst i q (by simpa using hq)
    · rename_i hbt
      have hbf : b = false := by simpa using hbt
      subst hbf
      obtain ⟨E, S, V, e0, s0, en, sn, hst⟩ := run_of r _ _ _ _ h
      refine ⟨fun i => match i with | 0 => env | k + 1 => E k, fun i => match i with | 0 => σ | k + 1 => S k, fun i => match i with | 0 => .tuple [] | k + 1 => V k, rfl, rfl, en, sn, fun i q hq => ?_⟩
      cases i with
      | zero => simp at hq; subst hq; exact ⟨e0, .inr ⟨hb, rfl, s0⟩⟩
      | succ i => exact hst i q (by simpa using hq)

/-- The slot t, what is in L having been listed, of the first k. -/
def cur (ops : List Oper) (V : Nat → PV) (E0 : List PV) (L : Nat → Bool) : Nat → Nat → PV
  | 0, t => E0.getD t .undef
  | k + 1, t => if L k = true ∧ (ops[k]?).bind (·.dst) = some t then V k else cur ops V E0 L k t

theorem cur_congr {ops : List Oper} {V : Nat → PV} {E0 : List PV} {L L' : Nat → Bool} {t : Nat} : ∀ k, (∀ j, j < k → (ops[j]?).bind (·.dst) = some t → L j = L' j) → cur ops V E0 L k t = cur ops V E0 L' k t
  | 0, _ => rfl
  | k + 1, h => by
    unfold cur
    by_cases hd : (ops[k]?).bind (·.dst) = some t
    · rw [h k (by omega) hd, cur_congr k fun j hj => h j (by omega)]
    · rw [if_neg (fun e => hd e.2), if_neg (fun e => hd e.2)]
      exact cur_congr k fun j hj => h j (by omega)
theorem cur_later {ops : List Oper} {V : Nat → PV} {E0 : List PV} {L : Nat → Bool} {t i : Nat} : ∀ k, i ≤ k → (∀ j, i ≤ j → j < k → (ops[j]?).bind (·.dst) = some t → L j = false) → cur ops V E0 L k t = cur ops V E0 L i t
  | 0, hi, _ => by have : i = 0 := by omega
                   subst this; rfl
  | k + 1, hi, h => by
    rcases Nat.lt_or_ge k i with hk | hk
    · have : i = k + 1 := by omega
      subst this; rfl
    · show (if L k = true ∧ (ops[k]?).bind (·.dst) = some t then V k else cur ops V E0 L k t) = _
      rw [if_neg (fun e => by have := h k hk (by omega) e.2; rw [e.1] at this; cases this)]
      exact cur_later k hk fun j h1 h2 => h j h1 (by omega)

theorem putv_length (env : List PV) (d : Option Nat) (v : PV) : (putv env d v).length = env.length := by cases d <;> simp [putv]

section
variable {cfg : Cfg} {C : CallO} {ops : List Oper} {E : Nat → List PV} {S : Nat → Store} {V : Nat → PV}

theorem Run.len (h : Run cfg C ops E S V) : ∀ i, i ≤ ops.length → (E i).length = (E 0).length
  | 0, _ => rfl
  | i + 1, hi => by
    rw [(h.step i _ (List.getElem?_eq_getElem (by omega))).1, putv_length]
    exact h.len i (by omega)

theorem Run.cur (h : Run cfg C ops E S V) {t : Nat} (ht : t < (E 0).length) : ∀ i, i ≤ ops.length → (E i).getD t .undef = Pvm.cur ops V (E 0) (fun _ => true) i t
  | 0, _ => rfl
  | i + 1, hi => by
    have ho := List.getElem?_eq_getElem (show i < ops.length by omega)
    have hl := h.len i (by omega)
    rw [(h.step i _ ho).1]
    unfold Pvm.cur
    rw [ho]
    simp only [Option.bind_some, true_and]
    cases hd : (ops[i]).dst with
    | none => simp only [putv]; rw [if_neg (by simp)]; exact h.cur ht i (by omega)
    | some d =>
      simp only [putv, Option.some.injEq]
      by_cases hdt : d = t
      · subst hdt
        rw [if_pos rfl, List.getD_eq_getElem?_getD, List.getElem?_set_self (by omega)]
        rfl
      · rw [if_neg hdt, List.getD_eq_getElem?_getD, List.getElem?_set_ne hdt, ← List.getD_eq_getElem?_getD]
        exact h.cur ht i (by omega)

/-- What lies between two places of the run, nothing being written there. -/
theorem Run.keep (h : Run cfg C ops E S V) (hN : NextUp C) (hst : cfg.strict = true) {i : Nat} : ∀ k, i ≤ k → k ≤ ops.length → (∀ j o, i ≤ j → j < k → ops[j]? = some o → touch cfg o ≠ 3) →
    (S i).next ≤ (S k).next ∧ ∀ id, id < (S i).next → (S k).objs id = (S i).objs id
  | 0, hi, _, _ => by have : i = 0 := by omega
                      subst this; exact ⟨Nat.le_refl _, fun _ _ => rfl⟩
  | k + 1, hi, hk, hno => by
    rcases Nat.lt_or_ge k i with hlt | hge
    · have : i = k + 1 := by omega
      subst this; exact ⟨Nat.le_refl _, fun _ _ => rfl⟩
    · obtain ⟨h1, h2⟩ := h.keep hN hst k hge (by omega) fun j o p q => hno j o p (by omega)
      have ho := List.getElem?_eq_getElem (show k < ops.length by omega)
      rcases (h.step k _ ho).2 with ⟨_, he⟩ | ⟨_, _, he⟩
      · obtain ⟨q1, _, q3, _⟩ := op_kind hN he
        exact ⟨Nat.le_trans h1 q1, fun id hid => (q3 hst (hno k _ hge (by omega) ho) id (by omega)).trans (h2 id hid)⟩
      · rw [he]; exact ⟨h1, h2⟩

theorem Run.next (h : Run cfg C ops E S V) (hN : NextUp C) {i : Nat} : ∀ k, i ≤ k → k ≤ ops.length → (S i).next ≤ (S k).next
  | 0, hi, _ => by have : i = 0 := by omega
                   subst this; exact Nat.le_refl _
  | k + 1, hi, hk => by
    rcases Nat.lt_or_ge k i with hlt | hge
    · have : i = k + 1 := by omega
      subst this; exact Nat.le_refl _
    · have h1 := h.next hN k hge (by omega)
      have ho := List.getElem?_eq_getElem (show k < ops.length by omega)
      rcases (h.step k _ ho).2 with ⟨_, he⟩ | ⟨_, _, he⟩
      · exact Nat.le_trans h1 (op_kind hN he).1
      · rw [he]; exact h1

theorem Run.clean (h : Run cfg C ops E S V) (hN : NextUp C) (hC : NewOk C) (h0 : (S 0).Clean) : ∀ k, k ≤ ops.length → (S k).Clean
  | 0, _ => h0
  | k + 1, hk => by
    have ho := List.getElem?_eq_getElem (show k < ops.length by omega)
    rcases (h.step k _ ho).2 with ⟨_, he⟩ | ⟨_, _, he⟩
    · exact op_clean hN hC he (h.clean hN hC h0 k (by omega))
    · rw [he]; exact h.clean hN hC h0 k (by omega)

/-- A number that was given out between two places was given out by one operation. -/
theorem Run.given (h : Run cfg C ops E S V) {i id : Nat} : ∀ k, i ≤ k → k ≤ ops.length → (S i).next ≤ id → id < (S k).next → ∃ j, i ≤ j ∧ j < k ∧ (S j).next ≤ id ∧ id < (S (j + 1)).next
  | 0, hi, _, h1, h2 => by have : i = 0 := by omega
                           subst this; omega
  | k + 1, hi, hk, h1, h2 => by
    rcases Nat.lt_or_ge k i with hlt | hge
    · have : i = k + 1 := by omega
      subst this; omega
    · rcases Nat.lt_or_ge id (S k).next with h3 | h3
      · obtain ⟨j, a, b, c, d⟩ := h.given k hge (by omega) h1 h3
        exact ⟨j, a, by omega, c, d⟩
      · exact ⟨k, hge, by omega, h3, h2⟩
end

/-- A store that is a part of another one. -/
def Store.Part (σ τ : Store) : Prop := σ.next ≤ τ.next ∧ ∀ id, id < σ.next → τ.objs id = σ.objs id

theorem part_obj {σ τ : Store} (h : σ.Part τ) (hc : σ.Clean) {id : Nat} {o : Obj} (ho : σ.objs id = some o) : id < σ.next ∧ τ.objs id = some o := by
  have hlt : id < σ.next := by
    rcases Nat.lt_or_ge id σ.next with h | h
    · exact h
    · rw [hc id h] at ho; cases ho
  exact ⟨hlt, by rw [h.2 id hlt]; exact ho⟩

section
variable {ρ ρ' : Where} {F F' : Froz} {w w' : World} {σi σ1 σe : Store}

theorem SR.part (hs : SR ρ F σe w) (hp : σi.Part σe) (hc : σi.Clean) : SR ρ F σi w :=
  ⟨fun id r o hr ho => hs.obj id r o hr (part_obj hp hc ho).2, fun i j r r' o o' a b c d => hs.apart i j r r' o o' a (part_obj hp hc b).2 c (part_obj hp hc d).2, hs.old, hc⟩

theorem Lv.part {ρ : Where} {σi σe : Store} (hp : σi.Part σe) (hc : σi.Clean) {b : Nat} (h : Lv ρ σi b) : Lv ρ σe b :=
  let ⟨id, r, o, h1, h2, h3⟩ := h; ⟨id, r, o, h1, (part_obj hp hc h2).2, h3⟩

/-- An operation that was carried out over a part leaves the rest. -/
theorem SR.merge (hs : SR ρ F σe w) (hp : σi.Part σe) (hci : σi.Clean) (hp1 : σ1.Part σe) (hc1 : σ1.Clean) (g : Go1 ρ F σi w ρ' F' σ1 w') (s : SR ρ' F' σ1 w') (hn : ∀ id, σi.next ≤ id → id < σ1.next → ρ id = none) : SR ρ' F' σe w' := by
  have split : ∀ id r o, ρ' id = some r → σe.objs id = some o → (id < σ1.next ∧ σ1.objs id = some o) ∨ (σ1.next ≤ id ∧ ρ id = some r) := fun id r o hr ho => by
    rcases Nat.lt_or_ge id σ1.next with h | h
    · exact .inl ⟨h, by rw [← hp1.2 id h]; exact ho⟩
    · refine .inr ⟨h, ?_⟩
      cases hq : ρ id with
      | none => have := g.rng id r hr hq; omega
      | some r0 => have := g.rec_ id r0 hq; rw [hr] at this; exact this.symm
  have far : ∀ id r o, σ1.next ≤ id → ρ id = some r → σe.objs id = some o → ¬ Lv ρ σi r.block ∧ r.block < w.heap.size := fun id r o hle hr ho => by
    refine ⟨fun ⟨id', q, o', h1, h2, h3⟩ => ?_, lv_lt hs ⟨id, r, o, hr, ho, rfl⟩⟩
    have h4 := part_obj hp hci h2
    have := g.nx
    exact hs.apart id' id q r o' o h1 h4.2 hr ho (by omega) h3
  refine ⟨fun id r o hr ho => ?_, fun i j r r' o o' a b c d hne => ?_, s.old, hs.new⟩
  · rcases split id r o hr ho with ⟨h1, h2⟩ | ⟨h1, h2⟩
    · exact s.obj id r o hr h2
    · obtain ⟨h3, h4⟩ := far id r o h1 h2 ho
      cases hs.obj id r o h2 ho with
      | cells ro es arr ty hb hp' hn' hs' hf hro hz' hFF hcs =>
        refine .cells ro es arr ty (by rw [g.frame _ h4 h3]; exact hb) hp' hn' hs' hf hro hz' (fun o ho hq => ?_) fun i e he j x hx => let ⟨v, q1, q2⟩ := hcs i e he j x hx; ⟨v, q1, g.vr q2⟩
        rcases g.froN _ o hq with hq | hq | hq
        · exact hFF o ho hq
        · omega
        · exact h3 hq
  · rcases split i r o a b with ⟨p1, p2⟩ | ⟨p1, p2⟩ <;> rcases split j r' o' c d with ⟨q1, q2⟩ | ⟨q1, q2⟩
    · exact s.apart i j r r' o o' a p2 c q2 hne
    · obtain ⟨h3, h4⟩ := far j r' o' q1 q2 d
      intro e
      rcases g.live _ ⟨i, r, o, a, p2, rfl⟩ with h | h
      · omega
      · rw [e] at h; exact h3 h
    · obtain ⟨h3, h4⟩ := far i r o p1 p2 b
      intro e
      rcases g.live _ ⟨j, r', o', c, q2, rfl⟩ with h | h
      · omega
      · rw [← e] at h; exact h3 h
    · exact hs.apart i j r r' o o' p2 b q2 d hne

/-- The same, the rest being another store's. -/
theorem SR.merge2 {σe' : Store} (hs : SR ρ F σe w) (hp : σi.Part σe) (hci : σi.Clean) (hp1 : σ1.Part σe') (hag : ∀ id, σ1.next ≤ id → σe'.objs id = σe.objs id) (hce : σe'.Clean) (g : Go1 ρ F σi w ρ' F' σ1 w') (s : SR ρ' F' σ1 w') : SR ρ' F' σe' w' := by
  have split : ∀ id r o, ρ' id = some r → σe'.objs id = some o → (id < σ1.next ∧ σ1.objs id = some o) ∨ (σ1.next ≤ id ∧ ρ id = some r ∧ σe.objs id = some o) := fun id r o hr ho => by
    rcases Nat.lt_or_ge id σ1.next with h | h
    · exact .inl ⟨h, by rw [← hp1.2 id h]; exact ho⟩
    · refine .inr ⟨h, ?_, by rw [← hag id h]; exact ho⟩
      cases hq : ρ id with
      | none => have := g.rng id r hr hq; omega
      | some r0 => have := g.rec_ id r0 hq; rw [hr] at this; exact this.symm
  have far : ∀ id r o, σ1.next ≤ id → ρ id = some r → σe.objs id = some o → ¬ Lv ρ σi r.block ∧ r.block < w.heap.size := fun id r o hle hr ho => by
    refine ⟨fun ⟨id', q, o', h1, h2, h3⟩ => ?_, lv_lt hs ⟨id, r, o, hr, ho, rfl⟩⟩
    have h4 := part_obj hp hci h2
    have := g.nx
    exact hs.apart id' id q r o' o h1 h4.2 hr ho (by omega) h3
  refine ⟨fun id r o hr ho => ?_, fun i j r r' o o' a b c d hne => ?_, s.old, hce⟩
  · rcases split id r o hr ho with ⟨h1, h2⟩ | ⟨h1, h2, ho⟩
    · exact s.obj id r o hr h2
    · obtain ⟨h3, h4⟩ := far id r o h1 h2 ho
      cases hs.obj id r o h2 ho with
      | cells ro es arr ty hb hp' hn' hs' hf hro hz' hFF hcs =>
        refine .cells ro es arr ty (by rw [g.frame _ h4 h3]; exact hb) hp' hn' hs' hf hro hz' (fun o ho hq => ?_) fun i e he j x hx => let ⟨v, q1, q2⟩ := hcs i e he j x hx; ⟨v, q1, g.vr q2⟩
        rcases g.froN _ o hq with hq | hq | hq
        · exact hFF o ho hq
        · omega
        · exact h3 hq
  · rcases split i r o a b with ⟨p1, p2⟩ | ⟨p1, p2, b⟩ <;> rcases split j r' o' c d with ⟨q1, q2⟩ | ⟨q1, q2, d⟩
    · exact s.apart i j r r' o o' a p2 c q2 hne
    · obtain ⟨h3, h4⟩ := far j r' o' q1 q2 d
      intro e
      rcases g.live _ ⟨i, r, o, a, p2, rfl⟩ with h | h
      · omega
      · rw [e] at h; exact h3 h
    · obtain ⟨h3, h4⟩ := far i r o p1 p2 b
      intro e
      rcases g.live _ ⟨j, r', o', c, q2, rfl⟩ with h | h
      · omega
      · rw [← e] at h; exact h3 h
    · exact hs.apart i j r r' o o' p2 b q2 d hne
theorem SR.agree {σe' : Store} (hs : SR ρ F σe w) (hag : ∀ id r, ρ id = some r → σe'.objs id = σe.objs id) (hce : σe'.Clean) : SR ρ F σe' w :=
  ⟨fun id r o hr ho => hs.obj id r o hr (by rw [← hag id r hr]; exact ho), fun i j r r' o o' a b c d => hs.apart i j r r' o o' a (by rw [← hag i r a]; exact b) c (by rw [← hag j r' c]; exact d), hs.old, hce⟩
end


/-! ### The region's own law -/
theorem SR.ext {ρ : Where} {F : Froz} {σ σ' : Store} {w : World} (hs : SR ρ F σ w) (hp : σ.Part σ') (hc : σ'.Clean) (hn : ∀ id, σ.next ≤ id → id < σ'.next → ρ id = none) : SR ρ F σ' w := by
  have key : ∀ id r o, ρ id = some r → σ'.objs id = some o → σ.objs id = some o := fun id r o hr ho => by
    rcases Nat.lt_or_ge id σ.next with h | h
    · rw [← hp.2 id h]; exact ho
    · rcases Nat.lt_or_ge id σ'.next with h' | h'
      · rw [hn id h h'] at hr; cases hr
      · rw [hc id h'] at ho; cases ho
  exact ⟨fun id r o hr ho => hs.obj id r o hr (key id r o hr ho), fun i j r r' o o' a b c d => hs.apart i j r r' o o' a (key i r o a b) c (key j r' o' c d), hs.old, hc⟩

section
variable {ρ0 ρ ρ1 : Where} {F0 F F1 : Froz} {σ0 σ σ' σi σ1 σe : Store} {w0 w w1 : World}
theorem Go1.ext (g : Go1 ρ0 F0 σ0 w0 ρ F σ w) (hp : σ.Part σ') (hc : σ'.Clean) (hn : ∀ id, σ.next ≤ id → id < σ'.next → ρ id = none) : Go1 ρ0 F0 σ0 w0 ρ F σ' w :=
  { g with
    rng := fun id r e e0 => let h := g.rng id r e e0; ⟨h.1, Nat.lt_of_lt_of_le h.2 hp.1⟩
    nx := Nat.le_trans g.nx hp.1
    live := fun b ⟨id, r, o, hr, ho, hb⟩ => by
      refine g.live b ⟨id, r, o, hr, ?_, hb⟩
      rcases Nat.lt_or_ge id σ.next with h | h
      · rw [← hp.2 id h]; exact ho
      · rcases Nat.lt_or_ge id σ'.next with h' | h'
        · rw [hn id h h'] at hr; cases hr
        · rw [hc id h'] at ho; cases ho }

theorem Go1.sub (g0 : Go1 ρ0 F0 σ0 w0 ρ F σe w) (g : Go1 ρ F σi w ρ1 F1 σ1 w1) (hpi : σi.Part σe) (hci : σi.Clean) (hp1 : σ1.Part σe) (h0 : σ0.next ≤ σi.next) : Go1 ρ0 F0 σ0 w0 ρ1 F1 σe w1 where
  rec_ id r e := g.rec_ id r (g0.rec_ id r e)
  rng id r e e0 := by
    cases h1 : ρ id with
    | none => have := g.rng id r e h1; have := hp1.1; omega
    | some r1 => exact g0.rng id r1 h1 e0
  nx := g0.nx
  fro b o e := g.fro b o (g0.fro b o e)
  cell b o e := (g.cell b o (g0.fro b o e)).trans (g0.cell b o e)
  size := Nat.le_trans g0.size g.size
  frame b hb hn := by
    rw [g.frame b (Nat.lt_of_lt_of_le hb g0.size) (fun hl => ?_), g0.frame b hb hn]
    rcases g0.live b (hl.part hpi hci) with h1 | h1
    · omega
    · exact hn h1
  froN b o e := by
    rcases g.froN b o e with h1 | h1 | h1
    · exact g0.froN b o h1
    · exact .inr (.inl (Nat.le_trans g0.size h1))
    · exact .inr (g0.live b (h1.part hpi hci))
  live b hl := by
    obtain ⟨id, r, o, hr, ho, hb⟩ := hl
    rcases Nat.lt_or_ge id σ1.next with h | h
    · rcases g.live b ⟨id, r, o, hr, by rw [← hp1.2 id h]; exact ho, hb⟩ with h1 | h1
      · exact .inl (Nat.le_trans g0.size h1)
      · exact g0.live b (h1.part hpi hci)
    · cases h1 : ρ id with
      | none => have := g.rng id r hr h1; omega
      | some r1 =>
        have := g.rec_ id r1 h1
        rw [hr] at this
        cases this
        exact g0.live b ⟨id, r, o, h1, ho, hb⟩
  os := g.os.trans g0.os
  tape := g.tape.trans g0.tape
  out := g.out.trans g0.out
theorem Go1.sub2 (g0 : Go1 ρ0 F0 σ0 w0 ρ F σe w) (g : Go1 ρ F σi w ρ1 F1 σ1 w1) (hpi : σi.Part σe) (hci : σi.Clean) (hp1 : σ1.Part σ') (hnx : σ'.next = σe.next) (hag : ∀ id, σ1.next ≤ id → σ'.objs id = σe.objs id) (h0 : σ0.next ≤ σi.next) : Go1 ρ0 F0 σ0 w0 ρ1 F1 σ' w1 where
  rec_ id r e := g.rec_ id r (g0.rec_ id r e)
  rng id r e e0 := by
    cases h1 : ρ id with
    | none => have := g.rng id r e h1; have := hp1.1; omega
    | some r1 => rw [hnx]; exact g0.rng id r1 h1 e0
  nx := by rw [hnx]; exact g0.nx
  fro b o e := g.fro b o (g0.fro b o e)
  cell b o e := (g.cell b o (g0.fro b o e)).trans (g0.cell b o e)
  size := Nat.le_trans g0.size g.size
  frame b hb hn := by
    rw [g.frame b (Nat.lt_of_lt_of_le hb g0.size) (fun hl => ?_), g0.frame b hb hn]
    rcases g0.live b (hl.part hpi hci) with h1 | h1
    · omega
    · exact hn h1
  froN b o e := by
    rcases g.froN b o e with h1 | h1 | h1
    · exact g0.froN b o h1
    · exact .inr (.inl (Nat.le_trans g0.size h1))
    · exact .inr (g0.live b (h1.part hpi hci))
  live b hl := by
    obtain ⟨id, r, o, hr, ho, hb⟩ := hl
    rcases Nat.lt_or_ge id σ1.next with h | h
    · rcases g.live b ⟨id, r, o, hr, by rw [← hp1.2 id h]; exact ho, hb⟩ with h1 | h1
      · exact .inl (Nat.le_trans g0.size h1)
      · exact g0.live b (h1.part hpi hci)
    · cases h1 : ρ id with
      | none => have := g.rng id r hr h1; omega
      | some r1 =>
        have := g.rec_ id r1 h1
        rw [hr] at this
        cases this
        exact g0.live b ⟨id, r, o, h1, by rw [← hag id h]; exact ho, hb⟩
  os := g.os.trans g0.os
  tape := g.tape.trans g0.tape
  out := g.out.trans g0.out
theorem Go1.agree (g : Go1 ρ0 F0 σ0 w0 ρ F σ w) (hnx : σ'.next = σ.next) (hag : ∀ id r, ρ id = some r → σ'.objs id = σ.objs id) : Go1 ρ0 F0 σ0 w0 ρ F σ' w :=
  { g with
    rng := fun id r e e0 => by rw [hnx]; exact g.rng id r e e0
    nx := by rw [hnx]; exact g.nx
    live := fun b ⟨id, r, o, hr, ho, hb⟩ => g.live b ⟨id, r, o, hr, by rw [← hag id r hr]; exact ho, hb⟩ }
theorem Store.Part.trans {a b c : Store} (h : a.Part b) (k : b.Part c) : a.Part c := ⟨Nat.le_trans h.1 k.1, fun id hid => (k.2 id (Nat.lt_of_lt_of_le hid h.1)).trans (h.2 id hid)⟩
end

theorem drawOk_pair {cfg : Cfg} {ops : List Oper} (h : drawOk cfg ops = true) {i j : Nat} {x y : Oper} (hij : j < i) (hx : ops[i]? = some x) (hy : ops[j]? = some y) :
    ((beforeL ops).getD i 0).testBit j = true ∨ ((∀ d, y.dst = some d → d ∉ namesOf ops x) ∧ (∀ d, x.dst = some d → d ∉ namesOf ops y) ∧ (touch cfg x = 3 → touch cfg y = 0) ∧ (touch cfg y = 3 → touch cfg x ≤ 1)) := by
  unfold drawOk at h
  simp only [List.all_eq_true, List.mem_range] at h
  have h1 := h i (List.getElem?_eq_some_iff.1 hx).1 j hij
  rw [hx, hy] at h1
  simp only [Bool.or_eq_true, Bool.and_eq_true] at h1
  refine h1.imp id fun h2 => ?_
  obtain ⟨⟨⟨a1, a2⟩, a3⟩, a4⟩ := h2
  refine ⟨fun d hd => ?_, fun d hd => ?_, fun e => ?_, fun e => ?_⟩
  · rw [hd] at a1; simpa using a1
  · rw [hd] at a2; simpa using a2
  · rw [e] at a3; simpa using a3
  · rw [e] at a4; simp at a4; omega

theorem edgesOk_spec {ops : List Oper} (h : edgesOk ops = true) {i : Nat} {o : Oper} (ho : ops[i]? = some o) : ∀ e ∈ o.after.toList, Region.binds .any e = true → e.on < i := by
  unfold edgesOk at h
  simp only [List.all_eq_true, List.mem_range] at h
  have h1 := h i (List.getElem?_eq_some_iff.1 ho).1
  rw [ho] at h1
  simp only [Bool.and_eq_true, List.all_eq_true, Bool.or_eq_true] at h1
  intro e he hb
  rcases h1.1 e he with h2 | h2
  · rw [hb] at h2; cases h2
  · simpa using h2

theorem count_lt {α : Type} {p q : α → Bool} (hpq : ∀ x, q x = true → p x = true) {i : α} (hp : p i = true) (hq : q i = false) : ∀ l : List α, l.countP q ≤ l.countP p ∧ (i ∈ l → l.countP q < l.countP p)
  | [] => ⟨Nat.le_refl _, fun h => by cases h⟩
  | x :: r => by
    obtain ⟨h1, h2⟩ := count_lt hpq hp hq r
    have h3 : (if q x = true then 1 else 0) ≤ (if p x = true then 1 else 0) := by
      by_cases h : q x = true
      · rw [if_pos h, if_pos (hpq x h)]; exact Nat.le_refl _
      · rw [if_neg h]; exact Nat.zero_le _
    rw [List.countP_cons, List.countP_cons]
    refine ⟨by omega, fun hm => ?_⟩
    rcases List.mem_cons.1 hm with rfl | hm
    · rw [if_pos hp, if_neg (by rw [hq]; decide)]; omega
    · have := h2 hm; omega

section
variable {cfg : Cfg} {C : CallO} {ops : Array Oper} {E : Nat → List PV} {S : Nat → Store} {V : Nat → PV} {ρ0 : Where} {F0 : Froz} {w0 : World}

def lis (L : Array Bool) (i : Nat) : Bool := L.getD i false

open Classical in
/-- What operations lay that write nothing else. -/
noncomputable def lay (cfg : Cfg) (ops : Array Oper) (S : Nat → Store) (id : Nat) : Option Obj :=
  if h : ∃ j o, ops[j]? = some o ∧ touch cfg o = 1 ∧ (S j).next ≤ id ∧ id < (S (j + 1)).next then (S (Classical.choose h + 1)).objs id else none
/-- The store at a writer, and what later operations may have laid already. -/
noncomputable def ov (cfg : Cfg) (ops : Array Oper) (S : Nat → Store) (e : Nat) : Store := ⟨(S ops.size).next, fun id => if id < (S e).next then (S e).objs id else lay cfg ops S id⟩

section
variable (hr : Run cfg C ops.toList E S V) (hN : NextUp C)
include hr hN
theorem lay_at {j : Nat} {o : Oper} (ho : ops[j]? = some o) (ht : touch cfg o = 1) {id : Nat} (h1 : (S j).next ≤ id) (h2 : id < (S (j + 1)).next) : lay cfg ops S id = (S (j + 1)).objs id := by
  unfold lay
  have h : ∃ j o, ops[j]? = some o ∧ touch cfg o = 1 ∧ (S j).next ≤ id ∧ id < (S (j + 1)).next := ⟨j, o, ho, ht, h1, h2⟩
  rw [dif_pos h]
  obtain ⟨o', q1, q2, q3, q4⟩ := Classical.choose_spec h
  generalize Classical.choose h = k at *
  have hj := (Array.getElem?_eq_some_iff.1 ho).1
  have hk := (Array.getElem?_eq_some_iff.1 q1).1
  have hjk : k = j := by
    rcases Nat.lt_trichotomy k j with h | h | h
    · have := hr.next hN (i := k + 1) j (by omega) (by simp; omega); omega
    · exact h
    · have := hr.next hN (i := j + 1) k (by omega) (by simp; omega); omega
  rw [hjk]
theorem ov_clean {e : Nat} (he : e ≤ ops.size) : (ov cfg ops S e).Clean := by
  intro id hid
  have hid : (S ops.size).next ≤ id := hid
  have h1 := hr.next hN (i := e) ops.size he (by simp)
  show (if id < (S e).next then (S e).objs id else lay cfg ops S id) = none
  rw [if_neg (by omega)]
  unfold lay
  rw [dif_neg]
  rintro ⟨j, o, ho, _, _, h2⟩
  have hj := (Array.getElem?_eq_some_iff.1 ho).1
  have := hr.next hN (i := j + 1) ops.size (by omega) (by simp)
  omega
theorem ov_part {e : Nat} (he : e ≤ ops.size) : (S e).Part (ov cfg ops S e) :=
  ⟨hr.next hN (i := e) ops.size he (by simp), fun id hid => by
    show (if id < (S e).next then (S e).objs id else lay cfg ops S id) = _
    rw [if_pos hid]⟩
theorem ov_end (hc : (S ops.size).Clean) : ov cfg ops S ops.size = S ops.size := by
  have h : ∀ id, (ov cfg ops S ops.size).objs id = (S ops.size).objs id := fun id => by
    rcases Nat.lt_or_ge id (S ops.size).next with h | h
    · exact (ov_part hr hN (Nat.le_refl _)).2 id h
    · rw [ov_clean hr hN (Nat.le_refl _) id h, hc id h]
  show Store.mk _ _ = _
  have h2 : (fun id => (ov cfg ops S ops.size).objs id) = (S ops.size).objs := funext h
  rw [show (fun id => if id < (S ops.size).next then (S ops.size).objs id else lay cfg ops S id) = (S ops.size).objs from h2]
end

/-- How it stands when what is in L has been carried out; e is the first writer that is not. -/
structure DI (cfg : Cfg) (ops : Array Oper) (E : Nat → List PV) (S : Nat → Store) (V : Nat → PV) (ρ0 : Where) (F0 : Froz) (w0 : World) (L : Nat → Bool) (a : Act) (w : World) (ρ : Where) (F : Froz) (e : Nat) : Prop where
  closed : ∀ i o, ops[i]? = some o → L i = true → ∀ x ∈ o.after.toList, Region.binds .any x = true → L x.on = true
  slots : a.tmps.size = (E 0).length
  le : e ≤ ops.size
  bef : ∀ j o, j < e → ops[j]? = some o → touch cfg o = 3 → L j = true
  at_ : ∀ o, ops[e]? = some o → touch cfg o = 3 ∧ L e = false
  sr : SR ρ F (ov cfg ops S e) w
  go : Go1 ρ0 F0 (S 0) w0 ρ F (ov cfg ops S e) w
  env : ∀ t, t < (E 0).length → VR ρ F w (cur ops.toList V (E 0) L ops.size t) (a.tmps.getD t undef)
  none_ : ∀ i, i < ops.size → L i = false → ∀ id, (S i).next ≤ id → id < (S (i + 1)).next → ρ id = none

theorem firstW (cfg : Cfg) (ops : Array Oper) (L : Nat → Bool) : ∀ m k, k + m = ops.size → ∃ e, k ≤ e ∧ e ≤ ops.size ∧ (∀ j o, k ≤ j → j < e → ops[j]? = some o → touch cfg o = 3 → L j = true) ∧ ∀ o, ops[e]? = some o → touch cfg o = 3 ∧ L e = false
  | 0, k, h => ⟨k, Nat.le_refl _, by omega, fun j o h1 h2 => by omega, fun o ho => by rw [Array.getElem?_eq_none (by omega)] at ho; cases ho⟩
  | m + 1, k, h => by
    have ho := Array.getElem?_eq_getElem (xs := ops) (show k < ops.size by omega)
    by_cases hw : touch cfg (ops[k]'(by omega)) = 3 ∧ L k = false
    · exact ⟨k, Nat.le_refl _, by omega, fun j o h1 h2 => by omega, fun o h2 => by rw [ho] at h2; cases h2; exact hw⟩
    · obtain ⟨e, h1, h2, h3, h4⟩ := firstW cfg ops L m (k + 1) (by omega)
      refine ⟨e, by omega, h2, fun j o p q hj ht => ?_, h4⟩
      rcases Nat.lt_or_ge k j with h5 | h5
      · exact h3 j o h5 q hj ht
      · have : j = k := by omega
        subst this
        rw [ho] at hj
        cases hj
        cases hl : L j with
        | true => rfl
        | false => exact absurd ⟨ht, hl⟩ hw

variable {L : Nat → Bool} {a : Act} {w : World} {ρ : Where} {F : Froz} {e : Nat}

theorem DI.bits (h : DI cfg ops E S V ρ0 F0 w0 L a w ρ F e) (he : edgesOk ops.toList = true) : ∀ m i o, i < m → ops.toList[i]? = some o → (∀ x ∈ o.after.toList, Region.binds .any x = true → L x.on = true) → ∀ j, ((beforeL ops.toList).getD i 0).testBit j = true → L j = true
  | 0, i, o, hi, _, _, _, _ => absurd hi (Nat.not_lt_zero _)
  | m + 1, i, o, hi, ho, hx, j, hb => by
    obtain ⟨x, hxm, hxb, h1⟩ := before_edge _ i o ho (edgesOk_spec he ho) j hb
    have hl := hx x hxm hxb
    rcases h1 with rfl | h1
    · exact hl
    · have hlt := edgesOk_spec he ho x hxm hxb
      have hil := (List.getElem?_eq_some_iff.1 ho).1
      have ho2 := List.getElem?_eq_getElem (show x.on < ops.toList.length by omega)
      exact DI.bits h he m x.on _ (by omega) ho2 (h.closed _ _ (by rw [← Array.getElem?_toList]; exact ho2) hl) j h1

/-- What has been carried out and touches the store stands ahead of the writer. -/
theorem DI.ahead (h : DI cfg ops E S V ρ0 F0 w0 L a w ρ F e) (hd : drawOk cfg ops.toList = true) (he : edgesOk ops.toList = true) {j : Nat} {o : Oper} (ho : ops.toList[j]? = some o) (hl : L j = true ∨ (L j = false ∧ touch cfg o ≠ 3 ∧ ∀ x ∈ o.after.toList, Region.binds .any x = true → L x.on = true)) (ht : 2 ≤ touch cfg o) : j < e := by
  have hj := (List.getElem?_eq_some_iff.1 ho).1
  rcases Nat.lt_or_ge j e with h1 | h1
  · exact h1
  have hlt : e < ops.toList.length := by omega
  have hoe := List.getElem?_eq_getElem hlt
  obtain ⟨h2, h3⟩ := h.at_ _ (by rw [← Array.getElem?_toList]; exact hoe)
  have hx : ∀ x ∈ o.after.toList, Region.binds .any x = true → L x.on = true := by
    rcases hl with hl | hl
    · exact h.closed j o (by rw [← Array.getElem?_toList]; exact ho) hl
    · exact hl.2.2
  rcases Nat.eq_or_lt_of_le h1 with h4 | h4
  · subst h4
    rw [hoe] at ho
    cases ho
    rcases hl with hl | hl
    · rw [h3] at hl; cases hl
    · exact absurd h2 hl.2.1
  · rcases drawOk_pair hd h4 ho hoe with h5 | ⟨_, _, h5, h6⟩
    · have := h.bits he (j + 1) j o (by omega) ho hx e h5
      rw [h3] at this; cases this
    · have := h6 h2; omega

variable (hr : Run cfg C ops.toList E S V)

theorem DI.slot (hr : Run cfg C ops.toList E S V) (h : DI cfg ops E S V ρ0 F0 w0 L a w ρ F e) (hd : drawOk cfg ops.toList = true) (he : edgesOk ops.toList = true) {i : Nat} {o : Oper} (ho : ops.toList[i]? = some o) (hl : L i = false) (hx : ∀ x ∈ o.after.toList, Region.binds .any x = true → L x.on = true)
    {t : Nat} (ht : t < (E 0).length) (hm : t ∈ namesOf ops.toList o) : cur ops.toList V (E 0) L ops.size t = (E i).getD t .undef ∧ ∀ j, i < j → j < ops.size → (ops.toList[j]?).bind (·.dst) = some t → L j = false := by
  have hi := (List.getElem?_eq_some_iff.1 ho).1
  have late : ∀ j, i < j → j < ops.size → (ops.toList[j]?).bind (·.dst) = some t → L j = false := fun j h1 h2 h3 => by
    have hoj := List.getElem?_eq_getElem (show j < ops.toList.length by simpa using h2)
    rw [hoj] at h3
    simp only [Option.bind_some] at h3
    rcases drawOk_pair hd h1 hoj ho with h5 | ⟨_, h5, _⟩
    · cases hlj : L j with
      | false => rfl
      | true =>
        have := h.bits he (j + 1) j _ (by omega) hoj (h.closed _ _ (by rw [← Array.getElem?_toList]; exact hoj) hlj) i h5
        rw [hl] at this; cases this
    · exact absurd hm (h5 t h3)
  refine ⟨?_, late⟩
  rw [hr.cur ht i (by omega), cur_later ops.size (by simp at hi; omega) (i := i)]
  · refine cur_congr i fun j h1 h3 => ?_
    have hoj := List.getElem?_eq_getElem (show j < ops.toList.length by omega)
    rw [hoj] at h3
    simp only [Option.bind_some] at h3
    rcases drawOk_pair hd h1 ho hoj with h5 | ⟨h5, _⟩
    · exact h.bits he (i + 1) i o (by omega) ho hx j h5
    · exact absurd hm (h5 t h3)
  · intro j h1 h2 h3
    rcases Nat.eq_or_lt_of_le h1 with h4 | h4
    · subst h4; exact hl
    · exact late j h4 h2 h3

/-- One more. -/
def more (L : Nat → Bool) (i : Nat) (j : Nat) : Bool := if j = i then true else L j

theorem DI.next (hr : Run cfg C ops.toList E S V) (hN : NextUp C) (h : DI cfg ops E S V ρ0 F0 w0 L a w ρ F e) (hd : drawOk cfg ops.toList = true) (he : edgesOk ops.toList = true) {i : Nat} {o : Oper} (ho : ops.toList[i]? = some o) (hl : L i = false) (hx : ∀ x ∈ o.after.toList, Region.binds .any x = true → L x.on = true)
    {ρ1 : Where} {F1 : Froz} {w1 : World} {vc : Value} {e1 : Nat} (hle : e1 ≤ ops.size) (hbef : ∀ j o, j < e1 → ops[j]? = some o → touch cfg o = 3 → more L i j = true) (hat : ∀ o, ops[e1]? = some o → touch cfg o = 3 ∧ more L i e1 = false)
    (s : SR ρ1 F1 (ov cfg ops S e1) w1) (g : Go1 ρ0 F0 (S 0) w0 ρ1 F1 (ov cfg ops S e1) w1) (hmono : ∀ v c, VR ρ F w v c → VR ρ1 F1 w1 v c) (hv : VR ρ1 F1 w1 (V i) vc) (hnew : ∀ id r, ρ1 id = some r → ρ id = none → (S i).next ≤ id ∧ id < (S (i + 1)).next) :
    DI cfg ops E S V ρ0 F0 w0 (more L i) (a.put o.dst vc) w1 ρ1 F1 e1 := by
  have hi := (List.getElem?_eq_some_iff.1 ho).1
  refine ⟨fun j q hq hj x hxm hb => ?_, ?_, hle, hbef, hat, s, g, fun t ht => ?_, fun j hj hjl id h1 h2 => ?_⟩
  · unfold more at hj ⊢
    split at hj
    · rename_i hji
      subst hji
      rw [← Array.getElem?_toList, ho] at hq
      cases hq
      rw [hx x hxm hb]; simp
    · rw [h.closed j q hq hj x hxm hb]; simp
  · rw [← h.slots]; cases o.dst <;> simp [Act.put]
  · by_cases hdt : o.dst = some t
    · have hm : t ∈ namesOf ops.toList o := by simp [namesOf, hdt]
      obtain ⟨_, late⟩ := DI.slot hr h hd he ho hl hx ht hm
      have e1' : cur ops.toList V (E 0) (more L i) ops.size t = V i := by
        rw [cur_later ops.size (i := i + 1) (by simp at hi; omega) fun j h1 h2 h3 => by
          unfold more; rw [if_neg (by omega)]; exact late j (by omega) h2 h3]
        show (if more L i i = true ∧ (ops.toList[i]?).bind (·.dst) = some t then V i else _) = V i
        rw [if_pos ⟨by simp [more], by rw [ho]; exact hdt⟩]
      rw [e1', hdt]
      have : (a.put (some t) vc).tmps.getD t undef = vc := by
        simp [Act.put, Array.getD_eq_getD_getElem?, Array.getElem?_setIfInBounds, h.slots, ht]
      rw [this]
      exact hv
    · have e1' : cur ops.toList V (E 0) (more L i) ops.size t = cur ops.toList V (E 0) L ops.size t := by
        refine cur_congr _ fun j hj hjd => ?_
        unfold more
        rw [if_neg (fun e => ?_)]
        subst e
        rw [ho] at hjd
        exact hdt hjd
      rw [e1']
      have : (a.put o.dst vc).tmps.getD t undef = a.tmps.getD t undef := by
        cases hq : o.dst with
        | none => rfl
        | some d =>
          have : d ≠ t := fun e => hdt (by rw [hq, e])
          simp [Act.put, Array.getD_eq_getD_getElem?, Array.getElem?_setIfInBounds, this]
      rw [this]
      exact hmono _ _ (h.env t ht)
  · have hjl' : j ≠ i ∧ L j = false := by
      unfold more at hjl
      split at hjl
      · cases hjl
      · rename_i h3; exact ⟨h3, hjl⟩
    have h0 := h.none_ j hj hjl'.2 id h1 h2
    cases hq : ρ1 id with
    | none => rfl
    | some r =>
      have h3 := hnew id r hq h0
      rcases Nat.lt_or_ge j i with h4 | h4
      · have := hr.next hN (i := j + 1) i (by omega) (by omega); omega
      · have := hr.next hN (i := i + 1) j (by omega) (by simpa using Nat.le_of_lt hj); omega

/-- A step of the writer whose turn it is. -/
theorem DI.wrote (hr : Run cfg C ops.toList E S V) (hN : NextUp C) (hC : NewOk C) (hst : cfg.strict = true) (hcl : (S 0).Clean) (h : DI cfg ops E S V ρ0 F0 w0 L a w ρ F e) (hd : drawOk cfg ops.toList = true) (he : edgesOk ops.toList = true) {o : Oper} (ho : ops.toList[e]? = some o) (hl : L e = false) (hx : ∀ x ∈ o.after.toList, Region.binds .any x = true → L x.on = true)
    {ρ1 : Where} {F1 : Froz} {w1 : World} {vc : Value} (s : SR ρ1 F1 (S (e + 1)) w1) (g : Go1 ρ F (S e) w ρ1 F1 (S (e + 1)) w1) (hv : VR ρ1 F1 w1 (V e) vc) :
    ∃ e1, DI cfg ops E S V ρ0 F0 w0 (more L e) (a.put o.dst vc) w1 ρ1 F1 e1 := by
  have hi := (List.getElem?_eq_some_iff.1 ho).1
  have hi' : e < ops.size := by simpa using hi
  obtain ⟨e1, h1, h2, h3, h4⟩ := firstW cfg ops (more L e) (ops.size - (e + 1)) (e + 1) (by omega)
  have quiet : ∀ j q, e + 1 ≤ j → j < e1 → ops.toList[j]? = some q → L j = true → touch cfg q ≤ 1 := fun j q p1 p2 hq hjl => by
    rcases Nat.lt_or_ge (touch cfg q) 2 with h5 | h5
    · omega
    · have := h.ahead hd he hq (.inl hjl) h5
      omega
  have mid : ∀ j q, e + 1 ≤ j → j < e1 → ops.toList[j]? = some q → touch cfg q ≠ 3 := fun j q p1 p2 hq h5 => by
    have h6 := h3 j q p1 p2 (by rw [← Array.getElem?_toList]; exact hq) h5
    unfold more at h6
    rw [if_neg (by omega)] at h6
    have := quiet j q p1 p2 hq h6
    omega
  have hci := hr.clean hN hC hcl e (by omega)
  have hn0 := hr.next hN (i := e) (e + 1) (by omega) (by omega)
  have hag1 : ∀ id, (S (e + 1)).next ≤ id → (ov cfg ops S (e + 1)).objs id = (ov cfg ops S e).objs id := fun id hid => by
    show (if id < (S (e + 1)).next then (S (e + 1)).objs id else lay cfg ops S id) = (if id < (S e).next then (S e).objs id else lay cfg ops S id)
    rw [if_neg (by omega), if_neg (by omega)]
  have s1 : SR ρ1 F1 (ov cfg ops S (e + 1)) w1 := h.sr.merge2 (ov_part hr hN h.le) hci (ov_part hr hN (by omega)) hag1 (ov_clean hr hN (by omega)) g s
  have hg0 := hr.next hN (i := 0) e (by omega) (by omega)
  have g1 : Go1 ρ0 F0 (S 0) w0 ρ1 F1 (ov cfg ops S (e + 1)) w1 := h.go.sub2 g (ov_part hr hN h.le) hci (ov_part hr hN (by omega)) rfl hag1 hg0
  have hag2 : ∀ id r, ρ1 id = some r → (ov cfg ops S e1).objs id = (ov cfg ops S (e + 1)).objs id := fun id r hrid => by
    show (if id < (S e1).next then (S e1).objs id else lay cfg ops S id) = (if id < (S (e + 1)).next then (S (e + 1)).objs id else lay cfg ops S id)
    have hp := hr.keep hN hst e1 h1 (by simpa using h2) mid
    rcases Nat.lt_or_ge id (S (e + 1)).next with p1 | p1
    · rw [if_pos p1, if_pos (by omega)]
      exact hp.2 id p1
    rw [if_neg (by omega : ¬ id < (S (e + 1)).next)]
    rcases Nat.lt_or_ge id (S e1).next with p2 | p2
    · rw [if_pos p2]
      obtain ⟨j, q1, q2, q3, q4⟩ := hr.given e1 h1 (by simpa using h2) p1 p2
      obtain ⟨qo, hoj⟩ : ∃ q, ops.toList[j]? = some q := ⟨_, List.getElem?_eq_getElem (show j < ops.toList.length by simp; omega)⟩
      have hja : ops[j]? = some qo := by rw [← Array.getElem?_toList]; exact hoj
      have h5 : L j = true := by
        cases hjl : L j with
        | true => rfl
        | false =>
          have h6 := h.none_ j (by omega) hjl id q3 q4
          have := g.rng id r hrid h6
          omega
      have h6 := quiet j _ q1 q2 hoj h5
      rcases (hr.step j _ hoj).2 with ⟨_, h7⟩ | ⟨_, _, h7⟩
      · have h8 : touch cfg qo = 1 := by
          rcases Nat.eq_zero_or_pos (touch cfg qo) with h9 | h9
          · have := ((op_kind hN h7).2.1 h9).1
            rw [this] at q4; omega
          · omega
        rw [lay_at hr hN hja h8 q3 q4]
        have hk := hr.keep hN hst (i := j + 1) e1 (by omega) (by simpa using h2) fun k q p p' => mid k q (by omega) p'
        exact hk.2 id q4
      · rw [h7] at q4; omega
    · rw [if_neg (by omega)]
  refine ⟨e1, h.next hr hN hd he ho hl hx h2 (fun j q p1 p2 p3 => ?_) h4 (s1.agree hag2 (ov_clean hr hN h2)) (g1.agree rfl hag2) (fun v c k => g.vr k) hv fun id r p1 p2 => g.rng id r p1 p2⟩
  rcases Nat.lt_or_ge j (e + 1) with h5 | h5
  · unfold more
    split
    · rfl
    · exact h.bef j q (by omega) p2 p3
  · exact h3 j q h5 p1 p2 p3

theorem ready_spec {Lr : Array Bool} {i : Nat} (h : i ∈ Region.ready .any ops Lr) (hs : Lr.size = ops.size) : ∃ o, ops.toList[i]? = some o ∧ lis Lr i = false ∧ ∀ x ∈ o.after.toList, Region.binds .any x = true → lis Lr x.on = true := by
  obtain ⟨h1, o, ho, h2⟩ := mem_ready.1 h
  have hi := (Array.getElem?_eq_some_iff.1 ho).1
  refine ⟨o, by rw [Array.getElem?_toList]; exact ho, ?_, fun x hx hb => h2 x (by simpa using hx) hb⟩
  unfold lis
  rw [Array.getD_eq_getD_getElem?, Array.getElem?_eq_getElem (by omega)] at h1 ⊢
  exact h1

theorem lis_set {Lr : Array Bool} {i : Nat} (hi : i < Lr.size) : lis (Lr.setIfInBounds i true) = more (lis Lr) i := by
  funext j
  unfold lis more
  by_cases h : j = i
  · subst h; simp [hi]
  · rw [if_neg h, getD_set_ne _ (Ne.symm h)]

/-- Whatever comes next: it stands as before, one more being carried out. -/
theorem draw_sound (hr : Run cfg C ops.toList E S V) (hO : CallOk cfg.P C) (hN : NextUp C) (hC : NewOk C) (hst : cfg.strict = true) (hcl : (S 0).Clean) (hd : drawOk cfg ops.toList = true) (he : edgesOk ops.toList = true)
    {Q : Exit → Act → World → Prop} (ds : List Deferred) (hQ : ∀ a' w' ρ' F', Go1 ρ0 F0 (S 0) w0 ρ' F' (S ops.size) w' → SR ρ' F' (S ops.size) w' → EnvR ρ' F' w' (E ops.size) a' → a'.defers = ds → Q .normal a' w') :
    ∀ (fuel : Nat) (Lr : Array Bool) (a : Act) (w : World) (ρ : Where) (F : Froz) (e : Nat), Lr.size = ops.size → (List.range ops.size).countP (fun i => !lis Lr i) ≤ fuel → a.defers = ds → DI cfg ops E S V ρ0 F0 w0 (lis Lr) a w ρ F e →
      wpAny cfg.P .any ops Q fuel Lr a w := by
  have fin : ∀ (Lr : Array Bool) (a : Act) (w : World) (ρ : Where) (F : Froz) (e : Nat), Lr.size = ops.size → a.defers = ds → DI cfg ops E S V ρ0 F0 w0 (lis Lr) a w ρ F e → Region.ready .any ops Lr = [] → Q .normal a w := by
    intro Lr a w ρ F e hsz hds h hrd
    have all : ∀ m i, i < m → i < ops.size → lis Lr i = true := by
      intro m
      induction m with
      | zero => intro i hi; omega
      | succ m ih =>
        intro i hi hin
        cases hl : lis Lr i with
        | true => rfl
        | false =>
          have ho := Array.getElem?_eq_getElem hin
          have : i ∈ Region.ready .any ops Lr := by
            rw [mem_ready]
            refine ⟨?_, _, ho, fun x hx hb => ?_⟩
            · unfold lis at hl
              rw [Array.getD_eq_getD_getElem?, Array.getElem?_eq_getElem (by omega)] at hl ⊢
              exact hl
            · have := edgesOk_spec he (by rw [Array.getElem?_toList]; exact ho) x (by simpa using hx) hb
              exact ih x.on (by omega) (by omega)
          rw [hrd] at this
          cases this
    have hen : e = ops.size := by
      rcases Nat.lt_or_ge e ops.size with h1 | h1
      · have h2 := (h.at_ _ (Array.getElem?_eq_getElem h1)).2
        rw [all (e + 1) e (by omega) h1] at h2; cases h2
      · have := h.le; omega
    subst hen
    have hov := ov_end hr hN (hr.clean hN hC hcl ops.size (by simp))
    refine hQ a w ρ F (by rw [← hov]; exact h.go) (by rw [← hov]; exact h.sr) ⟨by rw [h.slots, hr.len ops.size (by simp)], fun t => ?_⟩ hds
    rcases Nat.lt_or_ge t (E 0).length with ht | ht
    · have h1 := h.env t ht
      rw [cur_congr ops.size (L' := fun _ => true) fun j hj _ => all (j + 1) j (by omega) hj, ← hr.cur ht ops.size (by simp)] at h1
      exact h1
    · rw [List.getD_eq_getElem?_getD, List.getElem?_eq_none (by rw [hr.len ops.size (by simp)]; exact ht)]
      exact .pure (.undef _)
  intro fuel
  induction fuel with
  | zero =>
    intro Lr a w ρ F e hsz hc hds h
    have hrd : Region.ready .any ops Lr = [] := by
      cases hq : Region.ready .any ops Lr with
      | nil => rfl
      | cons i r =>
        obtain ⟨o, ho, hl, _⟩ := ready_spec (i := i) (by rw [hq]; exact .head _) hsz
        have hi := (List.getElem?_eq_some_iff.1 ho).1
        have : 0 < (List.range ops.size).countP (fun i => !lis Lr i) := List.countP_pos_iff.2 ⟨i, by simpa using hi, by rw [hl]; rfl⟩
        omega
    exact ⟨hrd, fin Lr a w ρ F e hsz hds h hrd⟩
  | succ fuel ih =>
    intro Lr a w ρ F e hsz hc hds h
    refine ⟨fin Lr a w ρ F e hsz hds h, fun i hm => ?_⟩
    obtain ⟨o, ho, hl, hx⟩ := ready_spec hm hsz
    have hi := (List.getElem?_eq_some_iff.1 ho).1
    have hi' : i < ops.size := by simpa using hi
    have hoa : ops[i]? = some o := by rw [← Array.getElem?_toList]; exact ho
    have cont : ∀ vc w1 ρ1 F1 e1, DI cfg ops E S V ρ0 F0 w0 (more (lis Lr) i) (a.put o.dst vc) w1 ρ1 F1 e1 → wpAny cfg.P .any ops Q fuel (Lr.setIfInBounds i true) (a.put o.dst vc) w1 := by
      intro vc w1 ρ1 F1 e1 h1
      refine ih _ _ w1 ρ1 F1 e1 (by simpa using hsz) ?_ (by rw [put_defers]; exact hds) (by rw [lis_set (by omega)]; exact h1)
      rw [lis_set (by omega)]
      have := (count_lt (p := fun j => !lis Lr j) (q := fun j => !more (lis Lr) i j) (i := i) (fun j hj => by
        unfold more at hj
        split at hj
        · cases hj
        · exact hj) (by rw [hl]; rfl) (by simp [more]) (List.range ops.size)).2 (by simpa using hi')
      omega
    have slot : ∀ t, t ∈ namesOf ops.toList o → VR ρ F w ((E i).getD t .undef) (a.tmps.getD t undef) := fun t ht => by
      rcases Nat.lt_or_ge t (E 0).length with h1 | h1
      · rw [← (h.slot hr hd he ho hl hx h1 ht).1]; exact h.env t h1
      · rw [List.getD_eq_getElem?_getD, List.getElem?_eq_none (by rw [hr.len i (by omega)]; exact h1)]
        exact .pure (.undef _)
    have opn : ∀ x ∈ o.op.operands, VR ρ F w (opd (E i) x) (a.eval x) := fun x hxo => by
      cases x with
      | tmp t => exact slot t (by
          unfold namesOf
          refine List.mem_append_left _ (List.mem_append_right _ ?_)
          unfold tmpsOf
          exact List.mem_filterMap.2 ⟨.tmp t, by simpa using hxo, rfl⟩)
      | const v => exact .pure (ofValue_vp F w v)
      | global g => exact .pure (.undef _)
      | func f => exact .func' (us := []) .nil
    have writer : touch cfg o = 3 → i = e := fun ht => by
      rcases Nat.lt_or_ge i e with h1 | h1
      · have := h.bef i o h1 hoa ht
        rw [hl] at this; cases this
      · rcases Nat.eq_or_lt_of_le h1 with h2 | h2
        · exact h2.symm
        · have hoe := List.getElem?_eq_getElem (show e < ops.toList.length by omega)
          obtain ⟨h3, h4⟩ := h.at_ _ (by rw [← Array.getElem?_toList]; exact hoe)
          rcases drawOk_pair hd h2 ho hoe with h5 | ⟨_, _, _, h6⟩
          · have := h.bits he (i + 1) i o (by omega) ho hx e h5
            rw [h4] at this; cases this
          · have := h6 h3; omega
    have stay : touch cfg o ≠ 3 → (∀ j o, j < e → ops[j]? = some o → touch cfg o = 3 → more (lis Lr) i j = true) ∧ ∀ o, ops[e]? = some o → touch cfg o = 3 ∧ more (lis Lr) i e = false := fun ht => by
      refine ⟨fun j q h1 h2 h3 => ?_, fun q hq => ?_⟩
      · unfold more
        split
        · rfl
        · exact h.bef j q h1 h2 h3
      · obtain ⟨h1, h2⟩ := h.at_ q hq
        refine ⟨h1, ?_⟩
        unfold more
        rw [if_neg (fun e' => ?_)]
        · exact h2
        · subst e'; rw [hoa] at hq; cases hq; exact ht h1
    have hw : ∀ b, wants ops.toList (E i) o = some b → Region.wanted o (yielded ops a.tmps) = b := fun b hb => wants_sound (ρ := ρ) (F := F) (w := w) hb fun g u d hg hd' => slot d (by
        unfold namesOf
        refine List.mem_append_right _ ?_
        rw [hg]
        simp only
        cases hq : ops.toList[g]? with
        | none => rw [← Array.getElem?_toList, hq] at hd'; cases hd'
        | some p => rw [← Array.getElem?_toList, hq] at hd'; simp only [Option.bind_some] at hd'; simp [hd'])
    unfold wpOp
    rw [hoa]
    simp only
    rcases (hr.step i o ho).2 with ⟨hb, hev⟩ | ⟨hb, hvi, hsi⟩
    · rw [if_pos (hw _ hb)]
      refine .inl ?_
      obtain ⟨k1, k2, k3, k4⟩ := op_kind hN hev
      have hnone : ∀ id, (S i).next ≤ id → id < (S (i + 1)).next → ρ id = none := h.none_ i hi' hl
      by_cases t0 : touch cfg o = 0
      · obtain ⟨q1, q2⟩ := k2 t0
        refine op_sound hO (q2 (ov cfg ops S e)) h.sr opn (fun id p1 p2 => by omega) _ _ fun vc ρ1 F1 w1 g s hv => ?_
        exact cont _ _ ρ1 F1 e (h.next hr hN hd he ho hl hx h.le (stay (by omega)).1 (stay (by omega)).2 s (h.go.trans g) (fun v c k => g.vr k) hv fun id r p1 p2 => by
          have := g.rng id r p1 p2; omega)
      · by_cases t3 : touch cfg o = 3
        · have hie := writer t3
          subst hie
          refine op_sound hO hev (h.sr.part (ov_part hr hN h.le) (hr.clean hN hC hcl i (by omega))) opn hnone _ _ fun vc ρ1 F1 w1 g s hv => ?_
          obtain ⟨e1, h1⟩ := h.wrote hr hN hC hst hcl hd he ho hl hx s g hv
          exact cont _ _ ρ1 F1 e1 h1
        · have hle := h.le
          have hcl0 := hr.next hN (i := 0) i (by omega) (by omega)
          by_cases hlt : i < e
          · have mid : ∀ j q, i ≤ j → j < e → ops.toList[j]? = some q → touch cfg q ≠ 3 := fun j q p1 p2 hq h5 => by
              have h6 := h.bef j q p2 (by rw [← Array.getElem?_toList]; exact hq) h5
              rcases Nat.eq_or_lt_of_le p1 with h7 | h7
              · subst h7; rw [hl] at h6; cases h6
              · rcases drawOk_pair hd h7 hq ho with h8 | ⟨_, _, h8, _⟩
                · have := h.bits he (j + 1) j q (by omega) hq (h.closed _ _ (by rw [← Array.getElem?_toList]; exact hq) h6) i h8
                  rw [hl] at this; cases this
                · exact t0 (h8 h5)
            have hpo := ov_part hr hN hle
            have hpi : (S i).Part (ov cfg ops S e) := Store.Part.trans (hr.keep hN hst e (by omega) (by simpa using hle) mid) hpo
            have hp1 : (S (i + 1)).Part (ov cfg ops S e) := Store.Part.trans (hr.keep hN hst e (by omega) (by simpa using hle) fun j q p1 p2 => mid j q (by omega) p2) hpo
            have hci := hr.clean hN hC hcl i (by omega)
            have hc1 := hr.clean hN hC hcl (i + 1) (by omega)
            refine op_sound hO hev (h.sr.part hpi hci) opn hnone _ _ fun vc ρ1 F1 w1 g s hv => ?_
            exact cont _ _ ρ1 F1 e (h.next hr hN hd he ho hl hx h.le (stay t3).1 (stay t3).2 (h.sr.merge hpi hci hp1 hc1 g s hnone) (h.go.sub g hpi hci hp1 hcl0) (fun v c k => g.vr k) hv fun id r p1 p2 => g.rng id r p1 p2)
          · have t1 : touch cfg o = 1 := by
              rcases Nat.lt_or_ge (touch cfg o) 2 with h1 | h1
              · omega
              · exact absurd (h.ahead hd he ho (.inr ⟨hl, t3, hx⟩) h1) hlt
            obtain ⟨ob, k5, k6⟩ := k4 t1
            have hie := hr.next hN (i := e) i (by omega) (by omega)
            have hin := hr.next hN (i := i + 1) ops.size (by omega) (by simp)
            let τ : Store := ⟨(S i).next, fun id => if id < (S i).next then (ov cfg ops S e).objs id else none⟩
            have hci : τ.Clean := fun id hid => by
              show (if id < (S i).next then (ov cfg ops S e).objs id else none) = none
              rw [if_neg (Nat.not_lt.2 hid)]
            have hpi : τ.Part (ov cfg ops S e) := ⟨Nat.le_trans k1 hin, fun id hid => by
              show _ = (if id < (S i).next then (ov cfg ops S e).objs id else none)
              rw [if_pos hid]⟩
            have hnx : (S (i + 1)).next = (S i).next + 1 := by rw [k5]; rfl
            have hc1 : (τ.push ob).Clean := fun id hid => by
              have hid : (S i).next + 1 ≤ id := hid
              show (if id = (S i).next then some ob else τ.objs id) = none
              rw [if_neg (by omega)]
              exact hci id (by show (S i).next ≤ id; omega)
            have hp1 : (τ.push ob).Part (ov cfg ops S e) := ⟨by show (S i).next + 1 ≤ _; rw [← hnx]; exact hin, fun id hid => by
              have hid : id < (S i).next + 1 := hid
              show _ = (if id = (S i).next then some ob else τ.objs id)
              by_cases hq : id = (S i).next
              · rw [if_pos hq]
                show (if id < (S e).next then (S e).objs id else lay cfg ops S id) = some ob
                rw [if_neg (by omega), lay_at hr hN hoa t1 (by omega) (by omega), k5]
                show (if id = (S i).next then some ob else _) = some ob
                rw [if_pos hq]
              · rw [if_neg hq]
                exact hpi.2 id (by show id < (S i).next; omega)⟩
            refine op_sound hO (k6 τ rfl) (h.sr.part hpi hci) opn (fun id p1 p2 => hnone id p1 (by rw [hnx]; exact p2)) _ _ fun vc ρ1 F1 w1 g s hv => ?_
            exact cont _ _ ρ1 F1 e (h.next hr hN hd he ho hl hx h.le (stay t3).1 (stay t3).2 (h.sr.merge hpi hci hp1 hc1 g s (fun id p1 p2 => hnone id p1 (by rw [hnx]; exact p2))) (h.go.sub g hpi hci hp1 hcl0) (fun v c k => g.vr k) hv fun id r p1 p2 => by
              have := g.rng id r p1 p2; rw [hnx]; exact this)
    · rw [if_neg (by rw [hw _ hb]; decide)]
      have hv : VR ρ F w (V i) undef := by rw [hvi]; exact unit_vr
      by_cases t3 : touch cfg o = 3
      · have hie := writer t3
        subst hie
        obtain ⟨e1, h1⟩ := h.wrote hr hN hC hst hcl hd he ho hl hx (ρ1 := ρ) (F1 := F) (w1 := w) (by rw [hsi]; exact h.sr.part (ov_part hr hN h.le) (hr.clean hN hC hcl i (by omega))) (by rw [hsi]; exact .refl _ _ _ _) hv
        exact cont _ _ ρ F e1 h1
      · exact cont _ _ ρ F e (h.next hr hN hd he ho hl hx h.le (stay t3).1 (stay t3).2 h.sr h.go (fun v c k => k) hv fun id r p1 p2 => by rw [p2] at p1; cases p1)
end

end Go.Pvm
