/- Part of the proof: what an operation may change of the store. -/
import Derived.Test.YtkipbdbmeanffaaV13
set_option linter.unusedSimpArgs false
set_option linter.unusedVariables false
namespace Go.Pvm

/-- Numbers grow. -/
def NextUp (C : CallO) : Prop := ∀ f a σ v σ', C f a σ = some (v, σ') → σ.next ≤ σ'.next

theorem appendv_next {P : Program} {σ σ' : Store} {el : TypeId} {s x v : PV} (h : appendv P σ el s x = some (v, σ')) : σ.next ≤ σ'.next := by
  unfold appendv at h
  simp only [Option.bind_eq_some_iff] at h
  obtain ⟨sz, hsz, by_, hby, z, hz, new, hx, h⟩ := h
  split at h
  · cases h
  split at h
  · cases h
  split at h
  · split at h
    · cases h; exact Nat.le_refl _
    · split at h
      · cases h; exact Nat.le_succ _
      · cases h
  · split at h
    · cases h; exact Nat.le_refl _
    · split at h
      · split at h
        · split at h
          · cases h; exact Nat.le_succ _
          · cases h
        · cases h
      · cases h
  · split at h
    · cases h; exact Nat.le_refl _
    · split at h
      · cases h
      · split at h
        · split at h
          · split at h
            · cases h; exact Nat.le_refl _
            · cases h
          · split at h
            · split at h
              · split at h
                · split at h
                  · cases h; exact Nat.le_succ _
                  · cases h
                · split at h
                  · cases h; exact Nat.le_succ _
                  · cases h
              · cases h
            · cases h
        · cases h
  · cases h

theorem copyv_next {P : Program} {σ σ' : Store} {el : TypeId} {d s v : PV} (h : copyv P σ el d s = some (v, σ')) : σ'.next = σ.next := by
  unfold copyv at h
  simp only [Option.bind_eq_some_iff] at h
  obtain ⟨sz, hsz, src, hx, h⟩ := h
  split at h
  · cases h
  split at h
  · split at h
    · cases h; rfl
    · cases h
  · split at h
    · cases h
    · split at h
      · split at h
        · split at h
          · cases h; rfl
          · cases h
        · cases h
      · cases h
  · cases h

theorem clearv_next {P : Program} {σ σ' : Store} {el : TypeId} {d v : PV} (h : clearv P σ el d = some (v, σ')) : σ'.next = σ.next := by
  unfold clearv at h
  simp only [Option.bind_eq_some_iff] at h
  obtain ⟨sz, hsz, z, hz, h⟩ := h
  split at h
  · cases h
  split at h
  · cases h; rfl
  · split at h
    · cases h
    · split at h
      · split at h
        · cases h; rfl
        · cases h
      · cases h
  · cases h

theorem builtinv_next {P : Program} {σ σ' : Store} {b : Builtin} {ts : List TypeId} {args : List PV} {v : PV} (h : builtinv P σ b ts args = some (v, σ')) : σ.next ≤ σ'.next := by
  unfold builtinv at h
  split at h
  · rw [Option.map_eq_some_iff] at h
    obtain ⟨_, _, h⟩ := h
    cases h; exact Nat.le_refl _
  unfold writeB at h
  split at h
  · split at h
    · split at h
      · cases h
      · exact appendv_next h
    · split at h
      · exact appendv_next h
      · cases h
    · cases h
  · split at h
    · exact Nat.le_of_eq (copyv_next h).symm
    · cases h
  · split at h
    · exact Nat.le_of_eq (clearv_next h).symm
    · cases h
  · cases h

theorem callv_next {cfg : Cfg} {C : CallO} (hC : NextUp C) {σ σ' : Store} {f : FuncId} {args : List PV} {v : PV} (h : callv cfg C f args σ = some (v, σ')) : σ.next ≤ σ'.next := by
  unfold callv at h
  split at h
  · exact hC _ _ _ _ _ h
  · simp only [Option.bind_eq_some_iff] at h
    obtain ⟨⟨v0, τ⟩, hc, h⟩ := h
    simp only at h
    split at h
    · cases h; exact Nat.le_refl _
    · split at h
      · split at h
        · cases h; exact Nat.le_refl _
        · cases h
      · rw [Option.map_eq_some_iff] at h
        obtain ⟨σ1, hro, heq⟩ := h
        cases heq
        exact Nat.le_of_eq (roAll_spec _ _ _ hro).1.symm
  · simp only [Option.bind_eq_some_iff] at h
    obtain ⟨⟨v0, τ⟩, hc, h⟩ := h
    simp only at h
    split at h
    · cases h
      exact hC f _ (Store.at_ σ.next) v τ hc
    · cases h
  · simp only [Option.bind_eq_some_iff] at h
    obtain ⟨⟨v0, τ⟩, hc, h⟩ := h
    simp only at h
    split at h
    · cases h; exact Nat.le_refl _
    · cases h

theorem buildSlv_push {P : Program} {σ σ' : Store} {t : TypeId} {n : Nat} {ps : List (Nat × PV)} {v : PV} (h : buildSlv P σ t n ps = some (v, σ')) : ∃ o, σ' = σ.push o ∧ ∀ τ : Store, τ.next = σ.next → buildSlv P τ t n ps = some (v, τ.push o) := by
  unfold buildSlv at h ⊢
  split at h
  · rename_i el hu
    simp only [Option.bind_eq_some_iff] at h
    obtain ⟨sz, h1, z, h2, h⟩ := h
    split at h
    · rename_i hc
      rw [Option.map_eq_some_iff] at h
      obtain ⟨es, h3, heq⟩ := h
      cases heq
      refine ⟨_, rfl, fun τ hτ => ?_⟩
      simp only [hu, h1, h2, Option.bind_some, if_pos hc, h3, Option.map_some, hτ]
    · cases h
  · cases h
theorem makeSlv_push {P : Program} {σ σ' : Store} {t : TypeId} {l c : PV} {v : PV} (h : makeSlv P σ t l c = some (v, σ')) : ∃ o, σ' = σ.push o ∧ ∀ τ : Store, τ.next = σ.next → makeSlv P τ t l c = some (v, τ.push o) := by
  unfold makeSlv at h ⊢
  split at h
  · rename_i el k1 n1 k2 n2 hu
    simp only [Option.bind_eq_some_iff] at h
    obtain ⟨sz, h1, by_, h2, z, h3, h⟩ := h
    split at h
    · rename_i hc
      cases h
      refine ⟨_, rfl, fun τ hτ => ?_⟩
      simp only [hu, h1, h2, h3, Option.bind_some, if_pos hc, hτ]
    · cases h
  · cases h
theorem storev_next {P : Program} {σ σ' : Store} {t : TypeId} {a v : PV} (h : storev P σ t a v = some σ') : σ'.next = σ.next := by
  unfold storev at h
  split at h
  · split at h
    · simp only [Option.bind_eq_some_iff] at h
      obtain ⟨e, _, n, _, h⟩ := h
      split at h
      · cases h; rfl
      · cases h
    · cases h
  · cases h

/-- The three kinds of an operation: it leaves the store; it lays something behind what there was; or it writes. -/
theorem op_kind {cfg : Cfg} {C : CallO} (hC : NextUp C) {env : List PV} {o : Oper} {v : PV} {σ σ' : Store} (h : evalOp cfg C env σ o = some (v, σ')) :
    σ.next ≤ σ'.next ∧ (touch cfg o = 0 → σ' = σ ∧ ∀ τ, evalOp cfg C env τ o = some (v, τ)) ∧ (cfg.strict = true → touch cfg o ≠ 3 → ∀ id, id < σ.next → σ'.objs id = σ.objs id) ∧ (touch cfg o = 1 → ∃ ob, σ' = σ.push ob ∧ ∀ τ : Store, τ.next = σ.next → evalOp cfg C env τ o = some (v, τ.push ob)) := by
  obtain ⟨dst, op, type, pos, after, guard⟩ := o
  have same : ∀ {q : Option PV} {f : Store → Option PV}, touch cfg ⟨dst, op, type, pos, after, guard⟩ ≠ 1 → (∀ τ, evalOp cfg C env τ ⟨dst, op, type, pos, after, guard⟩ = q.map (·, τ)) →
      σ.next ≤ σ'.next ∧ (touch cfg ⟨dst, op, type, pos, after, guard⟩ = 0 → σ' = σ ∧ ∀ τ, evalOp cfg C env τ ⟨dst, op, type, pos, after, guard⟩ = some (v, τ)) ∧ (cfg.strict = true → touch cfg ⟨dst, op, type, pos, after, guard⟩ ≠ 3 → ∀ id, id < σ.next → σ'.objs id = σ.objs id) ∧ (touch cfg ⟨dst, op, type, pos, after, guard⟩ = 1 → ∃ ob, σ' = σ.push ob ∧ ∀ τ : Store, τ.next = σ.next → evalOp cfg C env τ ⟨dst, op, type, pos, after, guard⟩ = some (v, τ.push ob)) := by
    intro q f hne hq
    have h0 := h
    rw [hq σ, Option.map_eq_some_iff] at h0
    obtain ⟨u, hu, heq⟩ := h0
    cases heq
    exact ⟨Nat.le_refl _, fun _ => ⟨rfl, fun τ => by rw [hq τ, hu]; rfl⟩, fun _ _ _ _ => rfl, fun h1 => absurd h1 hne⟩
  have pushed : ∀ {ob : Obj}, touch cfg ⟨dst, op, type, pos, after, guard⟩ = 1 → σ' = σ.push ob → (∀ τ : Store, τ.next = σ.next → evalOp cfg C env τ ⟨dst, op, type, pos, after, guard⟩ = some (v, τ.push ob)) →
      σ.next ≤ σ'.next ∧ (touch cfg ⟨dst, op, type, pos, after, guard⟩ = 0 → σ' = σ ∧ ∀ τ, evalOp cfg C env τ ⟨dst, op, type, pos, after, guard⟩ = some (v, τ)) ∧ (cfg.strict = true → touch cfg ⟨dst, op, type, pos, after, guard⟩ ≠ 3 → ∀ id, id < σ.next → σ'.objs id = σ.objs id) ∧ (touch cfg ⟨dst, op, type, pos, after, guard⟩ = 1 → ∃ ob, σ' = σ.push ob ∧ ∀ τ : Store, τ.next = σ.next → evalOp cfg C env τ ⟨dst, op, type, pos, after, guard⟩ = some (v, τ.push ob)) := by
    rintro ob ht rfl hev
    refine ⟨Nat.le_succ _, fun h0 => absurd (ht.symm.trans h0) (by decide), fun _ _ id hid => ?_, fun _ => ⟨ob, rfl, hev⟩⟩
    show (if id = σ.next then some ob else σ.objs id) = σ.objs id
    rw [if_neg (by omega)]
  have read2 : touch cfg ⟨dst, op, type, pos, after, guard⟩ = 2 → σ' = σ →
      σ.next ≤ σ'.next ∧ (touch cfg ⟨dst, op, type, pos, after, guard⟩ = 0 → σ' = σ ∧ ∀ τ, evalOp cfg C env τ ⟨dst, op, type, pos, after, guard⟩ = some (v, τ)) ∧ (cfg.strict = true → touch cfg ⟨dst, op, type, pos, after, guard⟩ ≠ 3 → ∀ id, id < σ.next → σ'.objs id = σ.objs id) ∧ (touch cfg ⟨dst, op, type, pos, after, guard⟩ = 1 → ∃ ob, σ' = σ.push ob ∧ ∀ τ : Store, τ.next = σ.next → evalOp cfg C env τ ⟨dst, op, type, pos, after, guard⟩ = some (v, τ.push ob)) := by
    rintro ht rfl
    exact ⟨Nat.le_refl _, fun h0 => absurd (ht.symm.trans h0) (by decide), fun _ _ _ _ => rfl, fun h1 => absurd (ht.symm.trans h1) (by decide)⟩
  have wrote : touch cfg ⟨dst, op, type, pos, after, guard⟩ = 3 → σ.next ≤ σ'.next →
      σ.next ≤ σ'.next ∧ (touch cfg ⟨dst, op, type, pos, after, guard⟩ = 0 → σ' = σ ∧ ∀ τ, evalOp cfg C env τ ⟨dst, op, type, pos, after, guard⟩ = some (v, τ)) ∧ (cfg.strict = true → touch cfg ⟨dst, op, type, pos, after, guard⟩ ≠ 3 → ∀ id, id < σ.next → σ'.objs id = σ.objs id) ∧ (touch cfg ⟨dst, op, type, pos, after, guard⟩ = 1 → ∃ ob, σ' = σ.push ob ∧ ∀ τ : Store, τ.next = σ.next → evalOp cfg C env τ ⟨dst, op, type, pos, after, guard⟩ = some (v, τ.push ob)) :=
    fun ht hle => ⟨hle, fun h0 => absurd (ht.symm.trans h0) (by decide), fun _ h3 => absurd ht h3, fun h1 => absurd (ht.symm.trans h1) (by decide)⟩
  cases op
  case move x => exact same (show (0 : Nat) ≠ 1 by decide) (q := some (opd env x)) (f := fun _ => none) fun _ => rfl
  case assign x => exact same (show (0 : Nat) ≠ 1 by decide) (q := some (opd env x)) (f := fun _ => none) fun _ => rfl
  case pick c x y =>
    refine same (show (0 : Nat) ≠ 1 by decide) (q := match opd env c with | .bool t => some (if t = true then opd env x else opd env y) | _ => none) (f := fun _ => none) fun τ => ?_
    simp only [evalOp]
    generalize opd env c = z
    cases z <;> rfl
  case alloc el =>
    simp only [evalOp, Option.bind_eq_some_iff] at h
    obtain ⟨z, hz, h⟩ := h
    split at h
    · cases h
      exact pushed rfl rfl fun τ hτ => by
        simp only [evalOp]
        rw [(by assumption : zeroOf cfg.P el = some z)]
        simp only [Option.bind_some]
        rw [if_pos (by assumption), hτ]
    · cases h
  case box el x =>
    simp only [evalOp] at h
    split at h
    · cases h
      exact pushed rfl rfl fun τ hτ => by
        simp only [evalOp]
        rw [if_pos (by assumption), hτ]
    · cases h
  case build t ps => exact same (show (0 : Nat) ≠ 1 by decide) (q := buildv cfg.P t (ps.toList.map fun (i, x) => (i, opd env x))) (f := fun _ => none) fun _ => rfl
  case buildSlice t n ps =>
    obtain ⟨ob, e, k⟩ := buildSlv_push h
    exact pushed rfl e k
  case makeSlice t l c =>
    obtain ⟨ob, e, k⟩ := makeSlv_push h
    exact pushed rfl e k
  case load t x =>
    by_cases hcalm : calmL cfg x = true
    · exact same (by show (if calmL cfg x = true then 0 else 2) ≠ 1; rw [if_pos hcalm]; decide) (q := loadcv cfg.P t (opd env x)) (f := fun _ => none) fun τ => by
        simp only [evalOp]
        rw [if_pos hcalm]
    · simp only [evalOp, if_neg hcalm, Option.map_eq_some_iff] at h
      obtain ⟨_, _, heq⟩ := h
      cases heq
      refine read2 ?_ rfl
      show (if calmL cfg x = true then 0 else 2) = 2
      rw [if_neg hcalm]
  case convert s d x =>
    simp only [evalOp, Option.map_eq_some_iff] at h
    obtain ⟨_, _, heq⟩ := h
    cases heq
    exact read2 rfl rfl
  case store t x y =>
    simp only [evalOp, Option.map_eq_some_iff] at h
    obtain ⟨s, hs, heq⟩ := h
    cases heq
    exact wrote rfl (Nat.le_of_eq (storev_next hs).symm)
  case nilCheck x =>
    refine same (show (0 : Nat) ≠ 1 by decide) (q := match opd env x with | .ref a b c => some (.ref a b c) | .pref cs => some (.pref cs) | .func f cs => some (.func f cs) | _ => none) (f := fun _ => none) fun τ => ?_
    simp only [evalOp]
    generalize opd env x = z
    cases z <;> rfl
  case binOp op t x y ty => exact same (show (0 : Nat) ≠ 1 by decide) (q := binv cfg.P op t (opd env x) (opd env y)) (f := fun _ => none) fun _ => rfl
  case unOp op t x => exact same (show (0 : Nat) ≠ 1 by decide) (q := unv op (opd env x)) (f := fun _ => none) fun _ => rfl
  case makeFunc fn fs cs =>
    cases fn
    case func f =>
      refine same (show (0 : Nat) ≠ 1 by decide) (q := if fs.size = 0 then some (.func f (cs.toList.map (opd env))) else none) (f := fun _ => none) fun τ => ?_
      simp only [evalOp]
      split <;> rfl
    all_goals (simp only [evalOp] at h; cases h)
  case slice t x lo hi mx => exact same (show (0 : Nat) ≠ 1 by decide) (q := cutv cfg.P t (opd env x) (lo.map (opd env)) (hi.map (opd env)) (mx.map (opd env))) (f := fun _ => none) fun _ => rfl
  case fieldAddr s x f => exact same (show (0 : Nat) ≠ 1 by decide) (q := fieldAddrv cfg.P s (opd env x) f) (f := fun _ => none) fun _ => rfl
  case field s x f => exact same (show (0 : Nat) ≠ 1 by decide) (q := fieldv cfg.P s (opd env x) f) (f := fun _ => none) fun _ => rfl
  case indexAddr t x i => exact same (show (0 : Nat) ≠ 1 by decide) (q := indexAddrv cfg.P t (opd env x) (opd env i)) (f := fun _ => none) fun _ => rfl
  case index t x i => exact same (show (0 : Nat) ≠ 1 by decide) (q := indexv cfg.P t (opd env x) (opd env i)) (f := fun _ => none) fun _ => rfl
  case extract x i =>
    refine same (show (0 : Nat) ≠ 1 by decide) (q := match opd env x with | .tuple vs => vs[i]? | _ => none) (f := fun _ => none) fun τ => ?_
    simp only [evalOp]
    generalize opd env x = z
    cases z <;> rfl
  case call c =>
    obtain ⟨callee, args, argTypes⟩ := c
    cases callee
    case builtin b =>
      have hb : builtinv cfg.P σ b argTypes.toList (args.toList.map (opd env)) = some (v, σ') := h
      by_cases hp : calmB b = true
      · exact same (by show (if calmB b = true then 0 else 3) ≠ 1; rw [if_pos hp]; decide) (q := pureB cfg.P b argTypes.toList (args.toList.map (opd env))) (f := fun _ => none) fun τ => by
          show builtinv cfg.P τ b argTypes.toList (args.toList.map (opd env)) = _
          unfold builtinv
          rw [if_pos hp]
      · refine wrote ?_ (builtinv_next hb)
        show (if calmB b = true then 0 else 3) = 3
        rw [if_neg hp]
    case value f =>
      have hv : (match opd env f with | .func g cs => if enters cfg.P g = true then callv cfg C g (args.toList.map (opd env) ++ cs) σ else none | _ => none) = some (v, σ') := h
      cases f
      case func g =>
        have hv2 : (if enters cfg.P g = true then callv cfg C g (args.toList.map (opd env) ++ []) σ else none) = some (v, σ') := hv
        split at hv2
        · have hnx := callv_next hC hv2
          by_cases hm : cfg.mode g = .live
          · refine wrote ?_ hnx
            show (if cfg.mode g = .live then 3 else if cfg.mode g = .blind then 0 else 2) = 3
            rw [if_pos hm]
          by_cases hbl : cfg.mode g = .blind
          · have ht : touch cfg ⟨dst, .call ⟨.value (.func g), args, argTypes⟩, type, pos, after, guard⟩ = 0 := by
              show (if cfg.mode g = .live then 3 else if cfg.mode g = .blind then 0 else 2) = 0
              rw [if_neg hm, if_pos hbl]
            unfold callv at hv2
            rw [hbl] at hv2
            simp only [Option.bind_eq_some_iff] at hv2
            obtain ⟨⟨v0, τ0⟩, hc, hv2⟩ := hv2
            simp only at hv2
            split at hv2
            · rename_i h0
              cases hv2
              refine ⟨hnx, fun _ => ⟨rfl, fun τ => ?_⟩, fun _ _ _ _ => rfl, fun h1 => absurd (ht.symm.trans h1) (by decide)⟩
              show (if enters cfg.P g = true then callv cfg C g (args.toList.map (opd env) ++ []) τ else none) = some (v, τ)
              rw [if_pos (by assumption)]
              unfold callv
              rw [hbl]
              simp only [hc, Option.bind_some, h0, if_true]
            · cases hv2
          · have ht : touch cfg ⟨dst, .call ⟨.value (.func g), args, argTypes⟩, type, pos, after, guard⟩ = 2 := by
              show (if cfg.mode g = .live then 3 else if cfg.mode g = .blind then 0 else 2) = 2
              rw [if_neg hm, if_neg hbl]
            refine ⟨hnx, fun h0 => absurd (ht.symm.trans h0) (by decide), fun hst _ id hid => ?_, fun h1 => absurd (ht.symm.trans h1) (by decide)⟩
            unfold callv at hv2
            split at hv2
            · rename_i hl; exact absurd hl hm
            · simp only [Option.bind_eq_some_iff] at hv2
              obtain ⟨⟨v0, τ⟩, hc, hv2⟩ := hv2
              simp only at hv2
              split at hv2
              · cases hv2; rfl
              · split at hv2
                · cases hv2; rfl
                · cases hv2
            · simp only [Option.bind_eq_some_iff] at hv2
              obtain ⟨⟨v0, τ⟩, hc, hv2⟩ := hv2
              simp only at hv2
              split at hv2
              · cases hv2
                show (if id < σ.next then σ.objs id else τ.objs id) = σ.objs id
                rw [if_pos hid]
              · cases hv2
            · rename_i hl; exact absurd hl hbl
        · cases hv2
      all_goals
        refine wrote rfl ?_
        split at hv
        · split at hv
          · exact callv_next hC hv
          · cases hv
        · cases hv
    case invoke r m => cases h
  all_goals (simp only [evalOp] at h; cases h)

end Go.Pvm
