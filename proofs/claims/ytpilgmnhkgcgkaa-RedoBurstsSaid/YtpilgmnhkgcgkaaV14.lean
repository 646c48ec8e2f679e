/- Part of the proof: what an operation may change of the store. -/
import Derived.Test.YtpilgmnhkgcgkaaV13
set_option linter.unusedSimpArgs false
set_option linter.unusedVariables false
namespace Go.Pvm

/-- Numbers grow. -/
def NextUp (C : CallO) : Prop := ∀ f a σ v σ', C f a σ = some (v, σ') → σ.next ≤ σ'.next

theorem appendv_next {P : Program} {σ σ' : Store} {el : TypeId} {s x v : PV} (h : appendv P σ el s x = some (v, σ')) : σ.next ≤ σ'.next := by
  unfold appendv at h
  simp only [Option.bind_eq_some_iff] at h
  obtain ⟨sz, hsz, by_, hby, z, hz, new, hx, h⟩ := h
  split at h
  · cases h
  split at h
  · cases h
  split at h
  · split at h
    · cases h; exact Nat.le_refl _
    · split at h
      · cases h; exact Nat.le_succ _
      · cases h
  · split at h
    · cases h; exact Nat.le_refl _
    · split at h
      · split at h
        · split at h
          · cases h; exact Nat.le_succ _
          · cases h
        · cases h
      · cases h
  · split at h
    · cases h; exact Nat.le_refl _
    · split at h
      · cases h
      · split at h
        · split at h
          · split at h
            · cases h; exact Nat.le_refl _
            · cases h
          · split at h
            · split at h
              · split at h
                · split at h
                  · cases h; exact Nat.le_succ _
                  · cases h
                · split at h
                  · cases h; exact Nat.le_succ _
                  · cases h
              · cases h
            · cases h
        · cases h
  · cases h

theorem copyv_next {P : Program} {σ σ' : Store} {el : TypeId} {d s v : PV} (h : copyv P σ el d s = some (v, σ')) : σ'.next = σ.next := by
  unfold copyv at h
  simp only [Option.bind_eq_some_iff] at h
  obtain ⟨sz, hsz, src, hx, h⟩ := h
  split at h
  · cases h
  split at h
  · split at h
    · cases h; rfl
    · cases h
  · split at h
    · cases h
    · split at h
      · split at h
        · split at h
          · cases h; rfl
          · cases h
        · cases h
      · cases h
  · cases h

theorem clearv_next {P : Program} {σ σ' : Store} {el : TypeId} {d v : PV} (h : clearv P σ el d = some (v, σ')) : σ'.next = σ.next := by
  unfold clearv at h
  simp only [Option.bind_eq_some_iff] at h
  obtain ⟨sz, hsz, z, hz, h⟩ := h
  split at h
  · cases h
  split at h
  · cases h; rfl
  · split at h
    · cases h
    · split at h
      · split at h
        · cases h; rfl
        · cases h
      · cases h
  · cases h

theorem builtinv_next {P : Program} {σ σ' : Store} {b : Builtin} {ts : List TypeId} {args : List PV} {v : PV} (h : builtinv P σ b ts args = some (v, σ')) : σ.next ≤ σ'.next := by
  unfold builtinv at h
  split at h
  · rw [Option.map_eq_some_iff] at h
    obtain ⟨_, _, h⟩ := h
    cases h; exact Nat.le_refl _
  unfold writeB at h
  split at h
  · split at h
    · split at h
      · cases h
      · exact appendv_next h
    · split at h
      · exact appendv_next h
      · cases h
    · cases h
  · split at h
    · exact Nat.le_of_eq (copyv_next h).symm
    · cases h
  · split at h
    · exact Nat.le_of_eq (clearv_next h).symm
    · cases h
  · cases h

theorem callv_next {cfg : Cfg} {C : CallO} (hC : NextUp C) {σ σ' : Store} {f : FuncId} {args : List PV} {v : PV} (h : callv cfg C f args σ = some (v, σ')) : σ.next ≤ σ'.next := by
  unfold callv at h
  split at h
  · exact hC _ _ _ _ _ h
  · simp only [Option.bind_eq_some_iff] at h
    obtain ⟨⟨v0, τ⟩, hc, h⟩ := h
    simp only at h
    split at h
    · cases h; exact Nat.le_refl _
    · split at h
      · split at h
        · cases h; exact Nat.le_refl _
        · cases h
      · rw [Option.map_eq_some_iff] at h
        obtain ⟨σ1, hro, heq⟩ := h
        cases heq
        exact Nat.le_of_eq (roAll_spec _ _ _ hro).1.symm
  · split at h
    · rw [Option.map_eq_some_iff] at h
      obtain ⟨⟨v0, τ⟩, hc, heq⟩ := h
      cases heq
      exact hC f args (Store.at_ σ.next) v τ hc
    · cases h

theorem buildSlv_push {P : Program} {σ σ' : Store} {t : TypeId} {n : Nat} {ps : List (Nat × PV)} {v : PV} (h : buildSlv P σ t n ps = some (v, σ')) : ∃ o, σ' = σ.push o := by
  unfold buildSlv at h
  split at h
  · simp only [Option.bind_eq_some_iff] at h
    obtain ⟨sz, _, z, _, h⟩ := h
    split at h
    · rw [Option.map_eq_some_iff] at h
      obtain ⟨es, _, heq⟩ := h
      cases heq
      exact ⟨_, rfl⟩
    · cases h
  · cases h
theorem makeSlv_push {P : Program} {σ σ' : Store} {t : TypeId} {l c : PV} {v : PV} (h : makeSlv P σ t l c = some (v, σ')) : ∃ o, σ' = σ.push o := by
  unfold makeSlv at h
  split at h
  · simp only [Option.bind_eq_some_iff] at h
    obtain ⟨sz, _, by_, _, z, _, h⟩ := h
    split at h
    · cases h; exact ⟨_, rfl⟩
    · cases h
  · cases h
theorem storev_next {P : Program} {σ σ' : Store} {t : TypeId} {a v : PV} (h : storev P σ t a v = some σ') : σ'.next = σ.next := by
  unfold storev at h
  split at h
  · split at h
    · simp only [Option.bind_eq_some_iff] at h
      obtain ⟨e, _, n, _, h⟩ := h
      split at h
      · cases h; rfl
      · cases h
    · cases h
  · cases h

/-- The three kinds of an operation: it leaves the store; it lays something behind what there was; or it writes. -/
theorem op_kind {cfg : Cfg} {C : CallO} (hC : NextUp C) {env : List PV} {o : Oper} {v : PV} {σ σ' : Store} (h : evalOp cfg C env σ o = some (v, σ')) :
    σ.next ≤ σ'.next ∧ (touch cfg o = 0 → σ' = σ ∧ ∀ τ, evalOp cfg C env τ o = some (v, τ)) ∧ (cfg.strict = true → touch cfg o ≠ 3 → ∀ id, id < σ.next → σ'.objs id = σ.objs id) := by
  obtain ⟨dst, op, type, pos, after, guard⟩ := o
  have same : ∀ {q : Option PV} {f : Store → Option PV}, (∀ τ, evalOp cfg C env τ ⟨dst, op, type, pos, after, guard⟩ = q.map (·, τ)) →
      σ.next ≤ σ'.next ∧ (touch cfg ⟨dst, op, type, pos, after, guard⟩ = 0 → σ' = σ ∧ ∀ τ, evalOp cfg C env τ ⟨dst, op, type, pos, after, guard⟩ = some (v, τ)) ∧ (cfg.strict = true → touch cfg ⟨dst, op, type, pos, after, guard⟩ ≠ 3 → ∀ id, id < σ.next → σ'.objs id = σ.objs id) := by
    intro q f hq
    have h0 := h
    rw [hq σ, Option.map_eq_some_iff] at h0
    obtain ⟨u, hu, heq⟩ := h0
    cases heq
    exact ⟨Nat.le_refl _, fun _ => ⟨rfl, fun τ => by rw [hq τ, hu]; rfl⟩, fun _ _ _ _ => rfl⟩
  have pushed : ∀ {ob : Obj}, touch cfg ⟨dst, op, type, pos, after, guard⟩ = 1 → σ' = σ.push ob →
      σ.next ≤ σ'.next ∧ (touch cfg ⟨dst, op, type, pos, after, guard⟩ = 0 → σ' = σ ∧ ∀ τ, evalOp cfg C env τ ⟨dst, op, type, pos, after, guard⟩ = some (v, τ)) ∧ (cfg.strict = true → touch cfg ⟨dst, op, type, pos, after, guard⟩ ≠ 3 → ∀ id, id < σ.next → σ'.objs id = σ.objs id) := by
    rintro ob ht rfl
    refine ⟨Nat.le_succ _, fun h0 => absurd (ht.symm.trans h0) (by decide), fun _ _ id hid => ?_⟩
    show (if id = σ.next then some ob else σ.objs id) = σ.objs id
    rw [if_neg (by omega)]
  have read2 : touch cfg ⟨dst, op, type, pos, after, guard⟩ = 2 → σ' = σ →
      σ.next ≤ σ'.next ∧ (touch cfg ⟨dst, op, type, pos, after, guard⟩ = 0 → σ' = σ ∧ ∀ τ, evalOp cfg C env τ ⟨dst, op, type, pos, after, guard⟩ = some (v, τ)) ∧ (cfg.strict = true → touch cfg ⟨dst, op, type, pos, after, guard⟩ ≠ 3 → ∀ id, id < σ.next → σ'.objs id = σ.objs id) := by
    rintro ht rfl
    exact ⟨Nat.le_refl _, fun h0 => absurd (ht.symm.trans h0) (by decide), fun _ _ _ _ => rfl⟩
  have wrote : touch cfg ⟨dst, op, type, pos, after, guard⟩ = 3 → σ.next ≤ σ'.next →
      σ.next ≤ σ'.next ∧ (touch cfg ⟨dst, op, type, pos, after, guard⟩ = 0 → σ' = σ ∧ ∀ τ, evalOp cfg C env τ ⟨dst, op, type, pos, after, guard⟩ = some (v, τ)) ∧ (cfg.strict = true → touch cfg ⟨dst, op, type, pos, after, guard⟩ ≠ 3 → ∀ id, id < σ.next → σ'.objs id = σ.objs id) :=
    fun ht hle => ⟨hle, fun h0 => absurd (ht.symm.trans h0) (by decide), fun _ h3 => absurd ht h3⟩
  cases op
  case move x => exact same (q := some (opd env x)) (f := fun _ => none) fun _ => rfl
  case assign x => exact same (q := some (opd env x)) (f := fun _ => none) fun _ => rfl
  case pick c x y =>
    refine same (q := match opd env c with | .bool t => some (if t = true then opd env x else opd env y) | _ => none) (f := fun _ => none) fun τ => ?_
    simp only [evalOp]
    generalize opd env c = z
    cases z <;> rfl
  case alloc el =>
    simp only [evalOp, Option.bind_eq_some_iff] at h
    obtain ⟨z, _, h⟩ := h
    split at h
    · cases h; exact pushed rfl rfl
    · cases h
  case box el x =>
    simp only [evalOp] at h
    split at h
    · cases h; exact pushed rfl rfl
    · cases h
  case build t ps => exact same (q := buildv cfg.P t (ps.toList.map fun (i, x) => (i, opd env x))) (f := fun _ => none) fun _ => rfl
  case buildSlice t n ps =>
    obtain ⟨ob, e⟩ := buildSlv_push h
    exact pushed rfl e
  case makeSlice t l c =>
    obtain ⟨ob, e⟩ := makeSlv_push h
    exact pushed rfl e
  case load t x =>
    by_cases hcalm : cfg.calm = true
    · exact same (q := loadcv cfg.P t (opd env x)) (f := fun _ => none) fun τ => by
        simp only [evalOp]
        rw [if_pos hcalm]
    · simp only [evalOp, if_neg hcalm, Option.map_eq_some_iff] at h
      obtain ⟨_, _, heq⟩ := h
      cases heq
      refine read2 ?_ rfl
      show (if cfg.calm = true then 0 else 2) = 2
      rw [if_neg hcalm]
  case convert s d x =>
    simp only [evalOp, Option.map_eq_some_iff] at h
    obtain ⟨_, _, heq⟩ := h
    cases heq
    exact read2 rfl rfl
  case store t x y =>
    simp only [evalOp, Option.map_eq_some_iff] at h
    obtain ⟨s, hs, heq⟩ := h
    cases heq
    exact wrote rfl (Nat.le_of_eq (storev_next hs).symm)
  case nilCheck x =>
    refine same (q := match opd env x with | .ref a b c => some (.ref a b c) | .pref cs => some (.pref cs) | .func f cs => some (.func f cs) | _ => none) (f := fun _ => none) fun τ => ?_
    simp only [evalOp]
    generalize opd env x = z
    cases z <;> rfl
  case binOp op t x y ty => exact same (q := binv cfg.P op t (opd env x) (opd env y)) (f := fun _ => none) fun _ => rfl
  case unOp op t x => exact same (q := unv op (opd env x)) (f := fun _ => none) fun _ => rfl
  case makeFunc fn fs cs =>
    cases fn
    case func f =>
      refine same (q := if fs.size = 0 then some (.func f (cs.toList.map (opd env))) else none) (f := fun _ => none) fun τ => ?_
      simp only [evalOp]
      split <;> rfl
    all_goals (simp only [evalOp] at h; cases h)
  case slice t x lo hi mx => exact same (q := cutv cfg.P t (opd env x) (lo.map (opd env)) (hi.map (opd env)) (mx.map (opd env))) (f := fun _ => none) fun _ => rfl
  case fieldAddr s x f => exact same (q := fieldAddrv cfg.P s (opd env x) f) (f := fun _ => none) fun _ => rfl
  case field s x f => exact same (q := fieldv cfg.P s (opd env x) f) (f := fun _ => none) fun _ => rfl
  case indexAddr t x i => exact same (q := indexAddrv cfg.P t (opd env x) (opd env i)) (f := fun _ => none) fun _ => rfl
  case index t x i => exact same (q := indexv cfg.P t (opd env x) (opd env i)) (f := fun _ => none) fun _ => rfl
  case extract x i =>
    refine same (q := match opd env x with | .tuple vs => vs[i]? | _ => none) (f := fun _ => none) fun τ => ?_
    simp only [evalOp]
    generalize opd env x = z
    cases z <;> rfl
  case call c =>
    obtain ⟨callee, args, argTypes⟩ := c
    cases callee
    case builtin b =>
      have hb : builtinv cfg.P σ b argTypes.toList (args.toList.map (opd env)) = some (v, σ') := h
      by_cases hp : calmB b = true
      · exact same (q := pureB cfg.P b argTypes.toList (args.toList.map (opd env))) (f := fun _ => none) fun τ => by
          show builtinv cfg.P τ b argTypes.toList (args.toList.map (opd env)) = _
          unfold builtinv
          rw [if_pos hp]
      · refine wrote ?_ (builtinv_next hb)
        show (if calmB b = true then 0 else 3) = 3
        rw [if_neg hp]
    case value f =>
      have hv : (match opd env f with | .func g cs => if enters cfg.P g = true then callv cfg C g (args.toList.map (opd env) ++ cs) σ else none | _ => none) = some (v, σ') := h
      cases f
      case func g =>
        have hv2 : (if enters cfg.P g = true then callv cfg C g (args.toList.map (opd env) ++ []) σ else none) = some (v, σ') := hv
        split at hv2
        · have hnx := callv_next hC hv2
          by_cases hm : cfg.mode g = .live
          · refine wrote ?_ hnx
            show (if cfg.mode g = .live then 3 else 2) = 3
            rw [if_pos hm]
          · have ht : touch cfg ⟨dst, .call ⟨.value (.func g), args, argTypes⟩, type, pos, after, guard⟩ = 2 := by
              show (if cfg.mode g = .live then 3 else 2) = 2
              rw [if_neg hm]
            refine ⟨hnx, fun h0 => absurd (ht.symm.trans h0) (by decide), fun hst _ id hid => ?_⟩
            unfold callv at hv2
            split at hv2
            · rename_i hl; exact absurd hl hm
            · simp only [Option.bind_eq_some_iff] at hv2
              obtain ⟨⟨v0, τ⟩, hc, hv2⟩ := hv2
              simp only at hv2
              split at hv2
              · cases hv2; rfl
              · split at hv2
                · cases hv2; rfl
                · cases hv2
            · split at hv2
              · rw [Option.map_eq_some_iff] at hv2
                obtain ⟨⟨v0, τ⟩, hc, heq⟩ := hv2
                cases heq
                show (if id < σ.next then σ.objs id else τ.objs id) = σ.objs id
                rw [if_pos hid]
              · cases hv2
        · cases hv2
      all_goals
        refine wrote rfl ?_
        split at hv
        · split at hv
          · exact callv_next hC hv
          · cases hv
        · cases hv
    case invoke r m => cases h
  all_goals (simp only [evalOp] at h; cases h)

end Go.Pvm
