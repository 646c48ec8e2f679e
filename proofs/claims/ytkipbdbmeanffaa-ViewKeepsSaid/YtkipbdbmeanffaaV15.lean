/- Part of the proof: numbers of the store that are not given out yet; operations one behind the other. -/
import Derived.Test.YtkipbdbmeanffaaV14
set_option linter.unusedSimpArgs false
set_option linter.unusedVariables false
namespace Go.Pvm

/-- Nothing stands at a number that is not given out. -/
def Store.Clean (σ : Store) : Prop := ∀ id, σ.next ≤ id → σ.objs id = none
def NewOk (C : CallO) : Prop := ∀ f a σ v σ', C f a σ = some (v, σ') → σ.Clean → σ'.Clean

theorem Store.Clean.push {σ : Store} (h : σ.Clean) (o : Obj) : (σ.push o).Clean := fun id hid => by
  replace hid : σ.next + 1 ≤ id := hid
  show (if id = σ.next then some o else σ.objs id) = none
  rw [if_neg (by omega)]
  exact h id (by omega)
theorem Store.Clean.kill {σ : Store} (h : σ.Clean) (i : Nat) : (σ.kill i).Clean := fun id hid => by
  show (if id = i then none else σ.objs id) = none
  split
  · rfl
  · exact h id hid
theorem Store.Clean.put {σ : Store} (h : σ.Clean) {i : Nat} {o o' : Obj} (hi : σ.objs i = some o) : (σ.put i o').Clean := fun id hid => by
  show (if id = i then some o' else σ.objs id) = none
  split
  · rename_i e
    subst e
    have := h id hid
    rw [hi] at this
    cases this
  · exact h id hid
theorem Store.Clean.at_ (n : Nat) : (Store.at_ n).Clean := fun _ _ => rfl

theorem appendv_clean {P : Program} {σ σ' : Store} {el : TypeId} {s x v : PV} (h : appendv P σ el s x = some (v, σ')) (hc : σ.Clean) : σ'.Clean := by
  unfold appendv at h
  simp only [Option.bind_eq_some_iff] at h
  obtain ⟨sz, hsz, by_, hby, z, hz, new, hx, h⟩ := h
  split at h
  · cases h
  split at h
  · cases h
  split at h
  · split at h
    · cases h; exact hc
    · split at h
      · cases h; exact hc.push _
      · cases h
  · split at h
    · cases h; exact hc
    · split at h
      · split at h
        · split at h
          · cases h; exact hc.push _
          · cases h
        · cases h
      · cases h
  · split at h
    · cases h; exact hc
    · split at h
      · cases h
      · split at h
        · rename_i ho
          split at h
          · split at h
            · cases h; exact hc.put ho
            · cases h
          · split at h
            · split at h
              · split at h
                · split at h
                  · cases h; exact hc.push _
                  · cases h
                · split at h
                  · cases h; exact (hc.kill _).push _
                  · cases h
              · cases h
            · cases h
        · cases h
  · cases h

theorem copyv_clean {P : Program} {σ σ' : Store} {el : TypeId} {d s v : PV} (h : copyv P σ el d s = some (v, σ')) (hc : σ.Clean) : σ'.Clean := by
  unfold copyv at h
  simp only [Option.bind_eq_some_iff] at h
  obtain ⟨sz, hsz, src, hx, h⟩ := h
  split at h
  · cases h
  split at h
  · split at h
    · cases h; exact hc
    · cases h
  · split at h
    · cases h
    · split at h
      · rename_i ho
        split at h
        · split at h
          · cases h; exact hc.put ho
          · cases h
        · cases h
      · cases h
  · cases h

theorem clearv_clean {P : Program} {σ σ' : Store} {el : TypeId} {d v : PV} (h : clearv P σ el d = some (v, σ')) (hc : σ.Clean) : σ'.Clean := by
  unfold clearv at h
  simp only [Option.bind_eq_some_iff] at h
  obtain ⟨sz, hsz, z, hz, h⟩ := h
  split at h
  · cases h
  split at h
  · cases h; exact hc
  · split at h
    · cases h
    · split at h
      · rename_i ho
        split at h
        · cases h; exact hc.put ho
        · cases h
      · cases h
  · cases h

theorem builtinv_clean {P : Program} {σ σ' : Store} {b : Builtin} {ts : List TypeId} {args : List PV} {v : PV} (h : builtinv P σ b ts args = some (v, σ')) (hc : σ.Clean) : σ'.Clean := by
  unfold builtinv at h
  split at h
  · rw [Option.map_eq_some_iff] at h
    obtain ⟨_, _, h⟩ := h
    cases h; exact hc
  unfold writeB at h
  split at h
  · split at h
    · split at h
      · cases h
      · exact appendv_clean h hc
    · split at h
      · exact appendv_clean h hc
      · cases h
    · cases h
  · split at h
    · exact copyv_clean h hc
    · cases h
  · split at h
    · exact clearv_clean h hc
    · cases h
  · cases h

theorem callv_clean {cfg : Cfg} {C : CallO} (hN : NextUp C) (hC : NewOk C) {σ σ' : Store} {f : FuncId} {args : List PV} {v : PV} (h : callv cfg C f args σ = some (v, σ')) (hc : σ.Clean) : σ'.Clean := by
  unfold callv at h
  split at h
  · exact hC _ _ _ _ _ h hc
  · simp only [Option.bind_eq_some_iff] at h
    obtain ⟨⟨v0, τ⟩, hcc, h⟩ := h
    simp only at h
    split at h
    · cases h; exact hc
    · split at h
      · split at h
        · cases h; exact hc
        · cases h
      · rw [Option.map_eq_some_iff] at h
        obtain ⟨σ1, hro, heq⟩ := h
        cases heq
        obtain ⟨r1, r2, r3⟩ := roAll_spec _ _ _ hro
        intro id hid
        rw [r1] at hid
        by_cases hm : id ∈ tops.topss args
        · obtain ⟨ro, es, q1, _⟩ := r2 id hm
          rw [hc id hid] at q1
          cases q1
        · rw [r3 id hm]; exact hc id hid
  · simp only [Option.bind_eq_some_iff] at h
    obtain ⟨⟨v0, τ⟩, hcc, h⟩ := h
    simp only at h
    split at h
    · cases h
      have h1 := hC _ _ _ _ _ hcc (.at_ _)
      have h2 := hN _ _ _ _ _ hcc
      replace h2 : σ.next ≤ τ.next := h2
      intro id hid
      replace hid : τ.next ≤ id := hid
      show (if id < σ.next then σ.objs id else τ.objs id) = none
      rw [if_neg (by omega)]
      exact h1 id hid
    · cases h
  · simp only [Option.bind_eq_some_iff] at h
    obtain ⟨⟨v0, τ⟩, hcc, h⟩ := h
    simp only at h
    split at h
    · cases h; exact hc
    · cases h

theorem op_clean {cfg : Cfg} {C : CallO} (hN : NextUp C) (hC : NewOk C) {env : List PV} {o : Oper} {v : PV} {σ σ' : Store} (h : evalOp cfg C env σ o = some (v, σ')) (hc : σ.Clean) : σ'.Clean := by
  obtain ⟨dst, op, type, pos, after, guard⟩ := o
  unfold evalOp at h
  have keep : ∀ {q : Option PV}, q.map (·, σ) = some (v, σ') → σ'.Clean := fun {q} hq => by
    rw [Option.map_eq_some_iff] at hq
    obtain ⟨_, _, heq⟩ := hq
    cases heq
    exact hc
  cases op <;> simp only at h
  case move x => cases h; exact hc
  case assign x => cases h; exact hc
  case pick c x y =>
    split at h
    · cases h; exact hc
    · cases h
  case alloc el =>
    simp only [Option.bind_eq_some_iff] at h
    obtain ⟨z, hz, h⟩ := h
    split at h
    · cases h; exact hc.push _
    · cases h
  case box el x =>
    split at h
    · cases h; exact hc.push _
    · cases h
  case build t ps => exact keep h
  case buildSlice t n ps =>
    obtain ⟨ob, rfl, _⟩ := buildSlv_push h
    exact hc.push _
  case load t x =>
    split at h
    · exact keep h
    · exact keep h
  case store t x y =>
    rw [Option.map_eq_some_iff] at h
    obtain ⟨u, hu, heq⟩ := h
    cases heq
    unfold storev at hu
    split at hu
    · split at hu
      · rename_i ho
        simp only [Option.bind_eq_some_iff] at hu
        obtain ⟨e, _, n, _, hu⟩ := hu
        split at hu
        · cases hu; exact hc.put ho
        · cases hu
      · cases hu
    · cases hu
  case nilCheck x => split at h <;> first | (cases h; exact hc) | cases h
  case binOp op t x y ty => exact keep h
  case unOp op t x => exact keep h
  case convert s d x => exact keep h
  case makeFunc fn fs cs =>
    cases fn <;> simp only at h
    case func f =>
      split at h
      · cases h; exact hc
      · cases h
    all_goals cases h
  case makeSlice t l c =>
    obtain ⟨ob, rfl, _⟩ := makeSlv_push h
    exact hc.push _
  case slice t x lo hi mx => exact keep h
  case fieldAddr s x f => exact keep h
  case field s x f => exact keep h
  case indexAddr t x i => exact keep h
  case index t x i => exact keep h
  case extract x i =>
    split at h
    · exact keep h
    · cases h
  case call c =>
    split at h
    · exact builtinv_clean h hc
    · split at h
      · split at h
        · exact callv_clean hN hC h hc
        · cases h
      · cases h
    · cases h
  all_goals cases h

section
variable {ρ : Where} {F : Froz} {w : World} {σ : Store}

theorem put_defers (a : Act) (d : Option Tmp) (v : Value) : (a.put d v).defers = a.defers := by cases d <;> rfl

theorem wants_sound {ops : Array Oper} {env : List PV} {o : Oper} {b : Bool} (h : wants ops.toList env o = some b) {a : Act} (he : ∀ g u d, o.guard = some (g, u) → (ops[g]?).bind (·.dst) = some d → VR ρ F w (env.getD d .undef) (a.tmps.getD d undef)) :
    Region.wanted o (yielded ops a.tmps) = b := by
  unfold wants at h
  unfold Region.wanted
  split at h
  · rename_i hg
    rw [hg]
    cases h
    rfl
  · rename_i g u hg
    rw [hg]
    simp only
    split at h
    · rename_i d hd
      have hd' : (ops[g]?).bind (·.dst) = some d := by simpa using hd
      have hv := he g u d hg hd'
      unfold yielded
      rw [hd']
      simp only [Option.bind_some]
      split at h
      · rename_i x hx
        cases h
        rw [hx] at hv
        have h1 := hv.bool_inv
        have h2 : a.tmps[d]? = some (.bool x) := by
          rw [Array.getD_eq_getD_getElem?] at h1
          cases hq : a.tmps[d]? with
          | none => rw [hq] at h1; simp [undef] at h1
          | some y => rw [hq] at h1; simp at h1; rw [h1]
        rw [h2]
        cases x <;> cases u <;> rfl
      · rename_i vs hx
        cases h
        rw [hx] at hv
        obtain ⟨us, h1, _⟩ := hv.tuple_inv
        cases hq : a.tmps[d]? with
        | none => rfl
        | some y =>
          rw [Array.getD_eq_getD_getElem?, hq] at h1
          simp at h1
          subst h1
          rfl
      · cases h
    · cases h

theorem evalOps_next {cfg : Cfg} {C : CallO} (hN : NextUp C) {all : List Oper} : ∀ (l : List Oper) (env : List PV) (σ : Store) (env' : List PV) (σ' : Store), evalOps cfg C all l env σ = some (env', σ') → σ.next ≤ σ'.next
  | [], env, σ, env', σ', h => by simp [evalOps] at h; rw [h.2]; exact Nat.le_refl _
  | o :: r, env, σ, env', σ', h => by
    simp only [evalOps, Option.bind_eq_some_iff] at h
    obtain ⟨b, hb, h⟩ := h
    split at h
    · simp only [Option.bind_eq_some_iff] at h
      obtain ⟨⟨v, τ⟩, h1, h2⟩ := h
      exact Nat.le_trans (op_kind hN h1).1 (evalOps_next hN r _ _ _ _ h2)
    · exact evalOps_next hN r _ _ _ _ h

theorem evalOps_clean {cfg : Cfg} {C : CallO} (hN : NextUp C) (hC : NewOk C) {all : List Oper} : ∀ (l : List Oper) (env : List PV) (σ : Store) (env' : List PV) (σ' : Store), evalOps cfg C all l env σ = some (env', σ') → σ.Clean → σ'.Clean
  | [], env, σ, env', σ', h, hc => by simp [evalOps] at h; rw [← h.2]; exact hc
  | o :: r, env, σ, env', σ', h, hc => by
    simp only [evalOps, Option.bind_eq_some_iff] at h
    obtain ⟨b, hb, h⟩ := h
    split at h
    · simp only [Option.bind_eq_some_iff] at h
      obtain ⟨⟨v, τ⟩, h1, h2⟩ := h
      exact evalOps_clean hN hC r _ _ _ _ h2 (op_clean hN hC h1 hc)
    · exact evalOps_clean hN hC r _ _ _ _ h hc

/-- Operations in the order of the text. -/
theorem seq_sound {cfg : Cfg} {C : CallO} (hC : CallOk cfg.P C) (hN : NextUp C) (ops : Array Oper) : ∀ (l : List Oper) (env : List PV) (σ : Store) (env' : List PV) (σ' : Store), evalOps cfg C ops.toList l env σ = some (env', σ') →
    ∀ (ρ : Where) (F : Froz) (w : World) (a : Act), SR ρ F σ w → EnvR ρ F w env a → (∀ id, σ.next ≤ id → id < σ'.next → ρ id = none) →
    ∀ Q : Exit → Act → World → Prop, (∀ a' w' ρ' F', Go1 ρ F σ w ρ' F' σ' w' → SR ρ' F' σ' w' → EnvR ρ' F' w' env' a' → a'.defers = a.defers → Q .normal a' w') → wpList cfg.P ops Q l a w
  | [], env, σ, env', σ', h, ρ, F, w, a, hs, he, hn, Q, hQ => by
    simp [evalOps] at h
    obtain ⟨rfl, rfl⟩ := h
    exact hQ a w ρ F (.refl _ _ _ _) hs he rfl
  | o :: r, env, σ, env', σ', h, ρ, F, w, a, hs, he, hn, Q, hQ => by
    simp only [evalOps, Option.bind_eq_some_iff] at h
    obtain ⟨b, hb, h⟩ := h
    have hw := wants_sound (ρ := ρ) (F := F) (w := w) hb (a := a) fun g u d _ _ => he.2 d
    unfold wpList
    split at h
    · rename_i hbt
      rw [hbt] at hw
      rw [if_pos hw]
      simp only [Option.bind_eq_some_iff] at h
      obtain ⟨⟨v, τ⟩, h1, h2⟩ := h
      have k1 := (op_kind hN h1).1
      have k2 : τ.next ≤ σ'.next := evalOps_next hN r _ _ _ _ h2
      refine .inl (op_sound hC h1 hs (fun x _ => he.opd x) (fun id p q => hn id p (by omega)) _ _ fun vc ρ1 F1 w1 g s hv => ?_)
      refine seq_sound hC hN ops r _ _ _ _ h2 ρ1 F1 w1 _ s ((he.go1 g).put o.dst hv) (fun id p q => ?_) Q fun a' w' ρ' F' g' s' he' hd => hQ a' w' ρ' F' (g.trans g') s' he' (by rw [hd, put_defers])
      replace p : τ.next ≤ id := p
      cases hq : ρ1 id with
      | none => rfl
      | some rr =>
        have := g.rng id rr hq (hn id (by omega) q)
        omega
    · rename_i hbt
      have hbf : b = false := by simpa using hbt
      rw [hbf] at hw
      rw [if_neg (by rw [hw]; decide)]
      exact seq_sound hC hN ops r _ _ _ _ h ρ F w _ hs (he.put o.dst unit_vr) hn Q fun a' w' ρ' F' g' s' he' hd => hQ a' w' ρ' F' g' s' he' (by rw [hd, put_defers])

end
end Go.Pvm
