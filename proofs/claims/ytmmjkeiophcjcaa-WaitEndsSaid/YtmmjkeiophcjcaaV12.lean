/- Part of the proof: each operation as the machine carries it out. -/
import Derived.Test.YtmmjkeiophcjcaaV11
set_option linter.unusedSimpArgs false
set_option linter.unusedVariables false
namespace Go.Pvm
section
variable {ρ : Where} {F : Froz} {w : World} {σ : Store}

/-- The slots of a function stand. -/
def EnvR (ρ : Where) (F : Froz) (w : World) (env : List PV) (a : Act) : Prop := a.tmps.size = env.length ∧ ∀ t, VR ρ F w (env.getD t .undef) (a.tmps.getD t undef)

theorem EnvR.opd {env : List PV} {a : Act} (h : EnvR ρ F w env a) (x : Operand) : VR ρ F w (opd env x) (a.eval x) := by
  cases x with
  | tmp t => exact h.2 t
  | const v => exact .pure (ofValue_vp F w v)
  | global g => exact .pure (.undef _)
  | func f => exact .func' (us := []) .nil

theorem EnvR.vrs {env : List PV} {a : Act} (h : EnvR ρ F w env a) (xs : Array Operand) : VRs ρ F w (xs.toList.map (Pvm.opd env)) (xs.toList.map a.eval) :=
  ⟨by simp, fun i c u e e' => by
    rw [List.getElem?_map, Option.map_eq_some_iff] at e e'
    obtain ⟨x, h1, rfl⟩ := e
    obtain ⟨y, h2, rfl⟩ := e'
    rw [h1] at h2
    cases h2
    exact h.opd x⟩

theorem EnvR.put {env : List PV} {a : Act} (h : EnvR ρ F w env a) (d : Option Nat) {v : PV} {c : Value} (hv : VR ρ F w v c) : EnvR ρ F w (putv env d v) (a.put d c) := by
  cases d with
  | none => exact h
  | some t =>
    refine ⟨by simp [putv, Act.put, h.1], fun k => ?_⟩
    have h1 : (a.put (some t) c).tmps = a.tmps.setIfInBounds t c := rfl
    have h2 : putv env (some t) v = env.set t v := rfl
    rw [h1, h2, List.getD_eq_getElem?_getD, Array.getD_eq_getD_getElem?]
    by_cases hk : k = t
    · subst hk
      have hsz := h.1
      by_cases hlt : k < env.length
      · rw [List.getElem?_set_self hlt, Array.getElem?_setIfInBounds_self_of_lt (by omega)]
        exact hv
      · rw [List.getElem?_eq_none (by simp; omega)]
        exact .pure (.undef _)
    · rw [List.getElem?_set_ne (Ne.symm hk), Array.getElem?_setIfInBounds_ne (Ne.symm hk)]
      have := h.2 k
      rwa [List.getD_eq_getElem?_getD, Array.getD_eq_getD_getElem?] at this

theorem EnvR.go1 {ρ' : Where} {F' : Froz} {σ' : Store} {w' : World} {env : List PV} {a : Act} (h : EnvR ρ F w env a) (g : Go1 ρ F σ w ρ' F' σ' w') : EnvR ρ' F' w' env a := ⟨h.1, fun t => g.vr (h.2 t)⟩

/-- How an operation goes on. -/
def OpOk (P : Program) (ρ : Where) (F : Froz) (σ : Store) (w : World) (o : Oper) (a : Act) (v : PV) (σ' : Store) : Prop :=
  ∀ (K : Act → World → Prop) (Q : Exit → Act → World → Prop), (∀ vc ρ' F' w', Go1 ρ F σ w ρ' F' σ' w' → SR ρ' F' σ' w' → VR ρ' F' w' v vc → K (a.put o.dst vc) w') → o.wp P a w K Q

theorem OpOk.of_res {P : Program} {o : Oper} {a : Act} {v : PV} {σ' : Store} {s : Sem Value} (h : Res P ρ F σ w σ' v s) (he : ∀ w', (execOp a.eval o).run P w' = ((do pure (.value (← s))) : Sem Next).run P w') : OpOk P ρ F σ w o a v σ' := by
  intro K Q hK
  obtain ⟨u, ρ', F', w', h1, g, s', hv⟩ := h
  unfold Oper.wp
  rw [he]
  simp only [Sem.run_bind, h1, Result.andThen_ok, Sem.run_pure, Oper.upon_value]
  exact hK u ρ' F' w' g s' hv

theorem OpOk.read {P : Program} {o : Oper} {a : Act} {v : PV} {s : Sem Value} (hs : SR ρ F σ w) (h : ∃ u, s.run P w = .ok u w ∧ VR ρ F w v u) (he : ∀ w', (execOp a.eval o).run P w' = ((do pure (.value (← s))) : Sem Next).run P w') : OpOk P ρ F σ w o a v σ :=
  .of_res (.read hs h) he

theorem unit_vr : VR ρ F w (.tuple []) (.tuple #[]) := .pure (.tuple [] [] (fun _ => .nilFunc) rfl (fun i c e => by simp at e) (fun i c e => by simp at e))

theorem enters_spec {P : Program} {f : FuncId} (h : enters P f = true) : ∃ fn, P.funcs[f]? = some fn ∧ fn.body.isNone = false ∧ (fn.name == "runtime.NumGoroutine") = false := by
  unfold enters at h
  split at h
  · rename_i fn hf
    simp only [Bool.and_eq_true, bne_iff_ne, ne_eq] at h
    exact ⟨fn, hf, by simpa using h.1, by simpa using h.2⟩
  · cases h

theorem fold_run {P : Program} {f : PV → PV → Option PV} {g : Value → Value → Sem Value} (h : ∀ x y z cx cy, f x y = some z → VR ρ F w x cx → VR ρ F w y cy → ∃ u, (g cx cy).run P w = .ok u w ∧ VR ρ F w z u) :
    ∀ (l : List PV) (us : List Value) (x v : PV) (c : Value), foldv f x l = some v → VR ρ F w x c → VRs ρ F w l us → ∃ u, (us.foldlM g c).run P w = .ok u w ∧ VR ρ F w v u
  | [], us, x, v, c, h1, hx, hl => by
    obtain rfl := hl.nil_inv
    simp [foldv] at h1
    subst h1
    exact ⟨c, by simp, hx⟩
  | y :: l, us, x, v, c, h1, hx, hl => by
    obtain ⟨u, us', rfl, hu, hus⟩ := hl.cons_inv
    simp only [foldv, Option.bind_eq_some_iff] at h1
    obtain ⟨z, h2, h3⟩ := h1
    obtain ⟨q, q1, q2⟩ := h x y z c u h2 hx hu
    obtain ⟨r, r1, r2⟩ := fold_run h l us' z v q h3 q2 hus
    exact ⟨r, by simp only [List.foldlM_cons, Sem.run_bind, q1, Result.andThen_ok]; exact r1, r2⟩

theorem pureB_sound {P : Program} {b : Builtin} {ts : List TypeId} {args : List PV} {v : PV} (h : pureB P b ts args = some v) {us : List Value} (hu : VRs ρ F w args us) (ty : TypeId) (cs : Array Bool) :
    ∃ s, builtin b ts.toArray ty cs us.toArray = (do pure (.value (← s))) ∧ ∃ u, s.run P w = .ok u w ∧ VR ρ F w v u := by
  unfold pureB at h
  split at h
  · rename_i t tr x xr
    obtain ⟨cx, us1, rfl, hx, _⟩ := hu.cons_inv
    refine ⟨_, rfl, ?_⟩
    split at h
    · rename_i s hut
      cases h
      obtain rfl := hx.str_inv
      exact ⟨.int .i64 (s.size : Nat), by simp [Builtin.len_, run_underlying hut, goInt], .pure (.int _ _)⟩
    · rename_i e hut
      cases h
      obtain rfl := hx.nilsl_inv
      exact ⟨.int .i64 0, by simp [Builtin.len_, run_underlying hut, goInt], .pure (.int _ _)⟩
    · rename_i e f es hut
      cases h
      obtain ⟨_, b, o, k, rfl, _⟩ := hx.psl_inv
      exact ⟨.int .i64 (es.length : Nat), by simp [Builtin.len_, run_underlying hut, goInt], .pure (.int _ _)⟩
    · rename_i e a1 a2 a3 len a5 hut
      cases h
      obtain ⟨_, _, _, _, _, _, rfl, _⟩ := hx.lsl_inv
      exact ⟨.int .i64 (len : Nat), by simp [Builtin.len_, run_underlying hut, goInt], .pure (.int _ _)⟩
    · cases h
  · -- max
    rename_i x r
    obtain ⟨cx, us1, rfl, hvx, hu1⟩ := hu.cons_inv
    refine ⟨_, rfl, ?_⟩
    exact fold_run (g := Builtin.max2) (fun x y z cx cy h hx hy => by
      unfold max2v at h
      split at h
      · cases h; obtain rfl := hx.int_inv; obtain rfl := hy.int_inv; exact ⟨_, rfl, .pure (.int _ _)⟩
      · cases h) r us1 x v cx h hvx hu1
  · -- min
    rename_i x r
    obtain ⟨cx, us1, rfl, hvx, hu1⟩ := hu.cons_inv
    refine ⟨_, rfl, ?_⟩
    exact fold_run (g := Builtin.min2) (fun x y z cx cy h hx hy => by
      unfold min2v at h
      split at h
      · cases h; obtain rfl := hx.int_inv; obtain rfl := hy.int_inv; exact ⟨_, rfl, .pure (.int _ _)⟩
      · cases h) r us1 x v cx h hvx hu1
  · cases h

theorem builtin_sound {P : Program} (hs : SR ρ F σ w) {b : Builtin} {ts : List TypeId} {args : List PV} {v : PV} {σ' : Store} (h : builtinv P σ b ts args = some (v, σ')) (hn : ∀ id, σ.next ≤ id → id < σ'.next → ρ id = none)
    {us : List Value} (hu : VRs ρ F w args us) (ty : TypeId) (cs : Array Bool) :
    ∃ s, builtin b ts.toArray ty cs us.toArray = (do pure (.value (← s))) ∧ Res P ρ F σ w σ' v s := by
  unfold builtinv at h
  split at h
  · rw [Option.map_eq_some_iff] at h
    obtain ⟨z, hz, heq⟩ := h
    cases heq
    obtain ⟨s, h1, h2⟩ := pureB_sound hz hu ty cs
    exact ⟨s, h1, .read hs h2⟩
  unfold writeB at h
  split at h
  · -- append
    rename_i t u s x _
    obtain ⟨cs', us1, rfl, hvs, hu1⟩ := hu.cons_inv
    obtain ⟨cx, us2, rfl, hvx, hu2⟩ := hu1.cons_inv
    obtain rfl := hu2.nil_inv
    refine ⟨_, rfl, ?_⟩
    split at h
    · rename_i el e2 h1 h2
      split at h
      · cases h
      · exact append_res hs h1 h2 (.inl ⟨_, rfl⟩) h hn hvs hvx
    · rename_i el h1 h2
      split at h
      · exact append_res hs h1 h2 (.inr rfl) h hn hvs hvx
      · cases h
    · cases h
  · -- copy
    rename_i t u d s _
    obtain ⟨cd, us1, rfl, hvd, hu1⟩ := hu.cons_inv
    obtain ⟨cx, us2, rfl, hvx, hu2⟩ := hu1.cons_inv
    obtain rfl := hu2.nil_inv
    refine ⟨_, rfl, ?_⟩
    split at h
    · rename_i el e2 h1 h2
      exact copy_res hs h1 h hvd hvx
    · cases h
  · -- clear
    rename_i t d _
    obtain ⟨cd, us1, rfl, hvd, hu1⟩ := hu.cons_inv
    obtain rfl := hu1.nil_inv
    refine ⟨_, rfl, ?_⟩
    split at h
    · rename_i el h1
      exact clear_res hs h1 h hvd
    · cases h
  · cases h

end
end Go.Pvm
