/- Part of the proof: each operation as the machine carries it out. -/
import Derived.Test.YtkipbdbmeanffaaV11
set_option linter.unusedSimpArgs false
set_option linter.unusedVariables false
namespace Go.Pvm
section
variable {ρ : Where} {F : Froz} {w : World} {σ : Store}

/-- The slots of a function stand. -/
def EnvR (ρ : Where) (F : Froz) (w : World) (env : List PV) (a : Act) : Prop := a.tmps.size = env.length ∧ ∀ t, VR ρ F w (env.getD t .undef) (a.tmps.getD t undef)

theorem EnvR.opd {env : List PV} {a : Act} (h : EnvR ρ F w env a) (x : Operand) : VR ρ F w (opd env x) (a.eval x) := by
  cases x with
  | tmp t => exact h.2 t
  | const v => exact .pure (ofValue_vp F w v)
  | global g => exact .pure (.undef _)
  | func f => exact .func' (us := []) .nil

theorem EnvR.vrs {env : List PV} {a : Act} (h : EnvR ρ F w env a) (xs : Array Operand) : VRs ρ F w (xs.toList.map (Pvm.opd env)) (xs.toList.map a.eval) :=
  ⟨by simp, fun i c u e e' => by
    rw [List.getElem?_map, Option.map_eq_some_iff] at e e'
    obtain ⟨x, h1, rfl⟩ := e
    obtain ⟨y, h2, rfl⟩ := e'
    rw [h1] at h2
    cases h2
    exact h.opd x⟩

theorem EnvR.put {env : List PV} {a : Act} (h : EnvR ρ F w env a) (d : Option Nat) {v : PV} {c : Value} (hv : VR ρ F w v c) : EnvR ρ F w (putv env d v) (a.put d c) := by
  cases d with
  | none => exact h
  | some t =>
    refine ⟨by simp [putv, Act.put, h.1], fun k => ?_⟩
    have h1 : (a.put (some t) c).tmps = a.tmps.setIfInBounds t c := rfl
    have h2 : putv env (some t) v = env.set t v := rfl
    rw [h1, h2, List.getD_eq_getElem?_getD, Array.getD_eq_getD_getElem?]
    by_cases hk : k = t
    · subst hk
      have hsz := h.1
      by_cases hlt : k < env.length
      · rw [List.getElem?_set_self hlt, Array.getElem?_setIfInBounds_self_of_lt (by omega)]
        exact hv
      · rw [List.getElem?_eq_none (by simp; omega)]
        exact .pure (.undef _)
    · rw [List.getElem?_set_ne (Ne.symm hk), Array.getElem?_setIfInBounds_ne (Ne.symm hk)]
      have := h.2 k
      rwa [List.getD_eq_getElem?_getD, Array.getD_eq_getD_getElem?] at this

theorem EnvR.go1 {ρ' : Where} {F' : Froz} {σ' : Store} {w' : World} {env : List PV} {a : Act} (h : EnvR ρ F w env a) (g : Go1 ρ F σ w ρ' F' σ' w') : EnvR ρ' F' w' env a := ⟨h.1, fun t => g.vr (h.2 t)⟩

/-- How an operation goes on. -/
def OpOk (P : Program) (ρ : Where) (F : Froz) (σ : Store) (w : World) (o : Oper) (a : Act) (v : PV) (σ' : Store) : Prop :=
  ∀ (K : Act → World → Prop) (Q : Exit → Act → World → Prop), (∀ vc ρ' F' w', Go1 ρ F σ w ρ' F' σ' w' → SR ρ' F' σ' w' → VR ρ' F' w' v vc → K (a.put o.dst vc) w') → o.wp P a w K Q

theorem OpOk.of_res {P : Program} {o : Oper} {a : Act} {v : PV} {σ' : Store} {s : Sem Value} (h : Res P ρ F σ w σ' v s) (he : ∀ w', (execOp a.eval o).run P w' = ((do pure (.value (← s))) : Sem Next).run P w') : OpOk P ρ F σ w o a v σ' := by
  intro K Q hK
  obtain ⟨u, ρ', F', w', h1, g, s', hv⟩ := h
  unfold Oper.wp
  rw [he]
  simp only [Sem.run_bind, h1, Result.andThen_ok, Sem.run_pure, Oper.upon_value]
  exact hK u ρ' F' w' g s' hv

theorem OpOk.read {P : Program} {o : Oper} {a : Act} {v : PV} {s : Sem Value} (hs : SR ρ F σ w) (h : ∃ u, s.run P w = .ok u w ∧ VR ρ F w v u) (he : ∀ w', (execOp a.eval o).run P w' = ((do pure (.value (← s))) : Sem Next).run P w') : OpOk P ρ F σ w o a v σ :=
  .of_res (.read hs h) he

theorem unit_vr : VR ρ F w (.tuple []) (.tuple #[]) := .pure (.tuple [] [] (fun _ => .nilFunc) rfl (fun i c e => by simp at e) (fun i c e => by simp at e))

theorem enters_spec {P : Program} {f : FuncId} (h : enters P f = true) : ∃ fn, P.funcs[f]? = some fn ∧ fn.body.isNone = false ∧ (fn.name == "runtime.NumGoroutine") = false := by
  unfold enters at h
  split at h
  · rename_i fn hf
    simp only [Bool.and_eq_true, bne_iff_ne, ne_eq] at h
    exact ⟨fn, hf, by simpa using h.1, by simpa using h.2⟩
  · cases h

theorem fold_run {P : Program} {f : PV → PV → Option PV} {g : Value → Value → Sem Value} (h : ∀ x y z cx cy, f x y = some z → VR ρ F w x cx → VR ρ F w y cy → ∃ u, (g cx cy).run P w = .ok u w ∧ VR ρ F w z u) :
    ∀ (l : List PV) (us : List Value) (x v : PV) (c : Value), foldv f x l = some v → VR ρ F w x c → VRs ρ F w l us → ∃ u, (us.foldlM g c).run P w = .ok u w ∧ VR ρ F w v u
  | [], us, x, v, c, h1, hx, hl => by
    obtain rfl := hl.nil_inv
    simp [foldv] at h1
    subst h1
    exact ⟨c, by simp, hx⟩
  | y :: l, us, x, v, c, h1, hx, hl => by
    obtain ⟨u, us', rfl, hu, hus⟩ := hl.cons_inv
    simp only [foldv, Option.bind_eq_some_iff] at h1
    obtain ⟨z, h2, h3⟩ := h1
    obtain ⟨q, q1, q2⟩ := h x y z c u h2 hx hu
    obtain ⟨r, r1, r2⟩ := fold_run h l us' z v q h3 q2 hus
    exact ⟨r, by simp only [List.foldlM_cons, Sem.run_bind, q1, Result.andThen_ok]; exact r1, r2⟩

theorem pureB_sound {P : Program} {b : Builtin} {ts : List TypeId} {args : List PV} {v : PV} (h : pureB P b ts args = some v) {us : List Value} (hu : VRs ρ F w args us) (ty : TypeId) (cs : Array Bool) :
    ∃ s, builtin b ts.toArray ty cs us.toArray = (do pure (.value (← s))) ∧ ∃ u, s.run P w = .ok u w ∧ VR ρ F w v u := by
  unfold pureB at h
  split at h
  · rename_i t tr x xr
    obtain ⟨cx, us1, rfl, hx, _⟩ := hu.cons_inv
    refine ⟨_, rfl, ?_⟩
    split at h
    · rename_i s hut
      cases h
      obtain rfl := hx.str_inv
      exact ⟨.int .i64 (s.size : Nat), by simp [Builtin.len_, run_underlying hut, goInt], .pure (.int _ _)⟩
    · rename_i e hut
      cases h
      obtain rfl := hx.nilsl_inv
      exact ⟨.int .i64 0, by simp [Builtin.len_, run_underlying hut, goInt], .pure (.int _ _)⟩
    · rename_i e f es hut
      cases h
      obtain ⟨_, b, o, sp, k, rfl, _⟩ := hx.psl_inv
      exact ⟨.int .i64 (es.length : Nat), by simp [Builtin.len_, run_underlying hut, goInt], .pure (.int _ _)⟩
    · rename_i e a1 a2 a3 len a5 hut
      cases h
      obtain ⟨_, _, _, _, _, _, rfl, _⟩ := hx.lsl_inv
      exact ⟨.int .i64 (len : Nat), by simp [Builtin.len_, run_underlying hut, goInt], .pure (.int _ _)⟩
    · cases h
  · -- cap
    rename_i t tr x xr
    obtain ⟨cx, us1, rfl, hx, _⟩ := hu.cons_inv
    refine ⟨_, rfl, ?_⟩
    split at h
    · rename_i e hut
      cases h
      obtain rfl := hx.nilsl_inv
      exact ⟨.int .i64 0, by simp [Builtin.cap_, run_underlying hut, goInt], .pure (.int _ _)⟩
    · rename_i e es hut
      cases h
      obtain ⟨_, b, o, sp, k, rfl, _, _, hf, _⟩ := hx.psl_inv
      obtain rfl := hf rfl
      exact ⟨.int .i64 (es.length : Nat), by simp [Builtin.cap_, run_underlying hut, goInt], .pure (.int _ _)⟩
    · rename_i e a1 a2 a3 len c hut
      cases h
      obtain ⟨_, _, _, k, _, _, rfl, _, _, hk, _⟩ := hx.lsl_inv
      obtain ⟨rfl, _⟩ := hk c rfl
      exact ⟨.int .i64 (k : Nat), by simp [Builtin.cap_, run_underlying hut, goInt], .pure (.int _ _)⟩
    · cases h
  · -- max
    rename_i x r
    obtain ⟨cx, us1, rfl, hvx, hu1⟩ := hu.cons_inv
    refine ⟨_, rfl, ?_⟩
    exact fold_run (g := Builtin.max2) (fun x y z cx cy h hx hy => by
      unfold max2v at h
      split at h
      · cases h; obtain rfl := hx.int_inv; obtain rfl := hy.int_inv; exact ⟨_, rfl, .pure (.int _ _)⟩
      · cases h) r us1 x v cx h hvx hu1
  · -- min
    rename_i x r
    obtain ⟨cx, us1, rfl, hvx, hu1⟩ := hu.cons_inv
    refine ⟨_, rfl, ?_⟩
    exact fold_run (g := Builtin.min2) (fun x y z cx cy h hx hy => by
      unfold min2v at h
      split at h
      · cases h; obtain rfl := hx.int_inv; obtain rfl := hy.int_inv; exact ⟨_, rfl, .pure (.int _ _)⟩
      · cases h) r us1 x v cx h hvx hu1
  · cases h

theorem builtin_sound {P : Program} (hs : SR ρ F σ w) {b : Builtin} {ts : List TypeId} {args : List PV} {v : PV} {σ' : Store} (h : builtinv P σ b ts args = some (v, σ')) (hn : ∀ id, σ.next ≤ id → id < σ'.next → ρ id = none)
    {us : List Value} (hu : VRs ρ F w args us) (ty : TypeId) (cs : Array Bool) :
    ∃ s, builtin b ts.toArray ty cs us.toArray = (do pure (.value (← s))) ∧ Res P ρ F σ w σ' v s := by
  unfold builtinv at h
  split at h
  · rw [Option.map_eq_some_iff] at h
    obtain ⟨z, hz, heq⟩ := h
    cases heq
    obtain ⟨s, h1, h2⟩ := pureB_sound hz hu ty cs
    exact ⟨s, h1, .read hs h2⟩
  unfold writeB at h
  split at h
  · -- append
    rename_i t u s x _
    obtain ⟨cs', us1, rfl, hvs, hu1⟩ := hu.cons_inv
    obtain ⟨cx, us2, rfl, hvx, hu2⟩ := hu1.cons_inv
    obtain rfl := hu2.nil_inv
    refine ⟨_, rfl, ?_⟩
    split at h
    · rename_i el e2 h1 h2
      split at h
      · cases h
      · exact append_res hs h1 h2 (.inl ⟨_, rfl⟩) h hn hvs hvx
    · rename_i el h1 h2
      split at h
      · exact append_res hs h1 h2 (.inr rfl) h hn hvs hvx
      · cases h
    · cases h
  · -- copy
    rename_i t u d s _
    obtain ⟨cd, us1, rfl, hvd, hu1⟩ := hu.cons_inv
    obtain ⟨cx, us2, rfl, hvx, hu2⟩ := hu1.cons_inv
    obtain rfl := hu2.nil_inv
    refine ⟨_, rfl, ?_⟩
    split at h
    · rename_i el e2 h1 h2
      exact copy_res hs h1 h hvd hvx
    · cases h
  · -- clear
    rename_i t d _
    obtain ⟨cd, us1, rfl, hvd, hu1⟩ := hu.cons_inv
    obtain rfl := hu1.nil_inv
    refine ⟨_, rfl, ?_⟩
    split at h
    · rename_i el h1
      exact clear_res hs h1 h hvd
    · cases h
  · cases h


/-! ### Variables that are written no more -/
theorem close1_sound {t : Nat} {env env' : List PV} {σ' : Store} (h : close1 t env σ = some (env', σ')) (hs : SR ρ F σ w) {a : Act} (he : EnvR ρ F w env a) :
    ∃ F', Go1 ρ F σ w ρ F' σ' w ∧ SR ρ F' σ' w ∧ EnvR ρ F' w env' a ∧ env'.length = env.length ∧ σ'.next = σ.next := by
  unfold close1 at h
  rw [Option.map_eq_some_iff] at h
  obtain ⟨σ1, hro, heq⟩ := h
  cases heq
  obtain ⟨r1, r2, r3⟩ := roAll_spec _ _ _ hro
  generalize hv : env.getD t .undef = v at hro r2 r3
  let F0 : Froz := fun b o => F b o ∨ ∃ id' r ro es, id' ∈ tops v ∧ ρ id' = some r ∧ σ.objs id' = some (.cells ro es) ∧ r.block = b ∧ o < r.sh + r.n * r.sz
  have hF : ∀ b o, F b o → F0 b o := fun b o e => .inl e
  have hold0 : ∀ b o, F0 b o → b < w.heap.size := fun b o e => by
    rcases e with e | ⟨id', r, ro, es, _, hr, ho, rfl, _⟩
    · exact hs.old b o e
    · exact lv_lt hs ⟨id', r, _, hr, ho, rfl⟩
  have hg : Grew w w := ⟨Nat.le_refl _, fun _ _ => rfl, rfl, rfl, rfl⟩
  have hobj : ∀ i, σ'.objs i = σ.objs i ∨ ∃ ro es, σ.objs i = some (.cells ro es) ∧ σ'.objs i = some (.cells es.length es) := fun i => by
    by_cases hid : i ∈ tops v
    · obtain ⟨ro, es, q1, _, q3⟩ := r2 i hid
      exact .inr ⟨ro, es, q1, q3⟩
    · exact .inl (r3 i hid)
  have hsub : ∀ i o, σ'.objs i = some o → ∃ o', σ.objs i = some o' := fun i o e => by
    rcases hobj i with h | ⟨ro, es, h, _⟩
    · exact ⟨o, by rw [← h]; exact e⟩
    · exact ⟨_, h⟩
  have g : Go1 ρ F σ w ρ F0 σ' w := Go1.of_grew hs hg hF (fun b o e => by
    rcases e with e | ⟨id', r, ro, es, _, hr, ho, rfl, _⟩
    · exact .inl e
    · exact .inr (.inr ⟨id', r, _, hr, ho, rfl⟩)) r1 hsub
  have s : SR ρ F0 σ' w := hs.grew hg hF hold0 r1 hobj (fun i r ro es hr ho o hle e => by
    rcases e with e | ⟨id', r', ro', es', hid', hr', ho', hblk, hlt⟩
    · exact e
    · exfalso
      by_cases hne : id' = i
      · subst hne
        rw [hr] at hr'
        cases hr'
        obtain ⟨ro2, es2, q1, _, q3⟩ := r2 id' hid'
        rw [ho] at q3
        cases q3
        obtain ⟨arr, ty, hb, hp, hnn, _⟩ := (hs.obj id' r _ hr q1).cells_inv
        rw [hnn] at hle
        omega
      · obtain ⟨o2, ho2⟩ := hsub i _ ho
        exact hs.apart id' i r' r _ _ hr' ho' hr ho2 hne hblk)
  have hval : VR ρ F w v (a.tmps.getD t undef) := by rw [← hv]; exact he.2 t
  have hfz : VP F0 w (fz fuelFz σ v) (a.tmps.getD t undef) := fz_vr (Good := fun i => i ∈ tops v) hs hF
    (fun i r ro es hid hr ho => by
      obtain ⟨arr, ty, hb, hp, hnn, hsz, hfit, hrn, hz0, hFF, hcc⟩ := (hs.obj i r _ hr ho).cells_inv
      refine ⟨fun k e hk j x hx => .inr ⟨i, r, ro, es, hid, hr, ho, rfl, ?_⟩, fun e hem x hx id' hid' => ?_⟩
      · have hi : k < r.n := by rw [← hnn]; exact (List.getElem?_eq_some_iff.1 hk).1
        have hj : j < r.sz := by rw [← hsz e (List.mem_of_getElem? hk)]; exact (List.getElem?_eq_some_iff.1 hx).1
        have := mul_lt_of hi hj
        omega
      · obtain ⟨ro', es', q1, q2, _⟩ := r2 i hid
        rw [ho] at q1
        cases q1
        have : x.lf = true := by
          obtain ⟨k, hk⟩ := List.mem_iff_getElem?.1 hx
          exact lfs_get (q2 e hem) k x hk
        rw [tops_lf x this] at hid'
        cases hid') fuelFz _ _ hval fun i hi => hi
  refine ⟨F0, g, s, ⟨by rw [List.length_set]; exact he.1, fun k => ?_⟩, by simp, r1⟩
  rw [List.getD_eq_getElem?_getD]
  by_cases hk : t = k
  · subst hk
    by_cases hlt : t < env.length
    · rw [List.getElem?_set_self hlt]
      exact .pure hfz
    · rw [List.getElem?_eq_none (by simp; omega)]
      exact .pure (.undef _)
  · rw [List.getElem?_set_ne hk, ← List.getD_eq_getElem?_getD]
    exact g.vr (he.2 k)
theorem closeAll_sound : ∀ (l : List Nat) (env : List PV) (σ : Store) (env' : List PV) (σ' : Store), closeAll l env σ = some (env', σ') → ∀ (F : Froz), SR ρ F σ w → ∀ {a : Act}, EnvR ρ F w env a →
    ∃ F', Go1 ρ F σ w ρ F' σ' w ∧ SR ρ F' σ' w ∧ EnvR ρ F' w env' a ∧ env'.length = env.length ∧ σ'.next = σ.next
  | [], env, σ, env', σ', h, F, hs, a, he => by cases h; exact ⟨F, .refl _ _ _ _, hs, he, rfl, rfl⟩
  | t :: l, env, σ, env', σ', h, F, hs, a, he => by
    simp only [closeAll, Option.bind_eq_some_iff] at h
    obtain ⟨⟨e1, σ1⟩, h1, h2⟩ := h
    obtain ⟨F1, g1, s1, r1, n1, x1⟩ := close1_sound h1 hs he
    obtain ⟨F2, g2, s2, r2, n2, x2⟩ := closeAll_sound l _ _ _ _ h2 F1 s1 r1
    exact ⟨F2, g1.trans g2, s2, r2, n2.trans n1, x2.trans x1⟩
theorem close1_len {t : Nat} {env env' : List PV} {σ σ' : Store} (h : close1 t env σ = some (env', σ')) : env'.length = env.length ∧ σ'.next = σ.next ∧ ∀ id, (σ'.objs id = none ↔ σ.objs id = none) := by
  unfold close1 at h
  rw [Option.map_eq_some_iff] at h
  obtain ⟨σ1, hro, heq⟩ := h
  cases heq
  obtain ⟨r1, r2, r3⟩ := roAll_spec _ _ _ hro
  refine ⟨by simp, r1, fun i => ?_⟩
  by_cases hid : i ∈ tops (env.getD t .undef)
  · obtain ⟨ro, es, q1, _, q3⟩ := r2 i hid
    rw [q1, q3]; simp
  · rw [r3 i hid]
theorem closeAll_len : ∀ (l : List Nat) (env : List PV) (σ : Store) (env' : List PV) (σ' : Store), closeAll l env σ = some (env', σ') → env'.length = env.length ∧ σ'.next = σ.next ∧ ∀ id, (σ'.objs id = none ↔ σ.objs id = none)
  | [], env, σ, env', σ', h => by cases h; exact ⟨rfl, rfl, fun _ => Iff.rfl⟩
  | t :: l, env, σ, env', σ', h => by
    simp only [closeAll, Option.bind_eq_some_iff] at h
    obtain ⟨⟨e1, σ1⟩, h1, h2⟩ := h
    obtain ⟨a1, b1, c1⟩ := close1_len h1
    obtain ⟨a2, b2, c2⟩ := closeAll_len l _ _ _ _ h2
    exact ⟨a2.trans a1, b2.trans b1, fun id => (c2 id).trans (c1 id)⟩
theorem pre_sound {cfg : Cfg} {f : FuncId} {id : Nat} {env : List PV} {p : Bool × List PV × Store} (h : pre cfg f id env σ = some p) (hs : SR ρ F σ w) {a : Act} (he : EnvR ρ F w env a) :
    ∃ F', Go1 ρ F σ w ρ F' p.2.2 w ∧ SR ρ F' p.2.2 w ∧ EnvR ρ F' w p.2.1 a ∧ p.2.2.next = σ.next := by
  unfold pre at h
  split at h
  · cases h; exact ⟨F, .refl _ _ _ _, hs, he, rfl⟩
  · rw [Option.map_eq_some_iff] at h
    obtain ⟨⟨e, s⟩, h1, h2⟩ := h
    cases h2
    obtain ⟨F', g, s', r, _, n⟩ := closeAll_sound _ _ _ _ _ h1 F hs he
    exact ⟨F', g, s', r, n⟩
theorem pre_len {cfg : Cfg} {f : FuncId} {id : Nat} {env : List PV} {σ : Store} {p : Bool × List PV × Store} (h : pre cfg f id env σ = some p) : p.2.1.length = env.length ∧ p.2.2.next = σ.next ∧ ∀ id, (p.2.2.objs id = none ↔ σ.objs id = none) := by
  unfold pre at h
  split at h
  · cases h; exact ⟨rfl, rfl, fun _ => Iff.rfl⟩
  · rw [Option.map_eq_some_iff] at h
    obtain ⟨⟨e, s⟩, h1, h2⟩ := h
    cases h2
    exact closeAll_len _ _ _ _ _ h1
end
end Go.Pvm
