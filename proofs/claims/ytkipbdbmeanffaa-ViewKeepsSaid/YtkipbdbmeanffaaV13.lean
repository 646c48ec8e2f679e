/- Part of the proof: each operation of a region. -/
import Derived.Test.YtkipbdbmeanffaaV12
set_option linter.unusedSimpArgs false
set_option linter.unusedVariables false
namespace Go.Pvm
section
variable {ρ : Where} {F : Froz} {w : World} {σ : Store}

theorem parts_of {env : List PV} {a : Act} {ps : Array (Nat × Operand)} (h : ∀ x ∈ (ps.toList.map (·.2)), VR ρ F w (opd env x) (a.eval x)) :
    Parts ρ F w (ps.toList.map fun (i, x) => (i, opd env x)) (ps.map fun (i, x) => (i, a.eval x)).toList := by
  have : ∀ l : List (Nat × Operand), (∀ x ∈ l.map (·.2), VR ρ F w (opd env x) (a.eval x)) → Parts ρ F w (l.map fun (i, x) => (i, opd env x)) (l.map fun (i, x) => (i, a.eval x)) := by
    intro l
    induction l with
    | nil => intro _; trivial
    | cons p r ih => intro h; exact ⟨rfl, h _ (by simp), ih fun x hx => h x (by simp [hx])⟩
  have := this ps.toList h
  simpa using this

theorem VRo.map' {f : Operand → PV} {g : Operand → Value} {o : Option Operand} (h : ∀ x, o = some x → VR ρ F w (f x) (g x)) : VRo ρ F w (o.map f) (o.map g) := by
  cases o with
  | none => trivial
  | some x => exact h x rfl

theorem vrs_of {env : List PV} {a : Act} {xs : Array Operand} (h : ∀ x ∈ xs, VR ρ F w (opd env x) (a.eval x)) : VRs ρ F w (xs.toList.map (Pvm.opd env)) (xs.toList.map a.eval) :=
  ⟨by simp, fun i c u e e' => by
    rw [List.getElem?_map, Option.map_eq_some_iff] at e e'
    obtain ⟨x, h1, rfl⟩ := e
    obtain ⟨y, h2, rfl⟩ := e'
    rw [h1] at h2
    cases h2
    exact h x (by simpa using List.mem_of_getElem? h1)⟩

theorem op_sound {cfg : Cfg} {C : CallO} (hC : CallOk cfg.P C) {env : List PV} {o : Oper} {v : PV} {σ' : Store} (h : evalOp cfg C env σ o = some (v, σ')) (hs : SR ρ F σ w) {a : Act} (ho : ∀ x ∈ o.op.operands, VR ρ F w (opd env x) (a.eval x))
    (hn : ∀ id, σ.next ≤ id → id < σ'.next → ρ id = none) : OpOk cfg.P ρ F σ w o a v σ' := by
  obtain ⟨dst, op, type, pos, after, guard⟩ := o
  unfold evalOp at h
  cases op <;> simp only at h
  case move x => cases h; exact .read (s := pure (a.eval x)) hs ⟨_, rfl, ho x (by simp [Op.operands])⟩ fun _ => by simp [execOp]
  case assign x => cases h; exact .read (s := pure (a.eval x)) hs ⟨_, rfl, ho x (by simp [Op.operands])⟩ fun _ => by simp [execOp]
  case pick c x y =>
    split at h
    · rename_i t hc
      cases h
      have h1 := ho c (by simp [Op.operands])
      rw [hc] at h1
      have h2 := h1.bool_inv
      refine .read (s := pure (if t = true then a.eval x else a.eval y)) hs ⟨if t = true then a.eval x else a.eval y, rfl, ?_⟩ fun w' => ?_
      · split
        · exact ho x (by simp [Op.operands])
        · exact ho y (by simp [Op.operands])
      · simp only [execOp, h2, asBool, Sem.run_bind, Sem.run_pure, Result.andThen_ok]
    · cases h
  case alloc el =>
    simp only [Option.bind_eq_some_iff] at h
    obtain ⟨z, hz, h⟩ := h
    split at h
    · rename_i hk
      cases h
      exact .of_res (alloc_res hs (hn _ (Nat.le_refl _) (by simp [Store.push])) hz hk.1 hk.2) fun _ => rfl
    · cases h
  case box el x =>
    split at h
    · rename_i hk
      cases h
      exact .of_res (box_res hs (hn _ (Nat.le_refl _) (by simp [Store.push])) (ho x (by simp [Op.operands])) hk.1 hk.2) fun _ => rfl
    · cases h
  case build t ps =>
    rw [Option.map_eq_some_iff] at h
    obtain ⟨u, hu, heq⟩ := h
    cases heq
    exact .read hs (build_run hu (parts_of fun x hx => ho x (by simpa [Op.operands] using hx))) fun _ => rfl
  case buildSlice t n ps => exact .of_res (buildSl_res hs h hn (parts_of fun x hx => ho x (by simpa [Op.operands] using hx))) fun _ => rfl
  case load t x =>
    have h : (loadv cfg.P σ t (opd env x)).map (·, σ) = some (v, σ') := by
      split at h
      · rw [Option.map_eq_some_iff] at h ⊢
        obtain ⟨u, hu, heq⟩ := h
        refine ⟨u, ?_, heq⟩
        unfold loadcv at hu
        split at hu
        · rename_i cs hq; rw [hq]; exact hu
        · cases hu
      · exact h
    rw [Option.map_eq_some_iff] at h
    obtain ⟨u, hu, heq⟩ := h
    cases heq
    exact .read hs (run_loadv hu hs (ho x (by simp [Op.operands]))) fun _ => rfl
  case store t x y =>
    rw [Option.map_eq_some_iff] at h
    obtain ⟨u, hu, heq⟩ := h
    cases heq
    obtain ⟨w', h1, g, s, _⟩ := store_run (P := cfg.P) hs hu (ho x (by simp [Op.operands])) (ho y (by simp [Op.operands]))
    intro K Q hK
    unfold Oper.wp
    have : (execOp a.eval ⟨dst, .store t x y, type, pos, after, guard⟩).run cfg.P w = .ok .skip w' := by
      simp only [execOp, Sem.run_bind, h1, Result.andThen_ok, Sem.run_pure]
    rw [this]
    exact hK undef ρ F w' g s unit_vr
  case nilCheck x =>
    have h1 := ho x (by simp [Op.operands])
    split at h
    · rename_i p q r hx
      cases h
      rw [hx] at h1
      obtain ⟨rr, _, h2⟩ := h1.ref_inv
      refine .read (s := pure (a.eval x)) hs ⟨a.eval x, rfl, h1⟩ fun w' => ?_
      simp only [execOp, h2, Sem.run_bind, Sem.run_pure, Result.andThen_ok]
    · rename_i cs hx
      cases h
      rw [hx] at h1
      obtain ⟨b, o, h2, _⟩ := h1.pref_inv
      refine .read (s := pure (a.eval x)) hs ⟨a.eval x, rfl, h1⟩ fun w' => ?_
      simp only [execOp, h2, Sem.run_bind, Sem.run_pure, Result.andThen_ok]
    · rename_i f cs hx
      cases h
      rw [hx] at h1
      obtain ⟨us, h2, _⟩ := h1.func_inv
      refine .read (s := pure (a.eval x)) hs ⟨a.eval x, rfl, h1⟩ fun w' => ?_
      simp only [execOp, h2, Sem.run_bind, Sem.run_pure, Result.andThen_ok]
    · cases h
  case binOp op t x y ty =>
    rw [Option.map_eq_some_iff] at h
    obtain ⟨u, hu, heq⟩ := h
    cases heq
    exact .read hs (run_binv hu (ho x (by simp [Op.operands])) (ho y (by simp [Op.operands])) x y) fun _ => rfl
  case unOp op t x =>
    rw [Option.map_eq_some_iff] at h
    obtain ⟨u, hu, heq⟩ := h
    cases heq
    exact .read hs (run_unv hu (ho x (by simp [Op.operands]))) fun _ => rfl
  case convert s d x =>
    rw [Option.map_eq_some_iff] at h
    obtain ⟨u, hu, heq⟩ := h
    cases heq
    exact .read hs (run_convv hs hu (ho x (by simp [Op.operands]))) fun _ => rfl
  case makeFunc fn fs cs =>
    cases fn <;> simp only at h
    case func f =>
      split at h
      · rename_i hf
        cases h
        obtain rfl : fs = #[] := by simpa using hf
        refine .read (s := pure (.func (.func f) #[] (cs.map a.eval))) hs ⟨_, rfl, ?_⟩ fun w' => by simp [execOp, Instr.makeFunc]
        have := VR.func' (f := f) (vrs_of (xs := cs) fun x hx => ho x (by simp [Op.operands, hx]))
        have e : (cs.toList.map a.eval).toArray = cs.map a.eval := by apply Array.ext'; simp
        rwa [e] at this
      · cases h
    all_goals cases h
  case makeSlice t l c => exact .of_res (makeSl_res hs h hn (ho l (by simp [Op.operands])) (ho c (by simp [Op.operands]))) fun _ => rfl
  case slice t x lo hi mx =>
    rw [Option.map_eq_some_iff] at h
    obtain ⟨u, hu, heq⟩ := h
    cases heq
    exact .read hs (run_cutv hu (ho x (by simp [Op.operands])) (VRo.map' fun x hx => ho x (by simp [Op.operands, hx])) (VRo.map' fun x hx => ho x (by simp [Op.operands, hx])) (VRo.map' fun x hx => ho x (by simp [Op.operands, hx]))) fun _ => rfl
  case fieldAddr s x f =>
    rw [Option.map_eq_some_iff] at h
    obtain ⟨u, hu, heq⟩ := h
    cases heq
    exact .read hs (run_fieldAddrv hu (ho x (by simp [Op.operands]))) fun _ => rfl
  case field s x f =>
    rw [Option.map_eq_some_iff] at h
    obtain ⟨u, hu, heq⟩ := h
    cases heq
    exact .read hs (run_fieldv hu (ho x (by simp [Op.operands]))) fun _ => rfl
  case indexAddr t x i =>
    rw [Option.map_eq_some_iff] at h
    obtain ⟨u, hu, heq⟩ := h
    cases heq
    exact .read hs (run_indexAddrv hu (ho x (by simp [Op.operands])) (ho i (by simp [Op.operands]))) fun _ => rfl
  case index t x i =>
    rw [Option.map_eq_some_iff] at h
    obtain ⟨u, hu, heq⟩ := h
    cases heq
    exact .read hs (run_indexv hu (ho x (by simp [Op.operands])) (ho i (by simp [Op.operands]))) fun _ => rfl
  case extract x i =>
    split at h
    · rename_i vs hx
      rw [Option.map_eq_some_iff] at h
      obtain ⟨u, hu, heq⟩ := h
      cases heq
      have h1 := ho x (by simp [Op.operands])
      rw [hx] at h1
      obtain ⟨us, h2, h3⟩ := h1.tuple_inv
      obtain ⟨c, h4, h5⟩ := h3.get hu
      refine .read (s := Instr.extract (a.eval x) i) hs ⟨c, ?_, h5⟩ fun w' => rfl
      simp [Instr.extract, h2, h4]
    · cases h
  case call c =>
    split at h
    · rename_i b hb
      have hm : c.args.toList.map a.eval = (c.args.map a.eval).toList := by simp
      obtain ⟨s, h1, h2⟩ := builtin_sound (P := cfg.P) hs h hn (vrs_of (xs := c.args) fun x hx => ho x (by simp [Op.operands, Call.operands, hx])) type (c.args.map fun | .const _ => true | _ => false)
      refine .of_res h2 fun w' => ?_
      rw [← h1]
      simp only [execOp, resolve, hb, Sem.run_bind, Sem.run_pure, Result.andThen_ok, invoke, Array.toArray_toList, hm]
      rfl
    · rename_i f hf
      split at h
      · rename_i g cs hg
        split at h
        · rename_i hen
          obtain ⟨fn, hfn, hbody, hname⟩ := enters_spec hen
          have h1 := ho f (by simp [Op.operands, Call.operands, hf])
          rw [hg] at h1
          obtain ⟨us, h2, h3⟩ := h1.func_inv
          have hcall := callv_sound hC h hs ((vrs_of (xs := c.args) fun x hx => ho x (by simp [Op.operands, Call.operands, hx])).append h3) hn
          intro K Q hK
          unfold Oper.wp
          have hrun : (execOp a.eval ⟨dst, .call c, type, pos, after, guard⟩).run cfg.P w = .ok (.enter g (c.args.toList.map a.eval ++ us).toArray) w := by
            have hm : (c.args.toList.map a.eval ++ us).toArray = c.args.map a.eval ++ us.toArray := by apply Array.ext'; simp
            simp only [execOp, resolve, hf, h2, Deferred.ofValue, Sem.run_bind, Sem.run_pure, Result.andThen_ok, invoke, callFunc, run_program, hfn, hname, hbody, Bool.false_eq_true, if_false, hm]
            simp
          rw [hrun, Oper.upon_enter]
          exact hcall.mono fun e w' ⟨vc, ρ', F', hee, g, s, hv⟩ => by subst hee; exact hK vc ρ' F' w' g s hv
        · cases h
      · cases h
    · cases h
  all_goals cases h

end
end Go.Pvm
