import Derived.Test.YtceokplopachgaaP2
import Derived.Orders
import Derived.Tactics
import Derived.Scope
/- Part of the proof: each operation of a region. -/
set_option linter.unusedSimpArgs false
set_option linter.unusedVariables false
namespace Go.Pvm
section
variable {ρ : Where} {F : xx} {w : World} {σ : Store}
theorem zma {env : List PV} {a : Act} {ps : Array (Nat × Operand)} (h : ∀ x ∈ (ps.toList.map (·.2)),VR ρ F w (opd env x) (a.eval x)) :
  zic ρ F w (ps.toList.map fun (i,x) => (i,opd env x)) (ps.map fun (i,x) => (i,a.eval x)).toList := by
 have : ∀ l : List (Nat × Operand),(∀ x ∈ l.map (·.2),VR ρ F w (opd env x) (a.eval x)) → zic ρ F w (l.map fun (i,x) => (i,opd env x)) (l.map fun (i,x) => (i,a.eval x)) := by
  intro l
  induction l with
  | nil => intro _; trivial
  | cons p r ih => intro h; exact ⟨rfl,h _ (by simp),ih fun x hx => h x (by simp [hx])⟩
 have := this ps.toList h
 simpa using this
theorem VRo.map' {f : Operand → PV} {g : Operand → Value} {o : Option Operand} (h : ∀ x,o = some x → VR ρ F w (f x) (g x)) : VRo ρ F w (o.map f) (o.map g) := by
 cases o with
 | none => trivial
 | some x => exact h x rfl
theorem zlr {env : List PV} {a : Act} {xs : Array Operand} (h : ∀ x ∈ xs,VR ρ F w (opd env x) (a.eval x)) : VRs ρ F w (xs.toList.map (Pvm.opd env)) (xs.toList.map a.eval) :=
 ⟨by simp,fun i c u e e' => by
  rw [hav,hac] at e e'
  obtain ⟨x,h1,rfl⟩ := e
  obtain ⟨y,h2,rfl⟩ := e'
  rw [h1] at h2
  cases h2
  exact h x (by simpa using haj h1)⟩
theorem zaw {cfg : Cfg} {C : z7} (hC : zbf cfg.P C) {env : List PV} {o : Oper} {v : PV} {σ' : Store} (h : yc cfg C env σ o = some (v,σ')) (hs : SR ρ F σ w) {a : Act} (ho : ∀ x ∈ o.op.operands,VR ρ F w (opd env x) (a.eval x))
  (hn : ∀ id,σ.next ≤ id → id < σ'.next → ρ id = none) : OpOk cfg.P ρ F σ w o a v σ' := by
 obtain ⟨dst,op,type,pos,after,guard⟩ := o
 unfold yc at h
 cases op <;> simp only at h
 case move x => cases h; exact .read (s := pure (a.eval x)) hs ⟨_,rfl,ho x (by simp [Op.operands])⟩ fun _ => by simp [execOp]
 case assign x => cases h; exact .read (s := pure (a.eval x)) hs ⟨_,rfl,ho x (by simp [Op.operands])⟩ fun _ => by simp [execOp]
 case pick c x y =>
  split at h
  ·rename_i t hc
   cases h
   have h1 := ho c (by simp [Op.operands])
   rw [hc] at h1
   have h2 := h1.bool_inv
   refine .read (s := pure (if t = true then a.eval x else a.eval y)) hs ⟨if t = true then a.eval x else a.eval y,rfl,?_⟩ fun w' => ?_
   ·split
    ·exact ho x (by simp [Op.operands])
    ·exact ho y (by simp [Op.operands])
   ·simp only [execOp,h2,asBool,Sem.run_bind,Sem.run_pure,Result.andThen_ok]
  ·cases h
 case alloc el =>
  simp only [haa] at h
  obtain ⟨z,hz,h⟩ := h
  split at h
  ·rename_i hk
   cases h
   exact .of_res (zrl hs (hn _ (hah _) (by simp [Store.push])) hz hk.1 hk.2) fun _ => rfl
  ·cases h
 case box el x =>
  split at h
  ·rename_i hk
   cases h
   exact .of_res (zvl hs (hn _ (hah _) (by simp [Store.push])) (ho x (by simp [Op.operands])) hk.1 hk.2) fun _ => rfl
  ·cases h
 case build t ps =>
  rw [hac] at h
  obtain ⟨u,hu,heq⟩ := h
  cases heq
  exact .read hs (zre hu (zma fun x hx => ho x (by simpa [Op.operands] using hx))) fun _ => rfl
 case buildSlice t n ps => exact .of_res (zlh hs h hn (zma fun x hx => ho x (by simpa [Op.operands] using hx))) fun _ => rfl
 case load t x =>
  have h : (zd cfg.P σ t (opd env x)).map (·,σ) = some (v,σ') := by
   split at h
   ·rw [hac] at h ⊢
    obtain ⟨u,hu,heq⟩ := h
    refine ⟨u,?_,heq⟩
    unfold zbb at hu
    split at hu
    ·rename_i cs hq; rw [hq]; exact hu
    ·cases hu
   ·exact h
  rw [hac] at h
  obtain ⟨u,hu,heq⟩ := h
  cases heq
  exact .read hs (zim hu hs (ho x (by simp [Op.operands]))) fun _ => rfl
 case store t x y =>
  rw [hac] at h
  obtain ⟨u,hu,heq⟩ := h
  cases heq
  obtain ⟨w',h1,g,s,_⟩ := zo8 (P := cfg.P) hs hu (ho x (by simp [Op.operands])) (ho y (by simp [Op.operands]))
  intro K Q hK
  unfold Oper.wp
  have : (execOp a.eval ⟨dst,.store t x y,type,pos,after,guard⟩).run cfg.P w = .ok .skip w' := by
   simp only [execOp,Sem.run_bind,h1,Result.andThen_ok,Sem.run_pure]
  rw [this]
  exact hK undef ρ F w' g s zbh
 case nilCheck x =>
  have h1 := ho x (by simp [Op.operands])
  split at h
  ·rename_i p q r hx
   cases h
   rw [hx] at h1
   obtain ⟨rr,_,h2⟩ := h1.ref_inv
   refine .read (s := pure (a.eval x)) hs ⟨a.eval x,rfl,h1⟩ fun w' => ?_
   simp only [execOp,h2,Sem.run_bind,Sem.run_pure,Result.andThen_ok]
  ·rename_i cs hx
   cases h
   rw [hx] at h1
   obtain ⟨b,o,h2,_⟩ := h1.pref_inv
   refine .read (s := pure (a.eval x)) hs ⟨a.eval x,rfl,h1⟩ fun w' => ?_
   simp only [execOp,h2,Sem.run_bind,Sem.run_pure,Result.andThen_ok]
  ·rename_i f cs hx
   cases h
   rw [hx] at h1
   obtain ⟨us,h2,_⟩ := h1.func_inv
   refine .read (s := pure (a.eval x)) hs ⟨a.eval x,rfl,h1⟩ fun w' => ?_
   simp only [execOp,h2,Sem.run_bind,Sem.run_pure,Result.andThen_ok]
  ·cases h
 case binOp op t x y ty =>
  rw [hac] at h
  obtain ⟨u,hu,heq⟩ := h
  cases heq
  exact .read hs (zr4 hu (ho x (by simp [Op.operands])) (ho y (by simp [Op.operands])) x y) fun _ => rfl
 case unOp op t x =>
  rw [hac] at h
  obtain ⟨u,hu,heq⟩ := h
  cases heq
  exact .read hs (zuj hu (ho x (by simp [Op.operands]))) fun _ => rfl
 case convert s d x =>
  rw [hac] at h
  obtain ⟨u,hu,heq⟩ := h
  cases heq
  exact .read hs (zpl hs hu (ho x (by simp [Op.operands]))) fun _ => rfl
 case makeFunc fn fs cs =>
  cases fn <;> simp only at h
  case func f =>
   split at h
   ·rename_i hf
    cases h
    obtain rfl : fs = #[] := by simpa using hf
    refine .read (s := pure (.func (.func f) #[] (cs.map a.eval))) hs ⟨_,rfl,?_⟩ fun w' => by simp [execOp,Instr.makeFunc]
    have := VR.func' (f := f) (zlr (xs := cs) fun x hx => ho x (by simp [Op.operands,hx]))
    have e : (cs.toList.map a.eval).toArray = cs.map a.eval := by apply Array.ext'; simp
    rwa [e] at this
   ·cases h
  all_goals cases h
 case makeSlice t l c => exact .of_res (znw hs h hn (ho l (by simp [Op.operands])) (ho c (by simp [Op.operands]))) fun _ => rfl
 case slice t x lo hi mx =>
  rw [hac] at h
  obtain ⟨u,hu,heq⟩ := h
  cases heq
  exact .read hs (zr3 hu (ho x (by simp [Op.operands])) (VRo.map' fun x hx => ho x (by simp [Op.operands,hx])) (VRo.map' fun x hx => ho x (by simp [Op.operands,hx])) (VRo.map' fun x hx => ho x (by simp [Op.operands,hx]))) fun _ => rfl
 case fieldAddr s x f =>
  rw [hac] at h
  obtain ⟨u,hu,heq⟩ := h
  cases heq
  exact .read hs (zft hu (ho x (by simp [Op.operands]))) fun _ => rfl
 case field s x f =>
  rw [hac] at h
  obtain ⟨u,hu,heq⟩ := h
  cases heq
  exact .read hs (znj hu (ho x (by simp [Op.operands]))) fun _ => rfl
 case indexAddr t x i =>
  rw [hac] at h
  obtain ⟨u,hu,heq⟩ := h
  cases heq
  exact .read hs (zfs hu (ho x (by simp [Op.operands])) (ho i (by simp [Op.operands]))) fun _ => rfl
 case index t x i =>
  rw [hac] at h
  obtain ⟨u,hu,heq⟩ := h
  cases heq
  exact .read hs (zni hu (ho x (by simp [Op.operands])) (ho i (by simp [Op.operands]))) fun _ => rfl
 case extract x i =>
  split at h
  ·rename_i vs hx
   rw [hac] at h
   obtain ⟨u,hu,heq⟩ := h
   cases heq
   have h1 := ho x (by simp [Op.operands])
   rw [hx] at h1
   obtain ⟨us,h2,h3⟩ := h1.tuple_inv
   obtain ⟨c,h4,h5⟩ := h3.get hu
   refine .read (s := Instr.extract (a.eval x) i) hs ⟨c,?_,h5⟩ fun w' => rfl
   simp [Instr.extract,h2,h4]
  ·cases h
 case makeMap t hnt =>
  exact .of_res (zky h hs (hn _ (hah _) (by
   have : σ' = σ.push (.map []) := by
    unfold qg at h
    rw [haa] at h
    obtain ⟨_,_,h⟩ := h
    split at h <;> first | (cases h; rfl) | cases h
   subst this
   simp [Store.push])) (VRo.map' fun x hx => ho x (by simp [Op.operands,hx]))) fun _ => rfl
 case lookup t x k ok =>
  rw [hac] at h
  obtain ⟨u,hu,heq⟩ := h
  cases heq
  exact .read hs (zke hu hs (ho x (by simp [Op.operands])) (ho k (by simp [Op.operands]))) fun _ => rfl
 case mapUpdate t x k y =>
  rw [hac] at h
  obtain ⟨u,hu,heq⟩ := h
  cases heq
  obtain ⟨w',h1,g,s⟩ := znt (P := cfg.P) hu hs (ho x (by simp [Op.operands])) (ho k (by simp [Op.operands])) (ho y (by simp [Op.operands]))
  intro K Q hK
  unfold Oper.wp
  have : (execOp a.eval ⟨dst,.mapUpdate t x k y,type,pos,after,guard⟩).run cfg.P w = .ok .skip w' := by
   simp only [execOp,Sem.run_bind,h1,Result.andThen_ok,Sem.run_pure]
  rw [this]
  exact hK undef ρ F w' g s zbh
 case call c =>
  split at h
  ·rename_i b hb
   split at h
   ·-- a map's length
    rename_i hml
    unfold va at hml
    split at hml
    ·rename_i t ht
     split at hml
     ·rename_i kt vt hu
      split at h
      ·rename_i x hx
       rw [hac] at h
       obtain ⟨u,hu',heq⟩ := h
       cases heq
       have hargs : c.args = #[x] := by apply Array.ext'; simpa using hx
       have hts : c.argTypes = #[t] := by apply Array.ext'; simpa using ht
       refine .read (s := Builtin.len_ #[t] type #[a.eval x]) hs (zkd hu' hs (ho x (by simp [Op.operands,Call.operands,hargs])) hu) fun w' => ?_
       simp only [execOp,resolve,hb,Sem.run_bind,Sem.run_pure,Result.andThen_ok,invoke,hargs,hts]
       rw [show Array.map a.eval #[x] = #[a.eval x] by simp]
       show Sem.run cfg.P (do pure (Next.value (← Builtin.len_ #[t] type #[a.eval x]))) w' = _
       rw [Sem.run_bind]
       rfl
      ·cases h
     ·cases hml
    ·cases hml
   have hm : c.args.toList.map a.eval = (c.args.map a.eval).toList := by simp
   obtain ⟨s,h1,h2⟩ := zh6 (P := cfg.P) hs h hn (zlr (xs := c.args) fun x hx => ho x (by simp [Op.operands,Call.operands,hx])) type (c.args.map fun | .const _ => true | _ => false)
   refine .of_res h2 fun w' => ?_
   rw [← h1]
   simp only [execOp,resolve,hb,Sem.run_bind,Sem.run_pure,Result.andThen_ok,invoke,Array.toArray_toList,hm]
   rfl
  ·rename_i f hf
   split at h
   ·rename_i g cs hg
    unfold zi at h
    split at h
    ·rename_i hen
     obtain ⟨fn,hfn,hbody,hname⟩ := zk5 hen
     have h1 := ho f (by simp [Op.operands,Call.operands,hf])
     rw [hg] at h1
     obtain ⟨us,h2,h3⟩ := h1.func_inv
     have hcall := zlc hC h hs ((zlr (xs := c.args) fun x hx => ho x (by simp [Op.operands,Call.operands,hx])).append h3) hn
     intro K Q hK
     unfold Oper.wp
     have hrun : (execOp a.eval ⟨dst,.call c,type,pos,after,guard⟩).run cfg.P w = .ok (.enter g (c.args.toList.map a.eval ++ us).toArray) w := by
      have hm : (c.args.toList.map a.eval ++ us).toArray = c.args.map a.eval ++ us.toArray := by apply Array.ext'; simp
      simp only [execOp,resolve,hf,h2,Deferred.ofValue,Sem.run_bind,Sem.run_pure,Result.andThen_ok,invoke,callFunc,run_program,hfn,hname,hbody,Bool.false_eq_true,if_false,hm]
      simp
     rw [hrun,Oper.upon_enter]
     exact hcall.mono fun e w' ⟨vc,ρ',F',hee,g,s,hv⟩ => by subst hee; exact hK vc ρ' F' w' g s hv
    ·have h1 := ho f (by simp [Op.operands,Call.operands,hf])
     rw [hg] at h1
     obtain ⟨us,h2,h3⟩ := h1.func_inv
     obtain ⟨rfl,u,hu1,hu2⟩ := zod hs h ((zlr (xs := c.args) fun x hx => ho x (by simp [Op.operands,Call.operands,hx])).append h3)
     intro K Q hK
     unfold Oper.wp
     have hrun : (execOp a.eval ⟨dst,.call c,type,pos,after,guard⟩).run cfg.P w = .ok (.value u) w := by
      have hm : (c.args.toList.map a.eval ++ us).toArray = c.args.map a.eval ++ us.toArray := by apply Array.ext'; simp
      rw [hm] at hu1
      simp only [execOp,resolve,hf,h2,Deferred.ofValue,Sem.run_bind,Sem.run_pure,Result.andThen_ok,invoke]
      simpa using hu1
     rw [hrun]
     exact hK u ρ F w (.refl _ _ _ _) hs hu2
   ·cases h
  ·cases h
 all_goals cases h
end
end Go.Pvm
namespace Go.Pvm
def ja (C : z7) : Prop := ∀ f a σ v σ',C f a σ = some (v,σ') → σ.next ≤ σ'.next
theorem zdq {P : Program} {σ σ' : Store} {el : TypeId} {s x v : PV} (h : xz P σ el s x = some (v,σ')) : σ.next ≤ σ'.next := by
 unfold xz at h
 simp only [haa] at h
 obtain ⟨sz,hsz,by_,hby,z,hz,new,hx,h⟩ := h
 split at h
 ·cases h
 split at h
 ·cases h
 split at h
 ·split at h
  ·cases h; exact hah _
  ·split at h
   ·cases h; exact hbd _
   ·cases h
 ·split at h
  ·cases h; exact hah _
  ·split at h
   ·split at h
    ·split at h
     ·cases h; exact hbd _
     ·cases h
    ·cases h
   ·cases h
 ·split at h
  ·cases h; exact hah _
  ·split at h
   ·cases h
   ·split at h
    ·split at h
     ·split at h
      ·cases h; exact hah _
      ·cases h
     ·split at h
      ·split at h
       ·split at h
        ·split at h
         ·cases h; exact hbd _
         ·cases h
        ·split at h
         ·cases h; exact hbd _
         ·cases h
       ·cases h
      ·cases h
    ·cases h
 ·cases h
theorem zoj {P : Program} {σ σ' : Store} {el : TypeId} {d s v : PV} (h : zf0 P σ el d s = some (v,σ')) : σ'.next = σ.next := by
 unfold zf0 at h
 simp only [haa] at h
 obtain ⟨sz,hsz,src,hx,h⟩ := h
 split at h
 ·cases h
 split at h
 ·split at h
  ·cases h; rfl
  ·cases h
 ·split at h
  ·cases h
  ·split at h
   ·split at h
    ·split at h
     ·cases h; rfl
     ·cases h
    ·cases h
   ·cases h
 ·cases h
theorem zla {P : Program} {σ σ' : Store} {el : TypeId} {d v : PV} (h : zbd P σ el d = some (v,σ')) : σ'.next = σ.next := by
 unfold zbd at h
 simp only [haa] at h
 obtain ⟨sz,hsz,z,hz,h⟩ := h
 split at h
 ·cases h
 split at h
 ·cases h; rfl
 ·split at h
  ·cases h
  ·split at h
   ·split at h
    ·cases h; rfl
    ·cases h
   ·cases h
 ·cases h
theorem zia {P : Program} {σ σ' : Store} {el : TypeId} {s v : PV} {n : Int} (h : vd P σ el s n = some (v,σ')) : σ.next ≤ σ'.next := by
 unfold vd at h
 simp only [haa] at h
 obtain ⟨_,_,_,_,_,_,h⟩ := h
 split at h
 ·cases h
 ·split at h
  ·split at h
   ·split at h
    ·cases h; exact hbd _
    ·cases h
   ·cases h
  ·split at h
   ·cases h; exact hbd _
   ·cases h
  ·cases h
theorem zh5 {P : Program} {σ σ' : Store} {b : Builtin} {ts : List TypeId} {args : List PV} {v : PV} (h : jo P σ b ts args = some (v,σ')) : σ.next ≤ σ'.next := by
 unfold jo at h
 split at h
 ·rw [hac] at h
  obtain ⟨_,_,h⟩ := h
  cases h; exact hah _
 unfold y7 at h
 split at h
 ·split at h
  ·split at h
   ·cases h
   ·exact zdq h
  ·split at h
   ·exact zdq h
   ·cases h
  ·split at h
   ·exact zia h
   ·cases h
  ·cases h
 ·split at h
  ·exact Nat.le_of_eq (zoj h).symm
  ·cases h
 ·split at h
  ·exact Nat.le_of_eq (zla h).symm
  ·cases h
 ·rw [hac] at h
  obtain ⟨τ,h1,h2⟩ := h
  cases h2
  obtain ⟨_,_,_,_,_,rfl⟩ := zex h1
  exact hah _
 ·cases h
theorem zfc {cfg : Cfg} {f : FuncId} {args : List PV} {σ σ' : Store} {v : PV} (h : ztu cfg f args σ = some (v,σ')) : σ' = σ := by
 unfold ztu at h
 split at h
 ·rw [hac] at h; obtain ⟨_,_,e⟩ := h; cases e; rfl
 ·rw [hac] at h; obtain ⟨_,_,e⟩ := h; cases e; rfl
 ·cases h
theorem zgr {cfg : Cfg} {C : z7} (hC : ja C) {σ σ' : Store} {f : FuncId} {args : List PV} {v : PV} (h : qq cfg C f args σ = some (v,σ')) : σ.next ≤ σ'.next := by
 unfold qq at h
 split at h
 ·exact hC _ _ _ _ _ h
 ·simp only [haa] at h
  obtain ⟨⟨v0,τ⟩,hc,h⟩ := h
  simp only at h
  split at h
  ·cases h; exact hah _
  ·split at h
   ·split at h
    ·cases h; exact hah _
    ·cases h
   ·rw [hac] at h
    obtain ⟨σ1,hro,heq⟩ := h
    cases heq
    exact Nat.le_of_eq (vg _ _ _ hro).1.symm
 ·simp only [haa] at h
  obtain ⟨⟨v0,τ⟩,hc,h⟩ := h
  simp only at h
  split at h
  ·cases h
   exact hC f _ (Store.at_ σ.next) v τ hc
  ·cases h
 ·simp only [haa] at h
  obtain ⟨⟨v0,τ⟩,hc,h⟩ := h
  simp only at h
  split at h
  ·cases h; exact hah _
  ·cases h
theorem zct {P : Program} {σ σ' : Store} {t : TypeId} {n : Nat} {ps : List (Nat × PV)} {v : PV} (h : xt P σ t n ps = some (v,σ')) : ∃ o,σ' = σ.push o ∧ ∀ τ : Store,τ.next = σ.next → xt P τ t n ps = some (v,τ.push o) := by
 unfold xt at h ⊢
 split at h
 ·rename_i el hu
  simp only [haa] at h
  obtain ⟨sz,h1,z,h2,h⟩ := h
  split at h
  ·rename_i hc
   rw [hac] at h
   obtain ⟨es,h3,heq⟩ := h
   cases heq
   refine ⟨_,rfl,fun τ hτ => ?_⟩
   simp only [hu,h1,h2,Option.bind_some,if_pos hc,h3,Option.map_some,hτ]
  ·cases h
 ·cases h
theorem zdg {P : Program} {σ σ' : Store} {t : TypeId} {l c : PV} {v : PV} (h : qw P σ t l c = some (v,σ')) : ∃ o,σ' = σ.push o ∧ ∀ τ : Store,τ.next = σ.next → qw P τ t l c = some (v,τ.push o) := by
 unfold qw at h ⊢
 split at h
 ·rename_i el k1 n1 k2 n2 hu
  simp only [haa] at h
  obtain ⟨sz,h1,by_,h2,z,h3,h⟩ := h
  split at h
  ·rename_i hc
   cases h
   refine ⟨_,rfl,fun τ hτ => ?_⟩
   simp only [hu,h1,h2,h3,Option.bind_some,if_pos hc,hτ]
  ·cases h
 ·cases h
theorem zj6 {P : Program} {σ σ' : Store} {t : TypeId} {a v : PV} (h : zu P σ t a v = some σ') : σ'.next = σ.next := by
 unfold zu at h
 split at h
 ·split at h
  ·simp only [haa] at h
   obtain ⟨e,_,n,_,h⟩ := h
   split at h
   ·cases h; rfl
   ·cases h
  ·cases h
 ·cases h
theorem zc0 {cfg : Cfg} {C : z7} (hC : ja C) {env : List PV} {o : Oper} {v : PV} {σ σ' : Store} (h : yc cfg C env σ o = some (v,σ')) :
  σ.next ≤ σ'.next ∧ (touch cfg o = 0 → σ' = σ ∧ ∀ τ,yc cfg C env τ o = some (v,τ)) ∧ (cfg.strict = true → touch cfg o ≠ 3 → ∀ id,id < σ.next → σ'.objs id = σ.objs id) ∧ (touch cfg o = 1 → ∃ ob,σ' = σ.push ob ∧ ∀ τ : Store,τ.next = σ.next → yc cfg C env τ o = some (v,τ.push ob)) := by
 obtain ⟨dst,op,type,pos,after,guard⟩ := o
 have same : ∀ {q : Option PV} {f : Store → Option PV},touch cfg ⟨dst,op,type,pos,after,guard⟩ ≠ 1 → (∀ τ,yc cfg C env τ ⟨dst,op,type,pos,after,guard⟩ = q.map (·,τ)) →
   σ.next ≤ σ'.next ∧ (touch cfg ⟨dst,op,type,pos,after,guard⟩ = 0 → σ' = σ ∧ ∀ τ,yc cfg C env τ ⟨dst,op,type,pos,after,guard⟩ = some (v,τ)) ∧ (cfg.strict = true → touch cfg ⟨dst,op,type,pos,after,guard⟩ ≠ 3 → ∀ id,id < σ.next → σ'.objs id = σ.objs id) ∧ (touch cfg ⟨dst,op,type,pos,after,guard⟩ = 1 → ∃ ob,σ' = σ.push ob ∧ ∀ τ : Store,τ.next = σ.next → yc cfg C env τ ⟨dst,op,type,pos,after,guard⟩ = some (v,τ.push ob)) := by
  intro q f hne hq
  have h0 := h
  rw [hq σ,hac] at h0
  obtain ⟨u,hu,heq⟩ := h0
  cases heq
  exact ⟨hah _,fun _ => ⟨rfl,fun τ => by rw [hq τ,hu]; rfl⟩,fun _ _ _ _ => rfl,fun h1 => absurd h1 hne⟩
 have pushed : ∀ {ob : Obj},touch cfg ⟨dst,op,type,pos,after,guard⟩ = 1 → σ' = σ.push ob → (∀ τ : Store,τ.next = σ.next → yc cfg C env τ ⟨dst,op,type,pos,after,guard⟩ = some (v,τ.push ob)) →
   σ.next ≤ σ'.next ∧ (touch cfg ⟨dst,op,type,pos,after,guard⟩ = 0 → σ' = σ ∧ ∀ τ,yc cfg C env τ ⟨dst,op,type,pos,after,guard⟩ = some (v,τ)) ∧ (cfg.strict = true → touch cfg ⟨dst,op,type,pos,after,guard⟩ ≠ 3 → ∀ id,id < σ.next → σ'.objs id = σ.objs id) ∧ (touch cfg ⟨dst,op,type,pos,after,guard⟩ = 1 → ∃ ob,σ' = σ.push ob ∧ ∀ τ : Store,τ.next = σ.next → yc cfg C env τ ⟨dst,op,type,pos,after,guard⟩ = some (v,τ.push ob)) := by
  rintro ob ht rfl hev
  refine ⟨hbd _,fun h0 => absurd (ht.symm.trans h0) (by decide),fun _ _ id hid => ?_,fun _ => ⟨ob,rfl,hev⟩⟩
  show (if id = σ.next then some ob else σ.objs id) = σ.objs id
  rw [if_neg (by omega)]
 have read2 : touch cfg ⟨dst,op,type,pos,after,guard⟩ = 2 → σ' = σ →
   σ.next ≤ σ'.next ∧ (touch cfg ⟨dst,op,type,pos,after,guard⟩ = 0 → σ' = σ ∧ ∀ τ,yc cfg C env τ ⟨dst,op,type,pos,after,guard⟩ = some (v,τ)) ∧ (cfg.strict = true → touch cfg ⟨dst,op,type,pos,after,guard⟩ ≠ 3 → ∀ id,id < σ.next → σ'.objs id = σ.objs id) ∧ (touch cfg ⟨dst,op,type,pos,after,guard⟩ = 1 → ∃ ob,σ' = σ.push ob ∧ ∀ τ : Store,τ.next = σ.next → yc cfg C env τ ⟨dst,op,type,pos,after,guard⟩ = some (v,τ.push ob)) := by
  rintro ht rfl
  exact ⟨hah _,fun h0 => absurd (ht.symm.trans h0) (by decide),fun _ _ _ _ => rfl,fun h1 => absurd (ht.symm.trans h1) (by decide)⟩
 have wrote : touch cfg ⟨dst,op,type,pos,after,guard⟩ = 3 → σ.next ≤ σ'.next →
   σ.next ≤ σ'.next ∧ (touch cfg ⟨dst,op,type,pos,after,guard⟩ = 0 → σ' = σ ∧ ∀ τ,yc cfg C env τ ⟨dst,op,type,pos,after,guard⟩ = some (v,τ)) ∧ (cfg.strict = true → touch cfg ⟨dst,op,type,pos,after,guard⟩ ≠ 3 → ∀ id,id < σ.next → σ'.objs id = σ.objs id) ∧ (touch cfg ⟨dst,op,type,pos,after,guard⟩ = 1 → ∃ ob,σ' = σ.push ob ∧ ∀ τ : Store,τ.next = σ.next → yc cfg C env τ ⟨dst,op,type,pos,after,guard⟩ = some (v,τ.push ob)) :=
  fun ht hle => ⟨hle,fun h0 => absurd (ht.symm.trans h0) (by decide),fun _ h3 => absurd ht h3,fun h1 => absurd (ht.symm.trans h1) (by decide)⟩
 cases op
 case move x => exact same (show (0 : Nat) ≠ 1 by decide) (q := some (opd env x)) (f := fun _ => none) fun _ => rfl
 case assign x => exact same (show (0 : Nat) ≠ 1 by decide) (q := some (opd env x)) (f := fun _ => none) fun _ => rfl
 case pick c x y =>
  refine same (show (0 : Nat) ≠ 1 by decide) (q := match opd env c with | .bool t => some (if t = true then opd env x else opd env y) | _ => none) (f := fun _ => none) fun τ => ?_
  simp only [yc]
  generalize opd env c = z
  cases z <;> rfl
 case alloc el =>
  simp only [yc,haa] at h
  obtain ⟨z,hz,h⟩ := h
  split at h
  ·cases h
   exact pushed rfl rfl fun τ hτ => by
    simp only [yc]
    rw [(by assumption : jc cfg.P el = some z)]
    simp only [Option.bind_some]
    rw [if_pos (by assumption),hτ]
  ·cases h
 case box el x =>
  simp only [yc] at h
  split at h
  ·cases h
   exact pushed rfl rfl fun τ hτ => by
    simp only [yc]
    rw [if_pos (by assumption),hτ]
  ·cases h
 case build t ps => exact same (show (0 : Nat) ≠ 1 by decide) (q := jz cfg.P t (ps.toList.map fun (i,x) => (i,opd env x))) (f := fun _ => none) fun _ => rfl
 case buildSlice t n ps =>
  obtain ⟨ob,e,k⟩ := zct h
  exact pushed rfl e k
 case makeSlice t l c =>
  obtain ⟨ob,e,k⟩ := zdg h
  exact pushed rfl e k
 case load t x =>
  by_cases hcalm : zjo cfg x = true
  ·exact same (by show (if zjo cfg x = true then 0 else 2) ≠ 1; rw [if_pos hcalm]; decide) (q := zbb cfg.P t (opd env x)) (f := fun _ => none) fun τ => by
    simp only [yc]
    rw [if_pos hcalm]
  ·simp only [yc,if_neg hcalm,hac] at h
   obtain ⟨_,_,heq⟩ := h
   cases heq
   refine read2 ?_ rfl
   show (if zjo cfg x = true then 0 else 2) = 2
   rw [if_neg hcalm]
 case convert s d x =>
  simp only [yc,hac] at h
  obtain ⟨_,_,heq⟩ := h
  cases heq
  exact read2 rfl rfl
 case store t x y =>
  simp only [yc,hac] at h
  obtain ⟨s,hs,heq⟩ := h
  cases heq
  exact wrote rfl (Nat.le_of_eq (zj6 hs).symm)
 case nilCheck x =>
  refine same (show (0 : Nat) ≠ 1 by decide) (q := match opd env x with | .ref a b c => some (.ref a b c) | .pref cs => some (.pref cs) | .func f cs => some (.func f cs) | _ => none) (f := fun _ => none) fun τ => ?_
  simp only [yc]
  generalize opd env x = z
  cases z <;> rfl
 case binOp op t x y ty => exact same (show (0 : Nat) ≠ 1 by decide) (q := j9 cfg.P op t (opd env x) (opd env y)) (f := fun _ => none) fun _ => rfl
 case unOp op t x => exact same (show (0 : Nat) ≠ 1 by decide) (q := unv op (opd env x)) (f := fun _ => none) fun _ => rfl
 case makeFunc fn fs cs =>
  cases fn
  case func f =>
   refine same (show (0 : Nat) ≠ 1 by decide) (q := if fs.size = 0 then some (.func f (cs.toList.map (opd env))) else none) (f := fun _ => none) fun τ => ?_
   simp only [yc]
   split <;> rfl
  all_goals (simp only [yc] at h; cases h)
 case slice t x lo hi mx => exact same (show (0 : Nat) ≠ 1 by decide) (q := zai cfg.P t (opd env x) (lo.map (opd env)) (hi.map (opd env)) (mx.map (opd env))) (f := fun _ => none) fun _ => rfl
 case fieldAddr s x f => exact same (show (0 : Nat) ≠ 1 by decide) (q := zj cfg.P s (opd env x) f) (f := fun _ => none) fun _ => rfl
 case field s x f => exact same (show (0 : Nat) ≠ 1 by decide) (q := zdm cfg.P s (opd env x) f) (f := fun _ => none) fun _ => rfl
 case indexAddr t x i => exact same (show (0 : Nat) ≠ 1 by decide) (q := zh cfg.P t (opd env x) (opd env i)) (f := fun _ => none) fun _ => rfl
 case index t x i => exact same (show (0 : Nat) ≠ 1 by decide) (q := zck cfg.P t (opd env x) (opd env i)) (f := fun _ => none) fun _ => rfl
 case extract x i =>
  refine same (show (0 : Nat) ≠ 1 by decide) (q := match opd env x with | .tuple vs => vs[i]? | _ => none) (f := fun _ => none) fun τ => ?_
  simp only [yc]
  generalize opd env x = z
  cases z <;> rfl
 case makeMap t hnt =>
  obtain ⟨e1,rfl,e3⟩ := zcg h
  exact pushed rfl e1 fun τ hτ => by
   show qg cfg.P τ t (hnt.map (opd env)) = _
   rw [e3 τ,hτ]
 case lookup t x k ok =>
  simp only [yc,hac] at h
  obtain ⟨_,_,heq⟩ := h
  cases heq
  exact read2 rfl rfl
 case mapUpdate t x k y =>
  simp only [yc,hac] at h
  obtain ⟨s,hs,heq⟩ := h
  cases heq
  obtain ⟨id,kvs,kvs',_,_,rfl⟩ := zev hs
  exact wrote rfl (hah _)
 case call c =>
  obtain ⟨callee,args,argTypes⟩ := c
  cases callee
  case builtin b =>
   by_cases hml : va cfg.P b argTypes.toList = true
   ·have h' : (match args.toList with | [x] => (zew σ (opd env x)).map (·,σ) | _ => none) = some (v,σ') := by
     have h2 := h
     simp only [yc,if_pos hml] at h2
     exact h2
    split at h'
    ·rw [hac] at h'
     obtain ⟨_,_,heq⟩ := h'
     cases heq
     refine read2 ?_ rfl
     show (if va cfg.P b argTypes.toList = true then 2 else if zh4 b = true then 0 else 3) = 2
     rw [if_pos hml]
    ·cases h'
   have hb : jo cfg.P σ b argTypes.toList (args.toList.map (opd env)) = some (v,σ') := by
    have h2 := h
    simp only [yc,if_neg hml] at h2
    exact h2
   by_cases hp : zh4 b = true
   ·exact same (by show (if va cfg.P b argTypes.toList = true then 2 else if zh4 b = true then 0 else 3) ≠ 1; rw [if_neg hml,if_pos hp]; decide) (q := jd cfg.P b argTypes.toList (args.toList.map (opd env))) (f := fun _ => none) fun τ => by
     simp only [yc,if_neg hml]
     unfold jo
     rw [if_pos hp]
   ·refine wrote ?_ (zh5 hb)
    show (if va cfg.P b argTypes.toList = true then 2 else if zh4 b = true then 0 else 3) = 3
    rw [if_neg hml,if_neg hp]
  case value f =>
   have hv : (match opd env f with | .func g cs => zi cfg C g (args.toList.map (opd env) ++ cs) σ | _ => none) = some (v,σ') := h
   cases f
   case func g =>
    have hv2 : zi cfg C g (args.toList.map (opd env) ++ []) σ = some (v,σ') := hv
    unfold zi at hv2
    split at hv2
    ·have hnx := zgr hC hv2
     by_cases hm : cfg.mode g = .live
     ·refine wrote ?_ hnx
      show (if cfg.mode g = .live then 3 else if cfg.mode g = .blind then 0 else 2) = 3
      rw [if_pos hm]
     by_cases hbl : cfg.mode g = .blind
     ·have ht : touch cfg ⟨dst,.call ⟨.value (.func g),args,argTypes⟩,type,pos,after,guard⟩ = 0 := by
       show (if cfg.mode g = .live then 3 else if cfg.mode g = .blind then 0 else 2) = 0
       rw [if_neg hm,if_pos hbl]
      unfold qq at hv2
      rw [hbl] at hv2
      simp only [haa] at hv2
      obtain ⟨⟨v0,τ0⟩,hc,hv2⟩ := hv2
      simp only at hv2
      split at hv2
      ·rename_i h0
       cases hv2
       refine ⟨hnx,fun _ => ⟨rfl,fun τ => ?_⟩,fun _ _ _ _ => rfl,fun h1 => absurd (ht.symm.trans h1) (by decide)⟩
       show zi cfg C g (args.toList.map (opd env) ++ []) τ = some (v,τ)
       unfold zi
       rw [if_pos (by assumption)]
       unfold qq
       rw [hbl]
       simp only [hc,Option.bind_some,h0,if_true]
      ·cases hv2
     ·have ht : touch cfg ⟨dst,.call ⟨.value (.func g),args,argTypes⟩,type,pos,after,guard⟩ = 2 := by
       show (if cfg.mode g = .live then 3 else if cfg.mode g = .blind then 0 else 2) = 2
       rw [if_neg hm,if_neg hbl]
      refine ⟨hnx,fun h0 => absurd (ht.symm.trans h0) (by decide),fun hst _ id hid => ?_,fun h1 => absurd (ht.symm.trans h1) (by decide)⟩
      unfold qq at hv2
      split at hv2
      ·rename_i hl; exact absurd hl hm
      ·simp only [haa] at hv2
       obtain ⟨⟨v0,τ⟩,hc,hv2⟩ := hv2
       simp only at hv2
       split at hv2
       ·cases hv2; rfl
       ·split at hv2
        ·cases hv2; rfl
        ·cases hv2
      ·simp only [haa] at hv2
       obtain ⟨⟨v0,τ⟩,hc,hv2⟩ := hv2
       simp only at hv2
       split at hv2
       ·cases hv2
        show (if id < σ.next then σ.objs id else τ.objs id) = σ.objs id
        rw [if_pos hid]
       ·cases hv2
      ·rename_i hl; exact absurd hl hbl
    ·rename_i hen
     obtain rfl := zfc hv2
     by_cases hm : cfg.mode g = .live
     ·unfold ztu at hv2; rw [hm] at hv2; cases hv2
     by_cases hbl : cfg.mode g = .blind
     ·have ht : touch cfg ⟨dst,.call ⟨.value (.func g),args,argTypes⟩,type,pos,after,guard⟩ = 0 := by
       show (if cfg.mode g = .live then 3 else if cfg.mode g = .blind then 0 else 2) = 0
       rw [if_neg hm,if_pos hbl]
      refine ⟨hah _,fun _ => ⟨rfl,fun τ => ?_⟩,fun _ _ _ _ => rfl,fun h1 => absurd (ht.symm.trans h1) (by decide)⟩
      show zi cfg C g (args.toList.map (opd env) ++ []) τ = some (v,τ)
      unfold zi
      rw [if_neg hen]
      unfold ztu at hv2 ⊢
      rw [hbl] at hv2 ⊢
      simp only [hac] at hv2 ⊢
      obtain ⟨x,hx,e⟩ := hv2
      cases e
      exact ⟨v,hx,rfl⟩
     ·have ht : touch cfg ⟨dst,.call ⟨.value (.func g),args,argTypes⟩,type,pos,after,guard⟩ = 2 := by
       show (if cfg.mode g = .live then 3 else if cfg.mode g = .blind then 0 else 2) = 2
       rw [if_neg hm,if_neg hbl]
      exact ⟨hah _,fun h0 => absurd (ht.symm.trans h0) (by decide),fun _ _ _ _ => rfl,fun h1 => absurd (ht.symm.trans h1) (by decide)⟩
   all_goals
    refine wrote rfl ?_
    split at hv
    ·unfold zi at hv
     split at hv
     ·exact zgr hC hv
     ·rw [zfc hv]; exact hah _
    ·cases hv
  case invoke r m => cases h
 all_goals (simp only [yc] at h; cases h)
end Go.Pvm
namespace Go.Pvm
def Store.Clean (σ : Store) : Prop := ∀ id,σ.next ≤ id → σ.objs id = none
def zao (C : z7) : Prop := ∀ f a σ v σ',C f a σ = some (v,σ') → σ.Clean → σ'.Clean
theorem Store.Clean.push {σ : Store} (h : σ.Clean) (o : Obj) : (σ.push o).Clean := fun id hid => by
 replace hid : σ.next + 1 ≤ id := hid
 show (if id = σ.next then some o else σ.objs id) = none
 rw [if_neg (by omega)]
 exact h id (by omega)
theorem Store.Clean.kill {σ : Store} (h : σ.Clean) (i : Nat) : (σ.kill i).Clean := fun id hid => by
 show (if id = i then none else σ.objs id) = none
 split
 ·rfl
 ·exact h id hid
theorem Store.Clean.put {σ : Store} (h : σ.Clean) {i : Nat} {o o' : Obj} (hi : σ.objs i = some o) : (σ.put i o').Clean := fun id hid => by
 show (if id = i then some o' else σ.objs id) = none
 split
 ·rename_i e
  subst e
  have := h id hid
  rw [hi] at this
  cases this
 ·exact h id hid
theorem Store.Clean.at_ (n : Nat) : (Store.at_ n).Clean := fun _ _ => rfl
theorem zcv {P : Program} {σ σ' : Store} {el : TypeId} {s x v : PV} (h : xz P σ el s x = some (v,σ')) (hc : σ.Clean) : σ'.Clean := by
 unfold xz at h
 simp only [haa] at h
 obtain ⟨sz,hsz,by_,hby,z,hz,new,hx,h⟩ := h
 split at h
 ·cases h
 split at h
 ·cases h
 split at h
 ·split at h
  ·cases h; exact hc
  ·split at h
   ·cases h; exact hc.push _
   ·cases h
 ·split at h
  ·cases h; exact hc
  ·split at h
   ·split at h
    ·split at h
     ·cases h; exact hc.push _
     ·cases h
    ·cases h
   ·cases h
 ·split at h
  ·cases h; exact hc
  ·split at h
   ·cases h
   ·split at h
    ·rename_i ho
     split at h
     ·split at h
      ·cases h; exact hc.put ho
      ·cases h
     ·split at h
      ·split at h
       ·split at h
        ·split at h
         ·cases h; exact hc.push _
         ·cases h
        ·split at h
         ·cases h; exact (hc.kill _).push _
         ·cases h
       ·cases h
      ·cases h
    ·cases h
 ·cases h
theorem zk9 {P : Program} {σ σ' : Store} {el : TypeId} {d s v : PV} (h : zf0 P σ el d s = some (v,σ')) (hc : σ.Clean) : σ'.Clean := by
 unfold zf0 at h
 simp only [haa] at h
 obtain ⟨sz,hsz,src,hx,h⟩ := h
 split at h
 ·cases h
 split at h
 ·split at h
  ·cases h; exact hc
  ·cases h
 ·split at h
  ·cases h
  ·split at h
   ·rename_i ho
    split at h
    ·split at h
     ·cases h; exact hc.put ho
     ·cases h
    ·cases h
   ·cases h
 ·cases h
theorem zjn {P : Program} {σ σ' : Store} {el : TypeId} {d v : PV} (h : zbd P σ el d = some (v,σ')) (hc : σ.Clean) : σ'.Clean := by
 unfold zbd at h
 simp only [haa] at h
 obtain ⟨sz,hsz,z,hz,h⟩ := h
 split at h
 ·cases h
 split at h
 ·cases h; exact hc
 ·split at h
  ·cases h
  ·split at h
   ·rename_i ho
    split at h
    ·cases h; exact hc.put ho
    ·cases h
   ·cases h
 ·cases h
theorem zf5 {P : Program} {σ σ' : Store} {el : TypeId} {s v : PV} {n : Int} (h : vd P σ el s n = some (v,σ')) (hc : σ.Clean) : σ'.Clean := by
 unfold vd at h
 simp only [haa] at h
 obtain ⟨_,_,_,_,_,_,h⟩ := h
 split at h
 ·cases h
 ·split at h
  ·split at h
   ·split at h
    ·cases h; exact hc.push _
    ·cases h
   ·cases h
  ·split at h
   ·cases h; exact hc.push _
   ·cases h
  ·cases h
theorem zf3 {P : Program} {σ σ' : Store} {b : Builtin} {ts : List TypeId} {args : List PV} {v : PV} (h : jo P σ b ts args = some (v,σ')) (hc : σ.Clean) : σ'.Clean := by
 unfold jo at h
 split at h
 ·rw [hac] at h
  obtain ⟨_,_,h⟩ := h
  cases h; exact hc
 unfold y7 at h
 split at h
 ·split at h
  ·split at h
   ·cases h
   ·exact zcv h hc
  ·split at h
   ·exact zcv h hc
   ·cases h
  ·split at h
   ·exact zf5 h hc
   ·cases h
  ·cases h
 ·split at h
  ·exact zk9 h hc
  ·cases h
 ·split at h
  ·exact zjn h hc
  ·cases h
 ·rw [hac] at h
  obtain ⟨τ,h1,h2⟩ := h
  cases h2
  obtain ⟨_,_,_,_,ho,rfl⟩ := zex h1
  exact hc.put ho
 ·cases h
theorem zld {cfg : Cfg} {C : z7} (hN : ja C) (hC : zao C) {σ σ' : Store} {f : FuncId} {args : List PV} {v : PV} (h : qq cfg C f args σ = some (v,σ')) (hc : σ.Clean) : σ'.Clean := by
 unfold qq at h
 split at h
 ·exact hC _ _ _ _ _ h hc
 ·simp only [haa] at h
  obtain ⟨⟨v0,τ⟩,hcc,h⟩ := h
  simp only at h
  split at h
  ·cases h; exact hc
  ·split at h
   ·split at h
    ·cases h; exact hc
    ·cases h
   ·rw [hac] at h
    obtain ⟨σ1,hro,heq⟩ := h
    cases heq
    obtain ⟨r1,r2,r3⟩ := vg _ _ _ hro
    intro id hid
    rw [r1] at hid
    by_cases hm : id ∈ tops.topss args
    ·obtain ⟨ro,es,q1,_⟩ := r2 id hm
     rw [hc id hid] at q1
     cases q1
    ·rw [r3 id hm]; exact hc id hid
 ·simp only [haa] at h
  obtain ⟨⟨v0,τ⟩,hcc,h⟩ := h
  simp only at h
  split at h
  ·cases h
   have h1 := hC _ _ _ _ _ hcc (.at_ _)
   have h2 := hN _ _ _ _ _ hcc
   replace h2 : σ.next ≤ τ.next := h2
   intro id hid
   replace hid : τ.next ≤ id := hid
   show (if id < σ.next then σ.objs id else τ.objs id) = none
   rw [if_neg (by omega)]
   exact h1 id hid
  ·cases h
 ·simp only [haa] at h
  obtain ⟨⟨v0,τ⟩,hcc,h⟩ := h
  simp only at h
  split at h
  ·cases h; exact hc
  ·cases h
theorem zmd {cfg : Cfg} {C : z7} (hN : ja C) (hC : zao C) {env : List PV} {o : Oper} {v : PV} {σ σ' : Store} (h : yc cfg C env σ o = some (v,σ')) (hc : σ.Clean) : σ'.Clean := by
 obtain ⟨dst,op,type,pos,after,guard⟩ := o
 unfold yc at h
 have keep : ∀ {q : Option PV},q.map (·,σ) = some (v,σ') → σ'.Clean := fun {q} hq => by
  rw [hac] at hq
  obtain ⟨_,_,heq⟩ := hq
  cases heq
  exact hc
 cases op <;> simp only at h
 case move x => cases h; exact hc
 case assign x => cases h; exact hc
 case pick c x y =>
  split at h
  ·cases h; exact hc
  ·cases h
 case alloc el =>
  simp only [haa] at h
  obtain ⟨z,hz,h⟩ := h
  split at h
  ·cases h; exact hc.push _
  ·cases h
 case box el x =>
  split at h
  ·cases h; exact hc.push _
  ·cases h
 case build t ps => exact keep h
 case buildSlice t n ps =>
  obtain ⟨ob,rfl,_⟩ := zct h
  exact hc.push _
 case load t x =>
  split at h
  ·exact keep h
  ·exact keep h
 case store t x y =>
  rw [hac] at h
  obtain ⟨u,hu,heq⟩ := h
  cases heq
  unfold zu at hu
  split at hu
  ·split at hu
   ·rename_i ho
    simp only [haa] at hu
    obtain ⟨e,_,n,_,hu⟩ := hu
    split at hu
    ·cases hu; exact hc.put ho
    ·cases hu
   ·cases hu
  ·cases hu
 case nilCheck x => split at h <;> first | (cases h; exact hc) | cases h
 case binOp op t x y ty => exact keep h
 case unOp op t x => exact keep h
 case convert s d x => exact keep h
 case makeFunc fn fs cs =>
  cases fn <;> simp only at h
  case func f =>
   split at h
   ·cases h; exact hc
   ·cases h
  all_goals cases h
 case makeSlice t l c =>
  obtain ⟨ob,rfl,_⟩ := zdg h
  exact hc.push _
 case slice t x lo hi mx => exact keep h
 case fieldAddr s x f => exact keep h
 case field s x f => exact keep h
 case indexAddr t x i => exact keep h
 case index t x i => exact keep h
 case extract x i =>
  split at h
  ·exact keep h
  ·cases h
 case makeMap t hnt =>
  obtain ⟨rfl,_⟩ := zcg h
  exact hc.push _
 case lookup t x k ok => exact keep h
 case mapUpdate t x k y =>
  rw [hac] at h
  obtain ⟨u,hu,heq⟩ := h
  cases heq
  obtain ⟨id,kvs,kvs',_,ho,rfl⟩ := zev hu
  exact hc.put ho
 case call c =>
  split at h
  ·split at h
   ·split at h
    ·exact keep h
    ·cases h
   ·exact zf3 h hc
  ·split at h
   ·unfold zi at h
    split at h
    ·exact zld hN hC h hc
    ·rw [zfc h]; exact hc
   ·cases h
  ·cases h
 all_goals cases h
section
variable {ρ : Where} {F : xx} {w : World} {σ : Store}
theorem zcy (a : Act) (d : Option Tmp) (v : Value) : (a.put d v).defers = a.defers := by cases d <;> rfl
theorem zeg {ops : Array Oper} {env : List PV} {o : Oper} {b : Bool} (h : vy ops.toList env o = some b) {a : Act} (he : ∀ g u d,o.guard = some (g,u) → (ops[g]?).bind (·.dst) = some d → VR ρ F w (env.getD d .undef) (a.tmps.getD d undef)) :
  Region.wanted o (yielded ops a.tmps) = b := by
 unfold vy at h
 unfold Region.wanted
 split at h
 ·rename_i hg
  rw [hg]
  cases h
  rfl
 ·rename_i g u hg
  rw [hg]
  simp only
  split at h
  ·rename_i d hd
   have hd' : (ops[g]?).bind (·.dst) = some d := by simpa using hd
   have hv := he g u d hg hd'
   unfold yielded
   rw [hd']
   simp only [Option.bind_some]
   split at h
   ·rename_i x hx
    cases h
    rw [hx] at hv
    have h1 := hv.bool_inv
    have h2 : a.tmps[d]? = some (.bool x) := by
     rw [Array.getD_eq_getD_getElem?] at h1
     cases hq : a.tmps[d]? with
     | none => rw [hq] at h1; simp [undef] at h1
     | some y => rw [hq] at h1; simp at h1; rw [h1]
    rw [h2]
    cases x <;> cases u <;> rfl
   ·rename_i vs hx
    cases h
    rw [hx] at hv
    obtain ⟨us,h1,_⟩ := hv.tuple_inv
    cases hq : a.tmps[d]? with
    | none => rfl
    | some y =>
      rw [Array.getD_eq_getD_getElem?,hq] at h1
      simp at h1
      subst h1
      rfl
   ·cases h
  ·cases h
theorem j7 {cfg : Cfg} {C : z7} {env : List PV} {σ : Store} {o : Oper} {r : PV × Store} (h : zof cfg C env σ o = some r) : zaf cfg env o = true ∧ yc cfg C env σ o = some r := by
 unfold zof at h
 split at h
 ·rename_i hg; exact ⟨hg,h⟩
 ·cases h
theorem zea {cfg : Cfg} {C : z7} {env : List PV} {σ : Store} {o : Oper} (h : zaf cfg env o = true) : zof cfg C env σ o = yc cfg C env σ o := if_pos h
theorem ku {cfg : Cfg} {C : z7} (hN : ja C) {all : List Oper} : ∀ (l : List Oper) (env : List PV) (σ : Store) (env' : List PV) (σ' : Store),y4 cfg C all l env σ = some (env',σ') → σ.next ≤ σ'.next
 | [],env,σ,env',σ',h => by simp [y4] at h; rw [h.2]; exact hah _
 | o :: r,env,σ,env',σ',h => by
   simp only [y4,haa] at h
   obtain ⟨b,hb,h⟩ := h
   split at h
   ·simp only [haa] at h
    obtain ⟨⟨v,τ⟩,h1,h2⟩ := h
    replace h1 := (j7 h1).2
    exact haz (zc0 hN h1).1 (ku hN r _ _ _ _ h2)
   ·exact ku hN r _ _ _ _ h
theorem vb {cfg : Cfg} {C : z7} (hN : ja C) (hC : zao C) {all : List Oper} : ∀ (l : List Oper) (env : List PV) (σ : Store) (env' : List PV) (σ' : Store),y4 cfg C all l env σ = some (env',σ') → σ.Clean → σ'.Clean
 | [],env,σ,env',σ',h,hc => by simp [y4] at h; rw [← h.2]; exact hc
 | o :: r,env,σ,env',σ',h,hc => by
   simp only [y4,haa] at h
   obtain ⟨b,hb,h⟩ := h
   split at h
   ·simp only [haa] at h
    obtain ⟨⟨v,τ⟩,h1,h2⟩ := h
    replace h1 := (j7 h1).2
    exact vb hN hC r _ _ _ _ h2 (zmd hN hC h1 hc)
   ·exact vb hN hC r _ _ _ _ h hc
theorem zej {cfg : Cfg} {C : z7} (hC : zbf cfg.P C) (hN : ja C) (ops : Array Oper) : ∀ (l : List Oper) (env : List PV) (σ : Store) (env' : List PV) (σ' : Store),y4 cfg C ops.toList l env σ = some (env',σ') →
  ∀ (ρ : Where) (F : xx) (w : World) (a : Act),SR ρ F σ w → EnvR ρ F w env a → (∀ id,σ.next ≤ id → id < σ'.next → ρ id = none) →
  ∀ Q : Exit → Act → World → Prop,(∀ a' w' ρ' F',Go1 ρ F σ w ρ' F' σ' w' → SR ρ' F' σ' w' → EnvR ρ' F' w' env' a' → a'.defers = a.defers → Q .normal a' w') → wpList cfg.P ops Q l a w
 | [],env,σ,env',σ',h,ρ,F,w,a,hs,he,hn,Q,hQ => by
   simp [y4] at h
   obtain ⟨rfl,rfl⟩ := h
   exact hQ a w ρ F (.refl _ _ _ _) hs he rfl
 | o :: r,env,σ,env',σ',h,ρ,F,w,a,hs,he,hn,Q,hQ => by
   simp only [y4,haa] at h
   obtain ⟨b,hb,h⟩ := h
   have hw := zeg (ρ := ρ) (F := F) (w := w) hb (a := a) fun g u d _ _ => he.2 d
   unfold wpList
   split at h
   ·rename_i hbt
    rw [hbt] at hw
    rw [if_pos hw]
    simp only [haa] at h
    obtain ⟨⟨v,τ⟩,h1,h2⟩ := h
    replace h1 := (j7 h1).2
    have k1 := (zc0 hN h1).1
    have k2 : τ.next ≤ σ'.next := ku hN r _ _ _ _ h2
    refine .inl (zaw hC h1 hs (fun x _ => he.opd x) (fun id p q => hn id p (by omega)) _ _ fun vc ρ1 F1 w1 g s hv => ?_)
    refine zej hC hN ops r _ _ _ _ h2 ρ1 F1 w1 _ s ((he.go1 g).put o.dst hv) (fun id p q => ?_) Q fun a' w' ρ' F' g' s' he' hd => hQ a' w' ρ' F' (g.trans g') s' he' (by rw [hd,zcy])
    replace p : τ.next ≤ id := p
    cases hq : ρ1 id with
    | none => rfl
    | some rr =>
      have := g.rng id rr hq (hn id (by omega) q)
      omega
   ·rename_i hbt
    have hbf : b = false := by simpa using hbt
    rw [hbf] at hw
    rw [if_neg (by rw [hw]; decide)]
    exact zej hC hN ops r _ _ _ _ h ρ F w _ hs (he.put o.dst zbh) hn Q fun a' w' ρ' F' g' s' he' hd => hQ a' w' ρ' F' g' s' he' (by rw [hd,zcy])
end
end Go.Pvm
namespace Go.Pvm
def zno (acc : List Nat) (o : Oper) : Nat := o.after.toList.foldl (fun s e => if Region.binds .any e then s ||| 2 ^ e.on ||| acc.getD e.on 0 else s) 0
theorem zal (l : List Oper) (o : Oper) : jp (l ++ [o]) = jp l ++ [zno (jp l) o] := by
 simp [jp,zno,List.foldl_append]
theorem zpg {α : Type} {P : List α → Prop} (h0 : P []) (h1 : ∀ l a,P l → P (l ++ [a])) (l : List α) : P l := by
 rw [← List.reverse_reverse l]
 induction l.reverse with
 | nil => exact h0
 | cons a r ih => rw [List.reverse_cons]; exact h1 _ _ ih
theorem zf4 (l : List Oper) : (jp l).length = l.length := by
 refine zpg (P := fun l => (jp l).length = l.length) rfl (fun l o ih => ?_) l
 rw [zal]; simp [ih]
theorem zje (b : Edge → Bool) (f : Edge → Nat) (j : Nat) : ∀ (es : List Edge) (s0 : Nat),(es.foldl (fun s e => if b e then s ||| 2 ^ e.on ||| f e else s) s0).testBit j = true → s0.testBit j = true ∨ ∃ e ∈ es,b e = true ∧ (e.on = j ∨ (f e).testBit j = true)
 | [],s0,h => .inl h
 | e :: r,s0,h => by
   rw [List.foldl_cons] at h
   rcases zje b f j r _ h with h1 | ⟨e',he',h2⟩
   ·split at h1
    ·rename_i hb
     rw [Nat.testBit_or,Nat.testBit_or,Bool.or_eq_true,Bool.or_eq_true,Nat.testBit_two_pow] at h1
     rcases h1 with (h1 | h1) | h1
     ·exact .inl h1
     ·exact .inr ⟨e,.head _,hb,.inl (by simpa using h1)⟩
     ·exact .inr ⟨e,.head _,hb,.inr h1⟩
    ·exact .inl h1
   ·exact .inr ⟨e',.tail _ he',h2⟩
theorem zli (ops : List Oper) (i : Nat) (o : Oper) (ho : ops[i]? = some o) (hed : ∀ e ∈ o.after.toList,Region.binds .any e = true → e.on < i) (j : Nat) (h : ((jp ops).getD i 0).testBit j = true) :
  ∃ e ∈ o.after.toList,Region.binds .any e = true ∧ (e.on = j ∨ ((jp ops).getD e.on 0).testBit j = true) := by
 have key : ∀ l : List Oper,∀ i o,l[i]? = some o → (∀ e ∈ o.after.toList,Region.binds .any e = true → e.on < i) → ((jp l).getD i 0).testBit j = true →
   ∃ e ∈ o.after.toList,Region.binds .any e = true ∧ (e.on = j ∨ ((jp l).getD e.on 0).testBit j = true) := by
  intro l
  refine zpg (P := fun l => ∀ i o,l[i]? = some o → (∀ e ∈ o.after.toList,Region.binds .any e = true → e.on < i) → ((jp l).getD i 0).testBit j = true →
   ∃ e ∈ o.after.toList,Region.binds .any e = true ∧ (e.on = j ∨ ((jp l).getD e.on 0).testBit j = true)) ?_ ?_ l
  ·intro i o h; simp at h
  ·intro l a ih i o ho hed hb
   have hlen := zf4 l
   have pre : ∀ k,k < l.length → (jp (l ++ [a])).getD k 0 = (jp l).getD k 0 := fun k hk => by
    rw [zal,hai,hbh (by omega),hai]
   by_cases hi : i < l.length
   ·rw [hbh hi] at ho
    rw [pre i hi] at hb
    obtain ⟨e,he,h1,h2⟩ := ih i o ho hed hb
    refine ⟨e,he,h1,h2.imp id fun h2 => ?_⟩
    rw [pre _ (Nat.lt_trans (hed e he h1) hi)]
    exact h2
   ·have hil : i = l.length := by
     have := (had.1 ho).1
     simp at this
     omega
    subst hil
    rw [List.getElem?_append_right (hah _),Nat.sub_self] at ho
    cases ho
    rw [zal,hai,List.getElem?_append_right (by omega),hlen,Nat.sub_self] at hb
    have hb' : (zno (jp l) a).testBit j = true := hb
    rcases zje _ _ _ _ _ hb' with h0 | ⟨e,he,h1,h2⟩
    ·simp at h0
    ·exact ⟨e,he,h1,h2.imp id fun h2 => by rw [pre _ (hed e he h1)]; exact h2⟩
 exact key ops i o ho hed h
structure Run (cfg : Cfg) (C : z7) (ops : List Oper) (E : Nat → List PV) (S : Nat → Store) (V : Nat → PV) : Prop where
 step : ∀ i o,ops[i]? = some o → E (i + 1) = zfu (E i) o.dst (V i) ∧
  ((vy ops (E i) o = some true ∧ yc cfg C (E i) (S i) o = some (V i,S (i + 1))) ∨ (vy ops (E i) o = some false ∧ V i = .tuple [] ∧ S (i + 1) = S i))
 gd : ∀ i o,ops[i]? = some o → vy ops (E i) o = some true → zaf cfg (E i) o = true
theorem zpj {cfg : Cfg} {C : z7} {all : List Oper} : ∀ (l : List Oper) (env : List PV) (σ : Store) (env' : List PV) (σ' : Store),y4 cfg C all l env σ = some (env',σ') →
  ∃ (E : Nat → List PV) (S : Nat → Store) (V : Nat → PV),E 0 = env ∧ S 0 = σ ∧ E l.length = env' ∧ S l.length = σ' ∧ ∀ i o,l[i]? = some o → E (i + 1) = zfu (E i) o.dst (V i) ∧
  ((vy all (E i) o = some true ∧ yc cfg C (E i) (S i) o = some (V i,S (i + 1))) ∨ (vy all (E i) o = some false ∧ V i = .tuple [] ∧ S (i + 1) = S i)) ∧ (vy all (E i) o = some true → zaf cfg (E i) o = true)
 | [],env,σ,env',σ',h => by
   simp [y4] at h
   exact ⟨fun _ => env,fun _ => σ,fun _ => .undef,rfl,rfl,h.1,h.2,fun i o e => by simp at e⟩
 | o :: r,env,σ,env',σ',h => by
   simp only [y4,haa] at h
   obtain ⟨b,hb,h⟩ := h
   split at h
   ·rename_i hbt
    subst hbt
    simp only [haa] at h
    obtain ⟨⟨v,τ⟩,h1,h2⟩ := h
    have hgd := (j7 h1).1
    replace h1 := (j7 h1).2
    obtain ⟨E,S,V,e0,s0,en,sn,hst⟩ := zpj r _ _ _ _ h2
    refine ⟨fun i => match i with | 0 => env | k + 1 => E k,fun i => match i with | 0 => σ | k + 1 => S k,fun i => match i with | 0 => v | k + 1 => V k,rfl,rfl,en,sn,fun i q hq => ?_⟩
    cases i with
    | zero => simp at hq; subst hq; exact ⟨e0,.inl ⟨hb,by show yc cfg C env σ o = some (v,S 0); rw [s0]; exact h1⟩,fun _ => hgd⟩
    | succ i => exact hst i q (by simpa using hq)
   ·rename_i hbt
    have hbf : b = false := by simpa using hbt
    subst hbf
    obtain ⟨E,S,V,e0,s0,en,sn,hst⟩ := zpj r _ _ _ _ h
    refine ⟨fun i => match i with | 0 => env | k + 1 => E k,fun i => match i with | 0 => σ | k + 1 => S k,fun i => match i with | 0 => .tuple [] | k + 1 => V k,rfl,rfl,en,sn,fun i q hq => ?_⟩
    cases i with
    | zero => simp at hq; subst hq; exact ⟨e0,.inr ⟨hb,rfl,s0⟩,fun ht => by simp only at ht; rw [hb] at ht; cases ht⟩
    | succ i => exact hst i q (by simpa using hq)
def cur (ops : List Oper) (V : Nat → PV) (E0 : List PV) (L : Nat → Bool) : Nat → Nat → PV
 | 0,t => E0.getD t .undef
 | k + 1,t => if L k = true ∧ (ops[k]?).bind (·.dst) = some t then V k else cur ops V E0 L k t
theorem zaj {ops : List Oper} {V : Nat → PV} {E0 : List PV} {L L' : Nat → Bool} {t : Nat} : ∀ k,(∀ j,j < k → (ops[j]?).bind (·.dst) = some t → L j = L' j) → cur ops V E0 L k t = cur ops V E0 L' k t
 | 0,_ => rfl
 | k + 1,h => by
   unfold cur
   by_cases hd : (ops[k]?).bind (·.dst) = some t
   ·rw [h k (by omega) hd,zaj k fun j hj => h j (by omega)]
   ·rw [if_neg (fun e => hd e.2),if_neg (fun e => hd e.2)]
    exact zaj k fun j hj => h j (by omega)
theorem zcq {ops : List Oper} {V : Nat → PV} {E0 : List PV} {L : Nat → Bool} {t i : Nat} : ∀ k,i ≤ k → (∀ j,i ≤ j → j < k → (ops[j]?).bind (·.dst) = some t → L j = false) → cur ops V E0 L k t = cur ops V E0 L i t
 | 0,hi,_ => by have : i = 0 := by omega
                subst this; rfl
 | k + 1,hi,h => by
   rcases ha4 k i with hk | hk
   ·have : i = k + 1 := by omega
    subst this; rfl
   ·show (if L k = true ∧ (ops[k]?).bind (·.dst) = some t then V k else cur ops V E0 L k t) = _
    rw [if_neg (fun e => by have := h k hk (by omega) e.2; rw [e.1] at this; cases this)]
    exact zcq k hk fun j h1 h2 => h j h1 (by omega)
theorem zbp (env : List PV) (d : Option Nat) (v : PV) : (zfu env d v).length = env.length := by cases d <;> simp [zfu]
section
variable {cfg : Cfg} {C : z7} {ops : List Oper} {E : Nat → List PV} {S : Nat → Store} {V : Nat → PV}
theorem Run.len (h : Run cfg C ops E S V) : ∀ i,i ≤ ops.length → (E i).length = (E 0).length
 | 0,_ => rfl
 | i + 1,hi => by
   rw [(h.step i _ (haf (by omega))).1,zbp]
   exact h.len i (by omega)
theorem Run.cur (h : Run cfg C ops E S V) {t : Nat} (ht : t < (E 0).length) : ∀ i,i ≤ ops.length → (E i).getD t .undef = Pvm.cur ops V (E 0) (fun _ => true) i t
 | 0,_ => rfl
 | i + 1,hi => by
   have ho := haf (show i < ops.length by omega)
   have hl := h.len i (by omega)
   rw [(h.step i _ ho).1]
   unfold Pvm.cur
   rw [ho]
   simp only [Option.bind_some,true_and]
   cases hd : (ops[i]).dst with
   | none => simp only [zfu]; rw [if_neg (by simp)]; exact h.cur ht i (by omega)
   | some d =>
     simp only [zfu,Option.some.injEq]
     by_cases hdt : d = t
     ·subst hdt
      rw [if_pos rfl,hai,ha3 (by omega)]
      rfl
     ·rw [if_neg hdt,hai,ha5 hdt,← hai]
      exact h.cur ht i (by omega)
theorem Run.keep (h : Run cfg C ops E S V) (hN : ja C) (hst : cfg.strict = true) {i : Nat} : ∀ k,i ≤ k → k ≤ ops.length → (∀ j o,i ≤ j → j < k → ops[j]? = some o → touch cfg o ≠ 3) →
  (S i).next ≤ (S k).next ∧ ∀ id,id < (S i).next → (S k).objs id = (S i).objs id
 | 0,hi,_,_ => by have : i = 0 := by omega
                  subst this; exact ⟨hah _,fun _ _ => rfl⟩
 | k + 1,hi,hk,hno => by
   rcases ha4 k i with hlt | hge
   ·have : i = k + 1 := by omega
    subst this; exact ⟨hah _,fun _ _ => rfl⟩
   ·obtain ⟨h1,h2⟩ := h.keep hN hst k hge (by omega) fun j o p q => hno j o p (by omega)
    have ho := haf (show k < ops.length by omega)
    rcases (h.step k _ ho).2 with ⟨_,he⟩ | ⟨_,_,he⟩
    ·obtain ⟨q1,_,q3,_⟩ := zc0 hN he
     exact ⟨haz h1 q1,fun id hid => (q3 hst (hno k _ hge (by omega) ho) id (by omega)).trans (h2 id hid)⟩
    ·rw [he]; exact ⟨h1,h2⟩
theorem Run.next (h : Run cfg C ops E S V) (hN : ja C) {i : Nat} : ∀ k,i ≤ k → k ≤ ops.length → (S i).next ≤ (S k).next
 | 0,hi,_ => by have : i = 0 := by omega
                subst this; exact hah _
 | k + 1,hi,hk => by
   rcases ha4 k i with hlt | hge
   ·have : i = k + 1 := by omega
    subst this; exact hah _
   ·have h1 := h.next hN k hge (by omega)
    have ho := haf (show k < ops.length by omega)
    rcases (h.step k _ ho).2 with ⟨_,he⟩ | ⟨_,_,he⟩
    ·exact haz h1 (zc0 hN he).1
    ·rw [he]; exact h1
theorem Run.clean (h : Run cfg C ops E S V) (hN : ja C) (hC : zao C) (h0 : (S 0).Clean) : ∀ k,k ≤ ops.length → (S k).Clean
 | 0,_ => h0
 | k + 1,hk => by
   have ho := haf (show k < ops.length by omega)
   rcases (h.step k _ ho).2 with ⟨_,he⟩ | ⟨_,_,he⟩
   ·exact zmd hN hC he (h.clean hN hC h0 k (by omega))
   ·rw [he]; exact h.clean hN hC h0 k (by omega)
theorem Run.given (h : Run cfg C ops E S V) {i id : Nat} : ∀ k,i ≤ k → k ≤ ops.length → (S i).next ≤ id → id < (S k).next → ∃ j,i ≤ j ∧ j < k ∧ (S j).next ≤ id ∧ id < (S (j + 1)).next
 | 0,hi,_,h1,h2 => by have : i = 0 := by omega
                      subst this; omega
 | k + 1,hi,hk,h1,h2 => by
   rcases ha4 k i with hlt | hge
   ·have : i = k + 1 := by omega
    subst this; omega
   ·rcases ha4 id (S k).next with h3 | h3
    ·obtain ⟨j,a,b,c,d⟩ := h.given k hge (by omega) h1 h3
     exact ⟨j,a,by omega,c,d⟩
    ·exact ⟨k,hge,by omega,h3,h2⟩
end
def Store.Part (σ τ : Store) : Prop := σ.next ≤ τ.next ∧ ∀ id,id < σ.next → τ.objs id = σ.objs id
theorem zau {σ τ : Store} (h : σ.Part τ) (hc : σ.Clean) {id : Nat} {o : Obj} (ho : σ.objs id = some o) : id < σ.next ∧ τ.objs id = some o := by
 have hlt : id < σ.next := by
  rcases ha4 id σ.next with h | h
  ·exact h
  ·rw [hc id h] at ho; cases ho
 exact ⟨hlt,by rw [h.2 id hlt]; exact ho⟩
section
variable {ρ ρ' : Where} {F F' : xx} {w w' : World} {σi σ1 σe : Store}
theorem SR.part (hs : SR ρ F σe w) (hp : σi.Part σe) (hc : σi.Clean) : SR ρ F σi w :=
 ⟨fun id r o hr ho => hs.obj id r o hr (zau hp hc ho).2,fun i j r r' o o' a b c d => hs.apart i j r r' o o' a (zau hp hc b).2 c (zau hp hc d).2,hs.old,hc⟩
theorem Lv.part {ρ : Where} {σi σe : Store} (hp : σi.Part σe) (hc : σi.Clean) {b : Nat} (h : Lv ρ σi b) : Lv ρ σe b :=
 let ⟨id,r,o,h1,h2,h3⟩ := h; ⟨id,r,o,h1,(zau hp hc h2).2,h3⟩
theorem SR.merge (hs : SR ρ F σe w) (hp : σi.Part σe) (hci : σi.Clean) (hp1 : σ1.Part σe) (hc1 : σ1.Clean) (g : Go1 ρ F σi w ρ' F' σ1 w') (s : SR ρ' F' σ1 w') (hn : ∀ id,σi.next ≤ id → id < σ1.next → ρ id = none) : SR ρ' F' σe w' := by
 have split : ∀ id r o,ρ' id = some r → σe.objs id = some o → (id < σ1.next ∧ σ1.objs id = some o) ∨ (σ1.next ≤ id ∧ ρ id = some r) := fun id r o hr ho => by
  rcases ha4 id σ1.next with h | h
  ·exact .inl ⟨h,by rw [← hp1.2 id h]; exact ho⟩
  ·refine .inr ⟨h,?_⟩
   cases hq : ρ id with
   | none => have := g.rng id r hr hq; omega
   | some r0 => have := g.rec_ id r0 hq; rw [hr] at this; exact this.symm
 have far : ∀ id r o,σ1.next ≤ id → ρ id = some r → σe.objs id = some o → ¬ Lv ρ σi r.block ∧ r.block < w.heap.size := fun id r o hle hr ho => by
  refine ⟨fun ⟨id',q,o',h1,h2,h3⟩ => ?_,zbu hs ⟨id,r,o,hr,ho,rfl⟩⟩
  have h4 := zau hp hci h2
  have := g.nx
  exact hs.apart id' id q r o' o h1 h4.2 hr ho (by omega) h3
 refine ⟨fun id r o hr ho => ?_,fun i j r r' o o' a b c d hne => ?_,s.old,hs.new⟩
 ·rcases split id r o hr ho with ⟨h1,h2⟩ | ⟨h1,h2⟩
  ·exact s.obj id r o hr h2
  ·obtain ⟨h3,h4⟩ := far id r o h1 h2 ho
   refine (hs.obj id r o h2 ho).alike (g.frame _ h4 h3) (fun k => g.vr k) fun o hq => ?_
   rcases g.froN _ o hq with hq | hq | hq
   ·exact hq
   ·omega
   ·exact absurd hq h3
 ·rcases split i r o a b with ⟨p1,p2⟩ | ⟨p1,p2⟩ <;> rcases split j r' o' c d with ⟨q1,q2⟩ | ⟨q1,q2⟩
  ·exact s.apart i j r r' o o' a p2 c q2 hne
  ·obtain ⟨h3,h4⟩ := far j r' o' q1 q2 d
   intro e
   rcases g.live _ ⟨i,r,o,a,p2,rfl⟩ with h | h
   ·omega
   ·rw [e] at h; exact h3 h
  ·obtain ⟨h3,h4⟩ := far i r o p1 p2 b
   intro e
   rcases g.live _ ⟨j,r',o',c,q2,rfl⟩ with h | h
   ·omega
   ·rw [← e] at h; exact h3 h
  ·exact hs.apart i j r r' o o' p2 b q2 d hne
theorem SR.merge2 {σe' : Store} (hs : SR ρ F σe w) (hp : σi.Part σe) (hci : σi.Clean) (hp1 : σ1.Part σe') (hag : ∀ id,σ1.next ≤ id → σe'.objs id = σe.objs id) (hce : σe'.Clean) (g : Go1 ρ F σi w ρ' F' σ1 w') (s : SR ρ' F' σ1 w') : SR ρ' F' σe' w' := by
 have split : ∀ id r o,ρ' id = some r → σe'.objs id = some o → (id < σ1.next ∧ σ1.objs id = some o) ∨ (σ1.next ≤ id ∧ ρ id = some r ∧ σe.objs id = some o) := fun id r o hr ho => by
  rcases ha4 id σ1.next with h | h
  ·exact .inl ⟨h,by rw [← hp1.2 id h]; exact ho⟩
  ·refine .inr ⟨h,?_,by rw [← hag id h]; exact ho⟩
   cases hq : ρ id with
   | none => have := g.rng id r hr hq; omega
   | some r0 => have := g.rec_ id r0 hq; rw [hr] at this; exact this.symm
 have far : ∀ id r o,σ1.next ≤ id → ρ id = some r → σe.objs id = some o → ¬ Lv ρ σi r.block ∧ r.block < w.heap.size := fun id r o hle hr ho => by
  refine ⟨fun ⟨id',q,o',h1,h2,h3⟩ => ?_,zbu hs ⟨id,r,o,hr,ho,rfl⟩⟩
  have h4 := zau hp hci h2
  have := g.nx
  exact hs.apart id' id q r o' o h1 h4.2 hr ho (by omega) h3
 refine ⟨fun id r o hr ho => ?_,fun i j r r' o o' a b c d hne => ?_,s.old,hce⟩
 ·rcases split id r o hr ho with ⟨h1,h2⟩ | ⟨h1,h2,ho⟩
  ·exact s.obj id r o hr h2
  ·obtain ⟨h3,h4⟩ := far id r o h1 h2 ho
   refine (hs.obj id r o h2 ho).alike (g.frame _ h4 h3) (fun k => g.vr k) fun o hq => ?_
   rcases g.froN _ o hq with hq | hq | hq
   ·exact hq
   ·omega
   ·exact absurd hq h3
 ·rcases split i r o a b with ⟨p1,p2⟩ | ⟨p1,p2,b⟩ <;> rcases split j r' o' c d with ⟨q1,q2⟩ | ⟨q1,q2,d⟩
  ·exact s.apart i j r r' o o' a p2 c q2 hne
  ·obtain ⟨h3,h4⟩ := far j r' o' q1 q2 d
   intro e
   rcases g.live _ ⟨i,r,o,a,p2,rfl⟩ with h | h
   ·omega
   ·rw [e] at h; exact h3 h
  ·obtain ⟨h3,h4⟩ := far i r o p1 p2 b
   intro e
   rcases g.live _ ⟨j,r',o',c,q2,rfl⟩ with h | h
   ·omega
   ·rw [← e] at h; exact h3 h
  ·exact hs.apart i j r r' o o' p2 b q2 d hne
theorem SR.agree {σe' : Store} (hs : SR ρ F σe w) (hag : ∀ id r,ρ id = some r → σe'.objs id = σe.objs id) (hce : σe'.Clean) : SR ρ F σe' w :=
 ⟨fun id r o hr ho => hs.obj id r o hr (by rw [← hag id r hr]; exact ho),fun i j r r' o o' a b c d => hs.apart i j r r' o o' a (by rw [← hag i r a]; exact b) c (by rw [← hag j r' c]; exact d),hs.old,hce⟩
end
theorem SR.ext {ρ : Where} {F : xx} {σ σ' : Store} {w : World} (hs : SR ρ F σ w) (hp : σ.Part σ') (hc : σ'.Clean) (hn : ∀ id,σ.next ≤ id → id < σ'.next → ρ id = none) : SR ρ F σ' w := by
 have key : ∀ id r o,ρ id = some r → σ'.objs id = some o → σ.objs id = some o := fun id r o hr ho => by
  rcases ha4 id σ.next with h | h
  ·rw [← hp.2 id h]; exact ho
  ·rcases ha4 id σ'.next with h' | h'
   ·rw [hn id h h'] at hr; cases hr
   ·rw [hc id h'] at ho; cases ho
 exact ⟨fun id r o hr ho => hs.obj id r o hr (key id r o hr ho),fun i j r r' o o' a b c d => hs.apart i j r r' o o' a (key i r o a b) c (key j r' o' c d),hs.old,hc⟩
section
variable {ρ0 ρ ρ1 : Where} {F0 F F1 : xx} {σ0 σ σ' σi σ1 σe : Store} {w0 w w1 : World}
theorem Go1.ext (g : Go1 ρ0 F0 σ0 w0 ρ F σ w) (hp : σ.Part σ') (hc : σ'.Clean) (hn : ∀ id,σ.next ≤ id → id < σ'.next → ρ id = none) : Go1 ρ0 F0 σ0 w0 ρ F σ' w :=
 { g with
   rng := fun id r e e0 => let h := g.rng id r e e0; ⟨h.1,hao h.2 hp.1⟩
   nx := haz g.nx hp.1
   live := fun b ⟨id,r,o,hr,ho,hb⟩ => by
    refine g.live b ⟨id,r,o,hr,?_,hb⟩
    rcases ha4 id σ.next with h | h
    ·rw [← hp.2 id h]; exact ho
    ·rcases ha4 id σ'.next with h' | h'
     ·rw [hn id h h'] at hr; cases hr
     ·rw [hc id h'] at ho; cases ho }
theorem Go1.sub (g0 : Go1 ρ0 F0 σ0 w0 ρ F σe w) (g : Go1 ρ F σi w ρ1 F1 σ1 w1) (hpi : σi.Part σe) (hci : σi.Clean) (hp1 : σ1.Part σe) (h0 : σ0.next ≤ σi.next) : Go1 ρ0 F0 σ0 w0 ρ1 F1 σe w1 where
 rec_ id r e := g.rec_ id r (g0.rec_ id r e)
 rng id r e e0 := by
  cases h1 : ρ id with
  | none => have := g.rng id r e h1; have := hp1.1; omega
  | some r1 => exact g0.rng id r1 h1 e0
 nx := g0.nx
 fro b o e := g.fro b o (g0.fro b o e)
 cell b o e := (g.cell b o (g0.fro b o e)).trans (g0.cell b o e)
 size := haz g0.size g.size
 frame b hb hn := by
  rw [g.frame b (hao hb g0.size) (fun hl => ?_),g0.frame b hb hn]
  rcases g0.live b (hl.part hpi hci) with h1 | h1
  ·omega
  ·exact hn h1
 froN b o e := by
  rcases g.froN b o e with h1 | h1 | h1
  ·exact g0.froN b o h1
  ·exact .inr (.inl (haz g0.size h1))
  ·exact .inr (g0.live b (h1.part hpi hci))
 live b hl := by
  obtain ⟨id,r,o,hr,ho,hb⟩ := hl
  rcases ha4 id σ1.next with h | h
  ·rcases g.live b ⟨id,r,o,hr,by rw [← hp1.2 id h]; exact ho,hb⟩ with h1 | h1
   ·exact .inl (haz g0.size h1)
   ·exact g0.live b (h1.part hpi hci)
  ·cases h1 : ρ id with
   | none => have := g.rng id r hr h1; omega
   | some r1 =>
     have := g.rec_ id r1 h1
     rw [hr] at this
     cases this
     exact g0.live b ⟨id,r,o,h1,ho,hb⟩
 os := g.os.trans g0.os
 tape := g.tape.trans g0.tape
 out := g.out.trans g0.out
theorem Go1.sub2 (g0 : Go1 ρ0 F0 σ0 w0 ρ F σe w) (g : Go1 ρ F σi w ρ1 F1 σ1 w1) (hpi : σi.Part σe) (hci : σi.Clean) (hp1 : σ1.Part σ') (hnx : σ'.next = σe.next) (hag : ∀ id,σ1.next ≤ id → σ'.objs id = σe.objs id) (h0 : σ0.next ≤ σi.next) : Go1 ρ0 F0 σ0 w0 ρ1 F1 σ' w1 where
 rec_ id r e := g.rec_ id r (g0.rec_ id r e)
 rng id r e e0 := by
  cases h1 : ρ id with
  | none => have := g.rng id r e h1; have := hp1.1; omega
  | some r1 => rw [hnx]; exact g0.rng id r1 h1 e0
 nx := by rw [hnx]; exact g0.nx
 fro b o e := g.fro b o (g0.fro b o e)
 cell b o e := (g.cell b o (g0.fro b o e)).trans (g0.cell b o e)
 size := haz g0.size g.size
 frame b hb hn := by
  rw [g.frame b (hao hb g0.size) (fun hl => ?_),g0.frame b hb hn]
  rcases g0.live b (hl.part hpi hci) with h1 | h1
  ·omega
  ·exact hn h1
 froN b o e := by
  rcases g.froN b o e with h1 | h1 | h1
  ·exact g0.froN b o h1
  ·exact .inr (.inl (haz g0.size h1))
  ·exact .inr (g0.live b (h1.part hpi hci))
 live b hl := by
  obtain ⟨id,r,o,hr,ho,hb⟩ := hl
  rcases ha4 id σ1.next with h | h
  ·rcases g.live b ⟨id,r,o,hr,by rw [← hp1.2 id h]; exact ho,hb⟩ with h1 | h1
   ·exact .inl (haz g0.size h1)
   ·exact g0.live b (h1.part hpi hci)
  ·cases h1 : ρ id with
   | none => have := g.rng id r hr h1; omega
   | some r1 =>
     have := g.rec_ id r1 h1
     rw [hr] at this
     cases this
     exact g0.live b ⟨id,r,o,h1,by rw [← hag id h]; exact ho,hb⟩
 os := g.os.trans g0.os
 tape := g.tape.trans g0.tape
 out := g.out.trans g0.out
theorem Go1.agree (g : Go1 ρ0 F0 σ0 w0 ρ F σ w) (hnx : σ'.next = σ.next) (hag : ∀ id r,ρ id = some r → σ'.objs id = σ.objs id) : Go1 ρ0 F0 σ0 w0 ρ F σ' w :=
 { g with
   rng := fun id r e e0 => by rw [hnx]; exact g.rng id r e e0
   nx := by rw [hnx]; exact g.nx
   live := fun b ⟨id,r,o,hr,ho,hb⟩ => g.live b ⟨id,r,o,hr,by rw [← hag id r hr]; exact ho,hb⟩ }
theorem Store.Part.trans {a b c : Store} (h : a.Part b) (k : b.Part c) : a.Part c := ⟨haz h.1 k.1,fun id hid => (k.2 id (hao hid h.1)).trans (h.2 id hid)⟩
end
theorem kg {cfg : Cfg} {ops : List Oper} (h : wg cfg ops = true) {i j : Nat} {x y : Oper} (hij : j < i) (hx : ops[i]? = some x) (hy : ops[j]? = some y) :
  ((jp ops).getD i 0).testBit j = true ∨ ((∀ d,y.dst = some d → d ∉ qv ops x) ∧ (∀ d,x.dst = some d → d ∉ qv ops y) ∧ (touch cfg x = 3 → touch cfg y = 0) ∧ (touch cfg y = 3 → touch cfg x ≤ 1 ∨ (zoa cfg x = true ∧ zn1 y = true))) := by
 unfold wg at h
 simp only [har,List.mem_range] at h
 have h1 := h i (had.1 hx).1 j hij
 rw [hx,hy] at h1
 simp only [Bool.or_eq_true,haq] at h1
 refine h1.imp id fun h2 => ?_
 obtain ⟨⟨⟨a1,a2⟩,a3⟩,a4⟩ := h2
 refine ⟨fun d hd => ?_,fun d hd => ?_,fun e => ?_,fun e => ?_⟩
 ·rw [hd] at a1; simpa using a1
 ·rw [hd] at a2; simpa using a2
 ·rw [e] at a3; simpa using a3
 ·rw [e] at a4
  simp only [hb3,Bool.true_and,Bool.or_eq_true,Bool.not_eq_true',decide_eq_false_iff_not,haq] at a4
  rcases a4 with a4 | a4
  ·exact .inl (by omega)
  ·exact .inr a4
theorem zc7 {cfg : Cfg} {o : Oper} (h : zoa cfg o = true) : touch cfg o ≤ 2 := by
 unfold zoa at h
 split at h
 ·rename_i t a e
  unfold touch
  rw [e]
  simp only
  split <;> omega
 ·cases h
theorem zjy {P : Program} {σ τ : Store} {ts : List TypeId} {args : List PV} {v : PV} (h : jo P σ .append ts args = some (v,τ)) {id : Nat} (hi : id < σ.next) (hs : ∀ s,args.head? = some s → ∀ i a b c d,s = .lsl i a b c d → i ≠ id) : τ.objs id = σ.objs id := by
 have hpush : ∀ (s : Store) (o : Obj),id < s.next → (s.push o).objs id = s.objs id := fun s o h => by
  show (if id = s.next then some o else s.objs id) = _
  rw [if_neg (by omega)]
 have key : ∀ el s x,args.head? = some s → xz P σ el s x = some (v,τ) → τ.objs id = σ.objs id := fun el s x ha h => by
  have hs := hs s ha
  unfold xz at h
  simp only [haa] at h
  obtain ⟨sz,_,by_,_,z,_,new,_,h⟩ := h
  split at h
  ·cases h
  split at h
  ·cases h
  split at h
  ·split at h
   ·cases h; rfl
   ·split at h
    ·cases h; exact hpush _ _ hi
    ·cases h
  ·split at h
   ·cases h; rfl
   ·split at h
    ·split at h
     ·split at h
      ·cases h; exact hpush _ _ hi
      ·cases h
     ·cases h
    ·cases h
  ·rename_i i a b c d
   have hne := hs i a b c d rfl
   split at h
   ·cases h; rfl
   ·split at h
    ·cases h
    split at h
    ·split at h
     ·split at h
      ·cases h
       show (if id = i then _ else σ.objs id) = _
       rw [if_neg (Ne.symm hne)]
      ·cases h
     ·split at h
      ·split at h
       ·split at h
        ·split at h
         ·cases h; exact hpush _ _ hi
         ·cases h
        ·split at h
         ·cases h
          refine (hpush (σ.kill i) _ hi).trans ?_
          show (if id = i then _ else σ.objs id) = _
          rw [if_neg (Ne.symm hne)]
         ·cases h
       ·cases h
      ·cases h
    ·cases h
  ·cases h
 have keyz : ∀ el s n,vd P σ el s n = some (v,τ) → τ.objs id = σ.objs id := fun el s n h => by
  unfold vd at h
  simp only [haa] at h
  obtain ⟨sz,_,by_,_,z,_,h⟩ := h
  split at h
  ·cases h
  split at h
  ·split at h
   ·split at h
    ·cases h; exact hpush _ _ hi
    ·cases h
   ·cases h
  ·split at h
   ·cases h; exact hpush _ _ hi
   ·cases h
  ·cases h
 unfold jo at h
 rw [if_neg (by decide)] at h
 unfold y7 at h
 split at h
 ·rename_i t u s x
  split at h
  ·split at h
   ·cases h
   ·exact key _ _ _ rfl h
  ·split at h
   ·exact key _ _ _ rfl h
   ·cases h
  ·split at h
   ·exact keyz _ _ _ h
   ·cases h
  ·cases h
 all_goals first | contradiction | cases h
theorem zoe {cfg : Cfg} {C : z7} {env : List PV} {σ τ : Store} {o : Oper} {v : PV} (h : yc cfg C env σ o = some (v,τ)) (ha : zn1 o = true) (hg : zaf cfg env o = true) {id : Nat} (hi : id < σ.next) {u : Nat} (hu : u ∈ cfg.floZ) (hid : zbo (env.getD u .undef) = some id) : τ.objs id = σ.objs id := by
 unfold zn1 at ha
 split at ha
 ·rename_i c e
  split at ha
  ·rename_i e2
   unfold yc at h
   rw [e] at h
   simp only [e2] at h
   refine zjy h hi fun s hs i a b c' d hq => ?_
   subst hq
   unfold zaf at hg
   cases hz : cfg.floZ with
   | nil => rw [hz] at hu; cases hu
   | cons z zs =>
     rw [hz] at hg hu
     simp only [e,e2] at hg
     cases hl : c.args.toList with
     | nil => rw [hl] at hs; cases hs
     | cons s r =>
       rw [hl] at hg hs
       simp only [List.map_cons,List.head?_cons,Option.some.injEq] at hs
       simp only [hs,har] at hg
       have := hg u hu
       rw [hid] at this
       intro e
       subst e
       simp at this
  ·cases ha
 ·cases ha
theorem zqy {cfg : Cfg} {C : z7} {env : List PV} {σ τ : Store} {o : Oper} {v : PV} (hf : zoa cfg o = true) (h : yc cfg C env σ o = some (v,τ)) : τ = σ := by
 unfold zoa at hf
 split at hf
 ·rename_i t a e
  unfold yc at h
  rw [e] at h
  simp only at h
  split at h <;> (rw [hac] at h; obtain ⟨_,_,h⟩ := h; cases h; rfl)
 ·cases hf
theorem znx {P : Program} {σ τ : Store} {t : TypeId} {id i j : Nat} (h : σ.objs id = τ.objs id) : zd P σ t (.ref id i j) = zd P τ t (.ref id i j) := by
 unfold zd
 simp only [h]
theorem zah {ops : List Oper} (h : qm ops = true) {i : Nat} {o : Oper} (ho : ops[i]? = some o) : ∀ e ∈ o.after.toList,Region.binds .any e = true → e.on < i := by
 unfold qm at h
 simp only [har,List.mem_range] at h
 have h1 := h i (had.1 ho).1
 rw [ho] at h1
 simp only [haq,har,Bool.or_eq_true] at h1
 intro e he hb
 rcases h1.1 e he with h2 | h2
 ·rw [hb] at h2; cases h2
 ·simpa using h2
theorem zmt {α : Type} {p q : α → Bool} (hpq : ∀ x,q x = true → p x = true) {i : α} (hp : p i = true) (hq : q i = false) : ∀ l : List α,l.countP q ≤ l.countP p ∧ (i ∈ l → l.countP q < l.countP p)
 | [] => ⟨hah _,fun h => by cases h⟩
 | x :: r => by
   obtain ⟨h1,h2⟩ := zmt hpq hp hq r
   have h3 : (if q x = true then 1 else 0) ≤ (if p x = true then 1 else 0) := by
    by_cases h : q x = true
    ·rw [if_pos h,if_pos (hpq x h)]; exact hah _
    ·rw [if_neg h]; exact hbe _
   rw [List.countP_cons,List.countP_cons]
   refine ⟨by omega,fun hm => ?_⟩
   rcases ha6.1 hm with rfl | hm
   ·rw [if_pos hp,if_neg (by rw [hq]; decide)]; omega
   ·have := h2 hm; omega
section
variable {cfg : Cfg} {C : z7} {ops : Array Oper} {E : Nat → List PV} {S : Nat → Store} {V : Nat → PV} {ρ0 : Where} {F0 : xx} {w0 : World}
def lis (L : Array Bool) (i : Nat) : Bool := L.getD i false
open Classical in
noncomputable def lay (cfg : Cfg) (ops : Array Oper) (S : Nat → Store) (id : Nat) : Option Obj :=
 if h : ∃ j o,ops[j]? = some o ∧ touch cfg o = 1 ∧ (S j).next ≤ id ∧ id < (S (j + 1)).next then (S (Classical.choose h + 1)).objs id else none
noncomputable def ov (cfg : Cfg) (ops : Array Oper) (S : Nat → Store) (e : Nat) : Store := ⟨(S ops.size).next,fun id => if id < (S e).next then (S e).objs id else lay cfg ops S id⟩
section
variable (hr : Run cfg C ops.toList E S V) (hN : ja C)
include hr hN
theorem ztr {j : Nat} {o : Oper} (ho : ops[j]? = some o) (ht : touch cfg o = 1) {id : Nat} (h1 : (S j).next ≤ id) (h2 : id < (S (j + 1)).next) : lay cfg ops S id = (S (j + 1)).objs id := by
 unfold lay
 have h : ∃ j o,ops[j]? = some o ∧ touch cfg o = 1 ∧ (S j).next ≤ id ∧ id < (S (j + 1)).next := ⟨j,o,ho,ht,h1,h2⟩
 rw [dif_pos h]
 obtain ⟨o',q1,q2,q3,q4⟩ := Classical.choose_spec h
 generalize Classical.choose h = k at *
 have hj := (hbg.1 ho).1
 have hk := (hbg.1 q1).1
 have hjk : k = j := by
  rcases Nat.lt_trichotomy k j with h | h | h
  ·have := hr.next hN (i := k + 1) j (by omega) (by simp; omega); omega
  ·exact h
  ·have := hr.next hN (i := j + 1) k (by omega) (by simp; omega); omega
 rw [hjk]
theorem zd4 {e : Nat} (he : e ≤ ops.size) : (ov cfg ops S e).Clean := by
 intro id hid
 have hid : (S ops.size).next ≤ id := hid
 have h1 := hr.next hN (i := e) ops.size he (by simp)
 show (if id < (S e).next then (S e).objs id else lay cfg ops S id) = none
 rw [if_neg (by omega)]
 unfold lay
 rw [dif_neg]
 rintro ⟨j,o,ho,_,_,h2⟩
 have hj := (hbg.1 ho).1
 have := hr.next hN (i := j + 1) ops.size (by omega) (by simp)
 omega
theorem ug {e : Nat} (he : e ≤ ops.size) : (S e).Part (ov cfg ops S e) :=
 ⟨hr.next hN (i := e) ops.size he (by simp),fun id hid => by
  show (if id < (S e).next then (S e).objs id else lay cfg ops S id) = _
  rw [if_pos hid]⟩
theorem zwq (hc : (S ops.size).Clean) : ov cfg ops S ops.size = S ops.size := by
 have h : ∀ id,(ov cfg ops S ops.size).objs id = (S ops.size).objs id := fun id => by
  rcases ha4 id (S ops.size).next with h | h
  ·exact (ug hr hN (hah _)).2 id h
  ·rw [zd4 hr hN (hah _) id h,hc id h]
 show Store.mk _ _ = _
 have h2 : (fun id => (ov cfg ops S ops.size).objs id) = (S ops.size).objs := funext h
 rw [show (fun id => if id < (S ops.size).next then (S ops.size).objs id else lay cfg ops S id) = (S ops.size).objs from h2]
end
structure DI (cfg : Cfg) (ops : Array Oper) (E : Nat → List PV) (S : Nat → Store) (V : Nat → PV) (ρ0 : Where) (F0 : xx) (w0 : World) (L : Nat → Bool) (a : Act) (w : World) (ρ : Where) (F : xx) (e : Nat) : Prop where
 closed : ∀ i o,ops[i]? = some o → L i = true → ∀ x ∈ o.after.toList,Region.binds .any x = true → L x.on = true
 slots : a.tmps.size = (E 0).length
 le : e ≤ ops.size
 bef : ∀ j o,j < e → ops[j]? = some o → touch cfg o = 3 → L j = true
 at_ : ∀ o,ops[e]? = some o → touch cfg o = 3 ∧ L e = false
 sr : SR ρ F (ov cfg ops S e) w
 go : Go1 ρ0 F0 (S 0) w0 ρ F (ov cfg ops S e) w
 env : ∀ t,t < (E 0).length → VR ρ F w (cur ops.toList V (E 0) L ops.size t) (a.tmps.getD t undef)
 none_ : ∀ i,i < ops.size → L i = false → ∀ id,(S i).next ≤ id → id < (S (i + 1)).next → ρ id = none
theorem zqz (cfg : Cfg) (ops : Array Oper) (L : Nat → Bool) : ∀ m k,k + m = ops.size → ∃ e,k ≤ e ∧ e ≤ ops.size ∧ (∀ j o,k ≤ j → j < e → ops[j]? = some o → touch cfg o = 3 → L j = true) ∧ ∀ o,ops[e]? = some o → touch cfg o = 3 ∧ L e = false
 | 0,k,h => ⟨k,hah _,by omega,fun j o h1 h2 => by omega,fun o ho => by rw [Array.getElem?_eq_none (by omega)] at ho; cases ho⟩
 | m + 1,k,h => by
   have ho := Array.getElem?_eq_getElem (xs := ops) (show k < ops.size by omega)
   by_cases hw : touch cfg (ops[k]'(by omega)) = 3 ∧ L k = false
   ·exact ⟨k,hah _,by omega,fun j o h1 h2 => by omega,fun o h2 => by rw [ho] at h2; cases h2; exact hw⟩
   ·obtain ⟨e,h1,h2,h3,h4⟩ := zqz cfg ops L m (k + 1) (by omega)
    refine ⟨e,by omega,h2,fun j o p q hj ht => ?_,h4⟩
    rcases ha4 k j with h5 | h5
    ·exact h3 j o h5 q hj ht
    ·have : j = k := by omega
     subst this
     rw [ho] at hj
     cases hj
     cases hl : L j with
     | true => rfl
     | false => exact absurd ⟨ht,hl⟩ hw
variable {L : Nat → Bool} {a : Act} {w : World} {ρ : Where} {F : xx} {e : Nat}
theorem DI.bits (h : DI cfg ops E S V ρ0 F0 w0 L a w ρ F e) (he : qm ops.toList = true) : ∀ m i o,i < m → ops.toList[i]? = some o → (∀ x ∈ o.after.toList,Region.binds .any x = true → L x.on = true) → ∀ j,((jp ops.toList).getD i 0).testBit j = true → L j = true
 | 0,i,o,hi,_,_,_,_ => absurd hi (Nat.not_lt_zero _)
 | m + 1,i,o,hi,ho,hx,j,hb => by
   obtain ⟨x,hxm,hxb,h1⟩ := zli _ i o ho (zah he ho) j hb
   have hl := hx x hxm hxb
   rcases h1 with rfl | h1
   ·exact hl
   ·have hlt := zah he ho x hxm hxb
    have hil := (had.1 ho).1
    have ho2 := haf (show x.on < ops.toList.length by omega)
    exact DI.bits h he m x.on _ (by omega) ho2 (h.closed _ _ (by rw [← hay]; exact ho2) hl) j h1
theorem DI.ahead (h : DI cfg ops E S V ρ0 F0 w0 L a w ρ F e) (hd : wg cfg ops.toList = true) (he : qm ops.toList = true) {j : Nat} {o : Oper} (ho : ops.toList[j]? = some o) (hl : L j = true ∨ (L j = false ∧ touch cfg o ≠ 3 ∧ ∀ x ∈ o.after.toList,Region.binds .any x = true → L x.on = true)) (ht : 2 ≤ touch cfg o) : j < e ∨ (e < j ∧ zoa cfg o = true) := by
 have hj := (had.1 ho).1
 rcases ha4 j e with h1 | h1
 ·exact .inl h1
 have hlt : e < ops.toList.length := by omega
 have hoe := haf hlt
 obtain ⟨h2,h3⟩ := h.at_ _ (by rw [← hay]; exact hoe)
 have hx : ∀ x ∈ o.after.toList,Region.binds .any x = true → L x.on = true := by
  rcases hl with hl | hl
  ·exact h.closed j o (by rw [← hay]; exact ho) hl
  ·exact hl.2.2
 rcases Nat.eq_or_lt_of_le h1 with h4 | h4
 ·subst h4
  rw [hoe] at ho
  cases ho
  rcases hl with hl | hl
  ·rw [h3] at hl; cases hl
  ·exact absurd h2 hl.2.1
 ·rcases kg hd h4 ho hoe with h5 | ⟨_,_,h5,h6⟩
  ·have := h.bits he (j + 1) j o (by omega) ho hx e h5
   rw [h3] at this; cases this
  ·rcases h6 h2 with h7 | h7
   ·omega
   ·exact .inr ⟨h4,h7.1⟩
variable (hr : Run cfg C ops.toList E S V)
theorem DI.slot (hr : Run cfg C ops.toList E S V) (h : DI cfg ops E S V ρ0 F0 w0 L a w ρ F e) (hd : wg cfg ops.toList = true) (he : qm ops.toList = true) {i : Nat} {o : Oper} (ho : ops.toList[i]? = some o) (hl : L i = false) (hx : ∀ x ∈ o.after.toList,Region.binds .any x = true → L x.on = true)
  {t : Nat} (ht : t < (E 0).length) (hm : t ∈ qv ops.toList o) : cur ops.toList V (E 0) L ops.size t = (E i).getD t .undef ∧ ∀ j,i < j → j < ops.size → (ops.toList[j]?).bind (·.dst) = some t → L j = false := by
 have hi := (had.1 ho).1
 have late : ∀ j,i < j → j < ops.size → (ops.toList[j]?).bind (·.dst) = some t → L j = false := fun j h1 h2 h3 => by
  have hoj := haf (show j < ops.toList.length by simpa using h2)
  rw [hoj] at h3
  simp only [Option.bind_some] at h3
  rcases kg hd h1 hoj ho with h5 | ⟨_,h5,_⟩
  ·cases hlj : L j with
   | false => rfl
   | true =>
     have := h.bits he (j + 1) j _ (by omega) hoj (h.closed _ _ (by rw [← hay]; exact hoj) hlj) i h5
     rw [hl] at this; cases this
  ·exact absurd hm (h5 t h3)
 refine ⟨?_,late⟩
 rw [hr.cur ht i (by omega),zcq ops.size (by simp at hi; omega) (i := i)]
 ·refine zaj i fun j h1 h3 => ?_
  have hoj := haf (show j < ops.toList.length by omega)
  rw [hoj] at h3
  simp only [Option.bind_some] at h3
  rcases kg hd h1 ho hoj with h5 | ⟨h5,_⟩
  ·exact h.bits he (i + 1) i o (by omega) ho hx j h5
  ·exact absurd hm (h5 t h3)
 ·intro j h1 h2 h3
  rcases Nat.eq_or_lt_of_le h1 with h4 | h4
  ·subst h4; exact hl
  ·exact late j h4 h2 h3
def more (L : Nat → Bool) (i : Nat) (j : Nat) : Bool := if j = i then true else L j
theorem DI.next (hr : Run cfg C ops.toList E S V) (hN : ja C) (h : DI cfg ops E S V ρ0 F0 w0 L a w ρ F e) (hd : wg cfg ops.toList = true) (he : qm ops.toList = true) {i : Nat} {o : Oper} (ho : ops.toList[i]? = some o) (hl : L i = false) (hx : ∀ x ∈ o.after.toList,Region.binds .any x = true → L x.on = true)
  {ρ1 : Where} {F1 : xx} {w1 : World} {vc : Value} {e1 : Nat} (hle : e1 ≤ ops.size) (hbef : ∀ j o,j < e1 → ops[j]? = some o → touch cfg o = 3 → more L i j = true) (hat : ∀ o,ops[e1]? = some o → touch cfg o = 3 ∧ more L i e1 = false)
  (s : SR ρ1 F1 (ov cfg ops S e1) w1) (g : Go1 ρ0 F0 (S 0) w0 ρ1 F1 (ov cfg ops S e1) w1) (hmono : ∀ v c,VR ρ F w v c → VR ρ1 F1 w1 v c) (hv : VR ρ1 F1 w1 (V i) vc) (hnew : ∀ id r,ρ1 id = some r → ρ id = none → (S i).next ≤ id ∧ id < (S (i + 1)).next) :
  DI cfg ops E S V ρ0 F0 w0 (more L i) (a.put o.dst vc) w1 ρ1 F1 e1 := by
 have hi := (had.1 ho).1
 refine ⟨fun j q hq hj x hxm hb => ?_,?_,hle,hbef,hat,s,g,fun t ht => ?_,fun j hj hjl id h1 h2 => ?_⟩
 ·unfold more at hj ⊢
  split at hj
  ·rename_i hji
   subst hji
   rw [← hay,ho] at hq
   cases hq
   rw [hx x hxm hb]; simp
  ·rw [h.closed j q hq hj x hxm hb]; simp
 ·rw [← h.slots]; cases o.dst <;> simp [Act.put]
 ·by_cases hdt : o.dst = some t
  ·have hm : t ∈ qv ops.toList o := by simp [qv,hdt]
   obtain ⟨_,late⟩ := DI.slot hr h hd he ho hl hx ht hm
   have e1' : cur ops.toList V (E 0) (more L i) ops.size t = V i := by
    rw [zcq ops.size (i := i + 1) (by simp at hi; omega) fun j h1 h2 h3 => by
     unfold more; rw [if_neg (by omega)]; exact late j (by omega) h2 h3]
    show (if more L i i = true ∧ (ops.toList[i]?).bind (·.dst) = some t then V i else _) = V i
    rw [if_pos ⟨by simp [more],by rw [ho]; exact hdt⟩]
   rw [e1',hdt]
   have : (a.put (some t) vc).tmps.getD t undef = vc := by
    simp [Act.put,Array.getD_eq_getD_getElem?,Array.getElem?_setIfInBounds,h.slots,ht]
   rw [this]
   exact hv
  ·have e1' : cur ops.toList V (E 0) (more L i) ops.size t = cur ops.toList V (E 0) L ops.size t := by
    refine zaj _ fun j hj hjd => ?_
    unfold more
    rw [if_neg (fun e => ?_)]
    subst e
    rw [ho] at hjd
    exact hdt hjd
   rw [e1']
   have : (a.put o.dst vc).tmps.getD t undef = a.tmps.getD t undef := by
    cases hq : o.dst with
    | none => rfl
    | some d =>
      have : d ≠ t := fun e => hdt (by rw [hq,e])
      simp [Act.put,Array.getD_eq_getD_getElem?,Array.getElem?_setIfInBounds,this]
   rw [this]
   exact hmono _ _ (h.env t ht)
 ·have hjl' : j ≠ i ∧ L j = false := by
   unfold more at hjl
   split at hjl
   ·cases hjl
   ·rename_i h3; exact ⟨h3,hjl⟩
  have h0 := h.none_ j hj hjl'.2 id h1 h2
  cases hq : ρ1 id with
  | none => rfl
  | some r =>
    have h3 := hnew id r hq h0
    rcases ha4 j i with h4 | h4
    ·have := hr.next hN (i := j + 1) i (by omega) (by omega); omega
    ·have := hr.next hN (i := i + 1) j (by omega) (by simpa using Nat.le_of_lt hj); omega
theorem DI.wrote (hr : Run cfg C ops.toList E S V) (hN : ja C) (hC : zao C) (hst : cfg.strict = true) (hcl : (S 0).Clean) (h : DI cfg ops E S V ρ0 F0 w0 L a w ρ F e) (hd : wg cfg ops.toList = true) (he : qm ops.toList = true) {o : Oper} (ho : ops.toList[e]? = some o) (hl : L e = false) (hx : ∀ x ∈ o.after.toList,Region.binds .any x = true → L x.on = true)
  {ρ1 : Where} {F1 : xx} {w1 : World} {vc : Value} (s : SR ρ1 F1 (S (e + 1)) w1) (g : Go1 ρ F (S e) w ρ1 F1 (S (e + 1)) w1) (hv : VR ρ1 F1 w1 (V e) vc) :
  ∃ e1,DI cfg ops E S V ρ0 F0 w0 (more L e) (a.put o.dst vc) w1 ρ1 F1 e1 := by
 have hi := (had.1 ho).1
 have hi' : e < ops.size := by simpa using hi
 obtain ⟨e1,h1,h2,h3,h4⟩ := zqz cfg ops (more L e) (ops.size - (e + 1)) (e + 1) (by omega)
 have quiet : ∀ j q,e + 1 ≤ j → j < e1 → ops.toList[j]? = some q → L j = true → touch cfg q ≤ 2 := fun j q p1 p2 hq hjl => by
  rcases ha4 (touch cfg q) 2 with h5 | h5
  ·omega
  ·rcases h.ahead hd he hq (.inl hjl) h5 with h6 | h6
   ·omega
   ·exact zc7 h6.2
 have mid : ∀ j q,e + 1 ≤ j → j < e1 → ops.toList[j]? = some q → touch cfg q ≠ 3 := fun j q p1 p2 hq h5 => by
  have h6 := h3 j q p1 p2 (by rw [← hay]; exact hq) h5
  unfold more at h6
  rw [if_neg (by omega)] at h6
  have := quiet j q p1 p2 hq h6
  omega
 have hci := hr.clean hN hC hcl e (by omega)
 have hn0 := hr.next hN (i := e) (e + 1) (by omega) (by omega)
 have hag1 : ∀ id,(S (e + 1)).next ≤ id → (ov cfg ops S (e + 1)).objs id = (ov cfg ops S e).objs id := fun id hid => by
  show (if id < (S (e + 1)).next then (S (e + 1)).objs id else lay cfg ops S id) = (if id < (S e).next then (S e).objs id else lay cfg ops S id)
  rw [if_neg (by omega),if_neg (by omega)]
 have s1 : SR ρ1 F1 (ov cfg ops S (e + 1)) w1 := h.sr.merge2 (ug hr hN h.le) hci (ug hr hN (by omega)) hag1 (zd4 hr hN (by omega)) g s
 have hg0 := hr.next hN (i := 0) e (by omega) (by omega)
 have g1 : Go1 ρ0 F0 (S 0) w0 ρ1 F1 (ov cfg ops S (e + 1)) w1 := h.go.sub2 g (ug hr hN h.le) hci (ug hr hN (by omega)) rfl hag1 hg0
 have hag2 : ∀ id r,ρ1 id = some r → (ov cfg ops S e1).objs id = (ov cfg ops S (e + 1)).objs id := fun id r hrid => by
  show (if id < (S e1).next then (S e1).objs id else lay cfg ops S id) = (if id < (S (e + 1)).next then (S (e + 1)).objs id else lay cfg ops S id)
  have hp := hr.keep hN hst e1 h1 (by simpa using h2) mid
  rcases ha4 id (S (e + 1)).next with p1 | p1
  ·rw [if_pos p1,if_pos (by omega)]
   exact hp.2 id p1
  rw [if_neg (by omega : ¬ id < (S (e + 1)).next)]
  rcases ha4 id (S e1).next with p2 | p2
  ·rw [if_pos p2]
   obtain ⟨j,q1,q2,q3,q4⟩ := hr.given e1 h1 (by simpa using h2) p1 p2
   obtain ⟨qo,hoj⟩ : ∃ q,ops.toList[j]? = some q := ⟨_,haf (show j < ops.toList.length by simp; omega)⟩
   have hja : ops[j]? = some qo := by rw [← hay]; exact hoj
   have h5 : L j = true := by
    cases hjl : L j with
    | true => rfl
    | false =>
      have h6 := h.none_ j (by omega) hjl id q3 q4
      have := g.rng id r hrid h6
      omega
   have h6 := quiet j _ q1 q2 hoj h5
   rcases (hr.step j _ hoj).2 with ⟨_,h7⟩ | ⟨_,_,h7⟩
   ·have h8 : touch cfg qo = 1 := by
     rcases Nat.eq_zero_or_pos (touch cfg qo) with h9 | h9
     ·have := ((zc0 hN h7).2.1 h9).1
      rw [this] at q4; omega
     ·rcases ha4 (touch cfg qo) 2 with h10 | h10
      ·omega
      ·have hf : zoa cfg qo = true := by
        rcases h.ahead hd he hoj (.inl h5) h10 with h11 | h11
        ·omega
        ·exact h11.2
       have := zqy hf h7
       rw [this] at q4; omega
    rw [ztr hr hN hja h8 q3 q4]
    have hk := hr.keep hN hst (i := j + 1) e1 (by omega) (by simpa using h2) fun k q p p' => mid k q (by omega) p'
    exact hk.2 id q4
   ·rw [h7] at q4; omega
  ·rw [if_neg (by omega)]
 refine ⟨e1,h.next hr hN hd he ho hl hx h2 (fun j q p1 p2 p3 => ?_) h4 (s1.agree hag2 (zd4 hr hN h2)) (g1.agree rfl hag2) (fun v c k => g.vr k) hv fun id r p1 p2 => g.rng id r p1 p2⟩
 rcases ha4 j (e + 1) with h5 | h5
 ·unfold more
  split
  ·rfl
  ·exact h.bef j q (by omega) p2 p3
 ·exact h3 j q h5 p1 p2 p3
theorem zga {Lr : Array Bool} {i : Nat} (h : i ∈ Region.ready .any ops Lr) (hs : Lr.size = ops.size) : ∃ o,ops.toList[i]? = some o ∧ lis Lr i = false ∧ ∀ x ∈ o.after.toList,Region.binds .any x = true → lis Lr x.on = true := by
 obtain ⟨h1,o,ho,h2⟩ := mem_ready.1 h
 have hi := (hbg.1 ho).1
 refine ⟨o,by rw [hay]; exact ho,?_,fun x hx hb => h2 x (by simpa using hx) hb⟩
 unfold lis
 rw [Array.getD_eq_getD_getElem?,Array.getElem?_eq_getElem (by omega)] at h1 ⊢
 exact h1
theorem zql {Lr : Array Bool} {i : Nat} (hi : i < Lr.size) : lis (Lr.setIfInBounds i true) = more (lis Lr) i := by
 funext j
 unfold lis more
 by_cases h : j = i
 ·subst h; simp [hi]
 ·rw [if_neg h,getD_set_ne _ (Ne.symm h)]
theorem Run.floE (hr : Run cfg C ops.toList E S V) (hFD : zro cfg ops.toList = true) {u : Nat} (hu : u ∈ cfg.floZ) : ∀ k,k ≤ ops.size → (E k).getD u .undef = (E 0).getD u .undef
 | 0,_ => rfl
 | k + 1,hk => by
   have ho := haf (l := ops.toList) (i := k) (by simp; omega)
   rw [(hr.step k _ ho).1,← hr.floE hFD hu k (by omega)]
   unfold zro at hFD
   simp only [har] at hFD
   have := hFD u hu _ (haj ho)
   cases hdst : (ops.toList[k]'(by simp; omega)).dst with
   | none => rfl
   | some d =>
     rw [hdst] at this
     have hne : d ≠ u := by simpa using this
     simp only [zfu]
     rw [hai,ha5 hne,← hai]
theorem zqx (hr : Run cfg C ops.toList E S V) (hN : ja C) (hC : zao C) (hst : cfg.strict = true) (hcl : (S 0).Clean) (h : DI cfg ops E S V ρ0 F0 w0 L a w ρ F e) (hd : wg cfg ops.toList = true) (he : qm ops.toList = true) (hFD : zro cfg ops.toList = true) (hFS : zrn cfg (E 0) (S 0) = true)
  {i : Nat} {o : Oper} (ho : ops.toList[i]? = some o) (hl : L i = false) (hx : ∀ x ∈ o.after.toList,Region.binds .any x = true → L x.on = true) (hei : e < i) (hf : zoa cfg o = true) (t2 : 2 ≤ touch cfg o) (hb : vy ops.toList (E i) o = some true) (hev : yc cfg C (E i) (S i) o = some (V i,S (i + 1))) :
  yc cfg C (E i) (ov cfg ops S e) o = some (V i,ov cfg ops S e) := by
 have hi := (had.1 ho).1
 have hi' : i < ops.size := by simpa using hi
 have hgd := hr.gd i o ho hb
 unfold zoa at hf
 split at hf
 ·rename_i t a ea
  have hcalm : zjo cfg (.tmp a) ≠ true := fun hc => by
   unfold touch at t2
   rw [ea] at t2
   simp only [if_pos hc] at t2
   omega
  have hev0 := hev
  unfold yc at hev
  rw [ea] at hev
  simp only [if_neg hcalm] at hev
  rw [hac] at hev
  obtain ⟨v,hv,hq⟩ := hev
  simp only [Prod.mk.injEq] at hq
  obtain ⟨rfl,_⟩ := hq
  -- whose object
  have hG : ∃ u ∈ cfg.floZ,∃ id,zbo ((E i).getD u .undef) = some id ∧ zbo ((E i).getD a .undef) = some id := by
   unfold zaf at hgd
   cases hz : cfg.floZ with
   | nil => rw [hz] at hf; cases hf
   | cons z zs =>
     rw [hz] at hgd
     rw [haq] at hf
     simp only [ea,hf.2,Bool.not_true,Bool.false_or,List.any_eq_true] at hgd
     obtain ⟨u,hu,h2⟩ := hgd
     rw [haq,beq_iff_eq,Option.isSome_iff_exists] at h2
     obtain ⟨⟨id,h3⟩,h4⟩ := h2
     exact ⟨u,hu,id,h3,by rw [← h4]; exact h3⟩
  obtain ⟨u,hu,id,hid,hida⟩ := hG
  have h0 := hr.floE hFD hu i (by omega)
  have hid0 : id < (S 0).next := by
   unfold zrn at hFS
   simp only [har] at hFS
   have h1 := hFS u hu
   rw [← h0] at h1
   cases hr2 : (E i).getD u .undef with
   | ref j b c =>
     rw [hr2] at h1 hid
     simp only [zbo,Option.some.injEq] at hid
     subst hid
     rcases ha4 j (S 0).next with h2 | h2
     ·exact h2
     ·simp only [hcl j h2] at h1; cases h1
   | _ => rw [hr2] at h1; cases h1
  have heq : ∀ k,e ≤ k → k ≤ i → (S k).objs id = (S e).objs id := by
   intro k hk1 hk2
   induction k with
   | zero => have : e = 0 := by omega
             subst this; rfl
   | succ k ih =>
     rcases Nat.eq_or_lt_of_le hk1 with h1 | h1
     ·rw [← h1]
     ·rw [← ih (by omega) (by omega)]
      have hok := haf (l := ops.toList) (i := k) (by omega)
      have hn0 := hr.next hN (i := 0) k (by omega) (by omega)
      generalize ops.toList[k]'(by omega) = q at hok
      rcases (hr.step k q hok).2 with ⟨kb,kev⟩ | ⟨_,_,ks⟩
      ·by_cases t3 : touch cfg q = 3
       ·have hkl : L k = false := by
         rcases Nat.eq_or_lt_of_le (show e ≤ k by omega) with h2 | h2
         ·subst h2; exact (h.at_ q (by rw [← hay]; exact hok)).2
         ·cases hq : L k with
          | false => rfl
          | true =>
            rcases h.ahead hd he hok (.inl hq) (by omega) with h3 | h3
            ·omega
            ·have := zc7 h3.2; omega
        rcases kg hd (show k < i by omega) ho hok with h5 | ⟨_,_,_,h6⟩
        ·have := h.bits he (i + 1) i o (by omega) ho hx k h5
         rw [hkl] at this; cases this
        ·rcases h6 t3 with h7 | h7
         ·omega
         ·refine zoe kev h7.2 (hr.gd k q hok kb) (by omega) hu ?_
          rw [hr.floE hFD hu k (by omega),← h0]
          exact hid
       ·exact (hr.keep hN hst (i := k) (k + 1) (by omega) (by omega) fun j p h1 h2 h3 => by
         have : j = k := by omega
         subst this
         rw [hok] at h3
         cases h3
         exact t3).2 id (by omega)
      ·rw [ks]
  cases hr3 : (E i).getD a .undef with
  | ref j b c =>
    rw [hr3] at hida
    simp only [zbo,Option.some.injEq] at hida
    subst hida
    have hne := hr.next hN (i := 0) e (by omega) (by omega)
    have hov : (ov cfg ops S e).objs j = (S i).objs j := by
     show (if j < (S e).next then (S e).objs j else lay cfg ops S j) = _
     rw [if_pos (by omega),heq i (by omega) (hah _)]
    unfold yc
    rw [ea]
    simp only [if_neg hcalm]
    have hadd : opd (E i) (.tmp a) = .ref j b c := hr3
    rw [hadd] at hv ⊢
    rw [znx hov,hv]
    rfl
  | _ => rw [hr3] at hida; cases hida
 ·cases hf
theorem zog (hr : Run cfg C ops.toList E S V) (hO : zbf cfg.P C) (hN : ja C) (hC : zao C) (hst : cfg.strict = true) (hcl : (S 0).Clean) (hd : wg cfg ops.toList = true) (he : qm ops.toList = true) (hFD : zro cfg ops.toList = true) (hFS : zrn cfg (E 0) (S 0) = true)
  {Q : Exit → Act → World → Prop} (ds : List Deferred) (hQ : ∀ a' w' ρ' F',Go1 ρ0 F0 (S 0) w0 ρ' F' (S ops.size) w' → SR ρ' F' (S ops.size) w' → EnvR ρ' F' w' (E ops.size) a' → a'.defers = ds → Q .normal a' w') :
  ∀ (fuel : Nat) (Lr : Array Bool) (a : Act) (w : World) (ρ : Where) (F : xx) (e : Nat),Lr.size = ops.size → (List.range ops.size).countP (fun i => !lis Lr i) ≤ fuel → a.defers = ds → DI cfg ops E S V ρ0 F0 w0 (lis Lr) a w ρ F e →
    wpAny cfg.P .any ops Q fuel Lr a w := by
 have fin : ∀ (Lr : Array Bool) (a : Act) (w : World) (ρ : Where) (F : xx) (e : Nat),Lr.size = ops.size → a.defers = ds → DI cfg ops E S V ρ0 F0 w0 (lis Lr) a w ρ F e → Region.ready .any ops Lr = [] → Q .normal a w := by
  intro Lr a w ρ F e hsz hds h hrd
  have all : ∀ m i,i < m → i < ops.size → lis Lr i = true := by
   intro m
   induction m with
   | zero => intro i hi; omega
   | succ m ih =>
     intro i hi hin
     cases hl : lis Lr i with
     | true => rfl
     | false =>
       have ho := Array.getElem?_eq_getElem hin
       have : i ∈ Region.ready .any ops Lr := by
        rw [mem_ready]
        refine ⟨?_,_,ho,fun x hx hb => ?_⟩
        ·unfold lis at hl
         rw [Array.getD_eq_getD_getElem?,Array.getElem?_eq_getElem (by omega)] at hl ⊢
         exact hl
        ·have := zah he (by rw [hay]; exact ho) x (by simpa using hx) hb
         exact ih x.on (by omega) (by omega)
       rw [hrd] at this
       cases this
  have hen : e = ops.size := by
   rcases ha4 e ops.size with h1 | h1
   ·have h2 := (h.at_ _ (Array.getElem?_eq_getElem h1)).2
    rw [all (e + 1) e (by omega) h1] at h2; cases h2
   ·have := h.le; omega
  subst hen
  have hov := zwq hr hN (hr.clean hN hC hcl ops.size (by simp))
  refine hQ a w ρ F (by rw [← hov]; exact h.go) (by rw [← hov]; exact h.sr) ⟨by rw [h.slots,hr.len ops.size (by simp)],fun t => ?_⟩ hds
  rcases ha4 t (E 0).length with ht | ht
  ·have h1 := h.env t ht
   rw [zaj ops.size (L' := fun _ => true) fun j hj _ => all (j + 1) j (by omega) hj,← hr.cur ht ops.size (by simp)] at h1
   exact h1
  ·rw [hai,hbv (by rw [hr.len ops.size (by simp)]; exact ht)]
   exact .pure (.undef _)
 intro fuel
 induction fuel with
 | zero =>
   intro Lr a w ρ F e hsz hc hds h
   have hrd : Region.ready .any ops Lr = [] := by
    cases hq : Region.ready .any ops Lr with
    | nil => rfl
    | cons i r =>
      obtain ⟨o,ho,hl,_⟩ := zga (i := i) (by rw [hq]; exact .head _) hsz
      have hi := (had.1 ho).1
      have : 0 < (List.range ops.size).countP (fun i => !lis Lr i) := List.countP_pos_iff.2 ⟨i,by simpa using hi,by rw [hl]; rfl⟩
      omega
   exact ⟨hrd,fin Lr a w ρ F e hsz hds h hrd⟩
 | succ fuel ih =>
   intro Lr a w ρ F e hsz hc hds h
   refine ⟨fin Lr a w ρ F e hsz hds h,fun i hm => ?_⟩
   obtain ⟨o,ho,hl,hx⟩ := zga hm hsz
   have hi := (had.1 ho).1
   have hi' : i < ops.size := by simpa using hi
   have hoa : ops[i]? = some o := by rw [← hay]; exact ho
   have cont : ∀ vc w1 ρ1 F1 e1,DI cfg ops E S V ρ0 F0 w0 (more (lis Lr) i) (a.put o.dst vc) w1 ρ1 F1 e1 → wpAny cfg.P .any ops Q fuel (Lr.setIfInBounds i true) (a.put o.dst vc) w1 := by
    intro vc w1 ρ1 F1 e1 h1
    refine ih _ _ w1 ρ1 F1 e1 (by simpa using hsz) ?_ (by rw [zcy]; exact hds) (by rw [zql (by omega)]; exact h1)
    rw [zql (by omega)]
    have := (zmt (p := fun j => !lis Lr j) (q := fun j => !more (lis Lr) i j) (i := i) (fun j hj => by
     unfold more at hj
     split at hj
     ·cases hj
     ·exact hj) (by rw [hl]; rfl) (by simp [more]) (List.range ops.size)).2 (by simpa using hi')
    omega
   have slot : ∀ t,t ∈ qv ops.toList o → VR ρ F w ((E i).getD t .undef) (a.tmps.getD t undef) := fun t ht => by
    rcases ha4 t (E 0).length with h1 | h1
    ·rw [← (h.slot hr hd he ho hl hx h1 ht).1]; exact h.env t h1
    ·rw [hai,hbv (by rw [hr.len i (by omega)]; exact h1)]
     exact .pure (.undef _)
   have opn : ∀ x ∈ o.op.operands,VR ρ F w (opd (E i) x) (a.eval x) := fun x hxo => by
    cases x with
    | tmp t => exact slot t (by
      unfold qv
      refine List.mem_append_left _ (List.mem_append_right _ ?_)
      unfold ztg
      exact List.mem_filterMap.2 ⟨.tmp t,by simpa using hxo,rfl⟩)
    | const v => exact .pure (zc1 F w v)
    | global g => exact .pure (.undef _)
    | func f => exact .func' (us := []) .nil
   have writer : touch cfg o = 3 → i = e := fun ht => by
    rcases ha4 i e with h1 | h1
    ·have := h.bef i o h1 hoa ht
     rw [hl] at this; cases this
    ·rcases Nat.eq_or_lt_of_le h1 with h2 | h2
     ·exact h2.symm
     ·have hoe := haf (show e < ops.toList.length by omega)
      obtain ⟨h3,h4⟩ := h.at_ _ (by rw [← hay]; exact hoe)
      rcases kg hd h2 ho hoe with h5 | ⟨_,_,_,h6⟩
      ·have := h.bits he (i + 1) i o (by omega) ho hx e h5
       rw [h4] at this; cases this
      ·rcases h6 h3 with h7 | h7
       ·omega
       ·have := zc7 h7.1; omega
   have stay : touch cfg o ≠ 3 → (∀ j o,j < e → ops[j]? = some o → touch cfg o = 3 → more (lis Lr) i j = true) ∧ ∀ o,ops[e]? = some o → touch cfg o = 3 ∧ more (lis Lr) i e = false := fun ht => by
    refine ⟨fun j q h1 h2 h3 => ?_,fun q hq => ?_⟩
    ·unfold more
     split
     ·rfl
     ·exact h.bef j q h1 h2 h3
    ·obtain ⟨h1,h2⟩ := h.at_ q hq
     refine ⟨h1,?_⟩
     unfold more
     rw [if_neg (fun e' => ?_)]
     ·exact h2
     ·subst e'; rw [hoa] at hq; cases hq; exact ht h1
   have hw : ∀ b,vy ops.toList (E i) o = some b → Region.wanted o (yielded ops a.tmps) = b := fun b hb => zeg (ρ := ρ) (F := F) (w := w) hb fun g u d hg hd' => slot d (by
     unfold qv
     refine List.mem_append_right _ ?_
     rw [hg]
     simp only
     cases hq : ops.toList[g]? with
     | none => rw [← hay,hq] at hd'; cases hd'
     | some p => rw [← hay,hq] at hd'; simp only [Option.bind_some] at hd'; simp [hd'])
   unfold wpOp
   rw [hoa]
   simp only
   rcases (hr.step i o ho).2 with ⟨hb,hev⟩ | ⟨hb,hvi,hsi⟩
   ·rw [if_pos (hw _ hb)]
    refine .inl ?_
    obtain ⟨k1,k2,k3,k4⟩ := zc0 hN hev
    have hnone : ∀ id,(S i).next ≤ id → id < (S (i + 1)).next → ρ id = none := h.none_ i hi' hl
    by_cases t0 : touch cfg o = 0
    ·obtain ⟨q1,q2⟩ := k2 t0
     refine zaw hO (q2 (ov cfg ops S e)) h.sr opn (fun id p1 p2 => by omega) _ _ fun vc ρ1 F1 w1 g s hv => ?_
     exact cont _ _ ρ1 F1 e (h.next hr hN hd he ho hl hx h.le (stay (by omega)).1 (stay (by omega)).2 s (h.go.trans g) (fun v c k => g.vr k) hv fun id r p1 p2 => by
      have := g.rng id r p1 p2; omega)
    ·by_cases t3 : touch cfg o = 3
     ·have hie := writer t3
      subst hie
      refine zaw hO hev (h.sr.part (ug hr hN h.le) (hr.clean hN hC hcl i (by omega))) opn hnone _ _ fun vc ρ1 F1 w1 g s hv => ?_
      obtain ⟨e1,h1⟩ := h.wrote hr hN hC hst hcl hd he ho hl hx s g hv
      exact cont _ _ ρ1 F1 e1 h1
     ·have hle := h.le
      have hcl0 := hr.next hN (i := 0) i (by omega) (by omega)
      by_cases hlt : i < e
      ·have mid : ∀ j q,i ≤ j → j < e → ops.toList[j]? = some q → touch cfg q ≠ 3 := fun j q p1 p2 hq h5 => by
        have h6 := h.bef j q p2 (by rw [← hay]; exact hq) h5
        rcases Nat.eq_or_lt_of_le p1 with h7 | h7
        ·subst h7; rw [hl] at h6; cases h6
        ·rcases kg hd h7 hq ho with h8 | ⟨_,_,h8,_⟩
         ·have := h.bits he (j + 1) j q (by omega) hq (h.closed _ _ (by rw [← hay]; exact hq) h6) i h8
          rw [hl] at this; cases this
         ·exact t0 (h8 h5)
       have hpo := ug hr hN hle
       have hpi : (S i).Part (ov cfg ops S e) := Store.Part.trans (hr.keep hN hst e (by omega) (by simpa using hle) mid) hpo
       have hp1 : (S (i + 1)).Part (ov cfg ops S e) := Store.Part.trans (hr.keep hN hst e (by omega) (by simpa using hle) fun j q p1 p2 => mid j q (by omega) p2) hpo
       have hci := hr.clean hN hC hcl i (by omega)
       have hc1 := hr.clean hN hC hcl (i + 1) (by omega)
       refine zaw hO hev (h.sr.part hpi hci) opn hnone _ _ fun vc ρ1 F1 w1 g s hv => ?_
       exact cont _ _ ρ1 F1 e (h.next hr hN hd he ho hl hx h.le (stay t3).1 (stay t3).2 (h.sr.merge hpi hci hp1 hc1 g s hnone) (h.go.sub g hpi hci hp1 hcl0) (fun v c k => g.vr k) hv fun id r p1 p2 => g.rng id r p1 p2)
      ·by_cases t2 : 2 ≤ touch cfg o
       ·have hf : e < i ∧ zoa cfg o = true := by
         rcases h.ahead hd he ho (.inr ⟨hl,t3,hx⟩) t2 with h1 | h1
         ·exact absurd h1 hlt
         ·exact h1
        refine zaw hO (zqx hr hN hC hst hcl h hd he hFD hFS ho hl hx hf.1 hf.2 t2 hb hev) h.sr opn (fun id p1 p2 => by omega) _ _ fun vc ρ1 F1 w1 g s hv => ?_
        exact cont _ _ ρ1 F1 e (h.next hr hN hd he ho hl hx h.le (stay (by omega)).1 (stay (by omega)).2 s (h.go.trans g) (fun v c k => g.vr k) hv fun id r p1 p2 => by
         have := g.rng id r p1 p2; omega)
       have t1 : touch cfg o = 1 := by omega
       obtain ⟨ob,k5,k6⟩ := k4 t1
       have hie := hr.next hN (i := e) i (by omega) (by omega)
       have hin := hr.next hN (i := i + 1) ops.size (by omega) (by simp)
       let τ : Store := ⟨(S i).next,fun id => if id < (S i).next then (ov cfg ops S e).objs id else none⟩
       have hci : τ.Clean := fun id hid => by
        show (if id < (S i).next then (ov cfg ops S e).objs id else none) = none
        rw [if_neg (Nat.not_lt.2 hid)]
       have hpi : τ.Part (ov cfg ops S e) := ⟨haz k1 hin,fun id hid => by
        show _ = (if id < (S i).next then (ov cfg ops S e).objs id else none)
        rw [if_pos hid]⟩
       have hnx : (S (i + 1)).next = (S i).next + 1 := by rw [k5]; rfl
       have hc1 : (τ.push ob).Clean := fun id hid => by
        have hid : (S i).next + 1 ≤ id := hid
        show (if id = (S i).next then some ob else τ.objs id) = none
        rw [if_neg (by omega)]
        exact hci id (by show (S i).next ≤ id; omega)
       have hp1 : (τ.push ob).Part (ov cfg ops S e) := ⟨by show (S i).next + 1 ≤ _; rw [← hnx]; exact hin,fun id hid => by
        have hid : id < (S i).next + 1 := hid
        show _ = (if id = (S i).next then some ob else τ.objs id)
        by_cases hq : id = (S i).next
        ·rw [if_pos hq]
         show (if id < (S e).next then (S e).objs id else lay cfg ops S id) = some ob
         rw [if_neg (by omega),ztr hr hN hoa t1 (by omega) (by omega),k5]
         show (if id = (S i).next then some ob else _) = some ob
         rw [if_pos hq]
        ·rw [if_neg hq]
         exact hpi.2 id (by show id < (S i).next; omega)⟩
       refine zaw hO (k6 τ rfl) (h.sr.part hpi hci) opn (fun id p1 p2 => hnone id p1 (by rw [hnx]; exact p2)) _ _ fun vc ρ1 F1 w1 g s hv => ?_
       exact cont _ _ ρ1 F1 e (h.next hr hN hd he ho hl hx h.le (stay t3).1 (stay t3).2 (h.sr.merge hpi hci hp1 hc1 g s (fun id p1 p2 => hnone id p1 (by rw [hnx]; exact p2))) (h.go.sub g hpi hci hp1 hcl0) (fun v c k => g.vr k) hv fun id r p1 p2 => by
        have := g.rng id r p1 p2; rw [hnx]; exact this)
   ·rw [if_neg (by rw [hw _ hb]; decide)]
    have hv : VR ρ F w (V i) undef := by rw [hvi]; exact zbh
    by_cases t3 : touch cfg o = 3
    ·have hie := writer t3
     subst hie
     obtain ⟨e1,h1⟩ := h.wrote hr hN hC hst hcl hd he ho hl hx (ρ1 := ρ) (F1 := F) (w1 := w) (by rw [hsi]; exact h.sr.part (ug hr hN h.le) (hr.clean hN hC hcl i (by omega))) (by rw [hsi]; exact .refl _ _ _ _) hv
     exact cont _ _ ρ F e1 h1
    ·exact cont _ _ ρ F e (h.next hr hN hd he ho hl hx h.le (stay t3).1 (stay t3).2 h.sr h.go (fun v c k => k) hv fun id r p1 p2 => by rw [p2] at p1; cases p1)
end
end Go.Pvm
namespace Go.Pvm
def Ex.exit' : Ex → Exit
 | .normal => .normal
 | .exit i => .exit i
 | .ret => .ret
def LoopAt (P : Program) (c : Code) (Q : Exit → Act → World → Prop) (a : Act) (w : World) : Prop :=
 ∀ (b : Frame) (k : List Item) (cs : List Frame),∃ e a' w',Q e a' w' ∧ Arrives P (lone (b.at a (.code c :: .inLoop c :: k)) cs w) b k cs e a' w'
theorem LoopAt.loop {P : Program} {c : Code} {Q : Exit → Act → World → Prop} {a : Act} {w : World} (h : LoopAt P c Q a w) : (Code.loop c).wp P Q a w := fun b k cs =>
 let ⟨e,a',w',q,r⟩ := h b k cs; ⟨e,a',w',q,.of_steps (.one step_loop) r⟩
theorem LoopAt.round {P : Program} {c : Code} {Q : Exit → Act → World → Prop} {a : Act} {w : World} (h : c.wp P (Exit.then (LoopAt P c Q) Q) a w) : LoopAt P c Q a w := by
 intro b k cs
 obtain ⟨e,a₁,w₁,hq,harr⟩ := h b (.inLoop c :: k) cs
 cases e with
 | normal =>
   obtain ⟨e₂,a₂,w₂,hq₂,harr₂⟩ := hq b k cs
   exact ⟨e₂,a₂,w₂,hq₂,.of_steps (Steps.trans harr (.one step_inLoop)) harr₂⟩
 | exit id => exact ⟨_,a₁,w₁,hq,.pass (x := .inLoop c) rfl (fun _ _ => .inl (by simp)) harr⟩
 | goto l => exact ⟨_,a₁,w₁,hq,.pass (x := .inLoop c) rfl (fun _ _ => .inl (by simp)) harr⟩
 | ret => exact ⟨_,a₁,w₁,hq,.pass (x := .inLoop c) rfl (fun _ _ => .inl (by simp)) harr⟩
 | panic ch => exact ⟨_,a₁,w₁,hq,.pass (x := .inLoop c) rfl (fun _ _ => .inl (by simp)) harr⟩
 | outgrown => exact ⟨_,a₁,w₁,hq,.pass (x := .inLoop c) rfl (fun _ _ => .inl (by simp)) harr⟩
def zyb (ρ : Where) (F : xx) (σ : Store) (w : World) (a : Act) (x : Ex) (env' : List PV) (σ' : Store) (Q : Exit → Act → World → Prop) : Prop :=
 ∀ a' w' ρ' F',Go1 ρ F σ w ρ' F' σ' w' → SR ρ' F' σ' w' → EnvR ρ' F' w' env' a' → a'.defers = a.defers → Q x.exit' a' w'
def zj3 (P : Program) (L : xg) : Prop := ∀ f c env σ x env' σ',L f c env σ = some (x,env',σ') → ∀ (ρ : Where) (F : xx) (w : World) (a : Act),SR ρ F σ w → EnvR ρ F w env a → (∀ id,σ.next ≤ id → id < σ'.next → ρ id = none) →
 ∀ Q : Exit → Act → World → Prop,zyb ρ F σ w a x env' σ' Q → LoopAt P c Q a w
def zds (L : xg) : Prop := ∀ f c env σ x env' σ',L f c env σ = some (x,env',σ') → σ.next ≤ σ'.next
def zb2 (L : xg) : Prop := ∀ f c env σ x env' σ',L f c env σ = some (x,env',σ') → env'.length = env.length
def zfp (L : xg) : Prop := ∀ f c env σ x env' σ',L f c env σ = some (x,env',σ') → σ.Clean → σ'.Clean
section
variable {cfg : Cfg} {C : z7} {L : xg} {f : FuncId}
theorem zac (n : Nat) (l : List Nat) (env : List PV) : (za4 n l env).length = n := by simp [za4]
theorem zae (c : Code) (env : List PV) : (ux cfg f c env.length env).length = env.length := by
 unfold ux
 split
 ·exact zac _ _ _
 ·rfl
theorem zhp (c : Code) {n : Nat} {env : List PV} (h : env.length = n) : (ux cfg f c n env).length = n := by subst h; exact zae c env
theorem zbr (c : Code) {x : Ex} {n : Nat} {env : List PV} (h : env.length = n) : (zhc cfg f c x n env).length = n := by
 unfold zhc
 split
 ·exact zac _ _ _
 ·exact h
theorem zi7 {ρ : Where} {F : xx} {w : World} {env : List PV} {a : Act} (h : EnvR ρ F w env a) (l : List Nat) : EnvR ρ F w (za4 env.length l env) a := by
 refine ⟨by rw [zac]; exact h.1,fun t => ?_⟩
 unfold za4
 rw [hai,hav]
 rcases ha4 t env.length with ht | ht
 ·rw [List.getElem?_range ht]
  simp only [Option.map_some,Option.getD_some]
  split
  ·exact h.2 t
  ·exact .pure (.undef _)
 ·rw [hbv (by simpa using ht)]
  exact .pure (.undef _)
theorem zja {ρ : Where} {F : xx} {w : World} {env : List PV} {a : Act} (h : EnvR ρ F w env a) (c : Code) {n : Nat} (hn : env.length = n) : EnvR ρ F w (ux cfg f c n env) a := by
 subst hn
 unfold ux
 split
 ·exact zi7 h _
 ·exact h
theorem zhb {ρ : Where} {F : xx} {w : World} {env : List PV} {a : Act} (h : EnvR ρ F w env a) (c : Code) {x : Ex} {n : Nat} (hn : env.length = n) : EnvR ρ F w (zhc cfg f c x n env) a := by
 subst hn
 unfold zhc
 split
 ·exact zi7 h _
 ·exact h
theorem uk {all : List Oper} : ∀ (l : List Oper) (env : List PV) (σ : Store) (env' : List PV) (σ' : Store),y4 cfg C all l env σ = some (env',σ') → env'.length = env.length
 | [],env,σ,env',σ',h => by simp [y4] at h; rw [h.1]
 | o :: r,env,σ,env',σ',h => by
   simp only [y4,haa] at h
   obtain ⟨b,hb,h⟩ := h
   split at h
   ·simp only [haa] at h
    obtain ⟨⟨v,τ⟩,h1,h2⟩ := h
    rw [uk r _ _ _ _ h2,zbp]
   ·rw [uk r _ _ _ _ h,zbp]
theorem zk3 {b : Bool} {l z : List Nat} {ops : List Oper} {draw : Bool} {env env' : List PV} {σ σ' : Store} (h : kf cfg C b l z ops draw env σ = some (env',σ')) : env'.length = env.length := by
 unfold kf at h
 split at h
 ·split at h
  ·exact uk _ _ _ _ _ h
  ·cases h
 ·exact uk _ _ _ _ _ h
theorem zjg (hN : ja C) {b : Bool} {l z : List Nat} {ops : List Oper} {draw : Bool} {env env' : List PV} {σ σ' : Store} (h : kf cfg C b l z ops draw env σ = some (env',σ')) : σ.next ≤ σ'.next := by
 unfold kf at h
 split at h
 ·split at h
  ·exact ku hN _ _ _ _ _ h
  ·cases h
 ·exact ku hN _ _ _ _ _ h
theorem zhy (hN : ja C) (hC : zao C) {b : Bool} {l z : List Nat} {ops : List Oper} {draw : Bool} {env env' : List PV} {σ σ' : Store} (h : kf cfg C b l z ops draw env σ = some (env',σ')) (hc : σ.Clean) : σ'.Clean := by
 unfold kf at h
 split at h
 ·split at h
  ·exact vb hN hC _ _ _ _ _ h hc
  ·cases h
 ·exact vb hN hC _ _ _ _ _ h hc
theorem um (hL : zb2 L) : ∀ (c : Code) (env : List PV) (σ : Store) (x : Ex) (env' : List PV) (σ' : Store),zg cfg C L f c env σ = some (x,env',σ') → env'.length = env.length
 | .skip,_,_,_,_,_,h | .label _,_,_,_,_,_,h | .exit _,_,_,_,_,_,h | .ret,_,_,_,_,_,h => by simp only [zg] at h; cases h; rfl
 | .region _ ops draw,env,σ,x,env',σ',h => by
   simp only [zg,haa,hac] at h
   obtain ⟨p,h0,⟨e,s⟩,h1,h2⟩ := h
   cases h2
   exact (zk3 h1).trans (zkj h0).1
 | .seq a b,env,σ,x,env',σ',h => by
   simp only [zg,haa] at h
   obtain ⟨⟨y,e,s⟩,h1,h2⟩ := h
   have k1 := um hL a _ _ _ _ _ h1
   cases y with
   | normal => exact (um hL b _ _ _ _ _ h2).trans k1
   | exit i => cases h2; exact k1
   | ret => cases h2; exact k1
 | .cond c a b,env,σ,x,env',σ',h => by
   simp only [zg] at h
   split at h
   ·split at h
    ·exact um hL a _ _ _ _ _ h
    ·exact um hL b _ _ _ _ _ h
   ·cases h
 | .block id c,env,σ,x,env',σ',h => by
   simp only [zg,hac] at h
   obtain ⟨⟨y,e,s⟩,h1,h2⟩ := h
   cases h2
   exact um hL c _ _ _ _ _ h1
 | .loop c,env,σ,x,env',σ',h => by
   simp only [zg,hac] at h
   obtain ⟨⟨y,e,s⟩,h1,h2⟩ := h
   cases h2
   exact zbr c ((hL _ _ _ _ _ _ _ h1).trans (zae c env))
 | .rangeFunc ..,_,_,_,_,_,h | .scope _,_,_,_,_,_,h | .goto _,_,_,_,_,_,h | .refuse _,_,_,_,_,_,h => by simp only [zg] at h; cases h
theorem qf (hN : ja C) (hL : zds L) : ∀ (c : Code) (env : List PV) (σ : Store) (x : Ex) (env' : List PV) (σ' : Store),zg cfg C L f c env σ = some (x,env',σ') → σ.next ≤ σ'.next
 | .skip,_,_,_,_,_,h | .label _,_,_,_,_,_,h | .exit _,_,_,_,_,_,h | .ret,_,_,_,_,_,h => by simp only [zg] at h; cases h; exact hah _
 | .region _ ops draw,env,σ,x,env',σ',h => by
   simp only [zg,haa,hac] at h
   obtain ⟨p,h0,⟨e,s⟩,h1,h2⟩ := h
   cases h2
   exact haz (Nat.le_of_eq (zkj h0).2.1.symm) (zjg hN h1)
 | .seq a b,env,σ,x,env',σ',h => by
   simp only [zg,haa] at h
   obtain ⟨⟨y,e,s⟩,h1,h2⟩ := h
   have k1 := qf hN hL a _ _ _ _ _ h1
   cases y with
   | normal => exact haz k1 (qf hN hL b _ _ _ _ _ h2)
   | exit i => cases h2; exact k1
   | ret => cases h2; exact k1
 | .cond c a b,env,σ,x,env',σ',h => by
   simp only [zg] at h
   split at h
   ·split at h
    ·exact qf hN hL a _ _ _ _ _ h
    ·exact qf hN hL b _ _ _ _ _ h
   ·cases h
 | .block id c,env,σ,x,env',σ',h => by
   simp only [zg,hac] at h
   obtain ⟨⟨y,e,s⟩,h1,h2⟩ := h
   cases h2
   exact qf hN hL c _ _ _ _ _ h1
 | .loop c,env,σ,x,env',σ',h => by
   simp only [zg,hac] at h
   obtain ⟨⟨y,e,s⟩,h1,h2⟩ := h
   cases h2
   exact hL _ _ _ _ _ _ _ h1
 | .rangeFunc ..,_,_,_,_,_,h | .scope _,_,_,_,_,_,h | .goto _,_,_,_,_,_,h | .refuse _,_,_,_,_,_,h => by simp only [zg] at h; cases h
theorem kn (hN : ja C) (hC : zao C) (hL : zfp L) : ∀ (c : Code) (env : List PV) (σ : Store) (x : Ex) (env' : List PV) (σ' : Store),zg cfg C L f c env σ = some (x,env',σ') → σ.Clean → σ'.Clean
 | .skip,_,_,_,_,_,h,hc | .label _,_,_,_,_,_,h,hc | .exit _,_,_,_,_,_,h,hc | .ret,_,_,_,_,_,h,hc => by simp only [zg] at h; cases h; exact hc
 | .region _ ops draw,env,σ,x,env',σ',h,hc => by
   simp only [zg,haa,hac] at h
   obtain ⟨p,h0,⟨e,s⟩,h1,h2⟩ := h
   cases h2
   obtain ⟨_,k2,k3⟩ := zkj h0
   exact zhy hN hC h1 fun id hid => (k3 id).2 (hc id (by rw [← k2]; exact hid))
 | .seq a b,env,σ,x,env',σ',h,hc => by
   simp only [zg,haa] at h
   obtain ⟨⟨y,e,s⟩,h1,h2⟩ := h
   have k1 := kn hN hC hL a _ _ _ _ _ h1 hc
   cases y with
   | normal => exact kn hN hC hL b _ _ _ _ _ h2 k1
   | exit i => cases h2; exact k1
   | ret => cases h2; exact k1
 | .cond c a b,env,σ,x,env',σ',h,hc => by
   simp only [zg] at h
   split at h
   ·split at h
    ·exact kn hN hC hL a _ _ _ _ _ h hc
    ·exact kn hN hC hL b _ _ _ _ _ h hc
   ·cases h
 | .block id c,env,σ,x,env',σ',h,hc => by
   simp only [zg,hac] at h
   obtain ⟨⟨y,e,s⟩,h1,h2⟩ := h
   cases h2
   exact kn hN hC hL c _ _ _ _ _ h1 hc
 | .loop c,env,σ,x,env',σ',h,hc => by
   simp only [zg,hac] at h
   obtain ⟨⟨y,e,s⟩,h1,h2⟩ := h
   cases h2
   exact hL _ _ _ _ _ _ _ h1 hc
 | .rangeFunc ..,_,_,_,_,_,h,_ | .scope _,_,_,_,_,_,h,_ | .goto _,_,_,_,_,_,h,_ | .refuse _,_,_,_,_,_,h,_ => by simp only [zg] at h; cases h
theorem ze6 (ρ : Where) (F : xx) (σ : Store) (w : World) (n : Nat) : Go1 ρ F σ w ρ F σ { w with drawn := n } :=
 ⟨fun _ _ h => h,fun _ _ h h' => absurd (h.symm.trans h') (by simp),hah _,fun _ _ h => h,fun _ _ _ => rfl,hah _,fun _ _ _ => rfl,fun _ _ h => .inl h,fun _ h => .inr h,rfl,rfl,rfl⟩
theorem SR.drawn {ρ : Where} {F : xx} {σ : Store} {w : World} (h : SR ρ F σ w) (n : Nat) : SR ρ F σ { w with drawn := n } :=
 ⟨fun id r o hr ho => by
  exact (h.obj id r o hr ho).alike rfl (fun k => (ze6 ρ F σ w n).vr k) (fun _ e => e),h.apart,h.old,h.new⟩
theorem zk7 {cfg' : Cfg} (hst' : cfg'.strict = true) (hm : cfg'.P.follows .mixedOrders = true) (hO : zbf cfg'.P C) (hN : ja C) (hC : zao C) {id : Nat} {ops : Array Oper} {env e : List PV} {σ s : Store} (h1 : y4 cfg' C ops.toList ops.toList env σ = some (e,s)) (hok : (wg cfg' ops.toList = true ∧ qm ops.toList = true) ∧ zro cfg' ops.toList = true ∧ zrn cfg' env σ = true)
  (ρ : Where) (F : xx) (w : World) (a : Act) (hs : SR ρ F σ w) (he : EnvR ρ F w env a) (hn : ∀ id,σ.next ≤ id → id < s.next → ρ id = none) (Q : Exit → Act → World → Prop) (hQ : zyb ρ F σ w a .normal e s Q) : (Code.region id ops true).wp cfg'.P Q a w := by
 obtain ⟨E,S,V,e0,s0,en,sn,hst⟩ := zpj _ _ _ _ _ h1
 have hr : Run cfg' C ops.toList E S V := ⟨fun i o h => ⟨(hst i o h).1,(hst i o h).2.1⟩,fun i o h => (hst i o h).2.2⟩
 have hl : ops.toList.length = ops.size := Array.length_toList
 rw [hl] at en sn
 refine wp_region_any hm ?_
 obtain ⟨e1,f1,f2,f3,f4⟩ := zqz cfg' ops (lis (Array.replicate ops.size false)) ops.size 0 (by omega)
 have hfalse : ∀ i,lis (Array.replicate ops.size false) i = false := fun i => by
  unfold lis; rw [Array.getD_eq_getD_getElem?,Array.getElem?_replicate]; split <;> rfl
 have hcl : (S 0).Clean := by rw [s0]; exact hs.new
 have hnx := hr.next hN (i := 0) ops.size (by omega) (by omega)
 have mid : ∀ j o,0 ≤ j → j < e1 → ops.toList[j]? = some o → touch cfg' o ≠ 3 := fun j o _ p2 ho h5 => by
  have := f3 j o (by omega) p2 (by rw [← hay]; exact ho) h5
  rw [hfalse] at this; cases this
 have hp := Store.Part.trans (hr.keep hN hst' e1 (by omega) (by omega) mid) (ug hr hN f2)
 have hc1 := zd4 hr hN f2
 have hn' : ∀ id,(S 0).next ≤ id → id < (ov cfg' ops S e1).next → ρ id = none := fun id p1 p2 => hn id (by rw [← s0]; exact p1) (by rw [← sn]; exact p2)
 refine zog (ρ0 := ρ) (F0 := F) (w0 := w) hr hO hN hC hst' hcl hok.1.1 hok.1.2 hok.2.1 (by rw [e0,s0]; exact hok.2.2) a.defers (fun a' w' ρ' F' g s' he' hd => ?_) ops.size _ a _ ρ F e1 (by simp) ?_ rfl ?_
 ·rw [s0,sn] at g
  rw [sn] at s'
  rw [en] at he'
  exact hQ a' w' ρ' F' g s' he' hd
 ·exact haz List.countP_le_length (by simp)
 ·refine ⟨fun i o ho hl => (by rw [hfalse] at hl; cases hl),by rw [e0]; exact he.1,f2,fun j o p1 p2 p3 => f3 j o (by omega) p1 p2 p3,f4,?_,?_,fun t ht => ?_,fun i hi _ id p1 p2 => ?_⟩
  ·exact (SR.ext (by rw [s0]; exact hs) hp hc1 hn').drawn _
  ·exact (Go1.ext (.refl ρ F (S 0) w) hp hc1 hn').trans (ze6 _ _ _ _ _)
  ·rw [zcq ops.size (i := 0) (by omega) fun j _ _ _ => hfalse j]
   show VR ρ F _ ((E 0).getD t .undef) _
   rw [e0]
   exact (ze6 ρ F σ w _).vr (he.2 t)
  ·have q1 := hr.next hN (i := 0) i (by omega) (by omega)
   have q2 := hr.next hN (i := i + 1) ops.size (by omega) (by omega)
   exact hn id (by rw [← s0]; omega) (by rw [← sn]; omega)
theorem kj (hm : cfg.P.follows .mixedOrders = true) (hO : zbf cfg.P C) (hN : ja C) (hC : zao C) (hL : zj3 cfg.P L) (hLU : zds L) (hLL : zb2 L) :
  ∀ (c : Code) (env : List PV) (σ : Store) (x : Ex) (env' : List PV) (σ' : Store),zg cfg C L f c env σ = some (x,env',σ') → ∀ (ρ : Where) (F : xx) (w : World) (a : Act),SR ρ F σ w → EnvR ρ F w env a → (∀ id,σ.next ≤ id → id < σ'.next → ρ id = none) →
    ∀ Q : Exit → Act → World → Prop,zyb ρ F σ w a x env' σ' Q → c.wp cfg.P Q a w
 | .skip,env,σ,x,env',σ',h,ρ,F,w,a,hs,he,hn,Q,hQ => by
   simp only [zg] at h; cases h; exact wp_skip (hQ a w ρ F (.refl _ _ _ _) hs he rfl)
 | .label _,env,σ,x,env',σ',h,ρ,F,w,a,hs,he,hn,Q,hQ => by
   simp only [zg] at h; cases h; exact wp_label (hQ a w ρ F (.refl _ _ _ _) hs he rfl)
 | .exit _,env,σ,x,env',σ',h,ρ,F,w,a,hs,he,hn,Q,hQ => by
   simp only [zg] at h; cases h; exact wp_exit (hQ a w ρ F (.refl _ _ _ _) hs he rfl)
 | .ret,env,σ,x,env',σ',h,ρ,F,w,a,hs,he,hn,Q,hQ => by
   simp only [zg] at h; cases h; exact wp_ret (hQ a w ρ F (.refl _ _ _ _) hs he rfl)
 | .region id ops draw,env,σ,x,env',σ',h,ρ,F,w,a,hs,he,hn,Q,hQ => by
   simp only [zg,haa,hac] at h
   obtain ⟨p,h0,⟨e,s⟩,h1,h2⟩ := h
   cases h2
   obtain ⟨F1,g1,s1,r1,x1⟩ := zpv h0 hs he
   have hn1 : ∀ id,p.2.2.next ≤ id → id < s.next → ρ id = none := fun id p q => hn id (by rw [← x1]; exact p) q
   have hQ1 : zyb ρ F1 p.2.2 w a .normal e s Q := fun a' w' ρ' F' g s' he' hd => hQ a' w' ρ' F' (g1.trans g) s' he' hd
   unfold kf at h1
   split at h1
   ·rename_i hd
    subst hd
    split at h1
    ·rename_i hok
     rw [haq,haq,haq] at hok
     exact zk7 (cfg' := { cfg.at_ f with strict := true,calm := p.1,calmA := zbe cfg f id ops.toList,floZ := cfg.flo f id,floA := ki (cfg.flo f id) ops.toList }) rfl hm hO hN hC h1 hok ρ F1 w a s1 r1 hn1 Q hQ1
    ·cases h1
   ·rename_i hd
    have hdf : draw = false := by simpa using hd
    subst hdf
    exact wp_region_list (zej (cfg := cfg.at_ f) hO hN ops _ _ _ _ _ h1 ρ F1 w a s1 r1 hn1 Q hQ1)
 | .seq c d,env,σ,x,env',σ',h,ρ,F,w,a,hs,he,hn,Q,hQ => by
   simp only [zg,haa] at h
   obtain ⟨⟨y,e,s⟩,h1,h2⟩ := h
   have k1 := qf hN hLU c _ _ _ _ _ h1
   refine wp_seq (kj hm hO hN hC hL hLU hLL c _ _ _ _ _ h1 ρ F w a hs he (fun id p q => hn id p ?_) _ fun a' w' ρ' F' g s' he' hd => ?_)
   ·refine hao q ?_
    cases y with
    | normal => exact qf hN hLU d _ _ _ _ _ h2
    | exit i => cases h2; exact hah _
    | ret => cases h2; exact hah _
   ·cases y with
    | normal =>
      refine kj hm hO hN hC hL hLU hLL d _ _ _ _ _ h2 ρ' F' w' a' s' he' (fun id p q => ?_) Q fun a2 w2 ρ2 F2 g2 s2 he2 hd2 => hQ a2 w2 ρ2 F2 (g.trans g2) s2 he2 (hd2.trans hd)
      cases hq : ρ' id with
      | none => rfl
      | some r => have := g.rng id r hq (hn id (haz k1 p) q); exact absurd this.2 (Nat.not_lt.2 p)
    | exit i => cases h2; exact hQ a' w' ρ' F' g s' he' hd
    | ret => cases h2; exact hQ a' w' ρ' F' g s' he' hd
 | .cond c d e,env,σ,x,env',σ',h,ρ,F,w,a,hs,he,hn,Q,hQ => by
   simp only [zg] at h
   split at h
   ·rename_i t ht
    have hc := he.opd c
    rw [ht] at hc
    refine wp_cond hc.bool_inv ?_
    split at h
    ·rename_i htt
     rw [if_pos htt]
     exact kj hm hO hN hC hL hLU hLL d _ _ _ _ _ h ρ F w a hs he hn Q hQ
    ·rename_i htt
     rw [if_neg htt]
     exact kj hm hO hN hC hL hLU hLL e _ _ _ _ _ h ρ F w a hs he hn Q hQ
   ·cases h
 | .block id c,env,σ,x,env',σ',h,ρ,F,w,a,hs,he,hn,Q,hQ => by
   simp only [zg,hac] at h
   obtain ⟨⟨y,e,s⟩,h1,h2⟩ := h
   cases h2
   refine wp_block (kj hm hO hN hC hL hLU hLL c _ _ _ _ _ h1 ρ F w a hs he hn _ fun a' w' ρ' F' g s' he' hd => ?_)
   have := hQ a' w' ρ' F' g s' he' hd
   cases y with
   | normal => exact this
   | ret => exact this
   | exit i =>
     show (if i = id then Q .normal a' w' else Q (.exit i) a' w')
     simp only at this
     split
     ·rename_i hi; rw [if_pos hi] at this; exact this
     ·rename_i hi; rw [if_neg hi] at this; exact this
 | .loop c,env,σ,x,env',σ',h,ρ,F,w,a,hs,he,hn,Q,hQ => by
   simp only [zg,hac] at h
   obtain ⟨⟨y,e,s⟩,h1,h2⟩ := h
   cases h2
   exact (hL _ _ _ _ _ _ _ h1 ρ F w a hs (zja he c rfl) hn Q fun a' w' ρ' F' g s' he' hd => hQ a' w' ρ' F' g s' (zhb he' c ((hLL _ _ _ _ _ _ _ h1).trans (zae c env))) hd).loop
 | .rangeFunc ..,_,_,_,_,_,h,_,_,_,_,_,_,_,_,_ | .scope _,_,_,_,_,_,h,_,_,_,_,_,_,_,_,_ | .goto _,_,_,_,_,_,h,_,_,_,_,_,_,_,_,_ | .refuse _,_,_,_,_,_,h,_,_,_,_,_,_,_,_,_ => by simp only [zg] at h; cases h
def zx9 (a : Act) : ResultVar → Sem Value
 | .tmp t => pure (a.tmps.getD t undef)
 | .cell b t => do loadVar t (← asAddr (a.tmps.getD b undef))
theorem zg6 {ρ : Where} {F : xx} {σ : Store} {w : World} {env : List PV} {r : ResultVar} {v : PV} (h : u5 cfg.P σ env r = some v) (hs : SR ρ F σ w) {a : Act} (he : EnvR ρ F w env a) :
  ∃ u,(zx9 a r).run cfg.P w = .ok u w ∧ VR ρ F w v u := by
 cases r with
 | tmp t => simp only [u5] at h; cases h; exact ⟨_,rfl,he.2 t⟩
 | cell b t =>
   simp only [u5] at h
   obtain ⟨u,h1,h2⟩ := zim h hs (he.2 b)
   refine ⟨u,?_,h2⟩
   have hp : ∃ p,a.tmps.getD b undef = .pointer (some p) := by
    have hv := he.2 b
    unfold zd at h
    split at h
    ·rename_i hx
     rw [hx] at hv
     obtain ⟨b',o,h3,_⟩ := hv.pref_inv
     exact ⟨_,h3⟩
    ·rename_i hx
     rw [hx] at hv
     obtain ⟨r,_,h3⟩ := hv.ref_inv
     exact ⟨_,h3⟩
    ·cases h
   obtain ⟨p,hp⟩ := hp
   show (do loadVar t (← asAddr (a.tmps.getD b undef)) : Sem Value).run cfg.P w = _
   rw [hp] at h1 ⊢
   simpa [Instr.loadAt,Instr.sureAddr,asAddr] using h1
theorem za8 {ρ : Where} {F : xx} {σ : Store} {w : World} {env : List PV} (hs : SR ρ F σ w) {a : Act} (he : EnvR ρ F w env a) : ∀ (rs : List ResultVar) (vs : List PV),jl cfg.P σ env rs = some vs →
  ∃ us,(rs.mapM (zx9 a)).run cfg.P w = .ok us w ∧ VRs ρ F w vs us
 | [],vs,h => by simp only [jl] at h; cases h; exact ⟨[],by simp,.nil⟩
 | r :: rest,vs,h => by
   simp only [jl,haa,hac] at h
   obtain ⟨v,h1,us,h2,rfl⟩ := h
   obtain ⟨u,h3,h4⟩ := zg6 h1 hs he
   obtain ⟨ws,h5,h6⟩ := za8 hs he rest us h2
   refine ⟨u :: ws,?_,.cons h4 h6⟩
   rw [List.mapM_cons]
   simp only [Sem.run_bind,h3,Result.andThen_ok,h5,Sem.run_pure]
theorem zg3 {α : Type} (x : Sem α) : x.bind Sem.pure = x := by
 induction x <;> simp only [Sem.bind] <;> first | rfl | (congr 1; funext y; rename_i ih; exact ih y) | (rename_i ih; rw [ih])
theorem zfr {α β γ : Type} (x : Sem α) (f : α → Sem β) (g : β → Sem γ) : (x.bind f).bind g = x.bind fun a => (f a).bind g := by
 induction x <;> simp only [Sem.bind] <;> first | rfl | (congr 1; funext y; rename_i ih; exact ih y) | (rename_i ih; rw [ih])
theorem znh : LawfulMonad Sem := LawfulMonad.mk' Sem (fun x => zg3 x) (fun _ _ => rfl) (fun x f g => zfr x f g)
theorem zg7 {ρ : Where} {F : xx} {σ : Store} {w : World} {env : List PV} (hs : SR ρ F σ w) {a : Act} (he : EnvR ρ F w env a) {fn : Func} {vs : List PV} (h : jl cfg.P σ env fn.results.toList = some vs) :
  ∃ u,(results fn a.tmps).run cfg.P w = .ok u w ∧ VR ρ F w (up vs) u := by
 obtain ⟨us,h1,h2⟩ := za8 hs he _ _ h
 show ∃ u,(do let vs ← fn.results.mapM (zx9 a); pure (if h : vs.size = 1 then vs[0] else .tuple vs) : Sem Value).run cfg.P w = .ok u w ∧ _
 rw [Sem.run_bind]
 have h3 : (fn.results.mapM (zx9 a)).run cfg.P w = .ok us.toArray w := by
  have := znh
  rw [Array.mapM_eq_mapM_toList,← bind_pure_comp,Sem.run_bind,h1]
  rfl
 rw [h3,Result.andThen_ok]
 have hlen := h2.1
 match vs,us,h2,hlen with
 | [],[],h2,_ => exact ⟨_,rfl,.tuple' h2⟩
 | [v],[u],h2,_ => exact ⟨u,rfl,h2.2 0 v u rfl rfl⟩
 | v :: v' :: r,u :: u' :: q,h2,_ =>
   refine ⟨.tuple (u :: u' :: q).toArray,?_,?_⟩
   ·rw [dif_neg (by simp),Sem.run_pure]
   ·exact .tuple' h2
theorem zq0 {ρ : Where} {F : xx} {w : World} {fn : Func} {args : List PV} {us : List Value} (h : VRs ρ F w args us) :
  EnvR ρ F w (zcp fn args) { tmps := us.toArray ++ Array.replicate (fn.ntmps - us.toArray.size) undef,defers := [] } := by
 have hl := h.1
 refine ⟨by simp [zcp]; omega,fun t => ?_⟩
 unfold zcp
 rw [hai,Array.getD_eq_getD_getElem?]
 rcases ha4 t args.length with ht | ht
 ·rw [hbh ht,Array.getElem?_append_left (by simp; omega)]
  have h1 := haf ht
  have h2 := haf (l := us) (i := t) (by omega)
  rw [h1,List.getElem?_toArray,h2]
  exact h.2 t _ _ h1 h2
 ·rw [List.getElem?_append_right ht,List.getElem?_replicate]
  split <;> exact .pure (.undef _)
structure ToldOk (P : Program) (f : FuncId) (g : List PV → Store → Option (PV × Store)) : Prop where
 ok : ∀ args σ v σ',g args σ = some (v,σ') → ∀ (ρ : Where) (F : xx) (w : World) (us : List Value),SR ρ F σ w → VRs ρ F w args us → (∀ id,σ.next ≤ id → id < σ'.next → ρ id = none) →
  Calls P f us.toArray w fun e w' => ∃ vc ρ' F',e = .returned vc ∧ Go1 ρ F σ w ρ' F' σ' w' ∧ SR ρ' F' σ' w' ∧ VR ρ' F' w' v vc
 next : ∀ args σ v σ',g args σ = some (v,σ') → σ.next ≤ σ'.next
 clean : ∀ args σ v σ',g args σ = some (v,σ') → σ.Clean → σ'.Clean
def zib (cfg : Cfg) : Prop := ∀ f g,cfg.told f = some g → ToldOk cfg.P f g
theorem zka (hT : zib cfg) (hm : cfg.P.follows .mixedOrders = true) (hO : zbf cfg.P C) (hN : ja C) (hC : zao C) (hL : zj3 cfg.P L) (hLU : zds L) (hLL : zb2 L) : zbf cfg.P (uu cfg C L) := by
 intro f args σ v σ' h ρ F w us hs hv hn
 unfold uu at h
 split at h
 ·rename_i g hg
  exact (hT f g hg).ok _ _ _ _ h ρ F w us hs hv hn
 split at h
 ·rename_i fn hf
  split at h
  ·rename_i c hc
   simp only [haa] at h
   obtain ⟨⟨x,e,s⟩,h1,h2⟩ := h
   have h3 : ∃ vs,jl cfg.P s e fn.results.toList = some vs ∧ v = up vs ∧ σ' = s ∧ (x = .normal ∨ x = .ret) := by
    cases x with
    | exit i => cases h2
    | normal => rw [hac] at h2; obtain ⟨vs,q1,q2⟩ := h2; cases q2; exact ⟨vs,q1,rfl,rfl,.inl rfl⟩
    | ret => rw [hac] at h2; obtain ⟨vs,q1,q2⟩ := h2; cases q2; exact ⟨vs,q1,rfl,rfl,.inr rfl⟩
   obtain ⟨vs,h4,rfl,rfl,h5⟩ := h3
   refine calls_of_wp hf hc (kj hm hO hN hC hL hLU hLL c _ _ _ _ _ h1 ρ F w _ hs (zq0 hv) hn _ fun a' w' ρ' F' g s' he' hd => ?_)
   obtain ⟨u,q1,q2⟩ := zg7 s' he' h4
   have : bodyPost cfg.P fn (fun e w' => ∃ vc ρ' F',e = .returned vc ∧ Go1 ρ F σ w ρ' F' σ' w' ∧ SR ρ' F' σ' w' ∧ VR ρ' F' w' (up vs) vc) .normal a' w' := ⟨hd,u,q1,u,ρ',F',rfl,g,s',q2⟩
   rcases h5 with rfl | rfl
   ·exact this
   ·exact this
  ·cases h
 ·cases h
theorem znc (hT : zib cfg) (hN : ja C) (hLU : zds L) : ja (uu cfg C L) := by
 intro f args σ v σ' h
 unfold uu at h
 split at h
 ·rename_i g hg
  exact (hT f g hg).next _ _ _ _ h
 split at h
 ·split at h
  ·simp only [haa] at h
   obtain ⟨⟨x,e,s⟩,h1,h2⟩ := h
   have := qf hN hLU _ _ _ _ _ _ h1
   cases x with
   | exit i => cases h2
   | normal => rw [hac] at h2; obtain ⟨vs,q1,q2⟩ := h2; cases q2; exact this
   | ret => rw [hac] at h2; obtain ⟨vs,q1,q2⟩ := h2; cases q2; exact this
  ·cases h
 ·cases h
theorem zkb (hT : zib cfg) (hN : ja C) (hC : zao C) (hLN : zfp L) : zao (uu cfg C L) := by
 intro f args σ v σ' h hc
 unfold uu at h
 split at h
 ·rename_i g hg
  exact (hT f g hg).clean _ _ _ _ h hc
 split at h
 ·split at h
  ·simp only [haa] at h
   obtain ⟨⟨x,e,s⟩,h1,h2⟩ := h
   have := kn hN hC hLN _ _ _ _ _ _ h1 hc
   cases x with
   | exit i => cases h2
   | normal => rw [hac] at h2; obtain ⟨vs,q1,q2⟩ := h2; cases q2; exact this
   | ret => rw [hac] at h2; obtain ⟨vs,q1,q2⟩ := h2; cases q2; exact this
  ·cases h
 ·cases h
theorem zm9 (hN : ja C) (hLU : zds L) : zds (ue cfg C L) := by
 intro f c env σ x env' σ' h
 unfold ue at h
 simp only [haa] at h
 obtain ⟨⟨y,e,s⟩,h1,h2⟩ := h
 have := qf hN hLU _ _ _ _ _ _ h1
 cases y with
 | normal => exact haz this (hLU _ _ _ _ _ _ _ h2)
 | exit i => cases h2; exact this
 | ret => cases h2; exact this
theorem zj8 (hN : ja C) (hC : zao C) (hLN : zfp L) : zfp (ue cfg C L) := by
 intro f c env σ x env' σ' h hc
 unfold ue at h
 simp only [haa] at h
 obtain ⟨⟨y,e,s⟩,h1,h2⟩ := h
 have := kn hN hC hLN _ _ _ _ _ _ h1 hc
 cases y with
 | normal => exact hLN _ _ _ _ _ _ _ h2 this
 | exit i => cases h2; exact this
 | ret => cases h2; exact this
theorem zpa (hLL : zb2 L) : zb2 (ue cfg C L) := by
 intro f c env σ x env' σ' h
 unfold ue at h
 simp only [haa] at h
 obtain ⟨⟨y,e,s⟩,h1,h2⟩ := h
 have := um hLL _ _ _ _ _ _ h1
 cases y with
 | normal => exact (hLL _ _ _ _ _ _ _ h2).trans (zhp c this)
 | exit i => cases h2; exact zbr c this
 | ret => cases h2; exact zbr c this
theorem zj7 (hm : cfg.P.follows .mixedOrders = true) (hO : zbf cfg.P C) (hN : ja C) (hC : zao C) (hL : zj3 cfg.P L) (hLU : zds L) (hLL : zb2 L) : zj3 cfg.P (ue cfg C L) := by
 intro f c env σ x env' σ' h ρ F w a hs he hn Q hQ
 unfold ue at h
 simp only [haa] at h
 obtain ⟨⟨y,e,s⟩,h1,h2⟩ := h
 have k1 := qf hN hLU _ _ _ _ _ _ h1
 have k2 := um hLL _ _ _ _ _ _ h1
 refine LoopAt.round (kj hm hO hN hC hL hLU hLL c _ _ _ _ _ h1 ρ F w a hs he (fun id p q => hn id p ?_) _ fun a' w' ρ' F' g s' he' hd => ?_)
 ·refine hao q ?_
  cases y with
  | normal => exact hLU _ _ _ _ _ _ _ h2
  | exit i => cases h2; exact hah _
  | ret => cases h2; exact hah _
 ·cases y with
  | normal =>
    refine hL _ _ _ _ _ _ _ h2 ρ' F' w' a' s' (zja he' c k2) (fun id p q => ?_) Q fun a2 w2 ρ2 F2 g2 s2 he2 hd2 => hQ a2 w2 ρ2 F2 (g.trans g2) s2 he2 (hd2.trans hd)
    cases hq : ρ' id with
    | none => rfl
    | some r => have := g.rng id r hq (hn id (haz k1 p) q); exact absurd this.2 (Nat.not_lt.2 p)
  | exit i => cases h2; exact hQ a' w' ρ' F' g s' (zhb he' c k2) hd
  | ret => cases h2; exact hQ a' w' ρ' F' g s' (zhb he' c k2) hd
structure AllOk (P : Program) (C : z7) (L : xg) : Prop where
 ok : zbf P C
 next : ja C
 clean : zao C
 lok : zj3 P L
 lnext : zds L
 lclean : zfp L
 llen : zb2 L
theorem zdr (hT : zib cfg) (hm : cfg.P.follows .mixedOrders = true) : ∀ n,AllOk cfg.P (vx cfg n) (loopN cfg n)
 | 0 => ⟨fun _ _ _ _ _ h => by (cases h),fun _ _ _ _ _ h => by (cases h),fun _ _ _ _ _ h => by (cases h),fun _ _ _ _ _ _ _ h => by (cases h),fun _ _ _ _ _ _ _ h => by (cases h),fun _ _ _ _ _ _ _ h => by (cases h),fun _ _ _ _ _ _ _ h => by (cases h)⟩
 | n + 1 => let h := zdr hT hm n
   ⟨zka hT hm h.ok h.next h.clean h.lok h.lnext h.llen,znc hT h.next h.lnext,zkb hT h.next h.clean h.lclean,
    zj7 hm h.ok h.next h.clean h.lok h.lnext h.llen,zm9 h.next h.lnext,zj8 h.next h.clean h.lclean,zpa h.llen⟩
end
end Go.Pvm
