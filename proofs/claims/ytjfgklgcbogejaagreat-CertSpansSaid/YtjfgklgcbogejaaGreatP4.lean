import Derived.Test.YtjfgklgcbogejaaGreatP3
import Derived.ProofKit
import Derived.KernelRfl
import Derived.Laws.Strings
/- Part of the proof: the evaluator without a count: what some count of rounds yields. -/
set_option linter.unusedSimpArgs false
set_option linter.unusedVariables false
namespace Go.Pvm
def CLe (C C' : x5) : Prop := ∀ f a σ r,C f a σ = some r → C' f a σ = some r
def LLe (L L' : vj) : Prop := ∀ f c e σ r,L f c e σ = some r → L' f c e σ = some r
section
variable {cfg : Cfg} {C C' : x5} {L L' : vj} {f : FuncId}
theorem zse (hC : CLe C C') {g : FuncId} {args : List PV} {σ : Store} {r : PV × Store} (h : wg cfg C g args σ = some r) : wg cfg C' g args σ = some r := by
 unfold wg at h ⊢
 split
 ·rename_i hm; rw [hm] at h; exact hC _ _ _ _ h
 ·rename_i hm
  rw [hm] at h
  simp only [Option.bind_eq_some_iff] at h
  obtain ⟨⟨v,τ⟩,h1,h2⟩ := h
  simp only [hC _ _ _ _ h1,Option.bind_some]
  exact h2
 ·rename_i hm
  rw [hm] at h
  simp only [Option.bind_eq_some_iff] at h
  obtain ⟨⟨v,τ⟩,h1,h2⟩ := h
  simp only [hC _ _ _ _ h1,Option.bind_some]
  exact h2
 ·rename_i hm
  rw [hm] at h
  simp only [Option.bind_eq_some_iff] at h
  obtain ⟨⟨v,τ⟩,h1,h2⟩ := h
  simp only [hC _ _ _ _ h1,Option.bind_some]
  exact h2
theorem zh9 (hC : CLe C C') {env : List PV} {σ : Store} {o : Oper} {r : PV × Store} (h : xo cfg C env σ o = some r) : xo cfg C' env σ o = some r := by
 obtain ⟨dst,op,type,pos,after,guard⟩ := o
 cases op
 case call c =>
  obtain ⟨callee,args,ts⟩ := c
  cases callee
  case builtin b => exact h
  case value x =>
   have h' : (match opd env x with | .func g cs => wh cfg C g (args.toList.map (opd env) ++ cs) σ | _ => none) = some r := h
   show (match opd env x with | .func g cs => wh cfg C' g (args.toList.map (opd env) ++ cs) σ | _ => none) = some r
   generalize opd env x = z at h' ⊢
   cases z <;> simp only at h' ⊢ <;> first | (cases h'; done) | skip
   unfold wh at h' ⊢
   split at h'
   ·rename_i he
    rw [if_pos he]
    exact zse hC h'
   ·rename_i he
    rw [if_neg he]
    exact h'
  case invoke x m => exact h
 case makeFunc fn fs cs => cases fn <;> exact h
 all_goals exact h
theorem vz (hC : CLe C C') {all : List Oper} : ∀ (l : List Oper) (env : List PV) (σ : Store) (r : List PV × Store),xj cfg C all l env σ = some r → xj cfg C' all l env σ = some r
 | [],env,σ,r,h => h
 | o :: l,env,σ,r,h => by
   simp only [xj,Option.bind_eq_some_iff] at h ⊢
   obtain ⟨b,hb,h⟩ := h
   refine ⟨b,hb,?_⟩
   split at h
   ·rename_i hbt
    rw [if_pos hbt]
    rw [Option.bind_eq_some_iff] at h ⊢
    obtain ⟨x,h1,h2⟩ := h
    exact ⟨x,zh9 hC h1,vz hC l _ _ _ h2⟩
   ·rename_i hbt
    rw [if_neg hbt]
    exact vz hC l _ _ _ h
theorem ja (hC : CLe C C') (hL : LLe L L') : ∀ (c : Code) (env : List PV) (σ : Store) (r : Ex × List PV × Store),yv cfg C L f c env σ = some r → yv cfg C' L' f c env σ = some r
 | .skip,_,_,_,h | .label _,_,_,_,h | .exit _,_,_,_,h | .ret,_,_,_,h => h
 | .region _ ops draw,env,σ,r,h => by
   simp only [yv,Option.bind_eq_some_iff,Option.map_eq_some_iff] at h ⊢
   obtain ⟨p,h0,x,h1,h2⟩ := h
   refine ⟨p,h0,x,?_,h2⟩
   unfold vg at h1 ⊢
   split at h1
   ·rename_i hd
    rw [if_pos hd]
    split at h1
    ·rename_i hk
     rw [if_pos hk]
     exact vz hC _ _ _ _ h1
    ·cases h1
   ·rename_i hd
    rw [if_neg hd]
    exact vz hC _ _ _ _ h1
 | .seq a b,env,σ,r,h => by
   simp only [yv,Option.bind_eq_some_iff] at h ⊢
   obtain ⟨⟨y,e,s⟩,h1,h2⟩ := h
   refine ⟨(y,e,s),ja hC hL a _ _ _ h1,?_⟩
   cases y with
   | normal => exact ja hC hL b _ _ _ h2
   | exit i => exact h2
   | ret => exact h2
 | .cond c a b,env,σ,r,h => by
   simp only [yv] at h ⊢
   generalize opd env c = z at h ⊢
   cases z <;> simp only at h ⊢ <;> first | (cases h; done) | skip
   rename_i t
   cases t
   ·exact ja hC hL b _ _ _ h
   ·exact ja hC hL a _ _ _ h
 | .block id c,env,σ,r,h => by
   simp only [yv,Option.map_eq_some_iff] at h ⊢
   obtain ⟨x,h1,h2⟩ := h
   exact ⟨x,ja hC hL c _ _ _ h1,h2⟩
 | .loop c,env,σ,r,h => by
   simp only [yv,Option.map_eq_some_iff] at h ⊢
   obtain ⟨x,h1,h2⟩ := h
   exact ⟨x,hL _ _ _ _ _ h1,h2⟩
 | .rangeFunc ..,_,_,_,h | .scope _,_,_,_,h | .goto _,_,_,_,h | .refuse _,_,_,_,h => by simp only [yv] at h; cases h
theorem zq5 (hC : CLe C C') (hL : LLe L L') : CLe (zbh cfg C L) (zbh cfg C' L') := by
 intro g a σ r h
 unfold zbh at h ⊢
 split
 ·rename_i g' hg; rw [hg] at h; exact h
 ·rename_i hg
  rw [hg] at h
  simp only at h
  split
  ·rename_i fn hf
   rw [hf] at h
   simp only at h
   split
   ·rename_i c hc
    rw [hc] at h
    simp only [Option.bind_eq_some_iff] at h ⊢
    obtain ⟨x,h1,h2⟩ := h
    exact ⟨x,ja hC hL _ _ _ _ h1,h2⟩
   ·rename_i hc; rw [hc] at h; cases h
  ·rename_i hf; rw [hf] at h; cases h
theorem zq2 (hC : CLe C C') (hL : LLe L L') : LLe (zbg cfg C L) (zbg cfg C' L') := by
 intro g c e σ r h
 unfold zbg at h ⊢
 simp only [Option.bind_eq_some_iff] at h ⊢
 obtain ⟨⟨y,e',s⟩,h1,h2⟩ := h
 refine ⟨(y,e',s),ja hC hL _ _ _ _ h1,?_⟩
 cases y with
 | normal => exact hL _ _ _ _ _ h2
 | exit i => exact h2
 | ret => exact h2
theorem zqr (cfg : Cfg) : ∀ n,CLe (up cfg n) (up cfg (n + 1)) ∧ LLe (loopN cfg n) (loopN cfg (n + 1))
 | 0 => ⟨fun _ _ _ _ h => by (cases h),fun _ _ _ _ _ h => by (cases h)⟩
 | n + 1 => let ⟨h1,h2⟩ := zqr cfg n; ⟨zq5 h1 h2,zq2 h1 h2⟩
theorem kb (cfg : Cfg) {m : Nat} : ∀ n,m ≤ n → CLe (up cfg m) (up cfg n) ∧ LLe (loopN cfg m) (loopN cfg n)
 | 0,h => by have : m = 0 := by omega
             subst this; exact ⟨fun _ _ _ _ h => h,fun _ _ _ _ _ h => h⟩
 | n + 1,h => by
   rcases Nat.eq_or_lt_of_le h with h1 | h1
   ·subst h1; exact ⟨fun _ _ _ _ h => h,fun _ _ _ _ _ h => h⟩
   ·obtain ⟨h2,h3⟩ := kb cfg (m := m) n (by omega)
    obtain ⟨h4,h5⟩ := zqr cfg n
    exact ⟨fun _ _ _ _ h => h4 _ _ _ _ (h2 _ _ _ _ h),fun _ _ _ _ _ h => h5 _ _ _ _ _ (h3 _ _ _ _ _ h)⟩
open Classical in
noncomputable def jg (cfg : Cfg) : x5 := fun f a σ => if h : ∃ n r,up cfg n f a σ = some r then up cfg (Classical.choose h) f a σ else none
open Classical in
noncomputable def zbi (cfg : Cfg) : vj := fun f c e σ => if h : ∃ n r,loopN cfg n f c e σ = some r then loopN cfg (Classical.choose h) f c e σ else none
theorem callω_iff {g : FuncId} {a : List PV} {σ : Store} {r : PV × Store} : jg cfg g a σ = some r ↔ ∃ n,up cfg n g a σ = some r := by
 unfold jg
 constructor
 ·intro h
  split at h
  ·exact ⟨_,h⟩
  ·cases h
 ·intro ⟨n,h⟩
  have hex : ∃ n r,up cfg n g a σ = some r := ⟨n,r,h⟩
  rw [dif_pos hex]
  obtain ⟨r',h'⟩ := Classical.choose_spec hex
  rw [h']
  have h1 := (kb cfg (max n (Classical.choose hex)) (Nat.le_max_left _ _)).1 _ _ _ _ h
  have h2 := (kb cfg (max n (Classical.choose hex)) (Nat.le_max_right _ _)).1 _ _ _ _ h'
  rw [h1] at h2
  exact h2.symm
theorem loopω_iff {g : FuncId} {c : Code} {e : List PV} {σ : Store} {r : Ex × List PV × Store} : zbi cfg g c e σ = some r ↔ ∃ n,loopN cfg n g c e σ = some r := by
 unfold zbi
 constructor
 ·intro h
  split at h
  ·exact ⟨_,h⟩
  ·cases h
 ·intro ⟨n,h⟩
  have hex : ∃ n r,loopN cfg n g c e σ = some r := ⟨n,r,h⟩
  rw [dif_pos hex]
  obtain ⟨r',h'⟩ := Classical.choose_spec hex
  rw [h']
  have h1 := (kb cfg (max n (Classical.choose hex)) (Nat.le_max_left _ _)).2 _ _ _ _ _ h
  have h2 := (kb cfg (max n (Classical.choose hex)) (Nat.le_max_right _ _)).2 _ _ _ _ _ h'
  rw [h1] at h2
  exact h2.symm
theorem zpw (hT : Tolds cfg) (hm : cfg.P.follows .mixedOrders = true) : AllOk cfg.P (jg cfg) (zbi cfg) where
 ok _ _ _ _ _ h := let ⟨n,h⟩ := callω_iff.1 h; (zfy hT hm n).ok _ _ _ _ _ h
 next _ _ _ _ _ h := let ⟨n,h⟩ := callω_iff.1 h; (zfy hT hm n).next _ _ _ _ _ h
 clean _ _ _ _ _ h := let ⟨n,h⟩ := callω_iff.1 h; (zfy hT hm n).clean _ _ _ _ _ h
 lok _ _ _ _ _ _ _ h := let ⟨n,h⟩ := loopω_iff.1 h; (zfy hT hm n).lok _ _ _ _ _ _ _ h
 lnext _ _ _ _ _ _ _ h := let ⟨n,h⟩ := loopω_iff.1 h; (zfy hT hm n).lnext _ _ _ _ _ _ _ h
 lclean _ _ _ _ _ _ _ h := let ⟨n,h⟩ := loopω_iff.1 h; (zfy hT hm n).lclean _ _ _ _ _ _ _ h
 llen _ _ _ _ _ _ _ h := let ⟨n,h⟩ := loopω_iff.1 h; (zfy hT hm n).llen _ _ _ _ _ _ _ h
theorem zop {c2 : Cfg} (hc : ∀ g args σ r,wg c2 (jg cfg) g args σ = some r → ∃ n,wg c2 (up cfg n) g args σ = some r) {env : List PV} {σ : Store} {o : Oper} {r : PV × Store} (h : xo c2 (jg cfg) env σ o = some r) : ∃ n,xo c2 (up cfg n) env σ o = some r := by
 obtain ⟨dst,op,type,pos,after,guard⟩ := o
 cases op
 case call c =>
  obtain ⟨callee,args,ts⟩ := c
  cases callee
  case builtin b => exact ⟨0,h⟩
  case value x =>
   have h' : (match opd env x with | .func g cs => wh c2 (jg cfg) g (args.toList.map (opd env) ++ cs) σ | _ => none) = some r := h
   show ∃ n,(match opd env x with | .func g cs => wh c2 (up cfg n) g (args.toList.map (opd env) ++ cs) σ | _ => none) = some r
   generalize opd env x = z at h' ⊢
   cases z <;> simp only at h' ⊢ <;> first | (cases h'; done) | skip
   unfold wh at h' ⊢
   split at h'
   ·rename_i he
    simp only [if_pos he]
    exact hc _ _ _ _ h'
   ·rename_i he
    simp only [if_neg he]
    exact ⟨0,h'⟩
  case invoke x m => exact ⟨0,h⟩
 case makeFunc fn fs cs => cases fn <;> exact ⟨0,h⟩
 all_goals exact ⟨0,h⟩
theorem u5 {c2 : Cfg} (hc : ∀ g args σ r,wg c2 (jg cfg) g args σ = some r → ∃ n,wg c2 (up cfg n) g args σ = some r) {all : List Oper} : ∀ (l : List Oper) (env : List PV) (σ : Store) (r : List PV × Store),xj c2 (jg cfg) all l env σ = some r → ∃ n,xj c2 (up cfg n) all l env σ = some r
 | [],env,σ,r,h => ⟨0,h⟩
 | o :: l,env,σ,r,h => by
   simp only [xj,Option.bind_eq_some_iff] at h ⊢
   obtain ⟨b,hb,h⟩ := h
   split at h
   ·rename_i hbt
    rw [Option.bind_eq_some_iff] at h
    obtain ⟨x,h1,h2⟩ := h
    obtain ⟨n,h1⟩ := zop hc h1
    obtain ⟨m,h2⟩ := u5 hc l _ _ _ h2
    refine ⟨max n m,b,hb,?_⟩
    rw [if_pos hbt,Option.bind_eq_some_iff]
    exact ⟨x,zh9 (kb cfg _ (Nat.le_max_left _ _)).1 h1,vz (kb cfg _ (Nat.le_max_right _ _)).1 _ _ _ _ h2⟩
   ·rename_i hbt
    obtain ⟨n,h⟩ := u5 hc l _ _ _ h
    exact ⟨n,b,hb,by rw [if_neg hbt]; exact h⟩
theorem zib {c2 : Cfg} {g : FuncId} {args : List PV} {σ : Store} {r : PV × Store} (h : wg c2 (jg cfg) g args σ = some r) : ∃ n,wg c2 (up cfg n) g args σ = some r := by
 unfold wg at h ⊢
 split at h
 ·exact callω_iff.1 h
 ·simp only [Option.bind_eq_some_iff] at h
  obtain ⟨⟨v,τ⟩,h1,h2⟩ := h
  obtain ⟨n,h1⟩ := callω_iff.1 h1
  exact ⟨n,by simp only [h1,Option.bind_some]; exact h2⟩
 ·simp only [Option.bind_eq_some_iff] at h
  obtain ⟨⟨v,τ⟩,h1,h2⟩ := h
  obtain ⟨n,h1⟩ := callω_iff.1 h1
  exact ⟨n,by simp only [h1,Option.bind_some]; exact h2⟩
 ·simp only [Option.bind_eq_some_iff] at h
  obtain ⟨⟨v,τ⟩,h1,h2⟩ := h
  obtain ⟨n,h1⟩ := callω_iff.1 h1
  exact ⟨n,by simp only [h1,Option.bind_some]; exact h2⟩
theorem j7 : ∀ (c : Code) (env : List PV) (σ : Store) (r : Ex × List PV × Store),yv cfg (jg cfg) (zbi cfg) f c env σ = some r → ∃ n,yv cfg (up cfg n) (loopN cfg n) f c env σ = some r
 | .skip,_,_,_,h | .label _,_,_,_,h | .exit _,_,_,_,h | .ret,_,_,_,h => ⟨0,h⟩
 | .region id ops draw,env,σ,r,h => by
   simp only [yv,Option.bind_eq_some_iff,Option.map_eq_some_iff] at h ⊢
   obtain ⟨p,h0,x,h1,h2⟩ := h
   have : ∃ n,vg (cfg.at_ f) (up cfg n) p.1 (zcr cfg f id ops.toList) ops.toList draw p.2.1 p.2.2 = some x := by
    unfold vg at h1 ⊢
    split at h1
    ·rename_i hd
     simp only [if_pos hd]
     split at h1
     ·rename_i hk
      simp only [if_pos hk]
      exact u5 (fun g args σ r h => zib h) _ _ _ _ h1
     ·cases h1
    ·rename_i hd
     simp only [if_neg hd]
     exact u5 (fun g args σ r h => zib h) _ _ _ _ h1
   obtain ⟨n,hn⟩ := this
   exact ⟨n,p,h0,x,hn,h2⟩
 | .seq a b,env,σ,r,h => by
   simp only [yv,Option.bind_eq_some_iff] at h ⊢
   obtain ⟨⟨y,e,s⟩,h1,h2⟩ := h
   obtain ⟨n,h1⟩ := j7 a _ _ _ h1
   cases y with
   | normal =>
     obtain ⟨m,h2⟩ := j7 b _ _ _ h2
     obtain ⟨p1,p2⟩ := kb cfg _ (Nat.le_max_left n m)
     obtain ⟨q1,q2⟩ := kb cfg _ (Nat.le_max_right n m)
     exact ⟨max n m,_,ja p1 p2 a _ _ _ h1,ja q1 q2 b _ _ _ h2⟩
   | exit i => exact ⟨n,_,h1,h2⟩
   | ret => exact ⟨n,_,h1,h2⟩
 | .cond c a b,env,σ,r,h => by
   simp only [yv] at h ⊢
   generalize opd env c = z at h ⊢
   cases z <;> simp only at h ⊢ <;> first | (cases h; done) | skip
   rename_i t
   cases t
   ·exact j7 b _ _ _ h
   ·exact j7 a _ _ _ h
 | .block id c,env,σ,r,h => by
   simp only [yv,Option.map_eq_some_iff] at h ⊢
   obtain ⟨x,h1,h2⟩ := h
   obtain ⟨n,h1⟩ := j7 c _ _ _ h1
   exact ⟨n,x,h1,h2⟩
 | .loop c,env,σ,r,h => by
   simp only [yv,Option.map_eq_some_iff] at h ⊢
   obtain ⟨x,h1,h2⟩ := h
   obtain ⟨n,h1⟩ := loopω_iff.1 h1
   exact ⟨n,x,h1,h2⟩
 | .rangeFunc ..,_,_,_,h | .scope _,_,_,_,h | .goto _,_,_,_,h | .refuse _,_,_,_,h => by simp only [yv] at h; cases h
theorem zqq {g : FuncId} (hg : cfg.told g = none) {a : List PV} {σ : Store} {r : PV × Store} (h : zbh cfg (jg cfg) (zbi cfg) g a σ = some r) : jg cfg g a σ = some r := by
 unfold zbh at h
 rw [hg] at h
 simp only at h
 split at h
 ·rename_i fn hf
  split at h
  ·rename_i c hc
   simp only [Option.bind_eq_some_iff] at h
   obtain ⟨x,h1,h2⟩ := h
   obtain ⟨n,h1⟩ := j7 _ _ _ _ h1
   refine callω_iff.2 ⟨n + 1,?_⟩
   show zbh cfg (up cfg n) (loopN cfg n) g a σ = some r
   unfold zbh
   rw [hg]
   simp only [hf,hc,h1,Option.bind_some]
   exact h2
  ·cases h
 ·cases h
theorem zsd {g : FuncId} {u : List PV → Store → Option (PV × Store)} (hg : cfg.told g = some u) (a : List PV) (σ : Store) : jg cfg g a σ = u a σ := by
 have h1 : ∀ n,up cfg (n + 1) g a σ = u a σ := fun n => by
  show zbh cfg (up cfg n) (loopN cfg n) g a σ = _
  unfold zbh
  rw [hg]
 cases hq : u a σ with
 | some r => exact callω_iff.2 ⟨1,(h1 0).trans hq⟩
 | none =>
   cases hc : jg cfg g a σ with
   | none => rfl
   | some r =>
     obtain ⟨n,hn⟩ := callω_iff.1 hc
     cases n with
     | zero => cases hn
     | succ n => rw [h1 n,hq] at hn; cases hn
theorem zp6 {c : Code} {E0 : List PV} {σ : Store} {r : Ex × List PV × Store} (h : zbg cfg (jg cfg) (zbi cfg) f c E0 σ = some r) : zbi cfg f c E0 σ = some r := by
 unfold zbg at h
 simp only [Option.bind_eq_some_iff] at h
 obtain ⟨⟨y,e',s⟩,h1,h2⟩ := h
 obtain ⟨n,h1⟩ := j7 _ _ _ _ h1
 have done : ∀ m,n ≤ m → ((some (y,e',s)).bind fun (x : Ex × List PV × Store) => match x with | (x,e,s') => (match x with | .normal => loopN cfg m f c (zb0 cfg f c (List.length E0) e) s' | x => some (x,zlm cfg f c x (List.length E0) e,s'))) = some r → zbi cfg f c E0 σ = some r := fun m hm h2 => by
  refine loopω_iff.2 ⟨m + 1,?_⟩
  show zbg cfg (up cfg m) (loopN cfg m) f c E0 σ = some r
  unfold zbg
  rw [ja (kb cfg m hm).1 (kb cfg m hm).2 _ _ _ _ h1]
  exact h2
 cases y with
 | normal =>
   obtain ⟨m,h2⟩ := loopω_iff.1 h2
   exact done (max n m) (Nat.le_max_left _ _) ((kb cfg _ (Nat.le_max_right n m)).2 _ _ _ _ _ h2)
 | exit i => exact done n (Nat.le_refl _) h2
 | ret => exact done n (Nat.le_refl _) h2
end
end Go.Pvm
namespace Go.Pvm
universe u
section
variable {β : Type}
def asInt (κ : IntKind) (v : PV) (k : Int → Option β) : Option β :=
 match v with
 | .int κ' n => if κ' = κ then k n else none
 | _ => none
def asBool (v : PV) (k : Bool → Option β) : Option β :=
 match v with
 | .bool b => k b
 | _ => none
def zo6 (v : PV) (k : ByteArray → Option β) : Option β :=
 match v with
 | .str s => k s
 | _ => none
def asK (d : Option TypeDesc) (v : PV) (k : PV → Option β) : Option β :=
 match d with
 | some (.int κ) => asInt κ v fun n => k (.int κ n)
 | some .bool => asBool v fun b => k (.bool b)
 | some .string => zo6 v fun s => k (.str s)
 | _ => k v
theorem js {d : Option TypeDesc} {v : PV} {k : PV → Option β} {r : β} (h : asK d v k = some r) : k v = some r := by
 unfold asK at h
 split at h
 ·unfold asInt at h
  split at h
  ·split at h
   ·rename_i e; subst e; exact h
   ·cases h
  ·cases h
 ·unfold asBool at h
  split at h
  ·exact h
  ·cases h
 ·unfold zo6 at h
  split at h
  ·exact h
  ·cases h
 ·exact h
def jq (x : Ex) (e : Nat → Option β) (r : Option β) : Option β :=
 match x with
 | .normal => none
 | .exit i => e i
 | .ret => r
def z3b : PV → Option PV
 | .ref a b c => some (.ref a b c)
 | .pref cs => some (.pref cs)
 | .func f cs => some (.func f cs)
 | _ => none
def z5a (x : PV) (i : Nat) : Option PV :=
 match x with
 | .tuple vs => vs[i]?
 | _ => none
def fnv : PV → Option (FuncId × List PV)
 | .func g cs => some (g,cs)
 | _ => none
def opK (cfg : Cfg) (C : x5) (env : List PV) (σ : Store) (o : Oper) (k : PV → Store → Option β) : Option β :=
 let P := cfg.P
 match o.op with
 | .move x | .assign x => k (opd env x) σ
 | .pick c a b => match opd env c with
   | .bool t => if t = true then k (opd env a) σ else k (opd env b) σ
   | _ => none
 | .alloc el => (j9 P el).bind fun z => if z.known = true ∧ z.cells.length ≠ 0 then k (.ref σ.next 0 0) (σ.push (.cells 0 [z.cells])) else none
 | .box _ x => if (opd env x).known = true ∧ (opd env x).cells.length ≠ 0 then k (.ref σ.next 0 0) (σ.push (.cells 0 [(opd env x).cells])) else none
 | .build t ps => (zeb P t (ps.toList.map fun (i,x) => (i,opd env x))).bind fun v => k v σ
 | .buildSlice t n ps => (jw P σ t n (ps.toList.map fun (i,x) => (i,opd env x))).bind fun r => k r.1 r.2
 | .load t a => if zoy cfg a = true then (zht P t (opd env a)).bind fun v => asK (P.underlying t) v fun v => k v σ else (zhs P σ t (opd env a)).bind fun v => asK (P.underlying t) v fun v => k v σ
 | .store t a x => (zcm P σ t (opd env a) (opd env x)).bind fun s => k (.tuple []) s
 | .nilCheck x => (z3b (opd env x)).bind fun v => k v σ
 | .binOp op t x y _ => (zed P op t (opd env x) (opd env y)).bind fun v => asK (P.underlying o.type) v fun v => k v σ
 | .unOp op _ x => (unv op (opd env x)).bind fun v => asK (P.underlying o.type) v fun v => k v σ
 | .convert s d x => (zm3 P σ s d (opd env x)).bind fun v => asK (P.underlying d) v fun v => k v σ
 | .makeFunc (.func f) fs cs => if fs.size = 0 then k (.func f (cs.toList.map (opd env))) σ else none
 | .makeSlice t l c => (zbw P σ t (opd env l) (opd env c)).bind fun r => k r.1 r.2
 | .slice t x lo hi mx => (zb2 P t (opd env x) (lo.map (opd env)) (hi.map (opd env)) (mx.map (opd env))).bind fun v => asK (P.underlying o.type) v fun v => k v σ
 | .fieldAddr s x f => (ve P s (opd env x) f).bind fun v => k v σ
 | .field s x f => (zft P s (opd env x) f).bind fun v => asK (P.underlying o.type) v fun v => k v σ
 | .indexAddr t x i => (jy P t (opd env x) (opd env i)).bind fun v => k v σ
 | .index t x i => (zd2 P t (opd env x) (opd env i)).bind fun v => asK (P.underlying o.type) v fun v => k v σ
 | .extract x i => (z5a (opd env x) i).bind fun v => asK (P.underlying o.type) v fun v => k v σ
 | .call c => match c.callee with
   | .builtin b => if zna b = true then (uq P b c.argTypes.toList (c.args.toList.map (opd env))).bind fun v => asK (P.underlying o.type) v fun v => k v σ
     else (jh P σ b c.argTypes.toList (c.args.toList.map (opd env))).bind fun r => asK (P.underlying o.type) r.1 fun v => k v r.2
   | .value f => (fnv (opd env f)).bind fun q => (wh cfg C q.1 (c.args.toList.map (opd env) ++ q.2) σ).bind fun r => asK (P.underlying o.type) r.1 fun v => k v r.2
   | _ => none
 | _ => none
theorem z0y {cfg : Cfg} {C : x5} {env : List PV} {σ : Store} {o : Oper} {k : PV → Store → Option β} {r : β} (h : opK cfg C env σ o k = some r) :
  ∃ v τ,xo cfg C env σ o = some (v,τ) ∧ k v τ = some r := by
 obtain ⟨dst,op,type,pos,after,guard⟩ := o
 unfold opK at h
 unfold xo
 cases op <;> simp only at h ⊢
 case move x => exact ⟨_,_,rfl,h⟩
 case assign x => exact ⟨_,_,rfl,h⟩
 case pick c x y =>
  generalize opd env c = z at h ⊢
  cases z <;> simp only at h ⊢ <;> first | (cases h; done) | skip
  split at h
  ·rename_i ht; exact ⟨_,_,by rw [if_pos ht],h⟩
  ·rename_i ht; exact ⟨_,_,by rw [if_neg ht],h⟩
 case alloc el =>
  simp only [Option.bind_eq_some_iff] at h
  obtain ⟨z,h1,h2⟩ := h
  split at h2
  ·rename_i hk; exact ⟨_,_,by rw [h1]; simp only [Option.bind_some]; rw [if_pos hk],h2⟩
  ·cases h2
 case box el x =>
  split at h
  ·rename_i hk; exact ⟨_,_,by rw [if_pos hk],h⟩
  ·cases h
 case build t ps =>
  simp only [Option.bind_eq_some_iff] at h
  obtain ⟨z,h1,h2⟩ := h
  exact ⟨_,_,by rw [h1]; rfl,h2⟩
 case buildSlice t n ps =>
  simp only [Option.bind_eq_some_iff] at h
  obtain ⟨z,h1,h2⟩ := h
  exact ⟨_,_,h1,h2⟩
 case load t a =>
  split at h
  ·rename_i hc
   rw [if_pos hc]
   simp only [Option.bind_eq_some_iff] at h
   obtain ⟨z,h1,h2⟩ := h
   exact ⟨_,_,by rw [h1]; rfl,js h2⟩
  ·rename_i hc
   rw [if_neg hc]
   simp only [Option.bind_eq_some_iff] at h
   obtain ⟨z,h1,h2⟩ := h
   exact ⟨_,_,by rw [h1]; rfl,js h2⟩
 case store t a x =>
  simp only [Option.bind_eq_some_iff] at h
  obtain ⟨z,h1,h2⟩ := h
  exact ⟨_,_,by rw [h1]; rfl,h2⟩
 case nilCheck x =>
  simp only [Option.bind_eq_some_iff] at h
  obtain ⟨v,h1,h2⟩ := h
  generalize opd env x = z at h1 ⊢
  cases z <;> simp only [z3b] at h1 ⊢ <;> first | (cases h1; done) | (cases h1; exact ⟨_,_,rfl,h2⟩)
 case binOp op t x y ty =>
  simp only [Option.bind_eq_some_iff] at h
  obtain ⟨z,h1,h2⟩ := h
  exact ⟨_,_,by rw [h1]; rfl,js h2⟩
 case unOp op t x =>
  simp only [Option.bind_eq_some_iff] at h
  obtain ⟨z,h1,h2⟩ := h
  exact ⟨_,_,by rw [h1]; rfl,js h2⟩
 case convert s d x =>
  simp only [Option.bind_eq_some_iff] at h
  obtain ⟨z,h1,h2⟩ := h
  exact ⟨_,_,by rw [h1]; rfl,js h2⟩
 case makeFunc fn fs cs =>
  cases fn <;> simp only at h ⊢
  case func f =>
   split at h
   ·rename_i hk; exact ⟨_,_,by rw [if_pos hk],h⟩
   ·cases h
  all_goals cases h
 case makeSlice t l c =>
  simp only [Option.bind_eq_some_iff] at h
  obtain ⟨z,h1,h2⟩ := h
  exact ⟨_,_,h1,h2⟩
 case slice t x lo hi mx =>
  simp only [Option.bind_eq_some_iff] at h
  obtain ⟨z,h1,h2⟩ := h
  exact ⟨_,_,by rw [h1]; rfl,js h2⟩
 case fieldAddr s x f =>
  simp only [Option.bind_eq_some_iff] at h
  obtain ⟨z,h1,h2⟩ := h
  exact ⟨_,_,by rw [h1]; rfl,h2⟩
 case field s x f =>
  simp only [Option.bind_eq_some_iff] at h
  obtain ⟨z,h1,h2⟩ := h
  exact ⟨_,_,by rw [h1]; rfl,js h2⟩
 case indexAddr t x i =>
  simp only [Option.bind_eq_some_iff] at h
  obtain ⟨z,h1,h2⟩ := h
  exact ⟨_,_,by rw [h1]; rfl,h2⟩
 case index t x i =>
  simp only [Option.bind_eq_some_iff] at h
  obtain ⟨z,h1,h2⟩ := h
  exact ⟨_,_,by rw [h1]; rfl,js h2⟩
 case extract x i =>
  simp only [Option.bind_eq_some_iff] at h
  obtain ⟨v,h1,h2⟩ := h
  generalize opd env x = z at h1 ⊢
  cases z <;> simp only [z5a] at h1 ⊢ <;> first | (cases h1; done) | skip
  exact ⟨_,_,by rw [h1]; rfl,js h2⟩
 case call c =>
  obtain ⟨callee,args,ts⟩ := c
  cases callee <;> simp only at h ⊢
  case builtin b =>
   unfold qf
   split at h
   ·rename_i hb
    rw [if_pos hb]
    simp only [Option.bind_eq_some_iff] at h
    obtain ⟨v,h1,h2⟩ := h
    exact ⟨_,_,by rw [h1]; rfl,js h2⟩
   ·rename_i hb
    rw [if_neg hb]
    simp only [Option.bind_eq_some_iff] at h
    obtain ⟨⟨v,τ⟩,h1,h2⟩ := h
    exact ⟨_,_,h1,js h2⟩
  case value x =>
   simp only [Option.bind_eq_some_iff] at h
   obtain ⟨⟨g,cs⟩,h0,h⟩ := h
   obtain ⟨⟨v,τ⟩,h1,h2⟩ := h
   generalize opd env x = z at h0 ⊢
   cases z <;> simp only [fnv] at h0 ⊢ <;> first | (cases h0; done) | skip
   cases h0
   unfold wh at h1
   exact ⟨_,_,h1,js h2⟩
  case invoke x m => cases h
 all_goals cases h
def ztf : List PV → Nat → PV → (List PV → Option β) → Option β
 | [],_,_,k => k []
 | _ :: r,0,v,k => k (v :: r)
 | x :: r,n + 1,v,k => ztf r n v fun r' => k (x :: r')
theorem ue : ∀ (env : List PV) (d : Nat) (v : PV) (k : List PV → Option β),ztf env d v k = k (env.set d v)
 | [],_,_,_ => rfl
 | _ :: _,0,_,_ => rfl
 | x :: r,n + 1,v,k => by simp only [ztf,ue r n v,List.set_cons_succ]
def zfb (env : List PV) (d : Option Nat) (v : PV) (k : List PV → Option β) : Option β :=
 match d with
 | some t => ztf env t v k
 | none => k env
theorem wc (env : List PV) (d : Option Nat) (v : PV) (k : List PV → Option β) : zfb env d v k = k (zi6 env d v) := by
 cases d with
 | none => rfl
 | some t => exact ue _ _ _ _
def zsj (cfg : Cfg) (C : x5) (all : List Oper) : List Oper → List PV → Store → (List PV → Store → Option β) → Option β
 | [],env,σ,k => k env σ
 | o :: rest,env,σ,k => match o.guard with
   | none => opK cfg C env σ o fun v τ => zfb env o.dst v fun e => zsj cfg C all rest e τ k
   | some (g,w) => match (all[g]?).bind (·.dst) with
     | none => none
     | some d => match env.getD d .undef with
       | .bool b => if b = true
         then ztf env d (.bool true) fun env => (if w = true then opK cfg C env σ o fun v τ => zfb env o.dst v fun e => zsj cfg C all rest e τ k
          else zfb env o.dst (.tuple []) fun e => zsj cfg C all rest e σ k)
         else ztf env d (.bool false) fun env => (if w = false then opK cfg C env σ o fun v τ => zfb env o.dst v fun e => zsj cfg C all rest e τ k
          else zfb env o.dst (.tuple []) fun e => zsj cfg C all rest e σ k)
       | .tuple _ => zfb env o.dst (.tuple []) fun e => zsj cfg C all rest e σ k
       | _ => none
theorem zdl {env : List PV} {d : Nat} {b : Bool} (h : env.getD d .undef = .bool b) : env.set d (.bool b) = env := by
 rw [List.getD_eq_getElem?_getD] at h
 cases hq : env[d]? with
 | none => rw [hq] at h; cases h
 | some v =>
   rw [hq] at h
   simp only [Option.getD_some] at h
   subst h
   refine List.ext_getElem? fun i => ?_
   by_cases hi : d = i
   ·subst hi; rw [hq,List.getElem?_set_self (List.getElem?_eq_some_iff.1 hq).1]
   ·rw [List.getElem?_set_ne hi]
theorem zgh {cfg : Cfg} {C : x5} {all : List Oper} {r : β} : ∀ (l : List Oper) (env : List PV) (σ : Store) (k : List PV → Store → Option β),zsj cfg C all l env σ k = some r →
  ∃ e s,xj cfg C all l env σ = some (e,s) ∧ k e s = some r
 | [],env,σ,k,h => ⟨env,σ,rfl,h⟩
 | o :: l,env,σ,k,h => by
   have go : ∀ b,zat all env o = some b → (if b = true then opK cfg C env σ o fun v τ => zsj cfg C all l (zi6 env o.dst v) τ k else zsj cfg C all l (zi6 env o.dst (.tuple [])) σ k) = some r → ∃ e s,xj cfg C all (o :: l) env σ = some (e,s) ∧ k e s = some r := by
    intro b hb h
    simp only [xj,hb,Option.bind_some]
    split at h
    ·rename_i hbt
     simp only [if_pos hbt]
     obtain ⟨v,τ,h1,h2⟩ := z0y h
     obtain ⟨e,s,h3,h4⟩ := zgh l _ _ _ h2
     exact ⟨e,s,by rw [h1]; exact h3,h4⟩
    ·rename_i hbt
     simp only [if_neg hbt]
     exact zgh l _ _ _ h
   unfold zsj at h
   simp only [ue,wc] at h
   split at h
   ·rename_i hg
    exact go true (by unfold zat; rw [hg]) h
   ·rename_i g w hg
    split at h
    ·cases h
    ·rename_i d hd
     split at h
     ·rename_i b hb
      have hw : zat all env o = some (b == w) := by unfold zat; rw [hg]; simp only [hd]; rw [hb]
      refine go _ hw ?_
      split at h
      ·rename_i hbt
       subst hbt
       rw [zdl hb] at h
       cases w
       ·exact h
       ·exact h
      ·rename_i hbt
       have hbf : b = false := by simpa using hbt
       subst hbf
       rw [zdl hb] at h
       cases w
       ·exact h
       ·exact h
     ·rename_i vs hb
      exact go false (by unfold zat; rw [hg]; simp only [hd]; rw [hb]) h
     ·cases h
def z0o (env : List PV) (c : Operand) (b : Bool) (k : List PV → Option β) : Option β :=
 match c with
 | .tmp t => ztf env t (.bool b) k
 | _ => k env
def zn7 (P : Program) (l : List (Nat × TypeId)) (e : List PV) : List Nat → (List PV → Option β) → Option β
 | [],k => k []
 | i :: r,k => match l.find? (fun p => p.1 == i) with
   | some (_,t) => asK (P.underlying t) (e.getD i .undef) fun v => zn7 P l e r fun vs => k (v :: vs)
   | none => zn7 P l e r fun vs => k (.undef :: vs)
theorem zdq {P : Program} {l : List (Nat × TypeId)} {e : List PV} {r : β} : ∀ (is : List Nat) (k : List PV → Option β),zn7 P l e is k = some r →
  k (is.map fun i => if (l.map (·.1)).contains i = true then e.getD i .undef else .undef) = some r
 | [],k,h => h
 | i :: is,k,h => by
   unfold zn7 at h
   split at h
   ·rename_i j t hf
    have h1 := zdq is _ (js h)
    have hc : (l.map (·.1)).contains i = true := by
     have h2 := List.find?_some hf
     have h3 := List.mem_of_find?_eq_some hf
     simp at h2
     simp only [List.contains_eq_mem,decide_eq_true_eq]
     exact List.mem_map.2 ⟨(j,t),h3,h2⟩
    simp only [List.map_cons]
    rw [if_pos hc]
    exact h1
   ·rename_i hf
    have h1 := zdq is _ h
    have hc : ¬ (l.map (·.1)).contains i = true := by
     simp only [List.contains_eq_mem,decide_eq_true_eq]
     intro hm
     obtain ⟨p,hp,he⟩ := List.mem_map.1 hm
     have := List.find?_eq_none.1 hf p hp
     simp [he] at this
    simp only [List.map_cons]
    rw [if_neg hc]
    exact h1
def zz4 (n : Nat) (k : Nat → Bool) : Bool :=
 match n with
 | 0 => k 0
 | m + 1 => k (m + 1)
theorem zu6 (n : Nat) (k : Nat → Bool) : zz4 n k = k n := by cases n <;> rfl
def zws : List Nat → Nat → (List Nat → Bool) → Bool
 | [],p,k => k [p]
 | x :: r,p,k => zws r p fun r' => k (x :: r')
theorem zpl : ∀ (l : List Nat) (p : Nat) (k : List Nat → Bool),zws l p k = k (l ++ [p])
 | [],_,_ => rfl
 | x :: r,p,k => by simp only [zws,zpl r p,List.cons_append]
def zlg : List Oper → List Nat → (List Nat → Bool) → Bool
 | [],acc,k => k acc
 | o :: r,acc,k => zz4 (zrd acc o) fun p => zws acc p fun acc => zlg r acc k
theorem zju : ∀ (l : List Oper) (acc : List Nat) (k : List Nat → Bool),zlg l acc k = k (l.foldl (fun acc o => acc ++ [zrd acc o]) acc)
 | [],_,_ => rfl
 | o :: r,acc,k => by simp only [zlg,zu6,zpl,zju r,List.foldl_cons]
def zja (cfg : Cfg) (ops : List Oper) (bi : Nat) (x : Oper) : Nat → List Oper → Nat → Bool
 | _,[],_ => true
 | 0,_ :: _,_ => true
 | n + 1,y :: r,j => (bi.testBit j ||
     ((match y.dst with | some d => !(ky ops x).contains d | none => true) &&
      (match x.dst with | some d => !(ky ops y).contains d | none => true) &&
      !(xk cfg x == 3 && xk cfg y != 0) && !(xk cfg y == 3 && decide (2 ≤ xk cfg x)))) && zja cfg ops bi x n r (j + 1)
def zl1 (cfg : Cfg) (ops : List Oper) : List Oper → List Nat → Nat → Bool
 | x :: r,b :: bs,i => zja cfg ops b x i ops 0 && zl1 cfg ops r bs (i + 1)
 | [],_,_ => true
 | _ :: _,[],_ => false
def zk4 (cfg : Cfg) (ops : List Oper) : Bool := zlg ops [] fun b => zl1 cfg ops ops b 0
theorem zi9 {cfg : Cfg} {ops : List Oper} {bi : Nat} {x : Oper} : ∀ (n : Nat) (l : List Oper) (j0 : Nat),zja cfg ops bi x n l j0 = true → ∀ j y,j < n → l[j]? = some y → (bi.testBit (j0 + j) ||
   ((match y.dst with | some d => !(ky ops x).contains d | none => true) &&
    (match x.dst with | some d => !(ky ops y).contains d | none => true) &&
    !(xk cfg x == 3 && xk cfg y != 0) && !(xk cfg y == 3 && decide (2 ≤ xk cfg x)))) = true
 | 0,_,_,_,_,_,hj,_ => absurd hj (Nat.not_lt_zero _)
 | n + 1,[],_,_,_,_,_,hy => by simp at hy
 | n + 1,y :: r,j0,h,0,y',_,hy => by
   simp at hy; subst hy
   rw [zja,Bool.and_eq_true] at h
   exact h.1
 | n + 1,y :: r,j0,h,j + 1,y',hj,hy => by
   rw [zja,Bool.and_eq_true] at h
   have := zi9 n r (j0 + 1) h.2 j y' (by omega) (by simpa using hy)
   rw [show j0 + (j + 1) = j0 + 1 + j by omega]
   exact this
theorem zi4 {cfg : Cfg} {ops : List Oper} : ∀ (l : List Oper) (bs : List Nat) (i0 : Nat),zl1 cfg ops l bs i0 = true → ∀ i x,l[i]? = some x → zja cfg ops (bs.getD i 0) x (i0 + i) ops 0 = true
 | [],_,_,_,_,_,hx => by simp at hx
 | x :: r,[],_,h,_,_,_ => by cases h
 | x :: r,b :: bs,i0,h,0,x',hx => by
   simp at hx; subst hx
   rw [zl1,Bool.and_eq_true] at h
   exact h.1
 | x :: r,b :: bs,i0,h,i + 1,x',hx => by
   rw [zl1,Bool.and_eq_true] at h
   have := zi4 r bs (i0 + 1) h.2 i x' (by simpa using hx)
   rw [show i0 + (i + 1) = i0 + 1 + i by omega]
   exact this
theorem zjo {cfg : Cfg} {ops : List Oper} (h : zk4 cfg ops = true) : zap cfg ops = true := by
 unfold zk4 at h
 rw [zju] at h
 have hb : ops.foldl (fun acc o => acc ++ [zrd acc o]) [] = j8 ops := rfl
 rw [hb] at h
 unfold zap
 simp only [List.all_eq_true,List.mem_range]
 intro i hi j hj
 have hx := List.getElem?_eq_getElem hi
 have hy := List.getElem?_eq_getElem (l := ops) (i := j) (by omega)
 rw [hx,hy]
 have h1 := zi4 ops _ 0 h i _ hx
 rw [Nat.zero_add] at h1
 have h2 := zi9 i ops 0 h1 j _ hj hy
 rw [Nat.zero_add] at h2
 exact h2
def zqp : List Nat → List PV → Store → (List PV → Store → Option β) → Option β
 | [],e,σ,k => k e σ
 | t :: r,e,σ,k => (zdn (tops (e.getD t .undef)) σ).bind fun σ' => ztf e t (fz xn σ (e.getD t .undef)) fun e => zqp r e σ' k
theorem zjq {r : β} : ∀ (l : List Nat) (e : List PV) (σ : Store) (k : List PV → Store → Option β),zqp l e σ k = some r → ∃ e' σ',vk l e σ = some (e',σ') ∧ k e' σ' = some r
 | [],e,σ,k,h => ⟨_,_,rfl,h⟩
 | t :: l,e,σ,k,h => by
   unfold zqp at h
   unfold vk zia
   rw [Option.bind_eq_some_iff] at h
   obtain ⟨σ1,h1,h2⟩ := h
   rw [ue] at h2
   obtain ⟨e',σ',h3,h4⟩ := zjq l _ _ k h2
   simp only [h1,Option.map_some,Option.bind_some]
   exact ⟨e',σ',h3,h4⟩
def z5t (cfg : Cfg) (f : FuncId) (id : Nat) (env : List PV) (σ : Store) (k : Bool → List PV → Store → Option β) : Option β :=
 match cfg.close f id with
 | none => k false env σ
 | some (b,zs) => zqp zs env σ (k b)
theorem zw3 {cfg : Cfg} {f : FuncId} {id : Nat} {env : List PV} {σ : Store} {k : Bool → List PV → Store → Option β} {r : β} (h : z5t cfg f id env σ k = some r) : ∃ b e s,pre cfg f id env σ = some (b,e,s) ∧ k b e s = some r := by
 unfold z5t at h
 unfold pre
 split at h
 ·rename_i hc; exact ⟨_,_,_,by rw [hc],h⟩
 ·rename_i b zs hc
  obtain ⟨e,s,h1,h2⟩ := zjq _ _ _ _ h
  exact ⟨b,e,s,by rw [hc]; simp only [h1,Option.map_some],h2⟩
def ze7 (cfg : Cfg) (C : x5) (L : vj) (f : FuncId) : Code → List PV → Store → (Ex → List PV → Store → Option β) → Option β
 | .skip,env,σ,k | .label _,env,σ,k => k .normal env σ
 | .region id ops draw,env,σ,k => z5t cfg f id env σ fun b env σ =>
   if draw = true then
    (if (zk4 { cfg.at_ f with calm := b,calmA := zcr cfg f id ops.toList } ops.toList && kz ops.toList) = true then zsj { cfg.at_ f with strict := true,calm := b,calmA := zcr cfg f id ops.toList } C ops.toList ops.toList env σ (k .normal) else none)
   else zsj (cfg.at_ f) C ops.toList ops.toList env σ (k .normal)
 | .seq a b,env,σ,k => ze7 cfg C L f a env σ fun x e s => match x with
   | .normal => ze7 cfg C L f b e s k
   | x => k x e s
 | .cond c a b,env,σ,k => match opd env c with
   | .bool t => if t = true then z0o env c true fun e => ze7 cfg C L f a e σ k else z0o env c false fun e => ze7 cfg C L f b e σ k
   | _ => none
 | .block id c,env,σ,k => ze7 cfg C L f c env σ fun x e s => match x with
   | .exit i => if i = id then k .normal e s else k (.exit i) e s
   | x => k x e s
 | .loop c,env,σ,k => match cfg.mask f (y6 c) with
   | some (h,l) => (L f c (zck env.length h env) σ).bind fun r => jq r.1
     (fun i => zn7 cfg.P l.1 r.2.1 (List.range env.length) fun e => k (.exit i) e r.2.2)
     (match l.2 with
      | [] => none
      | _ :: _ => zn7 cfg.P l.2 r.2.1 (List.range env.length) fun e => k .ret e r.2.2)
   | none => none
 | .exit id,env,σ,k => k (.exit id) env σ
 | .ret,env,σ,k => k .ret env σ
 | _,_,_,_ => none
theorem zly {env : List PV} {c : Operand} {b : Bool} {k : List PV → Option β} (h : opd env c = .bool b) : z0o env c b k = k env := by
 cases c <;> first | rfl | (simp only [z0o,ue]; rw [zdl h])
theorem zao {cfg : Cfg} {C : x5} {L : vj} {f : FuncId} {r : β} : ∀ (c : Code) (env : List PV) (σ : Store) (k : Ex → List PV → Store → Option β),ze7 cfg C L f c env σ k = some r →
  ∃ x e s,yv cfg C L f c env σ = some (x,e,s) ∧ k x e s = some r
 | .skip,_,_,_,h | .label _,_,_,_,h | .exit _,_,_,_,h | .ret,_,_,_,h => ⟨_,_,_,rfl,h⟩
 | .region id ops draw,env,σ,k,h => by
   simp only [ze7] at h
   obtain ⟨b,e0,s0,h0,h⟩ := zw3 h
   simp only [yv,h0,Option.bind_some]
   unfold vg
   split at h
   ·rename_i hd
    simp only [if_pos hd]
    split at h
    ·rename_i hk
     rw [Bool.and_eq_true] at hk
     have hk' : (zap { cfg.at_ f with calm := b,calmA := zcr cfg f id ops.toList } ops.toList && kz ops.toList) = true := by rw [zjo hk.1,hk.2]; rfl
     simp only [if_pos hk']
     obtain ⟨e,s,h1,h2⟩ := zgh _ _ _ _ h
     exact ⟨_,_,_,by rw [h1]; rfl,h2⟩
    ·cases h
   ·rename_i hd
    simp only [if_neg hd]
    obtain ⟨e,s,h1,h2⟩ := zgh _ _ _ _ h
    exact ⟨_,_,_,by rw [h1]; rfl,h2⟩
 | .seq a b,env,σ,k,h => by
   simp only [ze7] at h
   obtain ⟨x,e,s,h1,h2⟩ := zao a _ _ _ h
   simp only [yv,h1,Option.bind_some]
   cases x with
   | normal => exact zao b _ _ _ h2
   | exit i => exact ⟨_,_,_,rfl,h2⟩
   | ret => exact ⟨_,_,_,rfl,h2⟩
 | .cond c a b,env,σ,k,h => by
   simp only [ze7] at h
   simp only [yv]
   have hs := fun b (k : List PV → Option β) => zly (env := env) (c := c) (b := b) (k := k)
   generalize opd env c = z at h hs ⊢
   cases z <;> simp only at h ⊢ <;> first | (cases h; done) | skip
   rename_i t
   cases t
   ·rw [hs false _ rfl] at h
    exact zao b _ _ _ h
   ·rw [hs true _ rfl] at h
    exact zao a _ _ _ h
 | .block id c,env,σ,k,h => by
   simp only [ze7] at h
   obtain ⟨x,e,s,h1,h2⟩ := zao c _ _ _ h
   simp only [yv,h1,Option.map_some]
   cases x with
   | normal => exact ⟨_,_,_,rfl,h2⟩
   | ret => exact ⟨_,_,_,rfl,h2⟩
   | exit i =>
     refine ⟨_,_,_,rfl,?_⟩
     simp only at h2 ⊢
     split at h2
     ·rename_i hi; rw [if_pos hi]; exact h2
     ·rename_i hi; rw [if_neg hi]; exact h2
 | .loop c,env,σ,k,h => by
   simp only [ze7] at h
   simp only [yv]
   split at h
   ·rename_i hd l hm
    rw [Option.bind_eq_some_iff] at h
    obtain ⟨⟨x,e,s⟩,h1,h2⟩ := h
    have hh : zb0 cfg f c env.length env = zck env.length hd env := by unfold zb0; rw [hm]
    have ho : zlm cfg f c x env.length e = zck env.length ((z0v l x).map (·.1)) e := by unfold zlm; rw [hm]
    rw [hh,h1]
    refine ⟨x,zlm cfg f c x env.length e,s,rfl,?_⟩
    rw [ho]
    cases x with
    | normal => cases h2
    | exit i => exact zdq _ _ h2
    | ret =>
      replace h2 : (match l.2 with | [] => none | _ :: _ => zn7 cfg.P l.2 e (List.range env.length) fun e => k .ret e s) = some r := h2
      split at h2
      ·cases h2
      ·exact zdq _ _ h2
   ·cases h
 | .rangeFunc ..,_,_,_,h | .scope _,_,_,_,h | .goto _,_,_,_,h | .refuse _,_,_,_,h => by simp only [ze7] at h; cases h
end
def z2x {β : Type} (P : Program) (s : Store) (e : List PV) : List ResultVar → (List PV → Option β) → Option β
 | [],k => k []
 | .tmp t :: r,k => z2x P s e r fun vs => k (e.getD t .undef :: vs)
 | .cell a t :: r,k => (zhs P s t (e.getD a .undef)).bind fun v => asK (P.underlying t) v fun v => z2x P s e r fun vs => k (v :: vs)
theorem zga {β : Type} {P : Program} {s : Store} {e : List PV} {r : β} : ∀ (rs : List ResultVar) (k : List PV → Option β),z2x P s e rs k = some r → ∃ vs,j6 P s e rs = some vs ∧ k vs = some r
 | [],k,h => ⟨[],rfl,h⟩
 | .tmp t :: rs,k,h => by
   obtain ⟨vs,h1,h2⟩ := zga rs _ h
   exact ⟨_,by simp only [j6,zbr,Option.bind_some,h1]; rfl,h2⟩
 | .cell a t :: rs,k,h => by
   simp only [z2x,Option.bind_eq_some_iff] at h
   obtain ⟨v,h0,h⟩ := h
   obtain ⟨vs,h1,h2⟩ := zga rs _ (js h)
   exact ⟨_,by simp only [j6,zbr,h0,Option.bind_some,h1]; rfl,h2⟩
def z7j (P : Program) (fn : Func) (x : Ex) (e : List PV) (s : Store) : Option (PV × Store) :=
 match x with
 | .exit _ => none
 | _ => z2x P s e fn.results.toList fun vs => some (zbc vs,s)
theorem zwx {P : Program} {fn : Func} {x : Ex} {e : List PV} {s : Store} {r : PV × Store} (h : z7j P fn x e s = some r) :
  (match x with | .exit _ => none | _ => (j6 P s e fn.results.toList).map fun vs => (zbc vs,s)) = some r := by
 cases x with
 | exit i => exact h
 | normal => obtain ⟨vs,h1,h2⟩ := zga _ _ h; simp only [h1]; exact h2
 | ret => obtain ⟨vs,h1,h2⟩ := zga _ _ h; simp only [h1]; exact h2
def zgy (cfg : Cfg) (C : x5) (L : vj) (f : FuncId) (args : List PV) (σ : Store) : Option (PV × Store) :=
 match cfg.P.funcs[f]? with
 | some fn => match fn.body with
   | some c => ze7 cfg C L f c (zd6 fn args) σ (z7j cfg.P fn)
   | none => none
 | none => none
theorem jj {cfg : Cfg} {g : FuncId} (hT : cfg.told g = none) {a : List PV} {σ : Store} {r : PV × Store} (h : zgy cfg (jg cfg) (zbi cfg) g a σ = some r) : jg cfg g a σ = some r := by
 refine zqq hT ?_
 unfold zgy at h
 unfold zbh
 rw [hT]
 simp only
 split at h
 ·rename_i fn hf
  split at h
  ·rename_i c hc
   obtain ⟨x,e,s,h1,h2⟩ := zao _ _ _ _ h
   simp only [hf,hc,h1,Option.bind_some]
   have h3 := zwx h2
   cases x with
   | normal => exact h3
   | exit i => exact h3
   | ret => exact h3
  ·cases h
 ·cases h
end Go.Pvm
namespace Go.Pvm
def WT (P : Program) : Bool → Nat → TypeId → List PV → Prop
 | _,0,_,_ => False
 | top,n + 1,t,cs => match P.underlying t with
   | some .bool => ∃ b,cs = [.bool b]
   | some (.int k) => ∃ x,cs = [.int k x] ∧ k.min ≤ x ∧ x ≤ k.max
   | some (.float k) => ∃ x,cs = [.float k x] ∧ (Lit.float k x).wf = true
   | some .string => ∃ s,cs = [.str s] ∧ s.size ≤ reachBytes
   | some (.slice e) => cs = [.nilsl] ∨ (∃ es,cs = [.psl false es] ∧ es.length ≤ maxLen ∧ es.length * P.bytesOf e ≤ reachBytes ∧ ∀ c ∈ es,c.length = P.cellsOf e ∧ WT P false n e c) ∨ (top = false ∧ P.cellsOf e = 0 ∧ cs = [.undef])
   | some (.struct fs) => ∃ parts : List (List PV),cs = parts.flatten ∧ parts.length = fs.size ∧ ∀ (i : Nat) (f : Field) (p : List PV),fs[i]? = some f → parts[i]? = some p → p.length = P.cellsOf f.type ∧ WT P top n f.type p
   | some (.array m e) => ∃ parts : List (List PV),cs = parts.flatten ∧ parts.length = m ∧ ∀ p ∈ parts,p.length = P.cellsOf e ∧ WT P top n e p
   | some (.pointer e) => cs = [.nilptr] ∨ (∃ c,cs = [.pref c] ∧ c.length = P.cellsOf e ∧ WT P false n e c) ∨ (P.cellsOf e = 0 ∧ cs = [.undef])
   | some (.interface _) => cs = [.niliface] ∨ cs = [.undef]
   | some (.map _ _) => cs = [.nilmap] ∨ cs = [.undef]
   | _ => cs.length = 1
def zph : Value → Prop
 | .slice (some a) _ _ => a.spot = none
 | _ => True
def zrh (w : World) : jl := fun b _ => b < w.heap.size
section
variable {H : Type} {enc : TypeId × Value → H} {P : Program} {w : World}
theorem VPs.append {F : jl} {w : World} {a b : List PV} {x y : List Value} (h : VPs F w a x) (k : VPs F w b y) : VPs F w (a ++ b) (x ++ y) := by
 refine ⟨by simp [h.1,k.1],fun i c u e e' => ?_⟩
 have h1 := h.1
 rcases Nat.lt_or_ge i a.length with hi | hi
 ·rw [List.getElem?_append_left hi] at e
  rw [List.getElem?_append_left (by omega)] at e'
  exact h.2 i c u e e'
 ·rw [List.getElem?_append_right hi] at e
  rw [List.getElem?_append_right (by omega),h1] at e'
  exact k.2 _ c u e e'
theorem VPs.nil' {F : jl} {w : World} : VPs F w [] [] := ⟨rfl,fun i c u e => by simp at e⟩
theorem VPs.one {F : jl} {w : World} {c : PV} {u : Value} (h : VP F w c u) : VPs F w [c] [u] := ⟨rfl,fun i c' u' e e' => by
 cases i with
 | zero => simp at e e'; subst e; subst e'; exact h
 | succ i => simp at e⟩
theorem asm {α : Type} (off size : α → Nat) (R : α → List PV → Prop) {F : jl} (cs : List Value) : ∀ (l : List α) (o : Nat),(∀ (j : Nat) (a : α),l[j]? = some a → off a = o + ((l.take j).map size).sum) → cs.length = o + (l.map size).sum →
  (∀ a ∈ l,∃ p,R a p ∧ VPs F w p ((cs.drop (off a)).take (size a))) →
  ∃ parts : List (List PV),parts.length = l.length ∧ (∀ (i : Nat) (a : α) (p : List PV),l[i]? = some a → parts[i]? = some p → p.length = size a ∧ R a p) ∧ VPs F w parts.flatten (cs.drop o)
 | [],o,h1,h2,h3 => ⟨[],rfl,fun i a p e => by simp at e,by
   simp at h2
   rw [List.drop_eq_nil_of_le (by omega)]
   exact VPs.nil'⟩
 | a :: r,o,h1,h2,h3 => by
   have h0 : off a = o := by simpa using h1 0 a rfl
   simp only [List.map_cons,List.sum_cons] at h2
   obtain ⟨p,hR,hp⟩ := h3 a (.head _)
   obtain ⟨parts,k1,k2,k3⟩ := asm off size R cs r (o + size a) (fun j b hb => by
    have := h1 (j + 1) b (by simpa using hb)
    simp only [List.take_succ_cons,List.map_cons,List.sum_cons] at this
    omega) (by omega) (fun b hb => h3 b (.tail _ hb))
   rw [h0] at hp
   have hlen : p.length = size a := by
    have := hp.1
    simp at this
    omega
   refine ⟨p :: parts,by simp [k1],fun i b q e e' => ?_,?_⟩
   ·cases i with
    | zero => simp at e e'; subst e; subst e'; exact ⟨hlen,hR⟩
    | succ i => exact k2 i b q (by simpa using e) (by simpa using e')
   ·have : cs.drop o = (cs.drop o).take (size a) ++ cs.drop (o + size a) := by
     rw [← List.drop_drop,List.take_append_drop]
    rw [this,List.flatten_cons]
    exact hp.append k3
theorem zqc {t : TypeId} (h : isVar P t = true) : t < P.types.size := by
 unfold isVar at h
 simp at h
 exact h.1
theorem zqw {a : Addr} (h : a.spot = none) (n : Nat) : a.add n = ⟨a.block,a.off + n,none⟩ := by
 cases a
 simp only at h
 subst h
 exact zaa _ _ _
theorem zd9 {a : Addr} {n : Nat} {cs : List Value} (h : w.cells? 0 a n = some cs) : cs.length = n ∧ ∀ (i : Nat) (v : Value),cs[i]? = some v → w.cell? (a.add i) = some v := by
 unfold World.cells? at h
 rw [if_pos (Nat.zero_le _)] at h
 have hl := mapM_some_length h
 refine ⟨by simpa using hl,fun i v hv => ?_⟩
 have hi : i < n := by
  have := (List.getElem?_eq_some_iff.1 hv).1
  simp at hl; omega
 have := mapM_some_get h i i (List.getElem?_range hi)
 rw [hv] at this
 exact this
theorem zea {a : Addr} {v : Value} (h : w.cell? a = some v) : a.spot = none ∧ a.block < w.heap.size := by
 unfold World.cell? at h
 split at h
 ·rename_i c _ _ hb
  refine ⟨?_,(Array.getElem?_eq_some_iff.1 hb).1⟩
  cases hs : a.spot with
  | none => rfl
  | some x => rw [hs] at h; simp at h
 ·cases h
theorem zcs {e : TypeId} {k : Nat} : ∀ (ds : List (DataW H)) (d : DataW H),d ∈ ds → k ∈ d.weights P e → k ∈ DataW.weightsAll P e ds
 | x :: r,d,hm,hk => by
   unfold DataW.weightsAll
   rcases List.mem_cons.1 hm with rfl | hm
   ·exact List.mem_append_left _ hk
   ·exact List.mem_append_right _ (zcs r d hm hk)
theorem ze8 {k : Nat} : ∀ (ts : List TypeId) (ds : List (DataW H)) (i : Nat) (t : TypeId) (d : DataW H),ts[i]? = some t → ds[i]? = some d → k ∈ d.weights P t → k ∈ DataW.weightsEach P ts ds
 | t :: ts,d :: ds,0,t',d',h1,h2,hk => by
   simp at h1 h2; subst h1; subst h2
   unfold DataW.weightsEach
   exact List.mem_append_left _ hk
 | t :: ts,d :: ds,i + 1,t',d',h1,h2,hk => by
   unfold DataW.weightsEach
   exact List.mem_append_right _ (ze8 ts ds i t' d' (by simpa using h1) (by simpa using h2) hk)
 | [],_,i,_,_,h1,_,_ => by simp at h1
 | _ :: _,[],i,_,_,_,h2,_ => by simp at h2
theorem dec (hl : laidOutB P = true) : ∀ (n : Nat) (t : TypeId) (cs : List Value) (x : DataW H × List MemPlace) (top : Bool),DataW.trod enc P w 0 (fun _ => true) true n t cs = some x → isVar P t = true →
  (top = true → ∀ v ∈ cs,zph v) → (∀ k ∈ x.1.weights P t,k ≤ reachBytes) → ∃ pvs,WT P top n t pvs ∧ VPs (zrh w) w pvs cs
 | 0,t,cs,x,top,h,_,_,_ => by simp [DataW.trod] at h
 | n + 1,t,cs,x,top,h,hv,hs,hw => by
   have hrow := rowFine_of_laidOut hl (zqc hv)
   unfold rowFine at hrow
   rw [hv] at hrow
   simp only [Bool.not_true,Bool.false_or] at hrow
   have one : ∀ {c : PV},cs.length = 1 → c = .undef → VPs (zrh w) w [c] cs := fun h1 h2 => by
    obtain ⟨v,rfl⟩ := List.length_eq_one_iff.1 h1
    subst h2
    exact .one (.undef v)
   cases hu : P.underlying t with
   | none => unfold DataW.trod at h; rw [hu] at h; simp at h
   | some d =>
     rw [hu] at hrow
     cases d
     case bool =>
      obtain ⟨b,rfl,_⟩ := DataW.trod_bool hu h
      exact ⟨[.bool b],by unfold WT; rw [hu]; exact ⟨b,rfl⟩,.one (.bool b)⟩
     case int k =>
      obtain ⟨b,rfl,_,hwf⟩ := DataW.trod_int hu h
      refine ⟨[.int k b],?_,.one (.int k b)⟩
      unfold WT; rw [hu]
      simp [Lit.wf] at hwf
      exact ⟨b,rfl,hwf.1,hwf.2⟩
     case float k =>
      unfold DataW.trod at h; rw [hu] at h
      split at h <;> simp only [Option.some.injEq,TypeDesc.float.injEq,reduceCtorEq] at * <;> try (cases h; done)
      rename_i k1 k' b' e1 e2
      subst e2
      split at h
      ·rename_i hk
       obtain ⟨rfl,hk⟩ := hk
       refine ⟨[.float _ e1],?_,.one (.float _ e1)⟩
       unfold WT; rw [hu]
       exact ⟨e1,rfl,hk⟩
      ·cases h
     case string =>
      obtain ⟨s,rfl,rfl,_⟩ := DataW.trod_string hu h
      refine ⟨[.str s],?_,.one (.str s)⟩
      unfold WT; rw [hu]
      refine ⟨s,rfl,?_⟩
      have := hw s.data.toList.length (by simp [DataW.weights])
      simpa using this
     case slice e =>
      rcases DataW.trod_slice hu h with ⟨rfl,_⟩ | ⟨a,len,cap,elems,rest,m,hm,rfl,rfl,_,hlc,hcm,hel,hget,hspare,_⟩
      ·exact ⟨[.nilsl],by unfold WT; rw [hu]; exact .inl rfl,.one .nilsl⟩
      ·obtain rfl : n = m := by omega
       simp only [Bool.and_eq_true] at hrow
       have hve : isVar P e = true := hrow.1
       -- the elements' cells
       have each : ∀ i,i < len → ∃ vs pv,w.cells? 0 (a.add (i * P.cellsOf e)) (P.cellsOf e) = some vs ∧ WT P false n e pv ∧ VPs (zrh w) w pv vs := fun i hi => by
        have h1 := hget i hi
        have hy := List.getElem?_eq_getElem (l := elems) (i := i) (by omega)
        rw [hy,Option.bind_eq_some_iff] at h1
        obtain ⟨vs,h2,h3⟩ := h1
        obtain ⟨pv,h4,h5⟩ := dec hl n e vs _ false h3 hve (fun h => by cases h) (fun k hk => hw k (by
         simp only [DataW.weights,hu]
         refine List.mem_cons_of_mem _ (List.mem_append_left _ (zcs _ _ (List.mem_map.2 ⟨_,List.getElem_mem _,rfl⟩) hk))))
        exact ⟨vs,pv,h2,h4,h5⟩
       obtain ⟨vf,hvf⟩ := Classical.axiomOfChoice (fun i : Nat => (Classical.em (i < len)).elim (fun hi => let ⟨vs,pv,h⟩ := each i hi; (⟨(vs,pv),fun _ => h⟩ : ∃ q : List Value × List PV,i < len → w.cells? 0 (a.add (i * P.cellsOf e)) (P.cellsOf e) = some q.1 ∧ WT P false n e q.2 ∧ VPs (zrh w) w q.2 q.1)) (fun hi => ⟨([],[]),fun h => absurd h hi⟩))
       by_cases hsp : a.spot = none
       ·refine ⟨[.psl false ((List.range len).map fun i => (vf i).2)],?_,.one ?_⟩
        ·unfold WT; rw [hu]
         refine .inr (.inl ⟨_,rfl,by simp; exact Nat.le_trans hlc hcm,?_,fun c hc => ?_⟩)
         ·have := hw ((elems.length + rest.length) * P.bytesOf e) (by simp [DataW.weights,hu])
          simp only [List.length_map,List.length_range]
          exact Nat.le_trans (Nat.mul_le_mul_right _ (by omega)) this
         ·obtain ⟨i,hi,rfl⟩ := List.mem_map.1 hc
          have hi' : i < len := by simpa using hi
          obtain ⟨h1,h2,h3⟩ := hvf i hi'
          exact ⟨by have := (zd9 h1).1; rw [← h3.1]; exact this,h2⟩
        ·have hcell : ∀ (i : Nat) (c : List PV),((List.range len).map fun i => (vf i).2)[i]? = some c → ∀ (j : Nat) (x : PV),c[j]? = some x → ∃ v,w.cell? ⟨a.block,a.off + i * P.cellsOf e + j,none⟩ = some v ∧ VP (zrh w) w x v := fun i c hc j x hx => by
          rw [List.getElem?_map,Option.map_eq_some_iff] at hc
          obtain ⟨i',hi,rfl⟩ := hc
          have hlt := (List.getElem?_eq_some_iff.1 hi).1
          have : i' = i := by have := List.getElem?_range (n := len) (i := i) (by simpa using hlt); rw [this] at hi; exact (Option.some.inj hi).symm
          subst this
          obtain ⟨h1,h2,h3⟩ := hvf i' (by simpa using hlt)
          obtain ⟨k1,k2⟩ := zd9 h1
          have hj := (List.getElem?_eq_some_iff.1 hx).1
          have hj' := List.getElem?_eq_getElem (l := (vf i').1) (i := j) (by rw [h3.1]; exact hj)
          refine ⟨_,?_,h3.2 j x _ hx hj'⟩
          have := k2 j _ hj'
          rw [← this,zqw hsp,zaa]
         have hlen : ((List.range len).map fun i => (vf i).2).length = len := by simp
         have ha : (Value.slice (some a) len cap) = .slice (some ⟨a.block,a.off,none⟩) ((List.range len).map fun i => (vf i).2).length cap := by
          rw [hlen]
          cases a
          simp at hsp
          subst hsp
          rfl
         rw [ha]
         refine .psl false _ (P.cellsOf e) a.block a.off none cap (fun i j => (w.cell? ⟨a.block,a.off + i * P.cellsOf e + j,none⟩).getD undef) (fun _ => rfl) (fun c hc => ?_) (by rw [hlen]; exact hlc) (fun h => by cases h) (fun i c hc j x hx => ?_) (fun i c hc j x hx => ?_)
         ·obtain ⟨i,hi,rfl⟩ := List.mem_map.1 hc
          obtain ⟨h1,h2,h3⟩ := hvf i (by simpa using hi)
          rw [← h3.1]; exact (zd9 h1).1
         ·obtain ⟨v,q1,q2⟩ := hcell i c hc j x hx
          exact ⟨(zea q1).2,by rw [q1]; rfl⟩
         ·obtain ⟨v,q1,q2⟩ := hcell i c hc j x hx
          rw [q1]; exact q2
       ·cases top with
        | true => exact absurd (hs rfl _ (.head _)) hsp
        | false =>
          by_cases hce : P.cellsOf e = 0
          ·exact ⟨[.undef],by unfold WT; rw [hu]; exact .inr (.inr ⟨rfl,hce,rfl⟩),.one (.undef _)⟩
          -- without room,at a place of its own
          have noCell : ∀ vs,w.cells? 0 (a.add (0 * P.cellsOf e)) (P.cellsOf e) ≠ some vs := fun vs hvs => by
           obtain ⟨k1,k2⟩ := zd9 hvs
           cases vs with
           | nil => exact hce k1.symm
           | cons v r =>
             have h6 := k2 0 v rfl
             have h7 : a.add 0 = a := by unfold Addr.add; simp
             rw [Nat.zero_mul,h7,h7] at h6
             exact hsp (zea h6).1
          have hlen0 : len = 0 := by
           rcases Nat.eq_zero_or_pos len with h0 | h0
           ·exact h0
           ·obtain ⟨vs,_,h1,_⟩ := each 0 h0
            exact absurd h1 (noCell vs)
          have hcap0 : cap = 0 := by
           rcases Nat.eq_zero_or_pos cap with h0 | h0
           ·exact h0
           ·obtain ⟨hr1,hr2⟩ := hspare rfl
            have h1 := hr2 0 (by omega)
            have hy := List.getElem?_eq_getElem (l := rest) (i := 0) (by omega)
            rw [hy,Option.bind_eq_some_iff] at h1
            obtain ⟨vs,h2,_⟩ := h1
            rw [hlen0,Nat.zero_add] at h2
            exact absurd h2 (noCell vs)
          subst hlen0
          subst hcap0
          refine ⟨[.psl false []],?_,.one ?_⟩
          ·unfold WT; rw [hu]
           exact .inr (.inl ⟨[],rfl,by simp,by simp,fun c hc => by cases hc⟩)
          ·exact .psl false [] 0 a.block a.off a.spot 0 (fun _ _ => undef) (fun h => absurd rfl h) (by simp) (Nat.le_refl _) (fun _ => rfl) (fun i e he => by simp at he) (fun i e he => by simp at he)
     case pointer e =>
      rcases DataW.trod_pointer hu h with ⟨rfl,_⟩ | ⟨a,vs,y,m,hm,rfl,rfl,hc,hy⟩
      ·exact ⟨[.nilptr],by unfold WT; rw [hu]; exact .inl rfl,.one .nilptr⟩
      ·obtain rfl : n = m := by omega
       simp only [Bool.and_eq_true] at hrow
       obtain ⟨pv,h4,h5⟩ := dec hl n e vs _ false hy hrow.1 (fun h => by cases h) (fun k hk => hw k (by simpa [DataW.weights,hu] using hk))
       obtain ⟨k1,k2⟩ := zd9 hc
       by_cases hsp : a.spot = none
       ·refine ⟨[.pref pv],?_,.one ?_⟩
        ·unfold WT; rw [hu]; exact .inr (.inl ⟨pv,rfl,by rw [← k1]; exact h5.1.symm,h4⟩)
        ·have ha : (Value.pointer (some a)) = .pointer (some ⟨a.block,a.off,none⟩) := by
          cases a
          simp at hsp
          subst hsp
          rfl
         rw [ha]
         have hcell : ∀ (j : Nat) (x : PV),pv[j]? = some x → ∃ v,w.cell? ⟨a.block,a.off + j,none⟩ = some v ∧ VP (zrh w) w x v := fun j x hx => by
          have hj := (List.getElem?_eq_some_iff.1 hx).1
          have hj' := List.getElem?_eq_getElem (l := vs) (i := j) (by rw [h5.1]; exact hj)
          refine ⟨_,?_,h5.2 j x _ hx hj'⟩
          have := k2 j _ hj'
          rw [← this,zqw hsp]
         refine .pref pv a.block a.off (fun j => (w.cell? ⟨a.block,a.off + j,none⟩).getD undef) (fun j x hx => ?_) (fun j x hx => ?_)
         ·obtain ⟨v,q1,q2⟩ := hcell j x hx
          exact ⟨(zea q1).2,by rw [q1]; rfl⟩
         ·obtain ⟨v,q1,q2⟩ := hcell j x hx
          rw [q1]; exact q2
       ·have h0 : P.cellsOf e = 0 := by
         cases vs with
         | nil => exact k1.symm
         | cons v r =>
           exfalso
           have h6 := k2 0 v rfl
           have h7 : a.add 0 = a := by unfold Addr.add; simp
           rw [h7] at h6
           exact hsp (zea h6).1
        exact ⟨[.undef],by unfold WT; rw [hu]; exact .inr (.inr ⟨h0,rfl⟩),.one (.undef _)⟩
     case struct fs =>
      obtain ⟨xs,m,hm,rfl,hlen,hxl,hx⟩ := DataW.trod_struct hu h
      obtain rfl : n = m := by omega
      simp only [Bool.and_eq_true,List.all_eq_true,beq_iff_eq,List.mem_range] at hrow
      obtain ⟨⟨r1,r2⟩,r3⟩ := hrow
      obtain ⟨parts,p1,p2,p3⟩ := asm (w := w) (F := zrh w) (fun f : Field => f.offset) (fun f : Field => P.cellsOf f.type) (fun f p => WT P top n f.type p) cs fs.toList 0
       (fun j f hf => by
        have := r3 j (List.getElem?_eq_some_iff.1 hf).1
        rw [hf] at this
        simpa using this)
       (by rw [hlen,r2]; simp)
       (fun f hf => by
        obtain ⟨i,hi⟩ := List.getElem?_of_mem hf
        have h1 := hx i f (by rw [← Array.getElem?_toList]; exact hi)
        have hil := (List.getElem?_eq_some_iff.1 hi).1
        have hy := List.getElem?_eq_getElem (l := xs) (i := i) (by simpa [hxl] using hil)
        rw [hy] at h1
        refine dec hl n f.type _ _ top h1 (r1 f hf) (fun ht v hv => hs ht v (List.mem_of_mem_drop (List.mem_of_mem_take hv))) (fun k hk => hw k ?_)
        simp only [DataW.weights,hu]
        exact ze8 _ _ i f.type _ (by rw [List.getElem?_map,hi]; rfl) (by rw [List.getElem?_map,hy]; rfl) hk)
      refine ⟨parts.flatten,?_,by simpa using p3⟩
      unfold WT; rw [hu]
      exact ⟨parts,rfl,by simpa using p1,fun i f p hf hp => p2 i f p (by rw [Array.getElem?_toList]; exact hf) hp⟩
     case array m e =>
      unfold DataW.trod at h; rw [hu] at h
      simp only at h
      split at h
      ·rename_i hlen
       rw [Option.map_eq_some_iff] at h
       obtain ⟨xs,hxs,rfl⟩ := h
       simp only [Bool.and_eq_true,beq_iff_eq] at hrow
       have hxl : xs.length = m := by simpa using mapM_some_length hxs
       have sumr : ∀ k,((List.range k).map fun _ => P.cellsOf e).sum = k * P.cellsOf e := fun k => by
        induction k with
        | zero => simp
        | succ k ih => rw [List.range_succ,List.map_append,List.sum_append,ih]; simp [Nat.succ_mul]
       obtain ⟨parts,p1,p2,p3⟩ := asm (w := w) (F := zrh w) (fun i : Nat => i * P.cellsOf e) (fun _ : Nat => P.cellsOf e) (fun _ p => WT P top n e p) cs (List.range m) 0
        (fun j i hj => by
         have hjl := (List.getElem?_eq_some_iff.1 hj).1
         have : i = j := by have := List.getElem?_range (n := m) (i := j) (by simpa using hjl); rw [this] at hj; exact (Option.some.inj hj).symm
         subst this
         rw [List.take_range,Nat.min_eq_left (by simp at hjl; omega),sumr]
         omega)
        (by rw [hlen,hrow.2,sumr]; omega)
        (fun i hi => by
         have hi' : i < m := by simpa using hi
         have h1 := mapM_some_get hxs i i (List.getElem?_range hi')
         have hy := List.getElem?_eq_getElem (l := xs) (i := i) (by omega)
         rw [hy] at h1
         refine dec hl n e _ _ top h1 hrow.1 (fun ht v hv => hs ht v (List.mem_of_mem_drop (List.mem_of_mem_take hv))) (fun k hk => hw k ?_)
         simp only [DataW.weights,hu]
         exact zcs _ _ (List.mem_map.2 ⟨_,List.getElem_mem _,rfl⟩) hk)
       refine ⟨parts.flatten,?_,by simpa using p3⟩
       unfold WT; rw [hu]
       refine ⟨parts,rfl,by simpa using p1,fun p hp => ?_⟩
       obtain ⟨i,hi⟩ := List.getElem?_of_mem hp
       have hil := (List.getElem?_eq_some_iff.1 hi).1
       exact p2 i i p (by rw [List.getElem?_range (by simpa [p1] using hil)]) hi
      ·cases h
     case interface ms =>
      have h1 : cs.length = 1 := by
       unfold DataW.trod at h; rw [hu] at h
       split at h <;> simp_all
      exact ⟨[.undef],by unfold WT; rw [hu]; exact .inr rfl,one h1 rfl⟩
     case map k e =>
      have h1 : cs.length = 1 := by
       unfold DataW.trod at h; rw [hu] at h
       split at h <;> simp_all
      exact ⟨[.undef],by unfold WT; rw [hu]; exact .inr rfl,one h1 rfl⟩
     all_goals
      have h1 : cs.length = 1 := by
       unfold DataW.trod at h; rw [hu] at h
       split at h <;> simp_all
      exact ⟨[.undef],by unfold WT; rw [hu]; rfl,one h1 rfl⟩
end
end Go.Pvm
namespace Go.Pvm
open Go.ChangeShapes Go.WideShapes Go.ChangeAt Go.RowKit
def WTV (P : Program) (t : TypeId) (v : PV) : Prop :=
 ∃ n,match z0a ((P.underlying t).getD .bool) with
   | true => ∃ cs,v = .agg cs ∧ WT P true n t cs
   | false => WT P true n t [v]
def zqx (P : Program) : List TypeId → List PV → Prop
 | [],[] => True
 | t :: ts,v :: vs => WTV P t v ∧ zqx P ts vs
 | _,_ => False
section
variable {H : Type} {enc : TypeId × Value → H} {P : Program} {W : World}
theorem zlu {P : Program} {base : Nat} {t : TypeId} {v : Value} (h : Cell.okWide P W .any base t v) : zph v := by
 unfold Cell.okWide at h
 cases v <;> try trivial
 rename_i a len cap
 cases a with
 | none => trivial
 | some a =>
   show a.spot = none
   cases hu : P.underlying t with
   | none => rw [hu] at h; simp [Cell.ok,hu] at h
   | some d =>
     rw [hu] at h
     cases d <;> simp [Cell.ok,hu] at h
     case slice e => exact h.2.2.2.1
theorem zpm (hl : laidOutB P = true) {base : Nat} : ∀ (ts : List TypeId) (vs : List Value) (ds : List (DataW H)) (ps : List MemPlace),DataW.TrodAll enc P W 0 (fun _ => true) true ts vs ds ps →
  (∀ (j : Nat) (t : TypeId) (v : Value),ts[j]? = some t → vs[j]? = some v → Value.okWide P W .any base t v) → (∀ t ∈ ts,isVar P t = true) →
  (∀ k ∈ DataW.weightsEach P ts ds,k ≤ reachBytes) → ∃ pvs,zqx P ts pvs ∧ VPs (zrh W) W pvs vs
 | [],vs,ds,ps,h,_,_,_ => by
   obtain ⟨rfl,rfl,rfl⟩ := trodAll_nil h
   exact ⟨[],trivial,VPs.nil'⟩
 | t :: ts,vs,ds,ps,h,hok,hv,hw => by
   obtain ⟨v,vs,d,ds,p,q,rfl,rfl,rfl,h1,h2⟩ := trodAll_cons h
   obtain ⟨pvs,k1,k2⟩ := zpm hl ts vs ds q h2 (fun j t v a b => hok (j + 1) t v (by simpa using a) (by simpa using b)) (fun t ht => hv t (.tail _ ht)) (fun k hk => hw k (by unfold DataW.weightsEach; exact List.mem_append_right _ hk))
   obtain ⟨n,hn⟩ := h1
   have hokv := hok 0 t v rfl rfl
   have hw0 : ∀ k ∈ d.weights P t,k ≤ reachBytes := fun k hk => hw k (by unfold DataW.weightsEach; exact List.mem_append_left _ hk)
   have hvt := hv t (.head _)
   have single : z0a ((P.underlying t).getD .bool) = false → ∃ pv,WTV P t pv ∧ VP (zrh W) W pv v := fun ha => by
    have hc : Cell.okWide P W .any base t v := by
     unfold Value.okWide at hokv
     cases hu : P.underlying t with
     | none => rw [hu] at hokv; exact hokv
     | some d => rw [hu] at hokv ha; cases d <;> first | exact hokv | (cases ha; done)
    have hone : v.cells.toList = [v] := by
     cases v <;> first | rfl | (exfalso; unfold Cell.okWide at hc; cases hu : P.underlying t with | none => (rw [hu] at hc; simp [Cell.ok,hu] at hc) | some d => (rw [hu] at hc; cases d <;> simp [Cell.ok,hu] at hc))
    rw [hone] at hn
    obtain ⟨pv,a1,a2⟩ := dec hl n t [v] _ true hn hvt (fun _ u hu => by
     simp at hu
     subst hu
     exact zlu hc) hw0
    have hl1 := a2.1
    obtain ⟨c,rfl⟩ := List.length_eq_one_iff.1 (show pv.length = 1 by simpa using hl1.symm)
    exact ⟨c,⟨n,by rw [ha]; exact a1⟩,a2.2 0 c v rfl rfl⟩
   have agg : z0a ((P.underlying t).getD .bool) = true → ∃ pv,WTV P t pv ∧ VP (zrh W) W pv v := fun ha => by
    have hc : ∃ cs,v = .agg cs ∧ cs.size = P.cellsOf t ∧ Row.okWide P W .any base t cs := by
     unfold Value.okWide at hokv
     cases hu : P.underlying t with
     | none => rw [hu] at ha; cases ha
     | some d => rw [hu] at hokv ha; cases d <;> first | exact hokv | (cases ha; done)
    obtain ⟨cs,rfl,_,ts',_,_,hcell⟩ := hc
    obtain ⟨pv,a1,a2⟩ := dec hl n t cs.toList _ true hn hvt (fun _ u hu => by
     obtain ⟨i,hi⟩ := List.getElem?_of_mem hu
     obtain ⟨u',_,hk⟩ := hcell i u (by rw [← Array.getElem?_toList]; exact hi)
     exact zlu hk) hw0
    refine ⟨.agg pv,⟨n,by rw [ha]; exact ⟨pv,rfl,a1⟩⟩,?_⟩
    have := VP.agg' a2
    simpa using this
   obtain ⟨pv,a1,a2⟩ : ∃ pv,WTV P t pv ∧ VP (zrh W) W pv v := by
    cases ha : z0a ((P.underlying t).getD .bool) with
    | true => exact agg ha
    | false => exact single ha
   exact ⟨pv :: pvs,⟨a1,k1⟩,VPs.append (a := [pv]) (x := [v]) (.one a2) k2⟩
theorem zni (hl : laidOutB P = true) {W' : World} (hb : Below W.heap.size W W') {sp : Nat → Bool} : ∀ (ts : List TypeId) (vs : List Value) (ds : List (DataW H)) (ps : List MemPlace),DataW.TrodAll enc P W 0 (fun _ => true) true ts vs ds ps →
  (∀ t ∈ ts,isVar P t = true ∧ P.readableRec t = true) → (∀ p ∈ ps,p.block < W.heap.size ∧ sp p.block = true) → DataW.TrodAll enc P W' 0 sp true ts vs ds ps
 | [],vs,ds,ps,h,_,_ => by
   obtain ⟨rfl,rfl,rfl⟩ := trodAll_nil h
   exact rfl
 | t :: ts,vs,ds,ps,h,hr,hp => by
   obtain ⟨v,vs,d,ds,p,q,rfl,rfl,rfl,h1,h2⟩ := trodAll_cons h
   refine ⟨p,q,WideElems.Trod_stays hl (hr t (.head _)).2 (zqc (hr t (.head _)).1) h1 (fun x hx => hb.same (hp x (List.mem_append_left _ hx)).1) (fun x hx => (hp x (List.mem_append_left _ hx)).2),?_,rfl⟩
   exact zni hl hb ts vs ds q h2 (fun t ht => hr t (.tail _ ht)) fun x hx => hp x (List.mem_append_right _ hx)
end
theorem zrc {C : Checked} {os : Os} {f : FuncId} {fn : Func} {s : ChangeSpec} {conds : List PathCond} {fresh handsOn : Bool} {H : Type} {enc : TypeId × Value → H} {cfg : Cfg}
  (hP : cfg.P = C.prog) (hT : Tolds cfg) (hl : laidOutB C.prog = true) (own : ownKnob C.prog.godebug = none) (started : os.Started) (noInit : C.prog.inits.idxOf? f = none) (hfn : C.prog.funcs[f]? = some fn)
  {tb : TypeId} (hres : fn.resultTypes = #[tb]) (htb : C.prog.underlying tb = some .bool) (hpar : (fn.params.toList.all fun t => isVar C.prog t && C.prog.readableRec t) = true)
  (hvars : s.vars = []) (hsp : ∀ (H : Type) (ds : List (DataW H)),ds.length = fn.params.size → s.fn H ds = { results := [.lit (.bool true)],args := ds })
  (witness : ∃ (w : World) (tape : Tape) (i : Input),w.os = os ∧ (w.forCall tape i).Shaped C.prog ∧ i.vars = [] ∧ Input.okWide C.prog (w.forCall tape i) .any w.heap.size f i ∧
   s.pre6 enc C.prog fn conds false (w.forCall tape i).memory i.args ∧ ({} : Assume).holds C.prog (lone (Frame.enter C.prog f i.args .normal) [] (w.forCall tape i)))
  (main : ∀ pvs : List PV,zqx C.prog fn.params.toList pvs → ∃ σ',jg cfg f pvs .empty = some (.bool true,σ')) :
  ReturnsInHanded {} C os f .any (s.pre6 enc C.prog fn conds false) (s.post enc C.prog fn false fresh handsOn false) := by
 refine returnsInHanded_of_calls own started noInit witness ?_
 intro w tape i _ _ _ hok hpre hholds
 obtain ⟨_,_,_,fn',hfn',_,_,_,_,hval⟩ := hok
 have e : fn' = fn := Option.some.inj (hfn'.symm.trans hfn)
 subst e
 obtain ⟨⟨ds,gs,before,hw,hc⟩,hz⟩ := hpre
 have hwt := hz.weights hw
 have hW := DataW.Whole.of_heap (w' := w.forCall tape i) (by rfl) hw
 generalize w.forCall tape i = W at *
 have hW0 := hW
 obtain ⟨p,q,hA,hV,rfl,hfz,hnd⟩ := hW
 rw [hvars] at hV
 obtain ⟨rfl,rfl⟩ := trodVars_none hV
 simp only [List.all_eq_true,Bool.and_eq_true] at hpar
 have hdl : ∀ (ts : List TypeId) (vs : List Value) (ds : List (DataW H)) (ps : List MemPlace),DataW.TrodAll enc C.prog W 0 (fun _ => true) true ts vs ds ps → ds.length = ts.length := by
  intro ts
  induction ts with
  | nil => intro vs ds ps h; obtain ⟨rfl,rfl,rfl⟩ := trodAll_nil h; rfl
  | cons t ts ih => intro vs ds ps h; obtain ⟨v,vs,d,ds,p,q,rfl,rfl,rfl,h1,h2⟩ := trodAll_cons h; simp [ih _ _ _ h2]
 have hlen : ds.length = fn'.params.size := by simpa using hdl _ _ _ _ hA
 obtain ⟨pvs,k1,k2⟩ := zpm hl (base := w.heap.size) _ _ _ _ hA (fun j t v a b => hval j t v (by rw [← Array.getElem?_toList]; exact a) (by rw [← Array.getElem?_toList]; exact b)) (fun t ht => (hpar t ht).1)
  (fun k hk => by
   have hvt : (OpenSpec.ofChange s).bare.plain.varTypes C.prog = [] := by
    simp [OpenSpec.ofChange,OpenSpec.bare,ChangeSpec.plain,DataSpec.varTypes,hvars]
   rw [hvt,List.append_nil,List.append_nil,List.all_eq_true] at hwt
   simpa using hwt k hk)
 obtain ⟨σ',hm⟩ := main pvs k1
 have ok := (zpw (cfg := cfg) hT (by rw [hP]; exact C.mixed)).ok f pvs .empty _ _ hm (fun _ => none) (zrh W) W i.args.toList (SR.empty (fun b o h => h) 0) ⟨k2.1,fun i c u a b => .pure (k2.2 i c u a b)⟩ (fun _ _ _ => rfl)
 rw [hP] at ok
 refine ok.mono fun e W' ⟨vc,ρ',F',he,g,s',hv⟩ => ?_
 obtain rfl := hv.bool_inv
 subst he
 have hb : Below W.heap.size W W' := ⟨g.os,g.tape,g.out,g.size,fun k hk => g.frame k hk fun ⟨_,_,_,h,_⟩ => by cases h⟩
 have hlt : ∀ x ∈ p,x.block < W.heap.size := fun x hx => hW0.lt x (by simpa using hx)
 have hp : s.post enc C.prog fn' false fresh handsOn false W i.args (.bool true) W' := by
  refine ⟨ds,[],p ++ [],[],p,[],hW0,?_,?_,?_,hb.frame _,fun h => by cases h⟩
  ·rw [List.append_nil,hsp H ds hlen,hres]
   exact trodAll_mk1 (shut_bool htb true)
  ·rw [List.append_nil,hsp H ds hlen]
   exact zni hl hb _ _ _ _ hA hpar fun x hx => ⟨hlt x hx,by simpa using hlt x hx⟩
  ·rw [hvars,List.append_nil,hsp H ds hlen]
   exact rfl
 exact ChangeSpec.post_blind hp
end Go.Pvm
namespace Go.Pvm
def zhr : Code → List Code
 | .seq a b | .cond _ a b => zhr a ++ zhr b
 | .block _ a => zhr a
 | .loop a => a :: zhr a
 | _ => []
def xe (P : Program) (f n : Nat) : Code := (zhr (((P.funcs[f]?).bind (·.body)).getD .skip)).getD n .skip
def mkS (n : Nat) (l : List (Nat × PV)) : List PV := (List.range n).map fun i => (l.lookup i).getD .undef
end Go.Pvm
namespace Go.Pvm
section
variable {β : Type}
theorem zw (κ : IntKind) (n : Int) (k : Int → Option β) : asInt κ (.int κ n) k = k n := by simp [asInt]
theorem ze (b : Bool) (k : Bool → Option β) : asBool (.bool b) k = k b := rfl
theorem z8 (s : ByteArray) (k : ByteArray → Option β) : zo6 (.str s) k = k s := rfl
theorem z6 (i : Nat) (e : Nat → Option β) (r : Option β) : jq (.exit i) e r = e i := rfl
theorem yi (e : Nat → Option β) (r : Option β) : jq .ret e r = r := rfl
theorem zb {α : Type} (a : α) (f : α → Option β) : (some a).bind f = f a := rfl
end
theorem q8 {x : Int} (h1 : -9223372036854775808 ≤ x) (h2 : x < 9223372036854775808) : IntKind.wrap .i64 x = x := by
 have e1 : ((2 : Int) ^ IntKind.bits .i64) = 18446744073709551616 := by decide
 have e2 : ((2 : Int) ^ (IntKind.bits .i64 - 1)) = 9223372036854775808 := by decide
 have e3 : IntKind.signed .i64 = true := rfl
 simp only [IntKind.wrap,e1,e2,e3,Bool.true_and,decide_eq_true_eq]
 split <;> omega
theorem zu3 {σ : Store} {id sz idx len ro : Nat} {cap : Option Nat} {es : List (List PV)} (ho : σ.objs id = some (.cells ro es)) (h : idx + len ≤ es.length) (n : Nat) :
  fz (n + 1) σ (.lsl id sz idx len cap) = .psl (cap == some len) (((es.drop idx).take len).map fun e => e.map (fz n σ)) := by
 unfold fz
 simp only [ho]
 exact if_pos h
structure El (P : Program) (el : TypeId) (sz by_ : Nat) : Prop where
 hsz : wo P el = some sz
 hby : zo3 P el = some by_
 z : ∃ z,j9 P el = some z ∧ z.known = true ∧ z.cells.length = sz
 pos : sz ≠ 0 ∧ by_ ≠ 0
section
variable {P : Program} {σ : Store} {el : TypeId} {sz by_ : Nat} {x : PV} {new es : List (List PV)} {id ro idx len : Nat}
theorem jb (E : El P el sz by_) (hx : xd σ x = some new) (ha : all1 sz new = true) (s : PV) : qd P σ el s x = (match s with
 | .nilsl => if new.length = 0 then some (.nilsl,σ) else
   if new.length * by_ ≤ 140737488355328 then some (.lsl σ.next sz 0 new.length none,σ.push (.cells 0 new)) else none
 | .psl full es => if new.length = 0 then some (.psl full es,σ) else
   if full = true then
    (if (es.length + new.length) * by_ ≤ 140737488355328 then
     (if (es.all fun e => e.length == sz) = true then some (.lsl σ.next sz 0 (es.length + new.length) none,σ.push (.cells 0 (es ++ new))) else none)
    else none)
   else none
 | .lsl id sz' idx len cap => if new.length = 0 then some (.lsl id sz' idx len cap,σ) else
   if sz' ≠ sz then none else
   match σ.objs id with
   | some (.cells ro es) =>
     if idx + len + new.length ≤ es.length ∧ len + new.length ≤ cap.getD (len + new.length) then
      (if ro ≤ idx + len then some (.lsl id sz idx (len + new.length) cap,σ.put id (.cells ro (es.take (idx + len) ++ new ++ es.drop (idx + len + new.length)))) else none)
     else if idx + len ≤ es.length then
      (if (len + new.length) * by_ ≤ 140737488355328 then
       (match cap with
       | some c => if c < len + new.length then
         some (.lsl σ.next sz 0 (len + new.length) none,σ.push (.cells 0 ((es.drop idx).take len ++ new))) else none
       | none => if ro ≤ idx + len then some (.lsl σ.next sz 0 (len + new.length) none,(σ.kill id).push (.cells (ro - idx) ((es.drop idx).take len ++ new))) else none)
      else none)
     else none
   | _ => none
 | _ => none) := by
 obtain ⟨z,hz,hk,hl⟩ := E.z
 unfold qd
 simp only [E.hsz,E.hby,hz,hx,Option.bind_some]
 rw [if_neg (by rw [hk,hl]; simp [E.pos.1,E.pos.2]),if_neg (by rw [ha]; decide)]
 cases s <;> rfl
theorem u9 (E : El P el sz by_) (hx : xd σ x = some new) (ha : all1 sz new = true) (hn : new ≠ []) (ho : σ.objs id = some (.cells ro es)) (hi : idx + len ≤ es.length) (hb : (len + new.length) * by_ ≤ 140737488355328) :
  qd P σ el (.lsl id sz idx len (some len)) x = some (.lsl σ.next sz 0 (len + new.length) none,σ.push (.cells 0 ((es.drop idx).take len ++ new))) := by
 have h0 : 0 < new.length := List.length_pos_iff.2 hn
 rw [jb E hx ha]
 simp only [ho]
 rw [if_neg (by omega),if_neg (by simp),if_neg (by simp only [Option.getD_some]; omega),if_pos hi,if_pos hb,if_pos (by omega)]
theorem v7 (E : El P el sz by_) (hx : xd σ x = some []) {cap : Option Nat} : qd P σ el (.lsl id sz idx len cap) x = some (.lsl id sz idx len cap,σ) := by
 rw [jb E hx rfl]
 rfl
theorem zdc (E : El P el sz by_) (hx : xd σ x = some new) (ha : all1 sz new = true) (hn : new ≠ []) (hb : new.length * by_ ≤ 140737488355328) :
  qd P σ el .nilsl x = some (.lsl σ.next sz 0 new.length none,σ.push (.cells 0 new)) := by
 have h0 : 0 < new.length := List.length_pos_iff.2 hn
 rw [jb E hx ha]
 simp only
 rw [if_neg (by omega),if_pos hb]
theorem jo {t u e2 : TypeId} (ht : P.underlying t = some (.slice el)) (hu : P.underlying u = some (.slice e2)) (hs : zh0 x = false) (s : PV) : jh P σ .append [t,u] [s,x] = qd P σ el s x := by
 simp only [jh,ht,hu]
 cases x <;> first | rfl | cases hs
end
theorem z2e {P : Program} {top : Bool} {n : Nat} {t : TypeId} {k : IntKind} {cs : List PV} (ht : P.underlying t = some (.int k)) (h : WT P top n t cs) : ∃ x,cs = [.int k x] ∧ k.min ≤ x ∧ x ≤ k.max := by
 cases n with
 | zero => exact h.elim
 | succ n => unfold WT at h; rw [ht] at h; exact h
theorem zsm {P : Program} {top : Bool} {n : Nat} {t : TypeId} {fs : Array Field} {cs : List PV} (ht : P.underlying t = some (.struct fs)) (h : WT P top n t cs) : ∃ m,∃ parts : List (List PV),cs = parts.flatten ∧ parts.length = fs.size ∧ ∀ (i : Nat) (f : Field) (p : List PV),fs[i]? = some f → parts[i]? = some p → p.length = P.cellsOf f.type ∧ WT P top m f.type p := by
 cases n with
 | zero => exact h.elim
 | succ n => unfold WT at h; rw [ht] at h; exact ⟨n,h⟩
end Go.Pvm
namespace Go.Pvm
theorem xv (σ : Store) (o : Obj) : (σ.push o).objs σ.next = some o := by simp [Store.push]
theorem q9 {σ : Store} {o : Obj} {i : Nat} (h : i < σ.next) : (σ.push o).objs i = σ.objs i := by
 show (if i = σ.next then _ else _) = _
 rw [if_neg (by omega)]
theorem zad (σ : Store) (id : Nat) (o : Obj) : (σ.put id o).objs id = some o := by simp [Store.put]
theorem qy {σ : Store} {id i : Nat} {o : Obj} (h : i ≠ id) : (σ.put id o).objs i = σ.objs i := by simp [Store.put,h]
theorem z5f : ((0 : Nat) : Int) = 0 := rfl
theorem yr {i : Nat} (h : i < 4611686018427387904) : IntKind.wrap .i64 (((i : Nat) : Int) + 1) = ((i + 1 : Nat) : Int) := by rw [q8 (by omega) (by omega)]; rfl
def PV.plain : PV → Bool
 | .bool _ | .int .. | .float .. | .str _ | .nilptr | .nilsl | .psl .. | .pref _ | .nilmap | .nilfunc | .niliface => true
 | _ => false
theorem zyi {v : PV} (h : v.plain = true) (n : Nat) (σ : Store) : fz (n + 1) σ v = v := by cases v <;> first | rfl | cases h
theorem zmr {e : List PV} (h : ∀ c ∈ e,c.plain = true) (n : Nat) (σ : Store) : e.map (fz (n + 1) σ) = e := by
 induction e with
 | nil => rfl
 | cons c e ih => rw [List.map_cons,zyi (h c (.head _)),ih fun c hc => h c (.tail _ hc)]
theorem zp7 {v : PV} (h : v.plain = true) : v.lf = true := by cases v <;> first | rfl | cases h
theorem zuw {e : List PV} (h : ∀ c ∈ e,c.plain = true) : PV.lf.lfs e = true := by
 induction e with
 | nil => rfl
 | cons c e ih => simp [PV.lf.lfs,zp7 (h c (.head _)),ih fun c hc => h c (.tail _ hc)]
def IsP (v : PV) (es : List (List PV)) : Prop := (v = .nilsl ∧ es = []) ∨ ∃ b,v = .psl b es
def IsQ (σ : Store) (sz : Nat) (v : PV) (es : List (List PV)) : Prop :=
 IsP v es ∨ ∃ id idx cap ro full,v = .lsl id sz idx es.length cap ∧ σ.objs id = some (.cells ro full) ∧ idx + es.length ≤ full.length ∧ (full.drop idx).take es.length = es ∧ id < σ.next
section
variable {P : Program} {σ τ : Store} {t el : TypeId} {sz : Nat} {v : PV} {es : List (List PV)}
theorem IsQ.elems (h : IsQ σ sz v es) : xd σ v = some es := by
 rcases h with (⟨rfl,rfl⟩ | ⟨b,rfl⟩) | ⟨id,idx,cap,ro,full,rfl,h2,h3,h4,h5⟩
 ·rfl
 ·rfl
 ·simp only [xd,h2]
  rw [if_pos h3,h4]
theorem IsQ.nostr (h : IsQ σ sz v es) : zh0 v = false := by rcases h with (⟨rfl,rfl⟩ | ⟨b,rfl⟩) | ⟨id,idx,cap,ro,full,rfl,_⟩ <;> rfl
end
section
variable {P : Program} {σ τ : Store} {t el : TypeId} {sz by_ : Nat} {u x : PV} {es new : List (List PV)}
end
end Go.Pvm
namespace Go.Pvm
def Els (sz : Nat) (es : List (List PV)) : Prop := ∀ e ∈ es,e.length = sz ∧ ∀ c ∈ e,c.plain = true
theorem zhg {v : PV} (h : v.plain = true) : v.one = true := by cases v <;> first | rfl | cases h
theorem zrg {e : List PV} (h : ∀ c ∈ e,c.plain = true) : e.all PV.one = true := by
 rw [List.all_eq_true]
 exact fun c hc => zhg (h c hc)
theorem Els.all1 {sz : Nat} {es : List (List PV)} (h : Els sz es) : all1 sz es = true := by
 unfold Pvm.all1
 rw [List.all_eq_true]
 intro e he
 simp [(h e he).1,zrg (h e he).2]
section
variable {P : Program} {σ : Store} {t : TypeId} {n : Nat} {e : List PV}
theorem zvn {el : TypeId} {sz id idx len a b : Nat} {cap : Option Nat} {lo hi : Option PV} (hu : P.underlying t = some (.slice el)) (hs : wo P el = some sz) (hl : xh lo 0 = some a) (hh : xh hi len = some b) (h1 : a ≤ b) (h2 : b ≤ len) (h3 : ∀ c,cap = some c → len ≤ c) :
  zb2 P t (.lsl id sz idx len cap) lo hi none = some (.lsl id sz (idx + a) (b - a) (cap.map (· - a))) := by
 have hm : xh none (cap.getD len) = some (cap.getD len) := rfl
 simp only [zb2,hu,hs,Option.bind_some,hl,hh,hm]
 have hb : b ≤ cap.getD len := by
  cases cap with
  | none => exact h2
  | some c => exact Nat.le_trans h2 (h3 c rfl)
 rw [if_neg (by simp),if_neg (by simp),if_pos ⟨h1,hb,Nat.le_refl _⟩]
 rfl
end
end Go.Pvm
namespace Go.Pvm
inductive All2 {α β : Type} (R : α → β → Prop) : List α → List β → Prop
 | nil : All2 R [] []
 | cons {a : α} {b : β} {as : List α} {bs : List β} (h : R a b) (t : All2 R as bs) : All2 R (a :: as) (b :: bs)
namespace All2
variable {α β γ : Type} {R : α → β → Prop} {as as' : List α} {bs bs' : List β}
theorem len (h : All2 R as bs) : as.length = bs.length := by
 induction h with
 | nil => rfl
 | cons _ _ ih => simp [ih]
theorem app (h : All2 R as bs) (h' : All2 R as' bs') : All2 R (as ++ as') (bs ++ bs') := by
 induction h with
 | nil => exact h'
 | cons h _ ih => exact .cons h ih
theorem get (h : All2 R as bs) : ∀ {i : Nat} {b : β},bs[i]? = some b → ∃ a,as[i]? = some a ∧ R a b := by
 induction h with
 | nil => intro i b e; simp at e
 | cons h _ ih =>
   intro i b e
   cases i with
   | zero => simp at e; subst e; exact ⟨_,rfl,h⟩
   | succ i => exact ih (by simpa using e)
theorem get' (h : All2 R as bs) : ∀ {i : Nat} {a : α},as[i]? = some a → ∃ b,bs[i]? = some b ∧ R a b := by
 induction h with
 | nil => intro i b e; simp at e
 | cons h _ ih =>
   intro i b e
   cases i with
   | zero => simp at e; subst e; exact ⟨_,rfl,h⟩
   | succ i => exact ih (by simpa using e)
theorem drop (h : All2 R as bs) : ∀ n,All2 R (as.drop n) (bs.drop n) := by
 induction h with
 | nil => intro n; simpa using All2.nil
 | cons h t ih =>
   intro n
   cases n with
   | zero => exact .cons h t
   | succ n => exact ih n
theorem take (h : All2 R as bs) : ∀ n,All2 R (as.take n) (bs.take n) := by
 induction h with
 | nil => intro n; simpa using All2.nil
 | cons h t ih =>
   intro n
   cases n with
   | zero => exact .nil
   | succ n => exact .cons h (ih n)
theorem set (h : All2 R as bs) {a : α} {b : β} (hab : R a b) : ∀ n,All2 R (as.set n a) (bs.set n b) := by
 induction h with
 | nil => intro n; exact .nil
 | cons h t ih =>
   intro n
   cases n with
   | zero => exact .cons hab t
   | succ n => exact .cons h (ih n)
theorem mono {S : α → β → Prop} (h : All2 R as bs) (hs : ∀ a b,R a b → S a b) : All2 S as bs := by
 induction h with
 | nil => exact .nil
 | cons h _ ih => exact .cons (hs _ _ h) ih
theorem replicate {a : α} {b : β} (h : R a b) (n : Nat) : All2 R (List.replicate n a) (List.replicate n b) := by
 induction n with
 | zero => exact .nil
 | succ n ih => exact .cons h ih
end All2
abbrev ElR (α : Type) := List PV → α → Prop
section
variable {α : Type} {P : Program} {σ τ : Store} {t el : TypeId} {sz by_ : Nat} {R : ElR α} {v u : PV} {l : List α}
end
section
variable {P : Program} {σ τ : Store} {t el : TypeId} {sz by_ : Nat} {u x : PV} {es new : List (List PV)}
theorem za3 (σ : Store) (i : Nat) (o : Obj) : ((σ.kill i).push o).objs σ.next = some o := by simp [Store.push,Store.kill]
end
section
variable {α : Type} {P : Program} {σ τ : Store} {t el : TypeId} {sz by_ : Nat} {R : ElR α} {v u x : PV} {l ln : List α}
end
section
variable {P : Program} {σ : Store} {t el ts : TypeId} {by_ : Nat} {v : PV} {l l' : List UInt8}
end
end Go.Pvm
namespace Go.Pvm.Crc
end Go.Pvm.Crc
namespace Go.Pvm
theorem zf6 {x : Int} (h1 : 0 ≤ x) (h2 : x < 18446744073709551616) : IntKind.wrap .u64 x = x := by
 have e1 : ((2 : Int) ^ IntKind.bits .u64) = 18446744073709551616 := by decide
 have e3 : IntKind.signed .u64 = false := rfl
 simp only [IntKind.wrap,e1,e3,Bool.false_and]
 simp only [Bool.false_eq_true,if_false]
 omega
end Go.Pvm
namespace Go.Pvm
section
variable {σ τ υ : Store} {ids a b : List Nat}
variable {sz : Nat} {v u : PV} {es : List (List PV)}
variable {α : Type} {R : ElR α} {l : List α}
end
section
variable {P : Program} {σ : Store} {t el : TypeId} {sz by_ id : Nat} {x : PV} {es new : List (List PV)}
end
theorem z0r : reachBytes < 4611686018427387904 := by decide
end Go.Pvm
namespace Go.Pvm
section
variable {α : Type} {P : Program} {σ τ : Store} {t el : TypeId} {sz by_ : Nat} {R : ElR α} {v u x : PV} {l ln : List α} {ids : List Nat}
end
section
variable {σ τ : Store}
theorem zxw {i : Nat} (h : i < σ.next) : (σ.join τ).objs i = σ.objs i := by
 show (if i < σ.next then _ else _) = _
 rw [if_pos h]
theorem zxx {i : Nat} (h : σ.next ≤ i) : (σ.join τ).objs i = τ.objs i := by
 show (if i < σ.next then _ else _) = _
 rw [if_neg (by omega)]
variable {α : Type} {R : ElR α} {sz : Nat} {u : PV} {l : List α}
theorem jn (n : Nat) : wd (.at_ n) n = true := by
 unfold wd
 simp [Store.at_]
theorem x6 {a : Nat} (h : wd τ a = true) (hn : a ≤ τ.next) {k : Nat} {es : List (List PV)} (he : es.all PV.own.owns = true) : wd (τ.push (.cells k es)) a = true := by
 unfold wd at h ⊢
 rw [List.all_eq_true] at h ⊢
 intro i hi
 have hi : i < τ.next + 1 - a := by simpa [Store.push] using hi
 by_cases hq : a + i = τ.next
 ·have : (τ.push (.cells k es)).objs (a + i) = some (.cells k es) := by rw [hq]; exact xv _ _
  rw [this]
  exact he
 ·have h1 : (τ.push (.cells k es)).objs (a + i) = τ.objs (a + i) := q9 (by omega)
  rw [h1]
  exact h i (by simp; omega)
end
end Go.Pvm
namespace Go.Pvm
def y5 (sz : Nat) (es : List (List PV)) : Bool := es.all fun e => e.length == sz && e.all PV.plain
def u0 : List (List PV) → Option (List Int)
 | [] => some []
 | [.int .i64 n] :: r => (u0 r).map (n :: ·)
 | _ => none
def qv (n : Int) : List PV := [.int .i64 n]
inductive Word where
 | insert (t : TypeId)
 | sort
 deriving DecidableEq
def zae (P : Program) (t : TypeId) (args : List PV) (σ : Store) : Option (PV × Store) :=
 match args with
 | [s,.int .i64 i,.lsl id2 sz2 idx2 m cap2] => match P.underlying t with
   | some (.slice el) => (wo P el).bind fun sz => (zo3 P el).bind fun by_ => (j9 P el).bind fun z =>
     if sz = 0 ∨ by_ = 0 ∨ z.known = false ∨ z.cells.length ≠ sz ∨ m = 0 then none else
     match σ.objs id2 with
     | some (.cells ro2 es2) => if idx2 + m ≤ es2.length ∧ y5 sz es2 = true then
       match s with
       | .nilsl => if i = 0 ∧ m * by_ ≤ 140737488355328 then some (.lsl σ.next sz 0 m none,σ.push (.cells 0 ((es2.drop idx2).take m))) else none
       | .lsl id sz' 0 len cap => match σ.objs id with
         | some (.cells 0 es) => if sz' = sz ∧ id ≠ id2 ∧ 0 ≤ i ∧ i.toNat ≤ len ∧ len ≤ es.length ∧ y5 sz es = true ∧ (len + m) * by_ ≤ 140737488355328 then
           some (.lsl σ.next sz 0 (len + m) none,(σ.kill id).push (.cells 0 ((es.take len).take i.toNat ++ (es2.drop idx2).take m ++ (es.take len).drop i.toNat)))
           else none
         | _ => none
       | _ => none
       else none
     | _ => none
   | _ => none
 | _ => none
def zj8 (args : List PV) (σ : Store) : Option (PV × Store) :=
 match args with
 | [.nilsl] => some (.tuple [],σ)
 | [.lsl id 1 idx len _] => match σ.objs id with
   | some (.cells ro es) => if ro ≤ idx ∧ idx + len ≤ es.length ∧ len < 4611686018427387904 then
     (u0 ((es.drop idx).take len)).map fun l => (.tuple [],σ.put id (.cells ro (es.take idx ++ (l.mergeSort fun x y => decide (x ≤ y)).map qv ++ es.drop (idx + len))))
     else none
   | _ => none
 | _ => none
def zii (P : Program) : Word → List PV → Store → Option (PV × Store)
 | .insert t => zae P t
 | .sort => zj8
theorem zc8 {P : Program} {t : TypeId} {args : List PV} {σ : Store} {r : PV × Store} (h : zae P t args σ = some r) :
  ∃ s i id2 sz2 idx2 m cap2 el sz by_ z ro2 es2,args = [s,.int .i64 i,.lsl id2 sz2 idx2 m cap2] ∧ P.underlying t = some (.slice el) ∧ wo P el = some sz ∧ zo3 P el = some by_ ∧ j9 P el = some z ∧
    sz ≠ 0 ∧ by_ ≠ 0 ∧ z.known = true ∧ z.cells.length = sz ∧ m ≠ 0 ∧ σ.objs id2 = some (.cells ro2 es2) ∧ idx2 + m ≤ es2.length ∧ y5 sz es2 = true ∧
    ((s = .nilsl ∧ i = 0 ∧ m * by_ ≤ 140737488355328 ∧ r = (.lsl σ.next sz 0 m none,σ.push (.cells 0 ((es2.drop idx2).take m)))) ∨
     ∃ id len cap es,s = .lsl id sz 0 len cap ∧ σ.objs id = some (.cells 0 es) ∧ id ≠ id2 ∧ 0 ≤ i ∧ i.toNat ≤ len ∧ len ≤ es.length ∧ y5 sz es = true ∧ (len + m) * by_ ≤ 140737488355328 ∧
       r = (.lsl σ.next sz 0 (len + m) none,(σ.kill id).push (.cells 0 ((es.take len).take i.toNat ++ (es2.drop idx2).take m ++ (es.take len).drop i.toNat)))) := by
 unfold zae at h
 split at h
 ·rename_i s i id2 sz2 idx2 m cap2
  split at h
  ·rename_i el ht
   simp only [Option.bind_eq_some_iff] at h
   obtain ⟨sz,hsz,by_,hby,z,hz,h⟩ := h
   split at h
   ·cases h
   rename_i hh
   simp only [not_or] at hh
   obtain ⟨h0,h1,h2,h3,h4⟩ := hh
   split at h
   ·rename_i ro2 es2 ho2
    split at h
    ·rename_i hc
     refine ⟨s,i,id2,sz2,idx2,m,cap2,el,sz,by_,z,ro2,es2,rfl,ht,hsz,hby,hz,h0,h1,by simpa using h2,by simpa using h3,h4,ho2,hc.1,hc.2,?_⟩
     split at h
     ·split at h
      ·rename_i hd
       cases h
       exact .inl ⟨rfl,hd.1,hd.2,rfl⟩
      ·cases h
     ·rename_i id sz' len cap
      split at h
      ·rename_i es ho
       split at h
       ·rename_i hd
        cases h
        obtain ⟨rfl,d⟩ := hd
        exact .inr ⟨id,len,cap,es,rfl,ho,d.1,d.2.1,d.2.2.1,d.2.2.2.1,d.2.2.2.2.1,d.2.2.2.2.2,rfl⟩
       ·cases h
      ·cases h
     ·cases h
    ·cases h
   ·cases h
  ·cases h
 ·cases h
section
variable {P : Program} {ρ ρ' : Where} {F F' : jl} {w w' : World} {σ σ' : Store}
theorem zer {sz : Nat} {es : List (List PV)} (h : y5 sz es = true) : ∀ e ∈ es,e.length = sz ∧ ∀ x ∈ e,x.plain = true := fun e he => by
 unfold y5 at h
 rw [List.all_eq_true] at h
 have := h e he
 rw [Bool.and_eq_true,beq_iff_eq,List.all_eq_true] at this
 exact this
theorem ug {sz : Nat} {es : List (List PV)} (h : y5 sz es = true) : all1 sz es = true := by
 unfold all1
 rw [List.all_eq_true]
 intro e he
 obtain ⟨h1,h2⟩ := zer h e he
 rw [Bool.and_eq_true,beq_iff_eq,List.all_eq_true]
 refine ⟨h1,fun x hx => ?_⟩
 have := h2 x hx
 cases x <;> first | rfl | cases this
theorem zi3 {sz : Nat} {a b : List (List PV)} (h : y5 sz a = true) (hs : ∀ e ∈ b,e ∈ a) : y5 sz b = true := by
 unfold y5 at h ⊢
 rw [List.all_eq_true] at h ⊢
 exact fun e he => h e (hs e he)
theorem VR.plain_any {v : PV} {c : Value} (h : VR ρ F w v c) (hp : v.plain = true) : VR ρ' F w v c := .pure (h.lf (zp7 hp))
theorem OR.plain {r : Rec} {ro : Nat} {es : List (List PV)} (h : OR ρ F w r (.cells ro es)) (hp : ∀ e ∈ es,∀ x ∈ e,x.plain = true) : OR ρ' F w r (.cells ro es) := by
 obtain ⟨arr,ty,hb,hph,hn,hs,hf,hro,hz,hF,hc⟩ := h.cells_inv
 exact .cells ro es arr ty hb hph hn hs hf hro hz hF fun i e he j x hx => by
  obtain ⟨v,q1,q2⟩ := hc i e he j x hx
  exact ⟨v,q1,q2.plain_any (hp e (List.mem_of_getElem? he) x (List.mem_of_getElem? hx))⟩
theorem OR.front {r : Rec} {a b : List (List PV)} (h : OR ρ F w r (.cells 0 (a ++ b))) (hp : ∀ e ∈ a,∀ x ∈ e,x.plain = true) : OR ρ' F w { r with n := a.length } (.cells 0 a) := by
 obtain ⟨arr,ty,hb,hph,hn,hs,hf,hro,hz,hF,hc⟩ := h.cells_inv
 refine .cells 0 a arr ty hb hph rfl (fun e he => hs e (List.mem_append_left _ he)) (Nat.le_trans ?_ hf) (Nat.zero_le _) hz hF fun i e he j x hx => ?_
 ·show r.sh + a.length * r.sz ≤ r.sh + r.n * r.sz
  have : a.length * r.sz ≤ r.n * r.sz := Nat.mul_le_mul_right _ (by rw [← hn,List.length_append]; omega)
  omega
 ·obtain ⟨v,q1,q2⟩ := hc i e (by rw [List.getElem?_append_left (List.getElem?_eq_some_iff.1 he).1]; exact he) j x hx
  exact ⟨v,q1,q2.plain_any (hp e (List.mem_of_getElem? he) x (List.mem_of_getElem? hx))⟩
def zaj (σ : Store) (id id2 : Nat) (es : List (List PV)) : Store := ⟨σ.next,fun j => if j = id then some (.cells 0 es) else if j = id2 then σ.objs j else none⟩
def zj1 (sz n : Nat) : List (List PV) := List.replicate n (List.replicate sz .undef)
theorem zjd (hs : SR ρ F σ w) {id : Nat} {o : Obj} (h : σ.objs id = some o) : id < σ.next := by
 rcases Nat.lt_or_ge id σ.next with h1 | h1
 ·exact h1
 ·rw [hs.new id h1] at h; cases h
theorem z0x (hs : SR ρ F σ w) {id id2 : Nat} (hne : id ≠ id2) {r : Rec} (hr : ρ id = some r) {es tl : List (List PV)} (ho : σ.objs id = some (.cells 0 (es ++ tl))) {o2 : Obj} (ho2 : σ.objs id2 = some o2) (hp : ∀ e ∈ es,∀ x ∈ e,x.plain = true) {c : Nat} (hlc : es.length ≤ c)
  (hph : r.sh + c * r.sz ≤ r.phys) (hp2 : ∀ ro2 es2,o2 = .cells ro2 es2 → ∀ e ∈ es2,∀ x ∈ e,x.plain = true) : SR (ρ.put id { r with n := c }) F (zaj σ id id2 (es ++ zj1 r.sz (c - es.length))) w := by
 have hid := zjd hs ho
 have hid2 := zjd hs ho2
 have hρ2 : ∀ r2,(ρ.put id { r with n := c }) id2 = some r2 → ρ id2 = some r2 := fun r2 h => by rwa [jx _ (fun e => hne e.symm)] at h
 refine ⟨fun j r' o h1 h2 => ?_,fun j j' r1 r2 o1 o2' h1 h2 h3 h4 hjj => ?_,hs.old,fun j hj => ?_⟩
 ·unfold zaj at h2
  simp only at h2
  split at h2
  ·rename_i e
   subst e
   cases h2
   rw [qe] at h1
   cases h1
   obtain ⟨arr,ty,hb,hph',hn,hss,hf,hro,hz,hF,hc⟩ := (hs.obj j r _ hr ho).cells_inv
   refine .cells 0 _ arr ty hb hph' ?_ (fun e he => ?_) hph (Nat.zero_le _) hz hF fun i e he k x hx => ?_
   ·show _ = c
    rw [List.length_append,zj1,List.length_replicate]; omega
   ·rcases List.mem_append.1 he with he | he
    ·exact hss e (List.mem_append_left _ he)
    ·rw [List.eq_of_mem_replicate he,List.length_replicate]
   ·rcases Nat.lt_or_ge i es.length with hi | hi
    ·rw [List.getElem?_append_left hi] at he
     obtain ⟨v,q1,q2⟩ := hc i e (by rw [List.getElem?_append_left hi]; exact he) k x hx
     exact ⟨v,q1,q2.plain_any (hp e (List.mem_of_getElem? he) x (List.mem_of_getElem? hx))⟩
    ·rw [List.getElem?_append_right hi] at he
     have hin := (List.getElem?_eq_some_iff.1 he).1
     rw [zj1,List.length_replicate] at hin
     have he' : e = List.replicate r.sz .undef := List.eq_of_mem_replicate (List.mem_of_getElem? he)
     subst he'
     have hk := (List.getElem?_eq_some_iff.1 hx).1
     rw [List.length_replicate] at hk
     have hxu : x = .undef := List.eq_of_mem_replicate (List.mem_of_getElem? hx)
     subst hxu
     have := ui (show i < c by omega) hk
     have hlt : r.sh + i * r.sz + k < arr.size := by rw [hph']; show _ < r.phys; omega
     exact ⟨arr[r.sh + i * r.sz + k],Array.getElem?_eq_getElem hlt,.pure (.undef _)⟩
  ·rename_i hj
   split at h2
   ·rename_i e
    subst e
    have h1' := hρ2 _ h1
    rw [ho2] at h2
    cases h2
    have h5 := hs.obj j r' _ h1' ho2
    cases o2 with
    | cells ro2 es2 => exact h5.plain (hp2 ro2 es2 rfl)
    | map kvs => cases h5
   ·cases h2
 ·have key : ∀ r2,ρ id2 = some r2 → r.block ≠ r2.block := fun r2 h => hs.apart id id2 r r2 _ _ hr ho h ho2 hne
  have sel : ∀ {j : Nat} {o : Obj},(zaj σ id id2 (es ++ zj1 r.sz (c - es.length))).objs j = some o → j = id ∨ j = id2 := fun {j o} h => by
   unfold zaj at h
   simp only at h
   split at h
   ·rename_i e; exact .inl e
   ·split at h
    ·rename_i e; exact .inr e
    ·cases h
  rcases sel h2 with rfl | rfl <;> rcases sel h4 with e | e <;> subst e
  ·exact absurd rfl hjj
  ·rw [qe] at h1; cases h1; exact key _ (hρ2 _ h3)
  ·rw [qe] at h3; cases h3; exact fun e => key _ (hρ2 _ h1) e.symm
  ·exact absurd rfl hjj
 ·unfold zaj
  simp only
  have hj' : σ.next ≤ j := hj
  rw [if_neg (by omega),if_neg (by omega)]
theorem zqo (hs : SR ρ F σ w) {id id2 : Nat} (hne : id ≠ id2) {r : Rec} (hr : ρ id = some r) {es es' : List (List PV)} (ho : σ.objs id = some (.cells 0 es)) {ro2 : Nat} {es2 : List (List PV)} (ho2 : σ.objs id2 = some (.cells ro2 es2)) (hp2 : ∀ e ∈ es2,∀ x ∈ e,x.plain = true) {c : Nat}
  {σ2 : Store} (g : Go1 (ρ.put id { r with n := c }) F (zaj σ id id2 es') w ρ' F' σ2 w') (s : SR ρ' F' σ2 w') (hn : ρ σ.next = none) {k : Nat} {rk : Rec} (hk : ρ' k = some rk) {new rest : List (List PV)} (hko : σ2.objs k = some (.cells 0 (new ++ rest))) (hk2 : k ≠ id2) (h22 : σ2.objs id2 = some (.cells ro2 es2))
  (hpn : ∀ e ∈ new,∀ x ∈ e,x.plain = true) {v : Value} {cap : Option Nat} (hv : VR ρ' F' w' (.lsl k rk.sz 0 new.length cap) v) :
  ∃ ρ'',Go1 ρ F σ w ρ'' F' ((σ.kill id).push (.cells 0 new)) w' ∧ SR ρ'' F' ((σ.kill id).push (.cells 0 new)) w' ∧ VR ρ'' F' w' (.lsl σ.next rk.sz 0 new.length none) v := by
 have hid := zjd hs ho
 have hid2 := zjd hs ho2
 have lv1 : ∀ b,Lv (ρ.put id { r with n := c }) (zaj σ id id2 es') b → b = r.block ∨ ∃ r2,ρ id2 = some r2 ∧ b = r2.block := fun b ⟨j,rj,oj,h1,h2,h3⟩ => by
  unfold zaj at h2
  simp only at h2
  split at h2
  ·rename_i e; subst e; rw [qe] at h1; cases h1; exact .inl h3.symm
  ·rename_i hj
   split at h2
   ·rename_i e; subst e; rw [jx _ hj] at h1; exact .inr ⟨rj,h1,h3.symm⟩
   ·cases h2
 have lv2 : ∀ b,Lv (ρ.put id { r with n := c }) (zaj σ id id2 es') b → Lv ρ σ b := fun b h => by
  rcases lv1 b h with rfl | ⟨r2,h1,rfl⟩
  ·exact ⟨id,r,_,hr,ho,rfl⟩
  ·exact ⟨id2,r2,_,h1,ho2,rfl⟩
 have hkl : w.heap.size ≤ rk.block ∨ Lv (ρ.put id { r with n := c }) (zaj σ id id2 es') rk.block := g.live _ ⟨k,rk,_,hk,hko,rfl⟩
 have hr2 : ∀ r2,ρ id2 = some r2 → ρ' id2 = some r2 := fun r2 h => g.rec_ _ _ (by rw [jx _ (fun e => hne e.symm)]; exact h)
 have hnx : ∀ {j : Nat},j ≠ σ.next → ((σ.kill id).push (.cells 0 new)).objs j = if j = id then none else σ.objs j := fun {j} hj => by
  show (if j = σ.next then _ else if j = id then none else σ.objs j) = _
  rw [if_neg hj]
 have hnn : ((σ.kill id).push (.cells 0 new)).objs σ.next = some (.cells 0 new) := by
  show (if σ.next = σ.next then _ else _) = _
  rw [if_pos rfl]
 have apk : ∀ {j : Nat} {rj : Rec} {oj : Obj},j ≠ id → ρ j = some rj → σ.objs j = some oj → rk.block ≠ rj.block := fun {j rj oj} hj h1 h2 => by
  by_cases e : j = id2
  ·subst e
   exact fun e2 => s.apart k j rk rj _ _ hk hko (hr2 _ h1) h22 hk2 e2
  ·rcases hkl with h3 | h3
   ·have := zcj hs ⟨j,rj,oj,h1,h2,rfl⟩
    omega
   ·rcases lv1 _ h3 with h4 | ⟨r2,h4,h5⟩
    ·rw [h4]; exact hs.apart id j r rj _ _ hr ho h1 h2 (fun e => hj e.symm)
    ·rw [h5]; exact hs.apart id2 j r2 rj _ _ h4 ho2 h1 h2 (fun e' => e e'.symm)
 have g' : Go1 ρ F σ w (ρ.put σ.next { rk with n := new.length }) F' ((σ.kill id).push (.cells 0 new)) w' := {
  rec_ := fun j rj h => by
   rw [jx]
   ·exact h
   ·intro e; rw [e,hn] at h; cases h
  rng := fun j rj h h0 => by
   by_cases e : j = σ.next
   ·subst e; exact ⟨Nat.le_refl _,Nat.lt_succ_self _⟩
   ·rw [jx _ e,h0] at h; cases h
  nx := Nat.le_succ _
  fro := g.fro
  cell := g.cell
  size := g.size
  frame := fun b hb hl => g.frame b hb fun h => hl (lv2 b h)
  froN := fun b o h => by
   rcases g.froN b o h with h1 | h1 | h1
   ·exact .inl h1
   ·exact .inr (.inl h1)
   ·exact .inr (.inr (lv2 b h1))
  live := fun b ⟨j,rj,oj,h1,h2,h3⟩ => by
   by_cases e : j = σ.next
   ·subst e
    rw [qe] at h1
    cases h1
    subst h3
    rcases hkl with h4 | h4
    ·exact .inl h4
    ·exact .inr (lv2 _ h4)
   ·rw [jx _ e] at h1
    rw [hnx e] at h2
    split at h2
    ·cases h2
    ·exact .inr ⟨j,rj,oj,h1,h2,h3⟩
  os := g.os
  tape := g.tape
  out := g.out }
 refine ⟨ρ.put σ.next { rk with n := new.length },g',?_,?_⟩
 ·refine ⟨fun j rj oj h1 h2 => ?_,fun j j' r1 r2 o1 o2 h1 h2 h3 h4 hjj => ?_,s.old,fun j hj => ?_⟩
  ·by_cases e : j = σ.next
   ·subst e
    rw [qe] at h1
    cases h1
    rw [hnn] at h2
    cases h2
    exact (s.obj k rk _ hk hko).front hpn
   ·rw [jx _ e] at h1
    rw [hnx e] at h2
    split at h2
    ·cases h2
    ·rename_i hj
     by_cases e2 : j = id2
     ·subst e2
      rw [ho2] at h2
      cases h2
      exact (s.obj j rj _ (hr2 _ h1) h22).plain hp2
     ·have h5 := hs.obj j rj oj h1 h2
      have hb : w'.heap[rj.block]? = w.heap[rj.block]? := g.frame _ (zcj hs ⟨j,rj,oj,h1,h2,rfl⟩) fun h6 => by
       rcases lv1 _ h6 with h7 | ⟨r2,h7,h8⟩
       ·exact hs.apart id j r rj _ _ hr ho h1 h2 (fun e' => hj e'.symm) h7.symm
       ·exact hs.apart id2 j r2 rj _ _ h7 ho2 h1 h2 (fun e' => e2 e'.symm) h8.symm
      cases oj with
      | map kvs => cases h5
      | cells ro3 es3 =>
        obtain ⟨arr,ty,hb0,hph',hnn',hss,hf,hro,hz,hF,hc⟩ := h5.cells_inv
        refine .cells ro3 es3 arr ty (by rw [hb]; exact hb0) hph' hnn' hss hf hro hz (fun o ho' hF' => ?_) fun i e he j' x hx => ?_
        ·rcases g.froN _ _ hF' with h6 | h6 | h6
         ·exact hF o ho' h6
         ·have := zcj hs ⟨j,rj,_,h1,h2,rfl⟩; omega
         ·rcases lv1 _ h6 with h7 | ⟨r2,h7,h8⟩
          ·exact hs.apart id j r rj _ _ hr ho h1 h2 (fun e' => hj e'.symm) h7.symm
          ·exact hs.apart id2 j r2 rj _ _ h7 ho2 h1 h2 (fun e' => e2 e'.symm) h8.symm
        ·obtain ⟨v',q1,q2⟩ := hc i e he j' x hx
         exact ⟨v',q1,g'.vr q2⟩
  ·by_cases e : j = σ.next <;> by_cases e' : j' = σ.next
   ·exact absurd (e.trans e'.symm) hjj
   ·subst e
    rw [qe] at h1
    cases h1
    rw [jx _ e'] at h3
    rw [hnx e'] at h4
    split at h4
    ·cases h4
    ·rename_i hj
     exact apk hj h3 h4
   ·subst e'
    rw [qe] at h3
    cases h3
    rw [jx _ e] at h1
    rw [hnx e] at h2
    split at h2
    ·cases h2
    ·rename_i hj
     exact fun e9 => apk hj h1 h2 e9.symm
   ·rw [jx _ e] at h1
    rw [jx _ e'] at h3
    rw [hnx e] at h2
    rw [hnx e'] at h4
    split at h2
    ·cases h2
    ·split at h4
     ·cases h4
     ·exact hs.apart j j' r1 r2 o1 o2 h1 h2 h3 h4 hjj
  ·have hj' : σ.next + 1 ≤ j := hj
   rw [hnx (by omega)]
   split
   ·rfl
   ·exact hs.new j (by omega)
 ·obtain ⟨r',b,o,c',hr',hrs,rfl,hab,hlc,hkk,hkn,hph,hinn⟩ := hv.lsl_inv
  rw [hk] at hr'
  cases hr'
  exact .lsl σ.next 0 new.length none { rk with n := new.length } b o c' (qe _ _) hab hlc (fun k hk => by cases hk) (fun _ => by rw [Nat.zero_add]; exact hlc) hph (by rw [Nat.zero_add]; exact Nat.le_refl _)
end
end Go.Pvm
