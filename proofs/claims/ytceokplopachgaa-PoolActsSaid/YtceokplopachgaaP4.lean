import Derived.Test.YtceokplopachgaaP3
import Derived.ProofKit
import Derived.KernelRfl
import Derived.Laws.Strings
/- Part of the proof: the evaluator without a count: what some count of rounds yields. -/
set_option linter.unusedSimpArgs false
set_option linter.unusedVariables false
namespace Go.Pvm
def CLe (C C' : z7) : Prop := ∀ f a σ r,C f a σ = some r → C' f a σ = some r
def LLe (L L' : xg) : Prop := ∀ f c e σ r,L f c e σ = some r → L' f c e σ = some r
section
variable {cfg : Cfg} {C C' : z7} {L L' : xg} {f : FuncId}
theorem zoo (hC : CLe C C') {g : FuncId} {args : List PV} {σ : Store} {r : PV × Store} (h : qq cfg C g args σ = some r) : qq cfg C' g args σ = some r := by
 unfold qq at h ⊢
 split
 ·rename_i hm; rw [hm] at h; exact hC _ _ _ _ h
 ·rename_i hm
  rw [hm] at h
  simp only [haa] at h
  obtain ⟨⟨v,τ⟩,h1,h2⟩ := h
  simp only [hC _ _ _ _ h1,Option.bind_some]
  exact h2
 ·rename_i hm
  rw [hm] at h
  simp only [haa] at h
  obtain ⟨⟨v,τ⟩,h1,h2⟩ := h
  simp only [hC _ _ _ _ h1,Option.bind_some]
  exact h2
 ·rename_i hm
  rw [hm] at h
  simp only [haa] at h
  obtain ⟨⟨v,τ⟩,h1,h2⟩ := h
  simp only [hC _ _ _ _ h1,Option.bind_some]
  exact h2
theorem zfd (hC : CLe C C') {env : List PV} {σ : Store} {o : Oper} {r : PV × Store} (h : yc cfg C env σ o = some r) : yc cfg C' env σ o = some r := by
 obtain ⟨dst,op,type,pos,after,guard⟩ := o
 cases op
 case call c =>
  obtain ⟨callee,args,ts⟩ := c
  cases callee
  case builtin b => exact h
  case value x =>
   have h' : (match opd env x with | .func g cs => zi cfg C g (args.toList.map (opd env) ++ cs) σ | _ => none) = some r := h
   show (match opd env x with | .func g cs => zi cfg C' g (args.toList.map (opd env) ++ cs) σ | _ => none) = some r
   generalize opd env x = z at h' ⊢
   cases z <;> simp only at h' ⊢ <;> first | (cases h'; done) | skip
   unfold zi at h' ⊢
   split at h'
   ·rename_i he
    rw [if_pos he]
    exact zoo hC h'
   ·rename_i he
    rw [if_neg he]
    exact h'
  case invoke x m => exact h
 case makeFunc fn fs cs => cases fn <;> exact h
 all_goals exact h
theorem kw (hC : CLe C C') {all : List Oper} : ∀ (l : List Oper) (env : List PV) (σ : Store) (r : List PV × Store),y4 cfg C all l env σ = some r → y4 cfg C' all l env σ = some r
 | [],env,σ,r,h => h
 | o :: l,env,σ,r,h => by
   simp only [y4,haa] at h ⊢
   obtain ⟨b,hb,h⟩ := h
   refine ⟨b,hb,?_⟩
   split at h
   ·rename_i hbt
    rw [if_pos hbt]
    rw [haa] at h ⊢
    obtain ⟨x,h1,h2⟩ := h
    exact ⟨x,by rw [zea (j7 h1).1]; exact zfd hC (j7 h1).2,kw hC l _ _ _ h2⟩
   ·rename_i hbt
    rw [if_neg hbt]
    exact kw hC l _ _ _ h
theorem xn (hC : CLe C C') (hL : LLe L L') : ∀ (c : Code) (env : List PV) (σ : Store) (r : Ex × List PV × Store),zg cfg C L f c env σ = some r → zg cfg C' L' f c env σ = some r
 | .skip,_,_,_,h | .label _,_,_,_,h | .exit _,_,_,_,h | .ret,_,_,_,h => h
 | .region _ ops draw,env,σ,r,h => by
   simp only [zg,haa,hac] at h ⊢
   obtain ⟨p,h0,x,h1,h2⟩ := h
   refine ⟨p,h0,x,?_,h2⟩
   unfold kf at h1 ⊢
   split at h1
   ·rename_i hd
    rw [if_pos hd]
    split at h1
    ·rename_i hk
     rw [if_pos hk]
     exact kw hC _ _ _ _ h1
    ·cases h1
   ·rename_i hd
    rw [if_neg hd]
    exact kw hC _ _ _ _ h1
 | .seq a b,env,σ,r,h => by
   simp only [zg,haa] at h ⊢
   obtain ⟨⟨y,e,s⟩,h1,h2⟩ := h
   refine ⟨(y,e,s),xn hC hL a _ _ _ h1,?_⟩
   cases y with
   | normal => exact xn hC hL b _ _ _ h2
   | exit i => exact h2
   | ret => exact h2
 | .cond c a b,env,σ,r,h => by
   simp only [zg] at h ⊢
   generalize opd env c = z at h ⊢
   cases z <;> simp only at h ⊢ <;> first | (cases h; done) | skip
   rename_i t
   cases t
   ·exact xn hC hL b _ _ _ h
   ·exact xn hC hL a _ _ _ h
 | .block id c,env,σ,r,h => by
   simp only [zg,hac] at h ⊢
   obtain ⟨x,h1,h2⟩ := h
   exact ⟨x,xn hC hL c _ _ _ h1,h2⟩
 | .loop c,env,σ,r,h => by
   simp only [zg,hac] at h ⊢
   obtain ⟨x,h1,h2⟩ := h
   exact ⟨x,hL _ _ _ _ _ h1,h2⟩
 | .rangeFunc ..,_,_,_,h | .scope _,_,_,_,h | .goto _,_,_,_,h | .refuse _,_,_,_,h => by simp only [zg] at h; cases h
theorem znd (hC : CLe C C') (hL : LLe L L') : CLe (uu cfg C L) (uu cfg C' L') := by
 intro g a σ r h
 unfold uu at h ⊢
 split
 ·rename_i g' hg; rw [hg] at h; exact h
 ·rename_i hg
  rw [hg] at h
  simp only at h
  split
  ·rename_i fn hf
   rw [hf] at h
   simp only at h
   split
   ·rename_i c hc
    rw [hc] at h
    simp only [haa] at h ⊢
    obtain ⟨x,h1,h2⟩ := h
    exact ⟨x,xn hC hL _ _ _ _ h1,h2⟩
   ·rename_i hc; rw [hc] at h; cases h
  ·rename_i hf; rw [hf] at h; cases h
theorem zna (hC : CLe C C') (hL : LLe L L') : LLe (ue cfg C L) (ue cfg C' L') := by
 intro g c e σ r h
 unfold ue at h ⊢
 simp only [haa] at h ⊢
 obtain ⟨⟨y,e',s⟩,h1,h2⟩ := h
 refine ⟨(y,e',s),xn hC hL _ _ _ _ h1,?_⟩
 cases y with
 | normal => exact hL _ _ _ _ _ h2
 | exit i => exact h2
 | ret => exact h2
theorem zmx (cfg : Cfg) : ∀ n,CLe (vx cfg n) (vx cfg (n + 1)) ∧ LLe (loopN cfg n) (loopN cfg (n + 1))
 | 0 => ⟨fun _ _ _ _ h => by (cases h),fun _ _ _ _ _ h => by (cases h)⟩
 | n + 1 => let ⟨h1,h2⟩ := zmx cfg n; ⟨znd h1 h2,zna h1 h2⟩
theorem qi (cfg : Cfg) {m : Nat} : ∀ n,m ≤ n → CLe (vx cfg m) (vx cfg n) ∧ LLe (loopN cfg m) (loopN cfg n)
 | 0,h => by have : m = 0 := by omega
             subst this; exact ⟨fun _ _ _ _ h => h,fun _ _ _ _ _ h => h⟩
 | n + 1,h => by
   rcases Nat.eq_or_lt_of_le h with h1 | h1
   ·subst h1; exact ⟨fun _ _ _ _ h => h,fun _ _ _ _ _ h => h⟩
   ·obtain ⟨h2,h3⟩ := qi cfg (m := m) n (by omega)
    obtain ⟨h4,h5⟩ := zmx cfg n
    exact ⟨fun _ _ _ _ h => h4 _ _ _ _ (h2 _ _ _ _ h),fun _ _ _ _ _ h => h5 _ _ _ _ _ (h3 _ _ _ _ _ h)⟩
open Classical in
noncomputable def ze (cfg : Cfg) : z7 := fun f a σ => if h : ∃ n r,vx cfg n f a σ = some r then vx cfg (Classical.choose h) f a σ else none
open Classical in
noncomputable def y2 (cfg : Cfg) : xg := fun f c e σ => if h : ∃ n r,loopN cfg n f c e σ = some r then loopN cfg (Classical.choose h) f c e σ else none
theorem callω_iff {g : FuncId} {a : List PV} {σ : Store} {r : PV × Store} : ze cfg g a σ = some r ↔ ∃ n,vx cfg n g a σ = some r := by
 unfold ze
 constructor
 ·intro h
  split at h
  ·exact ⟨_,h⟩
  ·cases h
 ·intro ⟨n,h⟩
  have hex : ∃ n r,vx cfg n g a σ = some r := ⟨n,r,h⟩
  rw [dif_pos hex]
  obtain ⟨r',h'⟩ := Classical.choose_spec hex
  rw [h']
  have h1 := (qi cfg (max n (Classical.choose hex)) (Nat.le_max_left _ _)).1 _ _ _ _ h
  have h2 := (qi cfg (max n (Classical.choose hex)) (Nat.le_max_right _ _)).1 _ _ _ _ h'
  rw [h1] at h2
  exact h2.symm
theorem loopω_iff {g : FuncId} {c : Code} {e : List PV} {σ : Store} {r : Ex × List PV × Store} : y2 cfg g c e σ = some r ↔ ∃ n,loopN cfg n g c e σ = some r := by
 unfold y2
 constructor
 ·intro h
  split at h
  ·exact ⟨_,h⟩
  ·cases h
 ·intro ⟨n,h⟩
  have hex : ∃ n r,loopN cfg n g c e σ = some r := ⟨n,r,h⟩
  rw [dif_pos hex]
  obtain ⟨r',h'⟩ := Classical.choose_spec hex
  rw [h']
  have h1 := (qi cfg (max n (Classical.choose hex)) (Nat.le_max_left _ _)).2 _ _ _ _ _ h
  have h2 := (qi cfg (max n (Classical.choose hex)) (Nat.le_max_right _ _)).2 _ _ _ _ _ h'
  rw [h1] at h2
  exact h2.symm
theorem zsg (hT : zib cfg) (hm : cfg.P.follows .mixedOrders = true) : AllOk cfg.P (ze cfg) (y2 cfg) where
 ok _ _ _ _ _ h := let ⟨n,h⟩ := callω_iff.1 h; (zdr hT hm n).ok _ _ _ _ _ h
 next _ _ _ _ _ h := let ⟨n,h⟩ := callω_iff.1 h; (zdr hT hm n).next _ _ _ _ _ h
 clean _ _ _ _ _ h := let ⟨n,h⟩ := callω_iff.1 h; (zdr hT hm n).clean _ _ _ _ _ h
 lok _ _ _ _ _ _ _ h := let ⟨n,h⟩ := loopω_iff.1 h; (zdr hT hm n).lok _ _ _ _ _ _ _ h
 lnext _ _ _ _ _ _ _ h := let ⟨n,h⟩ := loopω_iff.1 h; (zdr hT hm n).lnext _ _ _ _ _ _ _ h
 lclean _ _ _ _ _ _ _ h := let ⟨n,h⟩ := loopω_iff.1 h; (zdr hT hm n).lclean _ _ _ _ _ _ _ h
 llen _ _ _ _ _ _ _ h := let ⟨n,h⟩ := loopω_iff.1 h; (zdr hT hm n).llen _ _ _ _ _ _ _ h
theorem zk4 {c2 : Cfg} (hc : ∀ g args σ r,qq c2 (ze cfg) g args σ = some r → ∃ n,qq c2 (vx cfg n) g args σ = some r) {env : List PV} {σ : Store} {o : Oper} {r : PV × Store} (h : yc c2 (ze cfg) env σ o = some r) : ∃ n,yc c2 (vx cfg n) env σ o = some r := by
 obtain ⟨dst,op,type,pos,after,guard⟩ := o
 cases op
 case call c =>
  obtain ⟨callee,args,ts⟩ := c
  cases callee
  case builtin b => exact ⟨0,h⟩
  case value x =>
   have h' : (match opd env x with | .func g cs => zi c2 (ze cfg) g (args.toList.map (opd env) ++ cs) σ | _ => none) = some r := h
   show ∃ n,(match opd env x with | .func g cs => zi c2 (vx cfg n) g (args.toList.map (opd env) ++ cs) σ | _ => none) = some r
   generalize opd env x = z at h' ⊢
   cases z <;> simp only at h' ⊢ <;> first | (cases h'; done) | skip
   unfold zi at h' ⊢
   split at h'
   ·rename_i he
    simp only [if_pos he]
    exact hc _ _ _ _ h'
   ·rename_i he
    simp only [if_neg he]
    exact ⟨0,h'⟩
  case invoke x m => exact ⟨0,h⟩
 case makeFunc fn fs cs => cases fn <;> exact ⟨0,h⟩
 all_goals exact ⟨0,h⟩
theorem we {c2 : Cfg} (hc : ∀ g args σ r,qq c2 (ze cfg) g args σ = some r → ∃ n,qq c2 (vx cfg n) g args σ = some r) {all : List Oper} : ∀ (l : List Oper) (env : List PV) (σ : Store) (r : List PV × Store),y4 c2 (ze cfg) all l env σ = some r → ∃ n,y4 c2 (vx cfg n) all l env σ = some r
 | [],env,σ,r,h => ⟨0,h⟩
 | o :: l,env,σ,r,h => by
   simp only [y4,haa] at h ⊢
   obtain ⟨b,hb,h⟩ := h
   split at h
   ·rename_i hbt
    rw [haa] at h
    obtain ⟨x,h1,h2⟩ := h
    have hgd := (j7 h1).1
    obtain ⟨n,h1⟩ := zk4 hc (j7 h1).2
    obtain ⟨m,h2⟩ := we hc l _ _ _ h2
    refine ⟨max n m,b,hb,?_⟩
    rw [if_pos hbt,haa]
    exact ⟨x,by rw [zea hgd]; exact zfd (qi cfg _ (Nat.le_max_left _ _)).1 h1,kw (qi cfg _ (Nat.le_max_right _ _)).1 _ _ _ _ h2⟩
   ·rename_i hbt
    obtain ⟨n,h⟩ := we hc l _ _ _ h
    exact ⟨n,b,hb,by rw [if_neg hbt]; exact h⟩
theorem zfg {c2 : Cfg} {g : FuncId} {args : List PV} {σ : Store} {r : PV × Store} (h : qq c2 (ze cfg) g args σ = some r) : ∃ n,qq c2 (vx cfg n) g args σ = some r := by
 unfold qq at h ⊢
 split at h
 ·exact callω_iff.1 h
 ·simp only [haa] at h
  obtain ⟨⟨v,τ⟩,h1,h2⟩ := h
  obtain ⟨n,h1⟩ := callω_iff.1 h1
  exact ⟨n,by simp only [h1,Option.bind_some]; exact h2⟩
 ·simp only [haa] at h
  obtain ⟨⟨v,τ⟩,h1,h2⟩ := h
  obtain ⟨n,h1⟩ := callω_iff.1 h1
  exact ⟨n,by simp only [h1,Option.bind_some]; exact h2⟩
 ·simp only [haa] at h
  obtain ⟨⟨v,τ⟩,h1,h2⟩ := h
  obtain ⟨n,h1⟩ := callω_iff.1 h1
  exact ⟨n,by simp only [h1,Option.bind_some]; exact h2⟩
theorem jn : ∀ (c : Code) (env : List PV) (σ : Store) (r : Ex × List PV × Store),zg cfg (ze cfg) (y2 cfg) f c env σ = some r → ∃ n,zg cfg (vx cfg n) (loopN cfg n) f c env σ = some r
 | .skip,_,_,_,h | .label _,_,_,_,h | .exit _,_,_,_,h | .ret,_,_,_,h => ⟨0,h⟩
 | .region id ops draw,env,σ,r,h => by
   simp only [zg,haa,hac] at h ⊢
   obtain ⟨p,h0,x,h1,h2⟩ := h
   have : ∃ n,kf (cfg.at_ f) (vx cfg n) p.1 (zbe cfg f id ops.toList) (cfg.flo f id) ops.toList draw p.2.1 p.2.2 = some x := by
    unfold kf at h1 ⊢
    split at h1
    ·rename_i hd
     simp only [if_pos hd]
     split at h1
     ·rename_i hk
      simp only [if_pos hk]
      exact we (fun g args σ r h => zfg h) _ _ _ _ h1
     ·cases h1
    ·rename_i hd
     simp only [if_neg hd]
     exact we (fun g args σ r h => zfg h) _ _ _ _ h1
   obtain ⟨n,hn⟩ := this
   exact ⟨n,p,h0,x,hn,h2⟩
 | .seq a b,env,σ,r,h => by
   simp only [zg,haa] at h ⊢
   obtain ⟨⟨y,e,s⟩,h1,h2⟩ := h
   obtain ⟨n,h1⟩ := jn a _ _ _ h1
   cases y with
   | normal =>
     obtain ⟨m,h2⟩ := jn b _ _ _ h2
     obtain ⟨p1,p2⟩ := qi cfg _ (Nat.le_max_left n m)
     obtain ⟨q1,q2⟩ := qi cfg _ (Nat.le_max_right n m)
     exact ⟨max n m,_,xn p1 p2 a _ _ _ h1,xn q1 q2 b _ _ _ h2⟩
   | exit i => exact ⟨n,_,h1,h2⟩
   | ret => exact ⟨n,_,h1,h2⟩
 | .cond c a b,env,σ,r,h => by
   simp only [zg] at h ⊢
   generalize opd env c = z at h ⊢
   cases z <;> simp only at h ⊢ <;> first | (cases h; done) | skip
   rename_i t
   cases t
   ·exact jn b _ _ _ h
   ·exact jn a _ _ _ h
 | .block id c,env,σ,r,h => by
   simp only [zg,hac] at h ⊢
   obtain ⟨x,h1,h2⟩ := h
   obtain ⟨n,h1⟩ := jn c _ _ _ h1
   exact ⟨n,x,h1,h2⟩
 | .loop c,env,σ,r,h => by
   simp only [zg,hac] at h ⊢
   obtain ⟨x,h1,h2⟩ := h
   obtain ⟨n,h1⟩ := loopω_iff.1 h1
   exact ⟨n,x,h1,h2⟩
 | .rangeFunc ..,_,_,_,h | .scope _,_,_,_,h | .goto _,_,_,_,h | .refuse _,_,_,_,h => by simp only [zg] at h; cases h
theorem zmw {g : FuncId} (hg : cfg.told g = none) {a : List PV} {σ : Store} {r : PV × Store} (h : uu cfg (ze cfg) (y2 cfg) g a σ = some r) : ze cfg g a σ = some r := by
 unfold uu at h
 rw [hg] at h
 simp only at h
 split at h
 ·rename_i fn hf
  split at h
  ·rename_i c hc
   simp only [haa] at h
   obtain ⟨x,h1,h2⟩ := h
   obtain ⟨n,h1⟩ := jn _ _ _ _ h1
   refine callω_iff.2 ⟨n + 1,?_⟩
   show uu cfg (vx cfg n) (loopN cfg n) g a σ = some r
   unfold uu
   rw [hg]
   simp only [hf,hc,h1,Option.bind_some]
   exact h2
  ·cases h
 ·cases h
theorem zda {g : FuncId} {u : List PV → Store → Option (PV × Store)} (hg : cfg.told g = some u) (a : List PV) (σ : Store) : ze cfg g a σ = u a σ := by
 have h1 : ∀ n,vx cfg (n + 1) g a σ = u a σ := fun n => by
  show uu cfg (vx cfg n) (loopN cfg n) g a σ = _
  unfold uu
  rw [hg]
 cases hq : u a σ with
 | some r => exact callω_iff.2 ⟨1,(h1 0).trans hq⟩
 | none =>
   cases hc : ze cfg g a σ with
   | none => rfl
   | some r =>
     obtain ⟨n,hn⟩ := callω_iff.1 hc
     cases n with
     | zero => cases hn
     | succ n => rw [h1 n,hq] at hn; cases hn
theorem zhh {c : Code} {E0 : List PV} {σ : Store} {r : Ex × List PV × Store} (h : ue cfg (ze cfg) (y2 cfg) f c E0 σ = some r) : y2 cfg f c E0 σ = some r := by
 unfold ue at h
 simp only [haa] at h
 obtain ⟨⟨y,e',s⟩,h1,h2⟩ := h
 obtain ⟨n,h1⟩ := jn _ _ _ _ h1
 have done : ∀ m,n ≤ m → ((some (y,e',s)).bind fun (x : Ex × List PV × Store) => match x with | (x,e,s') => (match x with | .normal => loopN cfg m f c (ux cfg f c (List.length E0) e) s' | x => some (x,zhc cfg f c x (List.length E0) e,s'))) = some r → y2 cfg f c E0 σ = some r := fun m hm h2 => by
  refine loopω_iff.2 ⟨m + 1,?_⟩
  show ue cfg (vx cfg m) (loopN cfg m) f c E0 σ = some r
  unfold ue
  rw [xn (qi cfg m hm).1 (qi cfg m hm).2 _ _ _ _ h1]
  exact h2
 cases y with
 | normal =>
   obtain ⟨m,h2⟩ := loopω_iff.1 h2
   exact done (max n m) (Nat.le_max_left _ _) ((qi cfg _ (Nat.le_max_right n m)).2 _ _ _ _ _ h2)
 | exit i => exact done n (hah _) h2
 | ret => exact done n (hah _) h2
end
end Go.Pvm
namespace Go.Pvm
universe u
section
variable {β : Type}
def asInt (κ : IntKind) (v : PV) (k : Int → Option β) : Option β :=
 match v with
 | .int κ' n => if κ' = κ then k n else none
 | _ => none
def asBool (v : PV) (k : Bool → Option β) : Option β :=
 match v with
 | .bool b => k b
 | _ => none
def ua (v : PV) (k : ByteArray → Option β) : Option β :=
 match v with
 | .str s => k s
 | _ => none
def asK (d : Option TypeDesc) (v : PV) (k : PV → Option β) : Option β :=
 match d with
 | some (.int κ) => asInt κ v fun n => k (.int κ n)
 | some .bool => asBool v fun b => k (.bool b)
 | some .string => ua v fun s => k (.str s)
 | _ => k v
theorem xv {d : Option TypeDesc} {v : PV} {k : PV → Option β} {r : β} (h : asK d v k = some r) : k v = some r := by
 unfold asK at h
 split at h
 ·unfold asInt at h
  split at h
  ·split at h
   ·rename_i e; subst e; exact h
   ·cases h
  ·cases h
 ·unfold asBool at h
  split at h
  ·exact h
  ·cases h
 ·unfold ua at h
  split at h
  ·exact h
  ·cases h
 ·exact h
def zgf (x : Ex) (e : Nat → Option β) (r : Option β) : Option β :=
 match x with
 | .normal => none
 | .exit i => e i
 | .ret => r
def zc2 : PV → Option PV
 | .ref a b c => some (.ref a b c)
 | .pref cs => some (.pref cs)
 | .func f cs => some (.func f cs)
 | _ => none
def ka (x : PV) (i : Nat) : Option PV :=
 match x with
 | .tuple vs => vs[i]?
 | _ => none
def fnv : PV → Option (FuncId × List PV)
 | .func g cs => some (g,cs)
 | _ => none
def opK (cfg : Cfg) (C : z7) (env : List PV) (σ : Store) (o : Oper) (k : PV → Store → Option β) : Option β :=
 let P := cfg.P
 match o.op with
 | .move x | .assign x => k (opd env x) σ
 | .pick c a b => match opd env c with
   | .bool t => if t = true then k (opd env a) σ else k (opd env b) σ
   | _ => none
 | .alloc el => (jc P el).bind fun z => if z.known = true ∧ z.cells.length ≠ 0 then k (.ref σ.next 0 0) (σ.push (.cells 0 [z.cells])) else none
 | .box _ x => if (opd env x).known = true ∧ (opd env x).cells.length ≠ 0 then k (.ref σ.next 0 0) (σ.push (.cells 0 [(opd env x).cells])) else none
 | .build t ps => (jz P t (ps.toList.map fun (i,x) => (i,opd env x))).bind fun v => k v σ
 | .buildSlice t n ps => (xt P σ t n (ps.toList.map fun (i,x) => (i,opd env x))).bind fun r => k r.1 r.2
 | .load t a => if zjo cfg a = true then (zbb P t (opd env a)).bind fun v => asK (P.underlying t) v fun v => k v σ else (zd P σ t (opd env a)).bind fun v => asK (P.underlying t) v fun v => k v σ
 | .store t a x => (zu P σ t (opd env a) (opd env x)).bind fun s => k (.tuple []) s
 | .nilCheck x => (zc2 (opd env x)).bind fun v => k v σ
 | .binOp op t x y _ => (j9 P op t (opd env x) (opd env y)).bind fun v => asK (P.underlying o.type) v fun v => k v σ
 | .unOp op _ x => (unv op (opd env x)).bind fun v => asK (P.underlying o.type) v fun v => k v σ
 | .convert s d x => (ul P σ s d (opd env x)).bind fun v => asK (P.underlying d) v fun v => k v σ
 | .makeFunc (.func f) fs cs => if fs.size = 0 then k (.func f (cs.toList.map (opd env))) σ else none
 | .makeSlice t l c => (qw P σ t (opd env l) (opd env c)).bind fun r => k r.1 r.2
 | .slice t x lo hi mx => (zai P t (opd env x) (lo.map (opd env)) (hi.map (opd env)) (mx.map (opd env))).bind fun v => asK (P.underlying o.type) v fun v => k v σ
 | .fieldAddr s x f => (zj P s (opd env x) f).bind fun v => k v σ
 | .field s x f => (zdm P s (opd env x) f).bind fun v => asK (P.underlying o.type) v fun v => k v σ
 | .indexAddr t x i => (zh P t (opd env x) (opd env i)).bind fun v => k v σ
 | .index t x i => (zck P t (opd env x) (opd env i)).bind fun v => asK (P.underlying o.type) v fun v => k v σ
 | .extract x i => (ka (opd env x) i).bind fun v => asK (P.underlying o.type) v fun v => k v σ
 | .makeMap t h => (qg P σ t (h.map (opd env))).bind fun r => k r.1 r.2
 | .lookup t x i ok => (js P σ t (opd env x) (opd env i) ok).bind fun v => asK (P.underlying o.type) v fun v => k v σ
 | .mapUpdate t x i y => (kz P σ t (opd env x) (opd env i) (opd env y)).bind fun s => k (.tuple []) s
 | .call c => match c.callee with
   | .builtin b => if va P b c.argTypes.toList = true then (match c.args.toList with | [x] => (zew σ (opd env x)).bind fun v => asK (P.underlying o.type) v fun v => k v σ | _ => none)
     else if zh4 b = true then (jd P b c.argTypes.toList (c.args.toList.map (opd env))).bind fun v => asK (P.underlying o.type) v fun v => k v σ
     else (y7 P σ b c.argTypes.toList (c.args.toList.map (opd env))).bind fun r => asK (P.underlying o.type) r.1 fun v => k v r.2
   | .value f => (fnv (opd env f)).bind fun q => (zi cfg C q.1 (c.args.toList.map (opd env) ++ q.2) σ).bind fun r => asK (P.underlying o.type) r.1 fun v => k v r.2
   | _ => none
 | _ => none
theorem zus {cfg : Cfg} {C : z7} {env : List PV} {σ : Store} {o : Oper} {k : PV → Store → Option β} {r : β} (h : opK cfg C env σ o k = some r) :
  ∃ v τ,yc cfg C env σ o = some (v,τ) ∧ k v τ = some r := by
 obtain ⟨dst,op,type,pos,after,guard⟩ := o
 unfold opK at h
 unfold yc
 cases op <;> simp only at h ⊢
 case move x => exact ⟨_,_,rfl,h⟩
 case assign x => exact ⟨_,_,rfl,h⟩
 case pick c x y =>
  generalize opd env c = z at h ⊢
  cases z <;> simp only at h ⊢ <;> first | (cases h; done) | skip
  split at h
  ·rename_i ht; exact ⟨_,_,by rw [if_pos ht],h⟩
  ·rename_i ht; exact ⟨_,_,by rw [if_neg ht],h⟩
 case alloc el =>
  simp only [haa] at h
  obtain ⟨z,h1,h2⟩ := h
  split at h2
  ·rename_i hk; exact ⟨_,_,by rw [h1]; simp only [Option.bind_some]; rw [if_pos hk],h2⟩
  ·cases h2
 case box el x =>
  split at h
  ·rename_i hk; exact ⟨_,_,by rw [if_pos hk],h⟩
  ·cases h
 case build t ps =>
  simp only [haa] at h
  obtain ⟨z,h1,h2⟩ := h
  exact ⟨_,_,by rw [h1]; rfl,h2⟩
 case buildSlice t n ps =>
  simp only [haa] at h
  obtain ⟨z,h1,h2⟩ := h
  exact ⟨_,_,h1,h2⟩
 case load t a =>
  split at h
  ·rename_i hc
   rw [if_pos hc]
   simp only [haa] at h
   obtain ⟨z,h1,h2⟩ := h
   exact ⟨_,_,by rw [h1]; rfl,xv h2⟩
  ·rename_i hc
   rw [if_neg hc]
   simp only [haa] at h
   obtain ⟨z,h1,h2⟩ := h
   exact ⟨_,_,by rw [h1]; rfl,xv h2⟩
 case store t a x =>
  simp only [haa] at h
  obtain ⟨z,h1,h2⟩ := h
  exact ⟨_,_,by rw [h1]; rfl,h2⟩
 case nilCheck x =>
  simp only [haa] at h
  obtain ⟨v,h1,h2⟩ := h
  generalize opd env x = z at h1 ⊢
  cases z <;> simp only [zc2] at h1 ⊢ <;> first | (cases h1; done) | (cases h1; exact ⟨_,_,rfl,h2⟩)
 case binOp op t x y ty =>
  simp only [haa] at h
  obtain ⟨z,h1,h2⟩ := h
  exact ⟨_,_,by rw [h1]; rfl,xv h2⟩
 case unOp op t x =>
  simp only [haa] at h
  obtain ⟨z,h1,h2⟩ := h
  exact ⟨_,_,by rw [h1]; rfl,xv h2⟩
 case convert s d x =>
  simp only [haa] at h
  obtain ⟨z,h1,h2⟩ := h
  exact ⟨_,_,by rw [h1]; rfl,xv h2⟩
 case makeFunc fn fs cs =>
  cases fn <;> simp only at h ⊢
  case func f =>
   split at h
   ·rename_i hk; exact ⟨_,_,by rw [if_pos hk],h⟩
   ·cases h
  all_goals cases h
 case makeSlice t l c =>
  simp only [haa] at h
  obtain ⟨z,h1,h2⟩ := h
  exact ⟨_,_,h1,h2⟩
 case slice t x lo hi mx =>
  simp only [haa] at h
  obtain ⟨z,h1,h2⟩ := h
  exact ⟨_,_,by rw [h1]; rfl,xv h2⟩
 case fieldAddr s x f =>
  simp only [haa] at h
  obtain ⟨z,h1,h2⟩ := h
  exact ⟨_,_,by rw [h1]; rfl,h2⟩
 case field s x f =>
  simp only [haa] at h
  obtain ⟨z,h1,h2⟩ := h
  exact ⟨_,_,by rw [h1]; rfl,xv h2⟩
 case indexAddr t x i =>
  simp only [haa] at h
  obtain ⟨z,h1,h2⟩ := h
  exact ⟨_,_,by rw [h1]; rfl,h2⟩
 case index t x i =>
  simp only [haa] at h
  obtain ⟨z,h1,h2⟩ := h
  exact ⟨_,_,by rw [h1]; rfl,xv h2⟩
 case extract x i =>
  simp only [haa] at h
  obtain ⟨v,h1,h2⟩ := h
  generalize opd env x = z at h1 ⊢
  cases z <;> simp only [ka] at h1 ⊢ <;> first | (cases h1; done) | skip
  exact ⟨_,_,by rw [h1]; rfl,xv h2⟩
 case makeMap t hnt =>
  simp only [haa] at h
  obtain ⟨z,h1,h2⟩ := h
  exact ⟨_,_,h1,h2⟩
 case lookup t x i ok =>
  simp only [haa] at h
  obtain ⟨z,h1,h2⟩ := h
  exact ⟨_,_,by rw [h1]; rfl,xv h2⟩
 case mapUpdate t x i y =>
  simp only [haa] at h
  obtain ⟨z,h1,h2⟩ := h
  exact ⟨_,_,by rw [h1]; rfl,h2⟩
 case call c =>
  obtain ⟨callee,args,ts⟩ := c
  cases callee <;> simp only at h ⊢
  case builtin b =>
   split at h
   ·rename_i hml
    rw [if_pos hml]
    split at h
    ·rename_i hx
     simp only [haa] at h
     obtain ⟨v,h1,h2⟩ := h
     exact ⟨_,_,by rw [hx]; simp only; rw [h1]; rfl,xv h2⟩
    ·cases h
   rename_i hml
   rw [if_neg hml]
   unfold jo
   split at h
   ·rename_i hb
    rw [if_pos hb]
    simp only [haa] at h
    obtain ⟨v,h1,h2⟩ := h
    exact ⟨_,_,by rw [h1]; rfl,xv h2⟩
   ·rename_i hb
    rw [if_neg hb]
    simp only [haa] at h
    obtain ⟨⟨v,τ⟩,h1,h2⟩ := h
    exact ⟨_,_,h1,xv h2⟩
  case value x =>
   simp only [haa] at h
   obtain ⟨⟨g,cs⟩,h0,h⟩ := h
   obtain ⟨⟨v,τ⟩,h1,h2⟩ := h
   generalize opd env x = z at h0 ⊢
   cases z <;> simp only [fnv] at h0 ⊢ <;> first | (cases h0; done) | skip
   cases h0
   unfold zi at h1
   exact ⟨_,_,h1,xv h2⟩
  case invoke x m => cases h
 all_goals cases h
def zph : List PV → Nat → PV → (List PV → Option β) → Option β
 | [],_,_,k => k []
 | _ :: r,0,v,k => k (v :: r)
 | x :: r,n + 1,v,k => zph r n v fun r' => k (x :: r')
theorem vj : ∀ (env : List PV) (d : Nat) (v : PV) (k : List PV → Option β),zph env d v k = k (env.set d v)
 | [],_,_,_ => rfl
 | _ :: _,0,_,_ => rfl
 | x :: r,n + 1,v,k => by simp only [zph,vj r n v,List.set_cons_succ]
def zde (env : List PV) (d : Option Nat) (v : PV) (k : List PV → Option β) : Option β :=
 match d with
 | some t => zph env t v k
 | none => k env
theorem ky (env : List PV) (d : Option Nat) (v : PV) (k : List PV → Option β) : zde env d v k = k (zfu env d v) := by
 cases d with
 | none => rfl
 | some t => exact vj _ _ _ _
def opG (cfg : Cfg) (C : z7) (env : List PV) (σ : Store) (o : Oper) (k : PV → Store → Option β) : Option β := if zaf cfg env o = true then opK cfg C env σ o k else none
def zov (cfg : Cfg) (C : z7) (all : List Oper) : List Oper → List PV → Store → (List PV → Store → Option β) → Option β
 | [],env,σ,k => k env σ
 | o :: rest,env,σ,k => match o.guard with
   | none => opG cfg C env σ o fun v τ => zde env o.dst v fun e => zov cfg C all rest e τ k
   | some (g,w) => match (all[g]?).bind (·.dst) with
     | none => none
     | some d => match env.getD d .undef with
       | .bool b => if b = true
         then zph env d (.bool true) fun env => (if w = true then opG cfg C env σ o fun v τ => zde env o.dst v fun e => zov cfg C all rest e τ k
          else zde env o.dst (.tuple []) fun e => zov cfg C all rest e σ k)
         else zph env d (.bool false) fun env => (if w = false then opG cfg C env σ o fun v τ => zde env o.dst v fun e => zov cfg C all rest e τ k
          else zde env o.dst (.tuple []) fun e => zov cfg C all rest e σ k)
       | .tuple _ => zde env o.dst (.tuple []) fun e => zov cfg C all rest e σ k
       | _ => none
theorem zb6 {env : List PV} {d : Nat} {b : Bool} (h : env.getD d .undef = .bool b) : env.set d (.bool b) = env := by
 rw [hai] at h
 cases hq : env[d]? with
 | none => rw [hq] at h; cases h
 | some v =>
   rw [hq] at h
   simp only [Option.getD_some] at h
   subst h
   refine List.ext_getElem? fun i => ?_
   by_cases hi : d = i
   ·subst hi; rw [hq,ha3 (had.1 hq).1]
   ·rw [ha5 hi]
theorem zuu {cfg : Cfg} {C : z7} {env : List PV} {σ : Store} {o : Oper} {k : PV → Store → Option β} {r : β} (h : opG cfg C env σ o k = some r) : ∃ v τ,zof cfg C env σ o = some (v,τ) ∧ k v τ = some r := by
 unfold opG at h
 split at h
 ·rename_i hg
  rw [zea hg]
  exact zus h
 ·cases h
theorem zd5 {cfg : Cfg} {C : z7} {all : List Oper} {r : β} : ∀ (l : List Oper) (env : List PV) (σ : Store) (k : List PV → Store → Option β),zov cfg C all l env σ k = some r →
  ∃ e s,y4 cfg C all l env σ = some (e,s) ∧ k e s = some r
 | [],env,σ,k,h => ⟨env,σ,rfl,h⟩
 | o :: l,env,σ,k,h => by
   have go : ∀ b,vy all env o = some b → (if b = true then opG cfg C env σ o fun v τ => zov cfg C all l (zfu env o.dst v) τ k else zov cfg C all l (zfu env o.dst (.tuple [])) σ k) = some r → ∃ e s,y4 cfg C all (o :: l) env σ = some (e,s) ∧ k e s = some r := by
    intro b hb h
    simp only [y4,hb,Option.bind_some]
    split at h
    ·rename_i hbt
     simp only [if_pos hbt]
     obtain ⟨v,τ,h1,h2⟩ := zuu h
     obtain ⟨e,s,h3,h4⟩ := zd5 l _ _ _ h2
     exact ⟨e,s,by rw [h1]; exact h3,h4⟩
    ·rename_i hbt
     simp only [if_neg hbt]
     exact zd5 l _ _ _ h
   unfold zov at h
   simp only [vj,ky] at h
   split at h
   ·rename_i hg
    exact go true (by unfold vy; rw [hg]) h
   ·rename_i g w hg
    split at h
    ·cases h
    ·rename_i d hd
     split at h
     ·rename_i b hb
      have hw : vy all env o = some (b == w) := by unfold vy; rw [hg]; simp only [hd]; rw [hb]
      refine go _ hw ?_
      split at h
      ·rename_i hbt
       subst hbt
       rw [zb6 hb] at h
       cases w
       ·exact h
       ·exact h
      ·rename_i hbt
       have hbf : b = false := by simpa using hbt
       subst hbf
       rw [zb6 hb] at h
       cases w
       ·exact h
       ·exact h
     ·rename_i vs hb
      exact go false (by unfold vy; rw [hg]; simp only [hd]; rw [hb]) h
     ·cases h
def zui (env : List PV) (c : Operand) (b : Bool) (k : List PV → Option β) : Option β :=
 match c with
 | .tmp t => zph env t (.bool b) k
 | _ => k env
def zkk (P : Program) (l : List (Nat × TypeId)) (e : List PV) : List Nat → (List PV → Option β) → Option β
 | [],k => k []
 | i :: r,k => match l.find? (fun p => p.1 == i) with
   | some (_,t) => asK (P.underlying t) (e.getD i .undef) fun v => zkk P l e r fun vs => k (v :: vs)
   | none => zkk P l e r fun vs => k (.undef :: vs)
theorem zca {P : Program} {l : List (Nat × TypeId)} {e : List PV} {r : β} : ∀ (is : List Nat) (k : List PV → Option β),zkk P l e is k = some r →
  k (is.map fun i => if (l.map (·.1)).contains i = true then e.getD i .undef else .undef) = some r
 | [],k,h => h
 | i :: is,k,h => by
   unfold zkk at h
   split at h
   ·rename_i j t hf
    have h1 := zca is _ (xv h)
    have hc : (l.map (·.1)).contains i = true := by
     have h2 := List.find?_some hf
     have h3 := List.mem_of_find?_eq_some hf
     simp at h2
     simp only [List.contains_eq_mem,hbw]
     exact List.mem_map.2 ⟨(j,t),h3,h2⟩
    simp only [List.map_cons]
    rw [if_pos hc]
    exact h1
   ·rename_i hf
    have h1 := zca is _ h
    have hc : ¬ (l.map (·.1)).contains i = true := by
     simp only [List.contains_eq_mem,hbw]
     intro hm
     obtain ⟨p,hp,he⟩ := List.mem_map.1 hm
     have := List.find?_eq_none.1 hf p hp
     simp [he] at this
    simp only [List.map_cons]
    rw [if_neg hc]
    exact h1
def zts (n : Nat) (k : Nat → Bool) : Bool :=
 match n with
 | 0 => k 0
 | m + 1 => k (m + 1)
theorem zqw (n : Nat) (k : Nat → Bool) : zts n k = k n := by cases n <;> rfl
def zrz : List Nat → Nat → (List Nat → Bool) → Bool
 | [],p,k => k [p]
 | x :: r,p,k => zrz r p fun r' => k (x :: r')
theorem zl0 : ∀ (l : List Nat) (p : Nat) (k : List Nat → Bool),zrz l p k = k (l ++ [p])
 | [],_,_ => rfl
 | x :: r,p,k => by simp only [zrz,zl0 r p,List.cons_append]
def zh7 : List Oper → List Nat → (List Nat → Bool) → Bool
 | [],acc,k => k acc
 | o :: r,acc,k => zts (zno acc o) fun p => zrz acc p fun acc => zh7 r acc k
theorem zgt : ∀ (l : List Oper) (acc : List Nat) (k : List Nat → Bool),zh7 l acc k = k (l.foldl (fun acc o => acc ++ [zno acc o]) acc)
 | [],_,_ => rfl
 | o :: r,acc,k => by simp only [zh7,zqw,zl0,zgt r,List.foldl_cons]
def zge (cfg : Cfg) (ops : List Oper) (bi : Nat) (x : Oper) : Nat → List Oper → Nat → Bool
 | _,[],_ => true
 | 0,_ :: _,_ => true
 | n + 1,y :: r,j => (bi.testBit j ||
     ((match y.dst with | some d => !(qv ops x).contains d | none => true) &&
      (match x.dst with | some d => !(qv ops y).contains d | none => true) &&
      !(touch cfg x == 3 && touch cfg y != 0) && (!(touch cfg y == 3 && decide (2 ≤ touch cfg x)) || zoa cfg x && zn1 y))) && zge cfg ops bi x n r (j + 1)
def zin (cfg : Cfg) (ops : List Oper) : List Oper → List Nat → Nat → Bool
 | x :: r,b :: bs,i => zge cfg ops b x i ops 0 && zin cfg ops r bs (i + 1)
 | [],_,_ => true
 | _ :: _,[],_ => false
def zh0 (cfg : Cfg) (ops : List Oper) : Bool := zh7 ops [] fun b => zin cfg ops ops b 0
theorem zgd {cfg : Cfg} {ops : List Oper} {bi : Nat} {x : Oper} : ∀ (n : Nat) (l : List Oper) (j0 : Nat),zge cfg ops bi x n l j0 = true → ∀ j y,j < n → l[j]? = some y → (bi.testBit (j0 + j) ||
   ((match y.dst with | some d => !(qv ops x).contains d | none => true) &&
    (match x.dst with | some d => !(qv ops y).contains d | none => true) &&
    !(touch cfg x == 3 && touch cfg y != 0) && (!(touch cfg y == 3 && decide (2 ≤ touch cfg x)) || zoa cfg x && zn1 y))) = true
 | 0,_,_,_,_,_,hj,_ => absurd hj (Nat.not_lt_zero _)
 | n + 1,[],_,_,_,_,_,hy => by simp at hy
 | n + 1,y :: r,j0,h,0,y',_,hy => by
   simp at hy; subst hy
   rw [zge,haq] at h
   exact h.1
 | n + 1,y :: r,j0,h,j + 1,y',hj,hy => by
   rw [zge,haq] at h
   have := zgd n r (j0 + 1) h.2 j y' (by omega) (by simpa using hy)
   rw [show j0 + (j + 1) = j0 + 1 + j by omega]
   exact this
theorem zf9 {cfg : Cfg} {ops : List Oper} : ∀ (l : List Oper) (bs : List Nat) (i0 : Nat),zin cfg ops l bs i0 = true → ∀ i x,l[i]? = some x → zge cfg ops (bs.getD i 0) x (i0 + i) ops 0 = true
 | [],_,_,_,_,_,hx => by simp at hx
 | x :: r,[],_,h,_,_,_ => by cases h
 | x :: r,b :: bs,i0,h,0,x',hx => by
   simp at hx; subst hx
   rw [zin,haq] at h
   exact h.1
 | x :: r,b :: bs,i0,h,i + 1,x',hx => by
   rw [zin,haq] at h
   have := zf9 r bs (i0 + 1) h.2 i x' (by simpa using hx)
   rw [show i0 + (i + 1) = i0 + 1 + i by omega]
   exact this
theorem zgn {cfg : Cfg} {ops : List Oper} (h : zh0 cfg ops = true) : wg cfg ops = true := by
 unfold zh0 at h
 rw [zgt] at h
 have hb : ops.foldl (fun acc o => acc ++ [zno acc o]) [] = jp ops := rfl
 rw [hb] at h
 unfold wg
 simp only [har,List.mem_range]
 intro i hi j hj
 have hx := haf hi
 have hy := haf (l := ops) (i := j) (by omega)
 rw [hx,hy]
 have h1 := zf9 ops _ 0 h i _ hx
 rw [hb4] at h1
 have h2 := zgd i ops 0 h1 j _ hj hy
 rw [hb4] at h2
 exact h2
def zmu : List Nat → List PV → Store → (List PV → Store → Option β) → Option β
 | [],e,σ,k => k e σ
 | t :: r,e,σ,k => (ke (tops (e.getD t .undef)) σ).bind fun σ' => zph e t (fz zp σ (e.getD t .undef)) fun e => zmu r e σ' k
theorem zgp {r : β} : ∀ (l : List Nat) (e : List PV) (σ : Store) (k : List PV → Store → Option β),zmu l e σ k = some r → ∃ e' σ',kp l e σ = some (e',σ') ∧ k e' σ' = some r
 | [],e,σ,k,h => ⟨_,_,rfl,h⟩
 | t :: l,e,σ,k,h => by
   unfold zmu at h
   unfold kp zff
   rw [haa] at h
   obtain ⟨σ1,h1,h2⟩ := h
   rw [vj] at h2
   obtain ⟨e',σ',h3,h4⟩ := zgp l _ _ k h2
   simp only [h1,Option.map_some,Option.bind_some]
   exact ⟨e',σ',h3,h4⟩
def zyo (cfg : Cfg) (f : FuncId) (id : Nat) (env : List PV) (σ : Store) (k : Bool → List PV → Store → Option β) : Option β :=
 match cfg.close f id with
 | none => k false env σ
 | some (b,zs) => zmu zs env σ (k b)
theorem zr9 {cfg : Cfg} {f : FuncId} {id : Nat} {env : List PV} {σ : Store} {k : Bool → List PV → Store → Option β} {r : β} (h : zyo cfg f id env σ k = some r) : ∃ b e s,pre cfg f id env σ = some (b,e,s) ∧ k b e s = some r := by
 unfold zyo at h
 unfold pre
 split at h
 ·rename_i hc; exact ⟨_,_,_,by rw [hc],h⟩
 ·rename_i b zs hc
  obtain ⟨e,s,h1,h2⟩ := zgp _ _ _ _ h
  exact ⟨b,e,s,by rw [hc]; simp only [h1,Option.map_some],h2⟩
def zcn (cfg : Cfg) (C : z7) (L : xg) (f : FuncId) : Code → List PV → Store → (Ex → List PV → Store → Option β) → Option β
 | .skip,env,σ,k | .label _,env,σ,k => k .normal env σ
 | .region id ops draw,env,σ,k => zyo cfg f id env σ fun b env σ =>
   if draw = true then
    (if (zh0 { cfg.at_ f with calm := b,calmA := zbe cfg f id ops.toList,floZ := cfg.flo f id,floA := ki (cfg.flo f id) ops.toList } ops.toList && qm ops.toList && (zro { cfg.at_ f with floZ := cfg.flo f id } ops.toList && zrn { cfg.at_ f with floZ := cfg.flo f id } env σ)) = true then zov { cfg.at_ f with strict := true,calm := b,calmA := zbe cfg f id ops.toList,floZ := cfg.flo f id,floA := ki (cfg.flo f id) ops.toList } C ops.toList ops.toList env σ (k .normal) else none)
   else zov (cfg.at_ f) C ops.toList ops.toList env σ (k .normal)
 | .seq a b,env,σ,k => zcn cfg C L f a env σ fun x e s => match x with
   | .normal => zcn cfg C L f b e s k
   | x => k x e s
 | .cond c a b,env,σ,k => match opd env c with
   | .bool t => if t = true then zui env c true fun e => zcn cfg C L f a e σ k else zui env c false fun e => zcn cfg C L f b e σ k
   | _ => none
 | .block id c,env,σ,k => zcn cfg C L f c env σ fun x e s => match x with
   | .exit i => if i = id then k .normal e s else k (.exit i) e s
   | x => k x e s
 | .loop c,env,σ,k => match cfg.mask f (zq c) with
   | some (h,l) => (L f c (za4 env.length h env) σ).bind fun r => zgf r.1
     (fun i => zkk cfg.P l.1 r.2.1 (List.range env.length) fun e => k (.exit i) e r.2.2)
     (match l.2 with
      | [] => none
      | _ :: _ => zkk cfg.P l.2 r.2.1 (List.range env.length) fun e => k .ret e r.2.2)
   | none => none
 | .exit id,env,σ,k => k (.exit id) env σ
 | .ret,env,σ,k => k .ret env σ
 | _,_,_,_ => none
theorem zik {env : List PV} {c : Operand} {b : Bool} {k : List PV → Option β} (h : opd env c = .bool b) : zui env c b k = k env := by
 cases c <;> first | rfl | (simp only [zui,vj]; rw [zb6 h])
theorem vu {cfg : Cfg} {C : z7} {L : xg} {f : FuncId} {r : β} : ∀ (c : Code) (env : List PV) (σ : Store) (k : Ex → List PV → Store → Option β),zcn cfg C L f c env σ k = some r →
  ∃ x e s,zg cfg C L f c env σ = some (x,e,s) ∧ k x e s = some r
 | .skip,_,_,_,h | .label _,_,_,_,h | .exit _,_,_,_,h | .ret,_,_,_,h => ⟨_,_,_,rfl,h⟩
 | .region id ops draw,env,σ,k,h => by
   simp only [zcn] at h
   obtain ⟨b,e0,s0,h0,h⟩ := zr9 h
   simp only [zg,h0,Option.bind_some]
   unfold kf
   split at h
   ·rename_i hd
    simp only [if_pos hd]
    split at h
    ·rename_i hk
     rw [haq,haq] at hk
     have hk' : (wg { cfg.at_ f with calm := b,calmA := zbe cfg f id ops.toList,floZ := cfg.flo f id,floA := ki (cfg.flo f id) ops.toList } ops.toList && qm ops.toList && (zro { cfg.at_ f with floZ := cfg.flo f id } ops.toList && zrn { cfg.at_ f with floZ := cfg.flo f id } e0 s0)) = true := by rw [zgn hk.1.1,hk.1.2,hk.2]; rfl
     simp only [if_pos hk']
     obtain ⟨e,s,h1,h2⟩ := zd5 _ _ _ _ h
     exact ⟨_,_,_,by rw [h1]; rfl,h2⟩
    ·cases h
   ·rename_i hd
    simp only [if_neg hd]
    obtain ⟨e,s,h1,h2⟩ := zd5 _ _ _ _ h
    exact ⟨_,_,_,by rw [h1]; rfl,h2⟩
 | .seq a b,env,σ,k,h => by
   simp only [zcn] at h
   obtain ⟨x,e,s,h1,h2⟩ := vu a _ _ _ h
   simp only [zg,h1,Option.bind_some]
   cases x with
   | normal => exact vu b _ _ _ h2
   | exit i => exact ⟨_,_,_,rfl,h2⟩
   | ret => exact ⟨_,_,_,rfl,h2⟩
 | .cond c a b,env,σ,k,h => by
   simp only [zcn] at h
   simp only [zg]
   have hs := fun b (k : List PV → Option β) => zik (env := env) (c := c) (b := b) (k := k)
   generalize opd env c = z at h hs ⊢
   cases z <;> simp only at h ⊢ <;> first | (cases h; done) | skip
   rename_i t
   cases t
   ·rw [hs false _ rfl] at h
    exact vu b _ _ _ h
   ·rw [hs true _ rfl] at h
    exact vu a _ _ _ h
 | .block id c,env,σ,k,h => by
   simp only [zcn] at h
   obtain ⟨x,e,s,h1,h2⟩ := vu c _ _ _ h
   simp only [zg,h1,Option.map_some]
   cases x with
   | normal => exact ⟨_,_,_,rfl,h2⟩
   | ret => exact ⟨_,_,_,rfl,h2⟩
   | exit i =>
     refine ⟨_,_,_,rfl,?_⟩
     simp only at h2 ⊢
     split at h2
     ·rename_i hi; rw [if_pos hi]; exact h2
     ·rename_i hi; rw [if_neg hi]; exact h2
 | .loop c,env,σ,k,h => by
   simp only [zcn] at h
   simp only [zg]
   split at h
   ·rename_i hd l hm
    rw [haa] at h
    obtain ⟨⟨x,e,s⟩,h1,h2⟩ := h
    have hh : ux cfg f c env.length env = za4 env.length hd env := by unfold ux; rw [hm]
    have ho : zhc cfg f c x env.length e = za4 env.length ((zur l x).map (·.1)) e := by unfold zhc; rw [hm]
    rw [hh,h1]
    refine ⟨x,zhc cfg f c x env.length e,s,rfl,?_⟩
    rw [ho]
    cases x with
    | normal => cases h2
    | exit i => exact zca _ _ h2
    | ret =>
      replace h2 : (match l.2 with | [] => none | _ :: _ => zkk cfg.P l.2 e (List.range env.length) fun e => k .ret e s) = some r := h2
      split at h2
      ·cases h2
      ·exact zca _ _ h2
   ·cases h
 | .rangeFunc ..,_,_,_,h | .scope _,_,_,_,h | .goto _,_,_,_,h | .refuse _,_,_,_,h => by simp only [zcn] at h; cases h
end
def zwm {β : Type} (P : Program) (s : Store) (e : List PV) : List ResultVar → (List PV → Option β) → Option β
 | [],k => k []
 | .tmp t :: r,k => zwm P s e r fun vs => k (e.getD t .undef :: vs)
 | .cell a t :: r,k => (zd P s t (e.getD a .undef)).bind fun v => asK (P.underlying t) v fun v => zwm P s e r fun vs => k (v :: vs)
theorem zd2 {β : Type} {P : Program} {s : Store} {e : List PV} {r : β} : ∀ (rs : List ResultVar) (k : List PV → Option β),zwm P s e rs k = some r → ∃ vs,jl P s e rs = some vs ∧ k vs = some r
 | [],k,h => ⟨[],rfl,h⟩
 | .tmp t :: rs,k,h => by
   obtain ⟨vs,h1,h2⟩ := zd2 rs _ h
   exact ⟨_,by simp only [jl,u5,Option.bind_some,h1]; rfl,h2⟩
 | .cell a t :: rs,k,h => by
   simp only [zwm,haa] at h
   obtain ⟨v,h0,h⟩ := h
   obtain ⟨vs,h1,h2⟩ := zd2 rs _ (xv h)
   exact ⟨_,by simp only [jl,u5,h0,Option.bind_some,h1]; rfl,h2⟩
def zzo (P : Program) (fn : Func) (x : Ex) (e : List PV) (s : Store) : Option (PV × Store) :=
 match x with
 | .exit _ => none
 | _ => zwm P s e fn.results.toList fun vs => some (up vs,s)
theorem zr5 {P : Program} {fn : Func} {x : Ex} {e : List PV} {s : Store} {r : PV × Store} (h : zzo P fn x e s = some r) :
  (match x with | .exit _ => none | _ => (jl P s e fn.results.toList).map fun vs => (up vs,s)) = some r := by
 cases x with
 | exit i => exact h
 | normal => obtain ⟨vs,h1,h2⟩ := zd2 _ _ h; simp only [h1]; exact h2
 | ret => obtain ⟨vs,h1,h2⟩ := zd2 _ _ h; simp only [h1]; exact h2
def qa (cfg : Cfg) (C : z7) (L : xg) (f : FuncId) (args : List PV) (σ : Store) : Option (PV × Store) :=
 match cfg.P.funcs[f]? with
 | some fn => match fn.body with
   | some c => zcn cfg C L f c (zcp fn args) σ (zzo cfg.P fn)
   | none => none
 | none => none
def goK (cfg : Cfg) (L : xg) (f : FuncId) (c : Code) (n : Nat) (x : Ex) (e : List PV) (s : Store) : Option (Ex × List PV × Store) :=
 match x with
 | .normal => L f c (ux cfg f c n e) s
 | x => some (x,zhc cfg f c x n e,s)
def za6 (cfg : Cfg) (C : z7) (L : xg) (f : FuncId) (c : Code) (env : List PV) (σ : Store) : Option (Ex × List PV × Store) :=
 zcn cfg C L f c env σ (goK cfg L f c env.length)
theorem zf {cfg : Cfg} {g : FuncId} (hT : cfg.told g = none) {a : List PV} {σ : Store} {r : PV × Store} (h : qa cfg (ze cfg) (y2 cfg) g a σ = some r) : ze cfg g a σ = some r := by
 refine zmw hT ?_
 unfold qa at h
 unfold uu
 rw [hT]
 simp only
 split at h
 ·rename_i fn hf
  split at h
  ·rename_i c hc
   obtain ⟨x,e,s,h1,h2⟩ := vu _ _ _ _ h
   simp only [hf,hc,h1,Option.bind_some]
   have h3 := zr5 h2
   cases x with
   | normal => exact h3
   | exit i => exact h3
   | ret => exact h3
  ·cases h
 ·cases h
theorem yi {cfg : Cfg} {f : FuncId} {c : Code} {e : List PV} {σ : Store} {r : Ex × List PV × Store} (h : za6 cfg (ze cfg) (y2 cfg) f c e σ = some r) : y2 cfg f c e σ = some r := by
 refine zhh ?_
 obtain ⟨x,e',s,h1,h2⟩ := vu _ _ _ _ h
 unfold ue
 simp only [h1,Option.bind_some]
 cases x with
 | normal => exact h2
 | exit i => exact h2
 | ret => exact h2
end Go.Pvm
namespace Go.Pvm
def WT (P : Program) : Bool → Nat → TypeId → List PV → Prop
 | _,0,_,_ => False
 | top,n + 1,t,cs => match P.underlying t with
   | some .bool => ∃ b,cs = [.bool b]
   | some (.int k) => ∃ x,cs = [.int k x] ∧ k.min ≤ x ∧ x ≤ k.max
   | some (.float k) => ∃ x,cs = [.float k x] ∧ (Lit.float k x).wf = true
   | some .string => ∃ s,cs = [.str s] ∧ s.size ≤ reachBytes
   | some (.slice e) => cs = [.nilsl] ∨ (∃ es,cs = [.psl false es] ∧ es.length ≤ maxLen ∧ es.length * P.bytesOf e ≤ reachBytes ∧ ∀ c ∈ es,c.length = P.cellsOf e ∧ WT P false n e c) ∨ (top = false ∧ P.cellsOf e = 0 ∧ cs = [.undef])
   | some (.struct fs) => ∃ parts : List (List PV),cs = parts.flatten ∧ parts.length = fs.size ∧ ∀ (i : Nat) (f : Field) (p : List PV),fs[i]? = some f → parts[i]? = some p → p.length = P.cellsOf f.type ∧ WT P top n f.type p
   | some (.array m e) => ∃ parts : List (List PV),cs = parts.flatten ∧ parts.length = m ∧ ∀ p ∈ parts,p.length = P.cellsOf e ∧ WT P top n e p
   | some (.pointer e) => cs = [.nilptr] ∨ (∃ c,cs = [.pref c] ∧ c.length = P.cellsOf e ∧ WT P false n e c) ∨ (P.cellsOf e = 0 ∧ cs = [.undef])
   | some (.interface _) => cs = [.niliface] ∨ cs = [.undef]
   | some (.map _ _) => cs = [.nilmap] ∨ cs = [.undef]
   | _ => cs.length = 1
def zly : Value → Prop
 | .slice (some a) _ _ => a.spot = none
 | _ => True
def znr (w : World) : xx := fun b _ => b < w.heap.size
section
variable {H : Type} {enc : TypeId × Value → H} {P : Program} {w : World}
theorem VPs.append {F : xx} {w : World} {a b : List PV} {x y : List Value} (h : VPs F w a x) (k : VPs F w b y) : VPs F w (a ++ b) (x ++ y) := by
 refine ⟨by simp [h.1,k.1],fun i c u e e' => ?_⟩
 have h1 := h.1
 rcases ha4 i a.length with hi | hi
 ·rw [hbh hi] at e
  rw [hbh (by omega)] at e'
  exact h.2 i c u e e'
 ·rw [List.getElem?_append_right hi] at e
  rw [List.getElem?_append_right (by omega),h1] at e'
  exact k.2 _ c u e e'
theorem VPs.nil' {F : xx} {w : World} : VPs F w [] [] := ⟨rfl,fun i c u e => by simp at e⟩
theorem VPs.one {F : xx} {w : World} {c : PV} {u : Value} (h : VP F w c u) : VPs F w [c] [u] := ⟨rfl,fun i c' u' e e' => by
 cases i with
 | zero => simp at e e'; subst e; subst e'; exact h
 | succ i => simp at e⟩
theorem asm {α : Type} (off size : α → Nat) (R : α → List PV → Prop) {F : xx} (cs : List Value) : ∀ (l : List α) (o : Nat),(∀ (j : Nat) (a : α),l[j]? = some a → off a = o + ((l.take j).map size).sum) → cs.length = o + (l.map size).sum →
  (∀ a ∈ l,∃ p,R a p ∧ VPs F w p ((cs.drop (off a)).take (size a))) →
  ∃ parts : List (List PV),parts.length = l.length ∧ (∀ (i : Nat) (a : α) (p : List PV),l[i]? = some a → parts[i]? = some p → p.length = size a ∧ R a p) ∧ VPs F w parts.flatten (cs.drop o)
 | [],o,h1,h2,h3 => ⟨[],rfl,fun i a p e => by simp at e,by
   simp at h2
   rw [List.drop_eq_nil_of_le (by omega)]
   exact VPs.nil'⟩
 | a :: r,o,h1,h2,h3 => by
   have h0 : off a = o := by simpa using h1 0 a rfl
   simp only [List.map_cons,List.sum_cons] at h2
   obtain ⟨p,hR,hp⟩ := h3 a (.head _)
   obtain ⟨parts,k1,k2,k3⟩ := asm off size R cs r (o + size a) (fun j b hb => by
    have := h1 (j + 1) b (by simpa using hb)
    simp only [List.take_succ_cons,List.map_cons,List.sum_cons] at this
    omega) (by omega) (fun b hb => h3 b (.tail _ hb))
   rw [h0] at hp
   have hlen : p.length = size a := by
    have := hp.1
    simp at this
    omega
   refine ⟨p :: parts,by simp [k1],fun i b q e e' => ?_,?_⟩
   ·cases i with
    | zero => simp at e e'; subst e; subst e'; exact ⟨hlen,hR⟩
    | succ i => exact k2 i b q (by simpa using e) (by simpa using e')
   ·have : cs.drop o = (cs.drop o).take (size a) ++ cs.drop (o + size a) := by
     rw [← List.drop_drop,List.take_append_drop]
    rw [this,List.flatten_cons]
    exact hp.append k3
theorem zml {t : TypeId} (h : isVar P t = true) : t < P.types.size := by
 unfold isVar at h
 simp at h
 exact h.1
theorem zm4 {a : Addr} (h : a.spot = none) (n : Nat) : a.add n = ⟨a.block,a.off + n,none⟩ := by
 cases a
 simp only at h
 subst h
 exact wm _ _ _
theorem zcr {a : Addr} {n : Nat} {cs : List Value} (h : w.cells? 0 a n = some cs) : cs.length = n ∧ ∀ (i : Nat) (v : Value),cs[i]? = some v → w.cell? (a.add i) = some v := by
 unfold World.cells? at h
 rw [if_pos (hbe _)] at h
 have hl := mapM_some_length h
 refine ⟨by simpa using hl,fun i v hv => ?_⟩
 have hi : i < n := by
  have := (had.1 hv).1
  simp at hl; omega
 have := mapM_some_get h i i (List.getElem?_range hi)
 rw [hv] at this
 exact this
theorem zcs {a : Addr} {v : Value} (h : w.cell? a = some v) : a.spot = none ∧ a.block < w.heap.size := by
 unfold World.cell? at h
 split at h
 ·rename_i c _ _ hb
  refine ⟨?_,(hbg.1 hb).1⟩
  cases hs : a.spot with
  | none => rfl
  | some x => rw [hs] at h; simp at h
 ·cases h
theorem zbg {e : TypeId} {k : Nat} : ∀ (ds : List (DataW H)) (d : DataW H),d ∈ ds → k ∈ d.weights P e → k ∈ DataW.weightsAll P e ds
 | x :: r,d,hm,hk => by
   unfold DataW.weightsAll
   rcases ha6.1 hm with rfl | hm
   ·exact List.mem_append_left _ hk
   ·exact List.mem_append_right _ (zbg r d hm hk)
theorem zdb {k : Nat} : ∀ (ts : List TypeId) (ds : List (DataW H)) (i : Nat) (t : TypeId) (d : DataW H),ts[i]? = some t → ds[i]? = some d → k ∈ d.weights P t → k ∈ DataW.weightsEach P ts ds
 | t :: ts,d :: ds,0,t',d',h1,h2,hk => by
   simp at h1 h2; subst h1; subst h2
   unfold DataW.weightsEach
   exact List.mem_append_left _ hk
 | t :: ts,d :: ds,i + 1,t',d',h1,h2,hk => by
   unfold DataW.weightsEach
   exact List.mem_append_right _ (zdb ts ds i t' d' (by simpa using h1) (by simpa using h2) hk)
 | [],_,i,_,_,h1,_,_ => by simp at h1
 | _ :: _,[],i,_,_,_,h2,_ => by simp at h2
theorem dec (hl : laidOutB P = true) : ∀ (n : Nat) (t : TypeId) (cs : List Value) (x : DataW H × List MemPlace) (top : Bool),DataW.trod enc P w 0 (fun _ => true) true n t cs = some x → isVar P t = true →
  (top = true → ∀ v ∈ cs,zly v) → (∀ k ∈ x.1.weights P t,k ≤ reachBytes) → ∃ pvs,WT P top n t pvs ∧ VPs (znr w) w pvs cs
 | 0,t,cs,x,top,h,_,_,_ => by simp [DataW.trod] at h
 | n + 1,t,cs,x,top,h,hv,hs,hw => by
   have hrow := rowFine_of_laidOut hl (zml hv)
   unfold rowFine at hrow
   rw [hv] at hrow
   simp only [Bool.not_true,Bool.false_or] at hrow
   have one : ∀ {c : PV},cs.length = 1 → c = .undef → VPs (znr w) w [c] cs := fun h1 h2 => by
    obtain ⟨v,rfl⟩ := List.length_eq_one_iff.1 h1
    subst h2
    exact .one (.undef v)
   cases hu : P.underlying t with
   | none => unfold DataW.trod at h; rw [hu] at h; simp at h
   | some d =>
     rw [hu] at hrow
     cases d
     case bool =>
      obtain ⟨b,rfl,_⟩ := DataW.trod_bool hu h
      exact ⟨[.bool b],by unfold WT; rw [hu]; exact ⟨b,rfl⟩,.one (.bool b)⟩
     case int k =>
      obtain ⟨b,rfl,_,hwf⟩ := DataW.trod_int hu h
      refine ⟨[.int k b],?_,.one (.int k b)⟩
      unfold WT; rw [hu]
      simp [Lit.wf] at hwf
      exact ⟨b,rfl,hwf.1,hwf.2⟩
     case float k =>
      unfold DataW.trod at h; rw [hu] at h
      split at h <;> simp only [Option.some.injEq,TypeDesc.float.injEq,reduceCtorEq] at * <;> try (cases h; done)
      rename_i k1 k' b' e1 e2
      subst e2
      split at h
      ·rename_i hk
       obtain ⟨rfl,hk⟩ := hk
       refine ⟨[.float _ e1],?_,.one (.float _ e1)⟩
       unfold WT; rw [hu]
       exact ⟨e1,rfl,hk⟩
      ·cases h
     case string =>
      obtain ⟨s,rfl,rfl,_⟩ := DataW.trod_string hu h
      refine ⟨[.str s],?_,.one (.str s)⟩
      unfold WT; rw [hu]
      refine ⟨s,rfl,?_⟩
      have := hw s.data.toList.length (by simp [DataW.weights])
      simpa using this
     case slice e =>
      rcases DataW.trod_slice hu h with ⟨rfl,_⟩ | ⟨a,len,cap,elems,rest,m,hm,rfl,rfl,_,hlc,hcm,hel,hget,hspare,_⟩
      ·exact ⟨[.nilsl],by unfold WT; rw [hu]; exact .inl rfl,.one .nilsl⟩
      ·obtain rfl : n = m := by omega
       simp only [haq] at hrow
       have hve : isVar P e = true := hrow.1
       -- the elements' cells
       have each : ∀ i,i < len → ∃ vs pv,w.cells? 0 (a.add (i * P.cellsOf e)) (P.cellsOf e) = some vs ∧ WT P false n e pv ∧ VPs (znr w) w pv vs := fun i hi => by
        have h1 := hget i hi
        have hy := haf (l := elems) (i := i) (by omega)
        rw [hy,haa] at h1
        obtain ⟨vs,h2,h3⟩ := h1
        obtain ⟨pv,h4,h5⟩ := dec hl n e vs _ false h3 hve (fun h => by cases h) (fun k hk => hw k (by
         simp only [DataW.weights,hu]
         refine List.mem_cons_of_mem _ (List.mem_append_left _ (zbg _ _ (List.mem_map.2 ⟨_,List.getElem_mem _,rfl⟩) hk))))
        exact ⟨vs,pv,h2,h4,h5⟩
       obtain ⟨vf,hvf⟩ := Classical.axiomOfChoice (fun i : Nat => (Classical.em (i < len)).elim (fun hi => let ⟨vs,pv,h⟩ := each i hi; (⟨(vs,pv),fun _ => h⟩ : ∃ q : List Value × List PV,i < len → w.cells? 0 (a.add (i * P.cellsOf e)) (P.cellsOf e) = some q.1 ∧ WT P false n e q.2 ∧ VPs (znr w) w q.2 q.1)) (fun hi => ⟨([],[]),fun h => absurd h hi⟩))
       by_cases hsp : a.spot = none
       ·refine ⟨[.psl false ((List.range len).map fun i => (vf i).2)],?_,.one ?_⟩
        ·unfold WT; rw [hu]
         refine .inr (.inl ⟨_,rfl,by simp; exact haz hlc hcm,?_,fun c hc => ?_⟩)
         ·have := hw ((elems.length + rest.length) * P.bytesOf e) (by simp [DataW.weights,hu])
          simp only [han,List.length_range]
          exact haz (ha2 _ (by omega)) this
         ·obtain ⟨i,hi,rfl⟩ := List.mem_map.1 hc
          have hi' : i < len := by simpa using hi
          obtain ⟨h1,h2,h3⟩ := hvf i hi'
          exact ⟨by have := (zcr h1).1; rw [← h3.1]; exact this,h2⟩
        ·have hcell : ∀ (i : Nat) (c : List PV),((List.range len).map fun i => (vf i).2)[i]? = some c → ∀ (j : Nat) (x : PV),c[j]? = some x → ∃ v,w.cell? ⟨a.block,a.off + i * P.cellsOf e + j,none⟩ = some v ∧ VP (znr w) w x v := fun i c hc j x hx => by
          rw [hav,hac] at hc
          obtain ⟨i',hi,rfl⟩ := hc
          have hlt := (had.1 hi).1
          have : i' = i := by have := List.getElem?_range (n := len) (i := i) (by simpa using hlt); rw [this] at hi; exact (Option.some.inj hi).symm
          subst this
          obtain ⟨h1,h2,h3⟩ := hvf i' (by simpa using hlt)
          obtain ⟨k1,k2⟩ := zcr h1
          have hj := (had.1 hx).1
          have hj' := haf (l := (vf i').1) (i := j) (by rw [h3.1]; exact hj)
          refine ⟨_,?_,h3.2 j x _ hx hj'⟩
          have := k2 j _ hj'
          rw [← this,zm4 hsp,wm]
         have hlen : ((List.range len).map fun i => (vf i).2).length = len := by simp
         have ha : (Value.slice (some a) len cap) = .slice (some ⟨a.block,a.off,none⟩) ((List.range len).map fun i => (vf i).2).length cap := by
          rw [hlen]
          cases a
          simp at hsp
          subst hsp
          rfl
         rw [ha]
         refine .psl false _ (P.cellsOf e) a.block a.off none cap (fun i j => (w.cell? ⟨a.block,a.off + i * P.cellsOf e + j,none⟩).getD undef) (fun _ => rfl) (fun c hc => ?_) (by rw [hlen]; exact hlc) (fun h => by cases h) (fun i c hc j x hx => ?_) (fun i c hc j x hx => ?_)
         ·obtain ⟨i,hi,rfl⟩ := List.mem_map.1 hc
          obtain ⟨h1,h2,h3⟩ := hvf i (by simpa using hi)
          rw [← h3.1]; exact (zcr h1).1
         ·obtain ⟨v,q1,q2⟩ := hcell i c hc j x hx
          exact ⟨(zcs q1).2,by rw [q1]; rfl⟩
         ·obtain ⟨v,q1,q2⟩ := hcell i c hc j x hx
          rw [q1]; exact q2
       ·cases top with
        | true => exact absurd (hs rfl _ (.head _)) hsp
        | false =>
          by_cases hce : P.cellsOf e = 0
          ·exact ⟨[.undef],by unfold WT; rw [hu]; exact .inr (.inr ⟨rfl,hce,rfl⟩),.one (.undef _)⟩
          -- without room,at a place of its own
          have noCell : ∀ vs,w.cells? 0 (a.add (0 * P.cellsOf e)) (P.cellsOf e) ≠ some vs := fun vs hvs => by
           obtain ⟨k1,k2⟩ := zcr hvs
           cases vs with
           | nil => exact hce k1.symm
           | cons v r =>
             have h6 := k2 0 v rfl
             have h7 : a.add 0 = a := by unfold Addr.add; simp
             rw [Nat.zero_mul,h7,h7] at h6
             exact hsp (zcs h6).1
          have hlen0 : len = 0 := by
           rcases Nat.eq_zero_or_pos len with h0 | h0
           ·exact h0
           ·obtain ⟨vs,_,h1,_⟩ := each 0 h0
            exact absurd h1 (noCell vs)
          have hcap0 : cap = 0 := by
           rcases Nat.eq_zero_or_pos cap with h0 | h0
           ·exact h0
           ·obtain ⟨hr1,hr2⟩ := hspare rfl
            have h1 := hr2 0 (by omega)
            have hy := haf (l := rest) (i := 0) (by omega)
            rw [hy,haa] at h1
            obtain ⟨vs,h2,_⟩ := h1
            rw [hlen0,hb4] at h2
            exact absurd h2 (noCell vs)
          subst hlen0
          subst hcap0
          refine ⟨[.psl false []],?_,.one ?_⟩
          ·unfold WT; rw [hu]
           exact .inr (.inl ⟨[],rfl,by simp,by simp,fun c hc => by cases hc⟩)
          ·exact .psl false [] 0 a.block a.off a.spot 0 (fun _ _ => undef) (fun h => absurd rfl h) (by simp) (hah _) (fun _ => rfl) (fun i e he => by simp at he) (fun i e he => by simp at he)
     case pointer e =>
      rcases DataW.trod_pointer hu h with ⟨rfl,_⟩ | ⟨a,vs,y,m,hm,rfl,rfl,hc,hy⟩
      ·exact ⟨[.nilptr],by unfold WT; rw [hu]; exact .inl rfl,.one .nilptr⟩
      ·obtain rfl : n = m := by omega
       simp only [haq] at hrow
       obtain ⟨pv,h4,h5⟩ := dec hl n e vs _ false hy hrow.1 (fun h => by cases h) (fun k hk => hw k (by simpa [DataW.weights,hu] using hk))
       obtain ⟨k1,k2⟩ := zcr hc
       by_cases hsp : a.spot = none
       ·refine ⟨[.pref pv],?_,.one ?_⟩
        ·unfold WT; rw [hu]; exact .inr (.inl ⟨pv,rfl,by rw [← k1]; exact h5.1.symm,h4⟩)
        ·have ha : (Value.pointer (some a)) = .pointer (some ⟨a.block,a.off,none⟩) := by
          cases a
          simp at hsp
          subst hsp
          rfl
         rw [ha]
         have hcell : ∀ (j : Nat) (x : PV),pv[j]? = some x → ∃ v,w.cell? ⟨a.block,a.off + j,none⟩ = some v ∧ VP (znr w) w x v := fun j x hx => by
          have hj := (had.1 hx).1
          have hj' := haf (l := vs) (i := j) (by rw [h5.1]; exact hj)
          refine ⟨_,?_,h5.2 j x _ hx hj'⟩
          have := k2 j _ hj'
          rw [← this,zm4 hsp]
         refine .pref pv a.block a.off (fun j => (w.cell? ⟨a.block,a.off + j,none⟩).getD undef) (fun j x hx => ?_) (fun j x hx => ?_)
         ·obtain ⟨v,q1,q2⟩ := hcell j x hx
          exact ⟨(zcs q1).2,by rw [q1]; rfl⟩
         ·obtain ⟨v,q1,q2⟩ := hcell j x hx
          rw [q1]; exact q2
       ·have h0 : P.cellsOf e = 0 := by
         cases vs with
         | nil => exact k1.symm
         | cons v r =>
           exfalso
           have h6 := k2 0 v rfl
           have h7 : a.add 0 = a := by unfold Addr.add; simp
           rw [h7] at h6
           exact hsp (zcs h6).1
        exact ⟨[.undef],by unfold WT; rw [hu]; exact .inr (.inr ⟨h0,rfl⟩),.one (.undef _)⟩
     case struct fs =>
      obtain ⟨xs,m,hm,rfl,hlen,hxl,hx⟩ := DataW.trod_struct hu h
      obtain rfl : n = m := by omega
      simp only [haq,har,beq_iff_eq,List.mem_range] at hrow
      obtain ⟨⟨r1,r2⟩,r3⟩ := hrow
      obtain ⟨parts,p1,p2,p3⟩ := asm (w := w) (F := znr w) (fun f : Field => f.offset) (fun f : Field => P.cellsOf f.type) (fun f p => WT P top n f.type p) cs fs.toList 0
       (fun j f hf => by
        have := r3 j (had.1 hf).1
        rw [hf] at this
        simpa using this)
       (by rw [hlen,r2]; simp)
       (fun f hf => by
        obtain ⟨i,hi⟩ := List.getElem?_of_mem hf
        have h1 := hx i f (by rw [← hay]; exact hi)
        have hil := (had.1 hi).1
        have hy := haf (l := xs) (i := i) (by simpa [hxl] using hil)
        rw [hy] at h1
        refine dec hl n f.type _ _ top h1 (r1 f hf) (fun ht v hv => hs ht v (hbu (hbr hv))) (fun k hk => hw k ?_)
        simp only [DataW.weights,hu]
        exact zdb _ _ i f.type _ (by rw [hav,hi]; rfl) (by rw [hav,hy]; rfl) hk)
      refine ⟨parts.flatten,?_,by simpa using p3⟩
      unfold WT; rw [hu]
      exact ⟨parts,rfl,by simpa using p1,fun i f p hf hp => p2 i f p (by rw [hay]; exact hf) hp⟩
     case array m e =>
      unfold DataW.trod at h; rw [hu] at h
      simp only at h
      split at h
      ·rename_i hlen
       rw [hac] at h
       obtain ⟨xs,hxs,rfl⟩ := h
       simp only [haq,beq_iff_eq] at hrow
       have hxl : xs.length = m := by simpa using mapM_some_length hxs
       have sumr : ∀ k,((List.range k).map fun _ => P.cellsOf e).sum = k * P.cellsOf e := fun k => by
        induction k with
        | zero => simp
        | succ k ih => rw [List.range_succ,List.map_append,List.sum_append,ih]; simp [Nat.succ_mul]
       obtain ⟨parts,p1,p2,p3⟩ := asm (w := w) (F := znr w) (fun i : Nat => i * P.cellsOf e) (fun _ : Nat => P.cellsOf e) (fun _ p => WT P top n e p) cs (List.range m) 0
        (fun j i hj => by
         have hjl := (had.1 hj).1
         have : i = j := by have := List.getElem?_range (n := m) (i := j) (by simpa using hjl); rw [this] at hj; exact (Option.some.inj hj).symm
         subst this
         rw [List.take_range,Nat.min_eq_left (by simp at hjl; omega),sumr]
         omega)
        (by rw [hlen,hrow.2,sumr]; omega)
        (fun i hi => by
         have hi' : i < m := by simpa using hi
         have h1 := mapM_some_get hxs i i (List.getElem?_range hi')
         have hy := haf (l := xs) (i := i) (by omega)
         rw [hy] at h1
         refine dec hl n e _ _ top h1 hrow.1 (fun ht v hv => hs ht v (hbu (hbr hv))) (fun k hk => hw k ?_)
         simp only [DataW.weights,hu]
         exact zbg _ _ (List.mem_map.2 ⟨_,List.getElem_mem _,rfl⟩) hk)
       refine ⟨parts.flatten,?_,by simpa using p3⟩
       unfold WT; rw [hu]
       refine ⟨parts,rfl,by simpa using p1,fun p hp => ?_⟩
       obtain ⟨i,hi⟩ := List.getElem?_of_mem hp
       have hil := (had.1 hi).1
       exact p2 i i p (by rw [List.getElem?_range (by simpa [p1] using hil)]) hi
      ·cases h
     case interface ms =>
      have h1 : cs.length = 1 := by
       unfold DataW.trod at h; rw [hu] at h
       split at h <;> simp_all
      exact ⟨[.undef],by unfold WT; rw [hu]; exact .inr rfl,one h1 rfl⟩
     case map k e =>
      have h1 : cs.length = 1 := by
       unfold DataW.trod at h; rw [hu] at h
       split at h <;> simp_all
      exact ⟨[.undef],by unfold WT; rw [hu]; exact .inr rfl,one h1 rfl⟩
     all_goals
      have h1 : cs.length = 1 := by
       unfold DataW.trod at h; rw [hu] at h
       split at h <;> simp_all
      exact ⟨[.undef],by unfold WT; rw [hu]; rfl,one h1 rfl⟩
end
end Go.Pvm
namespace Go.Pvm
open Go.ChangeShapes Go.WideShapes Go.ChangeAt Go.RowKit
def WTV (P : Program) (t : TypeId) (v : PV) : Prop :=
 ∃ n,match zou ((P.underlying t).getD .bool) with
   | true => ∃ cs,v = .agg cs ∧ WT P true n t cs
   | false => WT P true n t [v]
def zm5 (P : Program) : List TypeId → List PV → Prop
 | [],[] => True
 | t :: ts,v :: vs => WTV P t v ∧ zm5 P ts vs
 | _,_ => False
section
variable {H : Type} {enc : TypeId × Value → H} {P : Program} {W : World}
theorem zih {P : Program} {base : Nat} {t : TypeId} {v : Value} (h : Cell.okWide P W .any base t v) : zly v := by
 unfold Cell.okWide at h
 cases v <;> try trivial
 rename_i a len cap
 cases a with
 | none => trivial
 | some a =>
   show a.spot = none
   cases hu : P.underlying t with
   | none => rw [hu] at h; simp [Cell.ok,hu] at h
   | some d =>
     rw [hu] at h
     cases d <;> simp [Cell.ok,hu] at h
     case slice e => exact h.2.2.2.1
theorem zl1 (hl : laidOutB P = true) {base : Nat} : ∀ (ts : List TypeId) (vs : List Value) (ds : List (DataW H)) (ps : List MemPlace),DataW.TrodAll enc P W 0 (fun _ => true) true ts vs ds ps →
  (∀ (j : Nat) (t : TypeId) (v : Value),ts[j]? = some t → vs[j]? = some v → Value.okWide P W .any base t v) → (∀ t ∈ ts,isVar P t = true) →
  (∀ k ∈ DataW.weightsEach P ts ds,k ≤ reachBytes) → ∃ pvs,zm5 P ts pvs ∧ VPs (znr W) W pvs vs
 | [],vs,ds,ps,h,_,_,_ => by
   obtain ⟨rfl,rfl,rfl⟩ := trodAll_nil h
   exact ⟨[],trivial,VPs.nil'⟩
 | t :: ts,vs,ds,ps,h,hok,hv,hw => by
   obtain ⟨v,vs,d,ds,p,q,rfl,rfl,rfl,h1,h2⟩ := trodAll_cons h
   obtain ⟨pvs,k1,k2⟩ := zl1 hl ts vs ds q h2 (fun j t v a b => hok (j + 1) t v (by simpa using a) (by simpa using b)) (fun t ht => hv t (.tail _ ht)) (fun k hk => hw k (by unfold DataW.weightsEach; exact List.mem_append_right _ hk))
   obtain ⟨n,hn⟩ := h1
   have hokv := hok 0 t v rfl rfl
   have hw0 : ∀ k ∈ d.weights P t,k ≤ reachBytes := fun k hk => hw k (by unfold DataW.weightsEach; exact List.mem_append_left _ hk)
   have hvt := hv t (.head _)
   have single : zou ((P.underlying t).getD .bool) = false → ∃ pv,WTV P t pv ∧ VP (znr W) W pv v := fun ha => by
    have hc : Cell.okWide P W .any base t v := by
     unfold Value.okWide at hokv
     cases hu : P.underlying t with
     | none => rw [hu] at hokv; exact hokv
     | some d => rw [hu] at hokv ha; cases d <;> first | exact hokv | (cases ha; done)
    have hone : v.cells.toList = [v] := by
     cases v <;> first | rfl | (exfalso; unfold Cell.okWide at hc; cases hu : P.underlying t with | none => (rw [hu] at hc; simp [Cell.ok,hu] at hc) | some d => (rw [hu] at hc; cases d <;> simp [Cell.ok,hu] at hc))
    rw [hone] at hn
    obtain ⟨pv,a1,a2⟩ := dec hl n t [v] _ true hn hvt (fun _ u hu => by
     simp at hu
     subst hu
     exact zih hc) hw0
    have hl1 := a2.1
    obtain ⟨c,rfl⟩ := List.length_eq_one_iff.1 (show pv.length = 1 by simpa using hl1.symm)
    exact ⟨c,⟨n,by rw [ha]; exact a1⟩,a2.2 0 c v rfl rfl⟩
   have agg : zou ((P.underlying t).getD .bool) = true → ∃ pv,WTV P t pv ∧ VP (znr W) W pv v := fun ha => by
    have hc : ∃ cs,v = .agg cs ∧ cs.size = P.cellsOf t ∧ Row.okWide P W .any base t cs := by
     unfold Value.okWide at hokv
     cases hu : P.underlying t with
     | none => rw [hu] at ha; cases ha
     | some d => rw [hu] at hokv ha; cases d <;> first | exact hokv | (cases ha; done)
    obtain ⟨cs,rfl,_,ts',_,_,hcell⟩ := hc
    obtain ⟨pv,a1,a2⟩ := dec hl n t cs.toList _ true hn hvt (fun _ u hu => by
     obtain ⟨i,hi⟩ := List.getElem?_of_mem hu
     obtain ⟨u',_,hk⟩ := hcell i u (by rw [← hay]; exact hi)
     exact zih hk) hw0
    refine ⟨.agg pv,⟨n,by rw [ha]; exact ⟨pv,rfl,a1⟩⟩,?_⟩
    have := VP.agg' a2
    simpa using this
   obtain ⟨pv,a1,a2⟩ : ∃ pv,WTV P t pv ∧ VP (znr W) W pv v := by
    cases ha : zou ((P.underlying t).getD .bool) with
    | true => exact agg ha
    | false => exact single ha
   exact ⟨pv :: pvs,⟨a1,k1⟩,VPs.append (a := [pv]) (x := [v]) (.one a2) k2⟩
theorem zj0 (hl : laidOutB P = true) {W' : World} (hb : Below W.heap.size W W') {sp : Nat → Bool} : ∀ (ts : List TypeId) (vs : List Value) (ds : List (DataW H)) (ps : List MemPlace),DataW.TrodAll enc P W 0 (fun _ => true) true ts vs ds ps →
  (∀ t ∈ ts,isVar P t = true ∧ P.readableRec t = true) → (∀ p ∈ ps,p.block < W.heap.size ∧ sp p.block = true) → DataW.TrodAll enc P W' 0 sp true ts vs ds ps
 | [],vs,ds,ps,h,_,_ => by
   obtain ⟨rfl,rfl,rfl⟩ := trodAll_nil h
   exact rfl
 | t :: ts,vs,ds,ps,h,hr,hp => by
   obtain ⟨v,vs,d,ds,p,q,rfl,rfl,rfl,h1,h2⟩ := trodAll_cons h
   refine ⟨p,q,WideElems.Trod_stays hl (hr t (.head _)).2 (zml (hr t (.head _)).1) h1 (fun x hx => hb.same (hp x (List.mem_append_left _ hx)).1) (fun x hx => (hp x (List.mem_append_left _ hx)).2),?_,rfl⟩
   exact zj0 hl hb ts vs ds q h2 (fun t ht => hr t (.tail _ ht)) fun x hx => hp x (List.mem_append_right _ hx)
end
theorem znl {C : Checked} {os : Os} {f : FuncId} {fn : Func} {s : ChangeSpec} {conds : List PathCond} {fresh handsOn : Bool} {H : Type} {enc : TypeId × Value → H} {cfg : Cfg}
  (hP : cfg.P = C.prog) (hT : zib cfg) (hl : laidOutB C.prog = true) (own : ownKnob C.prog.godebug = none) (started : os.Started) (noInit : C.prog.inits.idxOf? f = none) (hfn : C.prog.funcs[f]? = some fn)
  {tb : TypeId} (hres : fn.resultTypes = #[tb]) (htb : C.prog.underlying tb = some .bool) (hpar : (fn.params.toList.all fun t => isVar C.prog t && C.prog.readableRec t) = true)
  (hvars : s.vars = []) (hsp : ∀ (H : Type) (ds : List (DataW H)),ds.length = fn.params.size → s.fn H ds = { results := [.lit (.bool true)],args := ds })
  (witness : ∃ (w : World) (tape : Tape) (i : Input),w.os = os ∧ (w.forCall tape i).Shaped C.prog ∧ i.vars = [] ∧ Input.okWide C.prog (w.forCall tape i) .any w.heap.size f i ∧
   s.pre6 enc C.prog fn conds false (w.forCall tape i).memory i.args ∧ ({} : Assume).holds C.prog (lone (Frame.enter C.prog f i.args .normal) [] (w.forCall tape i)))
  (main : ∀ pvs : List PV,zm5 C.prog fn.params.toList pvs → ∃ σ',ze cfg f pvs .empty = some (.bool true,σ')) :
  ReturnsInHanded {} C os f .any (s.pre6 enc C.prog fn conds false) (s.post enc C.prog fn false fresh handsOn false) := by
 refine returnsInHanded_of_calls own started noInit witness ?_
 intro w tape i _ _ _ hok hpre hholds
 obtain ⟨_,_,_,fn',hfn',_,_,_,_,hval⟩ := hok
 have e : fn' = fn := Option.some.inj (hfn'.symm.trans hfn)
 subst e
 obtain ⟨⟨ds,gs,before,hw,hc⟩,hz⟩ := hpre
 have hwt := hz.weights hw
 have hW := DataW.Whole.of_heap (w' := w.forCall tape i) (by rfl) hw
 generalize w.forCall tape i = W at *
 have hW0 := hW
 obtain ⟨p,q,hA,hV,rfl,hfz,hnd⟩ := hW
 rw [hvars] at hV
 obtain ⟨rfl,rfl⟩ := trodVars_none hV
 simp only [har,haq] at hpar
 have hdl : ∀ (ts : List TypeId) (vs : List Value) (ds : List (DataW H)) (ps : List MemPlace),DataW.TrodAll enc C.prog W 0 (fun _ => true) true ts vs ds ps → ds.length = ts.length := by
  intro ts
  induction ts with
  | nil => intro vs ds ps h; obtain ⟨rfl,rfl,rfl⟩ := trodAll_nil h; rfl
  | cons t ts ih => intro vs ds ps h; obtain ⟨v,vs,d,ds,p,q,rfl,rfl,rfl,h1,h2⟩ := trodAll_cons h; simp [ih _ _ _ h2]
 have hlen : ds.length = fn'.params.size := by simpa using hdl _ _ _ _ hA
 obtain ⟨pvs,k1,k2⟩ := zl1 hl (base := w.heap.size) _ _ _ _ hA (fun j t v a b => hval j t v (by rw [← hay]; exact a) (by rw [← hay]; exact b)) (fun t ht => (hpar t ht).1)
  (fun k hk => by
   have hvt : (OpenSpec.ofChange s).bare.plain.varTypes C.prog = [] := by
    simp [OpenSpec.ofChange,OpenSpec.bare,ChangeSpec.plain,DataSpec.varTypes,hvars]
   rw [hvt,hbj,hbj,har] at hwt
   simpa using hwt k hk)
 obtain ⟨σ',hm⟩ := main pvs k1
 have ok := (zsg (cfg := cfg) hT (by rw [hP]; exact C.mixed)).ok f pvs .empty _ _ hm (fun _ => none) (znr W) W i.args.toList (SR.empty (fun b o h => h) 0) ⟨k2.1,fun i c u a b => .pure (k2.2 i c u a b)⟩ (fun _ _ _ => rfl)
 rw [hP] at ok
 refine ok.mono fun e W' ⟨vc,ρ',F',he,g,s',hv⟩ => ?_
 obtain rfl := hv.bool_inv
 subst he
 have hb : Below W.heap.size W W' := ⟨g.os,g.tape,g.out,g.size,fun k hk => g.frame k hk fun ⟨_,_,_,h,_⟩ => by cases h⟩
 have hlt : ∀ x ∈ p,x.block < W.heap.size := fun x hx => hW0.lt x (by simpa using hx)
 have hp : s.post enc C.prog fn' false fresh handsOn false W i.args (.bool true) W' := by
  refine ⟨ds,[],p ++ [],[],p,[],hW0,?_,?_,?_,hb.frame _,fun h => by cases h⟩
  ·rw [hbj,hsp H ds hlen,hres]
   exact trodAll_mk1 (shut_bool htb true)
  ·rw [hbj,hsp H ds hlen]
   exact zj0 hl hb _ _ _ _ hA hpar fun x hx => ⟨hlt x hx,by simpa using hlt x hx⟩
  ·rw [hvars,hbj,hsp H ds hlen]
   exact rfl
 exact ChangeSpec.post_blind hp
end Go.Pvm
namespace Go.Pvm
def zey : Code → List Code
 | .seq a b | .cond _ a b => zey a ++ zey b
 | .block _ a => zey a
 | .loop a => a :: zey a
 | _ => []
def wd (P : Program) (f n : Nat) : Code := (zey (((P.funcs[f]?).bind (·.body)).getD .skip)).getD n .skip
def mkS (n : Nat) (l : List (Nat × PV)) : List PV := (List.range n).map fun i => (l.lookup i).getD .undef
end Go.Pvm
namespace Go.Pvm
section
variable {β : Type}
theorem zb (κ : IntKind) (n : Int) (k : Int → Option β) : asInt κ (.int κ n) k = k n := by simp [asInt]
theorem zc (b : Bool) (k : Bool → Option β) : asBool (.bool b) k = k b := rfl
theorem ye (s : ByteArray) (k : ByteArray → Option β) : ua (.str s) k = k s := rfl
theorem ya (i : Nat) (e : Nat → Option β) (r : Option β) : zgf (.exit i) e r = e i := rfl
theorem y9 (e : Nat → Option β) (r : Option β) : zgf .ret e r = r := rfl
theorem za {α : Type} (a : α) (f : α → Option β) : (some a).bind f = f a := rfl
theorem zmr (g : FuncId) (cs : List PV) : fnv (.func g cs) = some (g,cs) := rfl
theorem uo (a : PV) (l : List PV) : ka (.tuple (a :: l)) 0 = some a := rfl
theorem un (a b : PV) (l : List PV) : ka (.tuple (a :: b :: l)) 1 = some b := rfl
theorem zv3 (a b c : PV) (l : List PV) : ka (.tuple (a :: b :: c :: l)) 2 = some c := rfl
end
theorem zap {x : Int} (h1 : -9223372036854775808 ≤ x) (h2 : x < 9223372036854775808) : IntKind.wrap .i64 x = x := by
 have e1 : ((2 : Int) ^ IntKind.bits .i64) = 18446744073709551616 := by decide
 have e2 : ((2 : Int) ^ (IntKind.bits .i64 - 1)) = 9223372036854775808 := by decide
 have e3 : IntKind.signed .i64 = true := rfl
 simp only [IntKind.wrap,e1,e2,e3,Bool.true_and,hbw]
 split <;> omega
theorem zk2 {σ : Store} {id sz idx len ro : Nat} {cap : Option Nat} {es : List (List PV)} (ho : σ.objs id = some (.cells ro es)) (h : idx + len ≤ es.length) (n : Nat) :
  fz (n + 1) σ (.lsl id sz idx len cap) = .psl (cap == some len) (((es.drop idx).take len).map fun e => e.map (fz n σ)) := by
 unfold fz
 simp only [ho]
 exact if_pos h
noncomputable def zfv (cfg : Cfg) (f : FuncId) (args : List PV) : Option PV := (ze cfg f args .empty).map fun r => fz zp r.2 r.1
theorem zl8 {cfg : Cfg} {f : FuncId} (hT : cfg.told f = none) {args : List PV} {v : PV} {τ : Store} (h : qa cfg (ze cfg) (y2 cfg) f args .empty = some (v,τ)) {v' : PV} (hf : fz zp τ v = v') : zfv cfg f args = some v' := by
 unfold zfv
 rw [zf hT h]
 exact congrArg some hf
theorem w8 {cfg c2 : Cfg} {f : FuncId} {args args' : List PV} {σ : Store} {v : PV} (hm : c2.mode f = .pure) (he : enters c2.P f = true) (ha : args.map (fz zp σ) = args') (hv : zfv cfg f args' = some v)
  (hs : v.scalar = true ∨ PV.lf.lfs args = true) : zi c2 (ze cfg) f args σ = some (v,σ) := by
 unfold zi qq
 rw [if_pos he,hm]
 simp only
 unfold zfv at hv
 rw [hac] at hv
 obtain ⟨⟨u,τ⟩,h1,h2⟩ := hv
 rw [ha,h1]
 simp only [Option.bind_some] at h2 ⊢
 rw [h2]
 rcases hs with hs | hs
 ·rw [if_pos hs]
 ·by_cases hsc : v.scalar = true
  ·rw [if_pos hsc]
  ·rw [if_neg hsc]
   by_cases hst : c2.strict = true
   ·rw [if_pos hst,if_pos hs]
   ·rw [if_neg hst,topss_lf args hs]
    rfl
theorem zk {cfg c2 : Cfg} {f : FuncId} {args : List PV} {σ : Store} (hm : c2.mode f = .live) (he : enters c2.P f = true) : zi c2 (ze cfg) f args σ = ze cfg f args σ := by
 unfold zi qq
 rw [if_pos he,hm]
theorem zq8 {cfg c2 : Cfg} {f : FuncId} {args args' : List PV} {σ τ : Store} {v : PV} (hm : c2.mode f = .own) (he : enters c2.P f = true) (ha : args.map (fz zp σ) = args') (hv : ze cfg f args' (.at_ σ.next) = some (v,τ))
  (ho : v.own = true) (hoo : qu τ σ.next = true) : zi c2 (ze cfg) f args σ = some (v,σ.join τ) := by
 unfold zi qq
 rw [if_pos he,hm]
 simp only
 rw [ha,hv]
 simp only [Option.bind_some,ho,hoo,Bool.and_self,if_true]
theorem zlg {cfg c2 : Cfg} {f : FuncId} {args : List PV} {σ τ : Store} {v : PV} (hm : c2.mode f = .blind) (he : enters c2.P f = true) (hv : ze cfg f args .empty = some (v,τ)) (h0 : τ.next = 0) : zi c2 (ze cfg) f args σ = some (v,σ) := by
 unfold zi qq
 rw [if_pos he,hm]
 simp only
 rw [hv]
 simp only [Option.bind_some,h0,if_true]
structure El (P : Program) (el : TypeId) (sz by_ : Nat) : Prop where
 hsz : qk P el = some sz
 hby : zmy P el = some by_
 z : ∃ z,jc P el = some z ∧ z.known = true ∧ z.cells.length = sz
 pos : sz ≠ 0 ∧ by_ ≠ 0
section
variable {P : Program} {σ : Store} {el : TypeId} {sz by_ : Nat} {x : PV} {new es : List (List PV)} {id ro idx len : Nat}
theorem xf (E : El P el sz by_) (hx : xo σ x = some new) (ha : all1 sz new = true) (s : PV) : xz P σ el s x = (match s with
 | .nilsl => if new.length = 0 then some (.nilsl,σ) else
   if new.length * by_ ≤ 140737488355328 then some (.lsl σ.next sz 0 new.length none,σ.push (.cells 0 new)) else none
 | .psl full es => if new.length = 0 then some (.psl full es,σ) else
   if full = true then
    (if (es.length + new.length) * by_ ≤ 140737488355328 then
     (if (es.all fun e => e.length == sz) = true then some (.lsl σ.next sz 0 (es.length + new.length) none,σ.push (.cells 0 (es ++ new))) else none)
    else none)
   else none
 | .lsl id sz' idx len cap => if new.length = 0 then some (.lsl id sz' idx len cap,σ) else
   if sz' ≠ sz then none else
   match σ.objs id with
   | some (.cells ro es) =>
     if idx + len + new.length ≤ es.length ∧ len + new.length ≤ cap.getD (len + new.length) then
      (if ro ≤ idx + len then some (.lsl id sz idx (len + new.length) cap,σ.put id (.cells ro (es.take (idx + len) ++ new ++ es.drop (idx + len + new.length)))) else none)
     else if idx + len ≤ es.length then
      (if (len + new.length) * by_ ≤ 140737488355328 then
       (match cap with
       | some c => if c < len + new.length then
         some (.lsl σ.next sz 0 (len + new.length) none,σ.push (.cells 0 ((es.drop idx).take len ++ new))) else none
       | none => if ro ≤ idx + len then some (.lsl σ.next sz 0 (len + new.length) none,(σ.kill id).push (.cells (ro - idx) ((es.drop idx).take len ++ new))) else none)
      else none)
     else none
   | _ => none
 | _ => none) := by
 obtain ⟨z,hz,hk,hl⟩ := E.z
 unfold xz
 simp only [E.hsz,E.hby,hz,hx,Option.bind_some]
 rw [if_neg (by rw [hk,hl]; simp [E.pos.1,E.pos.2]),if_neg (by rw [ha]; decide)]
 cases s <;> rfl
theorem wl (E : El P el sz by_) (hx : xo σ x = some new) (ha : all1 sz new = true) (hn : new ≠ []) (ho : σ.objs id = some (.cells ro es)) (hi : idx + len ≤ es.length) (hb : (len + new.length) * by_ ≤ 140737488355328) :
  xz P σ el (.lsl id sz idx len (some len)) x = some (.lsl σ.next sz 0 (len + new.length) none,σ.push (.cells 0 ((es.drop idx).take len ++ new))) := by
 have h0 : 0 < new.length := List.length_pos_iff.2 hn
 rw [xf E hx ha]
 simp only [ho]
 rw [if_neg (by omega),if_neg (by simp),if_neg (by simp only [Option.getD_some]; omega),if_pos hi,if_pos hb,if_pos (by omega)]
theorem zjx (E : El P el sz by_) (hx : xo σ x = some new) (ha : all1 sz new = true) (hn : new ≠ []) (ho : σ.objs id = some (.cells ro es)) (hi : idx + len = es.length) (hr : ro ≤ idx + len) (hb : (len + new.length) * by_ ≤ 140737488355328) :
  xz P σ el (.lsl id sz idx len none) x = some (.lsl σ.next sz 0 (len + new.length) none,(σ.kill id).push (.cells (ro - idx) ((es.drop idx).take len ++ new))) := by
 have h0 : 0 < new.length := List.length_pos_iff.2 hn
 rw [xf E hx ha]
 simp only [ho]
 rw [if_neg (by omega),if_neg (by simp),if_neg (by omega),if_pos (by omega),if_pos hb,if_pos hr]
theorem wj (E : El P el sz by_) (hx : xo σ x = some []) {cap : Option Nat} : xz P σ el (.lsl id sz idx len cap) x = some (.lsl id sz idx len cap,σ) := by
 rw [xf E hx rfl]
 rfl
theorem zb0 (E : El P el sz by_) (hx : xo σ x = some new) (ha : all1 sz new = true) (hn : new ≠ []) (hb : new.length * by_ ≤ 140737488355328) :
  xz P σ el .nilsl x = some (.lsl σ.next sz 0 new.length none,σ.push (.cells 0 new)) := by
 have h0 : 0 < new.length := List.length_pos_iff.2 hn
 rw [xf E hx ha]
 simp only
 rw [if_neg (by omega),if_pos hb]
theorem j5 {t u e2 : TypeId} (ht : P.underlying t = some (.slice el)) (hu : P.underlying u = some (.slice e2)) (hs : zdy x = false) (s : PV) : y7 P σ .append [t,u] [s,x] = xz P σ el s x := by
 simp only [y7,ht,hu]
 cases x <;> first | rfl | cases hs
end
theorem zt0 {P : Program} {t : TypeId} {k : IntKind} {v : PV} (ht : P.underlying t = some (.int k)) (h : WTV P t v) : ∃ x,v = .int k x ∧ k.min ≤ x ∧ x ≤ k.max := by
 obtain ⟨n,h⟩ := h
 rw [ht] at h
 simp only [Option.getD_some,zou] at h
 cases n with
 | zero => exact h.elim
 | succ n =>
   unfold WT at h
   rw [ht] at h
   obtain ⟨x,h1,h2⟩ := h
   exact ⟨x,by simpa using h1,h2⟩
theorem zv0 {P : Program} {top : Bool} {n : Nat} {t : TypeId} {k : IntKind} {cs : List PV} (ht : P.underlying t = some (.int k)) (h : WT P top n t cs) : ∃ x,cs = [.int k x] ∧ k.min ≤ x ∧ x ≤ k.max := by
 cases n with
 | zero => exact h.elim
 | succ n => unfold WT at h; rw [ht] at h; exact h
theorem zoy {P : Program} {top : Bool} {n : Nat} {t : TypeId} {fs : Array Field} {cs : List PV} (ht : P.underlying t = some (.struct fs)) (h : WT P top n t cs) : ∃ m,∃ parts : List (List PV),cs = parts.flatten ∧ parts.length = fs.size ∧ ∀ (i : Nat) (f : Field) (p : List PV),fs[i]? = some f → parts[i]? = some p → p.length = P.cellsOf f.type ∧ WT P top m f.type p := by
 cases n with
 | zero => exact h.elim
 | succ n => unfold WT at h; rw [ht] at h; exact ⟨n,h⟩
end Go.Pvm
namespace Go.Pvm
theorem zn (σ : Store) (o : Obj) : (σ.push o).objs σ.next = some o := by simp [Store.push]
theorem yj {σ : Store} {o : Obj} {i : Nat} (h : i < σ.next) : (σ.push o).objs i = σ.objs i := by
 show (if i = σ.next then _ else _) = _
 rw [if_neg (by omega)]
theorem zpu (σ : Store) (o : Obj) : (σ.push o).next = σ.next + 1 := rfl
theorem xa (σ : Store) (id : Nat) (o : Obj) : (σ.put id o).objs id = some o := by simp [Store.put]
theorem yb {σ : Store} {id i : Nat} {o : Obj} (h : i ≠ id) : (σ.put id o).objs i = σ.objs i := by simp [Store.put,h]
theorem zp3 : ((0 : Nat) : Int) = 0 := rfl
theorem y6 {i : Nat} (h : i < 4611686018427387904) : IntKind.wrap .i64 (((i : Nat) : Int) + 1) = ((i + 1 : Nat) : Int) := by rw [zap (by omega) (by omega)]; rfl
theorem ltN {i n : Nat} (h : i < n) : decide (((i : Nat) : Int) < ((n : Nat) : Int)) = true := by simp; omega
theorem zzr {i n : Nat} (h : n ≤ i) : decide (((i : Nat) : Int) < ((n : Nat) : Int)) = false := by simp; omega
def PV.plain : PV → Bool
 | .bool _ | .int .. | .float .. | .str _ | .nilptr | .nilsl | .psl .. | .pref _ | .nilmap | .nilfunc | .niliface => true
 | _ => false
theorem zsx {v : PV} (h : v.plain = true) (n : Nat) (σ : Store) : fz (n + 1) σ v = v := by cases v <;> first | rfl | cases h
theorem vo {e : List PV} (h : ∀ c ∈ e,c.plain = true) (n : Nat) (σ : Store) : e.map (fz (n + 1) σ) = e := by
 induction e with
 | nil => rfl
 | cons c e ih => rw [List.map_cons,zsx (h c (.head _)),ih fun c hc => h c (.tail _ hc)]
theorem zhi {v : PV} (h : v.plain = true) : v.lf = true := by cases v <;> first | rfl | cases h
theorem ze0 {e : List PV} (h : ∀ c ∈ e,c.plain = true) : PV.lf.lfs e = true := by
 induction e with
 | nil => rfl
 | cons c e ih => simp [PV.lf.lfs,zhi (h c (.head _)),ih fun c hc => h c (.tail _ hc)]
def Plain (es : List (List PV)) : Prop := ∀ e ∈ es,∀ c ∈ e,c.plain = true
theorem Plain.fz {es : List (List PV)} (h : Plain es) (n : Nat) (σ : Store) : es.map (fun e => e.map (fz (n + 1) σ)) = es := by
 induction es with
 | nil => rfl
 | cons e es ih => rw [List.map_cons,vo (h e (.head _)),ih fun e he => h e (.tail _ he)]
theorem Plain.lf {es : List (List PV)} (h : Plain es) : (es.all fun e => PV.lf.lfs e) = true := by
 rw [har]
 exact fun e he => ze0 (h e he)
def Lf (σ : Store) (id : Nat) : Prop := ∃ ro es,σ.objs id = some (.cells ro es) ∧ (es.all fun e => PV.lf.lfs e) = true
def IsP (v : PV) (es : List (List PV)) : Prop := (v = .nilsl ∧ es = []) ∨ ∃ b,v = .psl b es
def IsQ (σ : Store) (sz : Nat) (v : PV) (es : List (List PV)) : Prop :=
 IsP v es ∨ ∃ id idx cap ro full,v = .lsl id sz idx es.length cap ∧ σ.objs id = some (.cells ro full) ∧ idx + es.length ≤ full.length ∧ (full.drop idx).take es.length = es ∧ id < σ.next
theorem IsP.q {v : PV} {es : List (List PV)} (h : IsP v es) {σ : Store} {sz : Nat} : IsQ σ sz v es := .inl h
section
variable {P : Program} {σ τ : Store} {t el : TypeId} {sz : Nat} {v : PV} {es : List (List PV)}
theorem IsQ.len (hu : P.underlying t = some (.slice el)) (h : IsQ σ sz v es) : jd P .len [t] [v] = some (.int .i64 (es.length : Nat)) := by
 rcases h with (⟨rfl,rfl⟩ | ⟨b,rfl⟩) | ⟨id,idx,cap,ro,full,rfl,_⟩ <;> simp [jd,hu]
theorem IsP.idx (hu : P.underlying t = some (.slice el)) (hs : qk P el = some sz) (h : IsP v es) {i : Nat} {e : List PV} (hi : es[i]? = some e) (he : e.length = sz) (κ : IntKind) : zh P t v (.int κ (i : Nat)) = some (.pref e) := by
 rcases h with ⟨rfl,rfl⟩ | ⟨b,rfl⟩
 ·simp at hi
 ·have hn : (0 : Int) ≤ ((i : Nat) : Int) := by omega
  simp [zh,uq,hu,hs,hi,he]
theorem IsQ.frz (h : IsQ σ sz v es) (hp : Plain es) (n : Nat) : IsP (fz (n + 2) σ v) es := by
 rcases h with (⟨rfl,rfl⟩ | ⟨b,rfl⟩) | ⟨id,idx,cap,ro,full,rfl,h2,h3,h4,h5⟩
 ·exact .inl ⟨rfl,rfl⟩
 ·exact .inr ⟨b,rfl⟩
 ·refine .inr ⟨cap == some es.length,?_⟩
  rw [zk2 h2 h3 (n + 1),h4,hp.fz]
theorem IsP.frz (h : IsP v es) (n : Nat) (σ : Store) : fz (n + 1) σ v = v := by rcases h with ⟨rfl,rfl⟩ | ⟨b,rfl⟩ <;> rfl
theorem IsP.plain (h : IsP v es) : v.plain = true := by rcases h with ⟨rfl,rfl⟩ | ⟨b,rfl⟩ <;> rfl
theorem IsP.tops (h : IsP v es) : tops v = [] := by rcases h with ⟨rfl,rfl⟩ | ⟨b,rfl⟩ <;> rfl
theorem IsQ.elems (h : IsQ σ sz v es) : xo σ v = some es := by
 rcases h with (⟨rfl,rfl⟩ | ⟨b,rfl⟩) | ⟨id,idx,cap,ro,full,rfl,h2,h3,h4,h5⟩
 ·rfl
 ·rfl
 ·simp only [xo,h2]
  rw [if_pos h3,h4]
theorem IsQ.nostr (h : IsQ σ sz v es) : zdy v = false := by rcases h with (⟨rfl,rfl⟩ | ⟨b,rfl⟩) | ⟨id,idx,cap,ro,full,rfl,_⟩ <;> rfl
theorem IsQ.idx (hu : P.underlying t = some (.slice el)) (hs : qk P el = some sz) (h : IsQ σ sz v es) {i : Nat} {e : List PV} (hi : es[i]? = some e) (he : e.length = sz) (κ : IntKind) :
  ∃ a,zh P t v (.int κ (i : Nat)) = some a ∧ ((∃ r,a = .pref r) ∨ ∃ id k,a = .ref id k 0) ∧ ∀ t',zd P σ t' a = xl P t' e 0 := by
 rcases h with h | ⟨id,idx,cap,ro,full,rfl,h2,h3,h4,h5⟩
 ·exact ⟨_,h.idx hu hs hi he κ,.inl ⟨_,rfl⟩,fun t' => rfl⟩
 ·have hlt : i < es.length := (had.1 hi).1
  have hn : (0 : Int) ≤ ((i : Nat) : Int) ∧ ((i : Nat) : Int) < (es.length : Nat) ∧ sz = sz := ⟨by omega,by omega,rfl⟩
  refine ⟨.ref id (idx + i) 0,?_,.inr ⟨_,_,rfl⟩,fun t' => ?_⟩
  ·simp only [zh,uq,hu,hs,Option.bind_some]
   rw [if_pos ⟨hn.1,hn.2.1,trivial⟩,hax]
  ·have hg : full[idx + i]? = some e := by
    have hq : ((full.drop idx).take es.length)[i]? = es[i]? := by rw [h4]
    rw [List.getElem?_take,if_pos hlt,hbp] at hq
    rw [hq,hi]
   simp only [zd,h2,hg,Option.bind_some]
theorem IsP.cut (hu : P.underlying t = some (.slice el)) (hs : qk P el = some sz) (h : IsP v es) (he : ∀ e ∈ es,e.length = sz) {lo hi : Option PV} {l k : Nat} (hl : xi lo 0 = some l) (hh : xi hi es.length = some k) (h1 : l ≤ k) (h2 : k ≤ es.length) :
  ∃ v',zai P t v lo hi none = some v' ∧ IsP v' ((es.drop l).take (k - l)) := by
 rcases h with ⟨rfl,rfl⟩ | ⟨b,rfl⟩
 ·have hk : k = 0 := by simpa using h2
  subst hk
  have hl0 : l = 0 := by omega
  subst hl0
  have hh' : xi hi 0 = some 0 := hh
  refine ⟨.nilsl,?_,.inl ⟨rfl,by simp⟩⟩
  simp only [zai,hu,hs,Option.bind_some,hh',hl]
  rw [if_neg (by simp)]
  rfl
 ·have hall : (es.all fun e => e.length == sz) = true := by
   rw [har]; intro e h; simpa using he e h
  refine ⟨.psl (b && decide (k = es.length)) ((es.drop l).take (k - l)),?_,.inr ⟨_,rfl⟩⟩
  have hm : xi none es.length = some es.length := rfl
  simp only [zai,hu,hs,Option.bind_some,hh,hl,hm]
  rw [if_neg (by simp),if_pos ⟨h1,h2,hah _,hall⟩]
  rfl
theorem x8 (κ : IntKind) (n d : Nat) : xi (some (.int κ (n : Nat))) d = some n := by simp [xi]
theorem zgg (d : Nat) : xi none d = some d := rfl
end
def Mod (σ τ : Store) (ids : List Nat) : Prop := σ.next ≤ τ.next ∧ ∀ i,i < σ.next → i ∉ ids → τ.objs i = σ.objs i
theorem Mod.refl (σ : Store) (ids : List Nat) : Mod σ σ ids := ⟨hah _,fun _ _ _ => rfl⟩
theorem Mod.push (σ : Store) (o : Obj) (ids : List Nat) : Mod σ (σ.push o) ids := ⟨hbd _,fun i h _ => yj h⟩
theorem Mod.put {σ : Store} {id : Nat} {o : Obj} {ids : List Nat} (h : id ∈ ids) : Mod σ (σ.put id o) ids := ⟨hah _,fun i _ hi => yb fun e => hi (e ▸ h)⟩
theorem Mod.kill {σ : Store} {id : Nat} {ids : List Nat} (h : id ∈ ids) : Mod σ (σ.kill id) ids := ⟨hah _,fun i _ hi => by
 show (if i = id then none else σ.objs i) = _
 rw [if_neg (by rintro rfl; exact hi h)]⟩
theorem Mod.trans {σ τ υ : Store} {a b : List Nat} (h : Mod σ τ a) (h' : Mod τ υ b) : Mod σ υ (a ++ b) :=
 ⟨haz h.1 h'.1,fun i hi hn => by
  rw [h'.2 i (hao hi h.1) fun k => hn (List.mem_append_right _ k),h.2 i hi fun k => hn (List.mem_append_left _ k)]⟩
theorem Mod.mono {σ τ : Store} {a b : List Nat} (h : Mod σ τ a) (hs : ∀ i,i < σ.next → i ∈ a → i ∈ b) : Mod σ τ b := ⟨h.1,fun i hi hn => h.2 i hi fun k => hn (hs i hi k)⟩
theorem Mod.trans' {σ τ υ : Store} {a b : List Nat} (h : Mod σ τ a) (h' : Mod τ υ b) (hs : ∀ i ∈ b,i ∈ a ∨ σ.next ≤ i) : Mod σ υ a :=
 (h.trans h').mono fun i hi hm => (hbn.1 hm).elim id fun k => (hs i k).elim id fun e => absurd hi (by omega)
def Ap (σ : Store) (sz : Nat) (v : PV) (es : List (List PV)) : Prop :=
 (v = .nilsl ∧ es = []) ∨ v = .psl true es ∨ ∃ id idx cap ro full,v = .lsl id sz idx es.length cap ∧ σ.objs id = some (.cells ro full) ∧ idx + es.length ≤ full.length ∧ (full.drop idx).take es.length = es ∧
  ((cap = none ∧ idx + es.length = full.length ∧ ro ≤ full.length) ∨ cap = some es.length) ∧ id < σ.next
section
variable {P : Program} {σ τ : Store} {t el : TypeId} {sz by_ : Nat} {u x : PV} {es new : List (List PV)}
theorem Ap.q (h : Ap σ sz u es) : IsQ σ sz u es := by
 rcases h with ⟨rfl,rfl⟩ | rfl | ⟨id,idx,cap,ro,full,h1,h2,h3,h4,h5⟩
 ·exact .inl (.inl ⟨rfl,rfl⟩)
 ·exact .inl (.inr ⟨_,rfl⟩)
 ·exact .inr ⟨id,idx,cap,ro,full,h1,h2,h3,h4,h5.2⟩
theorem IsQ.mod (h : IsQ σ sz u es) {ids : List Nat} (m : Mod σ τ ids) (hd : ∀ i ∈ tops u,i ∉ ids) : IsQ τ sz u es := by
 rcases h with h | ⟨id,idx,cap,ro,full,rfl,h2,h3,h4,h6⟩
 ·exact .inl h
 ·exact .inr ⟨id,idx,cap,ro,full,rfl,(m.2 id h6 (hd id (.head _))).trans h2,h3,h4,hao h6 m.1⟩
end
theorem zt1 {P : Program} {top : Bool} {n : Nat} {t : TypeId} {cs : List PV} (ht : P.underlying t = some .bool) (h : WT P top n t cs) : ∃ x,cs = [.bool x] := by
 cases n with
 | zero => exact h.elim
 | succ n => unfold WT at h; rw [ht] at h; exact h
end Go.Pvm
namespace Go.Pvm
def Els (sz : Nat) (es : List (List PV)) : Prop := ∀ e ∈ es,e.length = sz ∧ ∀ c ∈ e,c.plain = true
theorem Els.plain {sz : Nat} {es : List (List PV)} (h : Els sz es) : Plain es := fun e he => (h e he).2
theorem Els.len {sz : Nat} {es : List (List PV)} (h : Els sz es) : ∀ e ∈ es,e.length = sz := fun e he => (h e he).1
theorem wx {v : PV} (h : v.plain = true) : v.one = true := by cases v <;> first | rfl | cases h
theorem ww {e : List PV} (h : ∀ c ∈ e,c.plain = true) : e.all PV.one = true := by
 rw [har]
 exact fun c hc => wx (h c hc)
theorem Els.all1 {sz : Nat} {es : List (List PV)} (h : Els sz es) : all1 sz es = true := by
 unfold Pvm.all1
 rw [har]
 intro e he
 simp [(h e he).1,ww (h e he).2]
theorem zl7 (σ : Store) (o o' : Obj) : (σ.push o).put σ.next o' = σ.push o' := by
 unfold Store.push Store.put
 congr 1
 funext i
 by_cases h : i = σ.next <;> simp [h]
theorem zel (σ : Store) (id : Nat) (o o' : Obj) : (σ.put id o).put id o' = σ.put id o' := by
 unfold Store.put
 congr 1
 funext i
 by_cases h : i = id <;> simp [h]
section
variable {P : Program} {σ : Store} {t : TypeId} {n : Nat} {e : List PV}
def AggT (P : Program) (t : TypeId) (n : Nat) : Prop := qk P t = some n ∧ ∃ d,P.underlying t = some d ∧ zou d = true
def OneT (P : Program) (t : TypeId) : Prop := qk P t = some 1 ∧ ∃ d,P.underlying t = some d ∧ zou d = false
theorem AggT.of (h : qk P t = some n) (h2 : (P.underlying t).map zou = some true) : AggT P t n := by
 rw [hac] at h2
 exact ⟨h,h2⟩
theorem OneT.of (h : qk P t = some 1) (h2 : (P.underlying t).map zou = some false) : OneT P t := by
 rw [hac] at h2
 exact ⟨h,h2⟩
theorem AggT.part (h : AggT P t n) (he : e.length = n) : xl P t e 0 = some (.agg e) := by
 obtain ⟨h1,d,h2,h3⟩ := h
 simp only [xl,h1,h2,h3,if_true,Option.bind_some,hb4,ha8]
 rw [if_pos (by omega),hbi (by omega)]
theorem OneT.part (h : OneT P t) (off : Nat) : xl P t e off = e[off]? := by
 obtain ⟨h1,d,h2,h3⟩ := h
 simp only [xl,h1,h2,h3,Bool.false_eq_true,if_false,Option.bind_some]
theorem zmc {cs new : List PV} (h : new.length = cs.length) : over cs 0 new = new := by
 unfold over
 simp [h]
theorem zne (h : qk P t = some n) {z : List PV} (hz : z.length = n) {v : PV} (hv : v.cells.length = n) (ho : v.cells.all PV.one = true) : zu P (σ.push (.cells 0 [z])) t (.ref σ.next 0 0) v = some (σ.push (.cells 0 [v.cells])) := by
 simp only [zu,zn,List.getElem?_cons_zero,Option.bind_some,h]
 rw [if_pos ⟨hv,by omega,ho,hah _⟩,zl7,zmc (by omega)]
 rfl
theorem zxb (off : Nat) : zd P (σ.push (.cells 0 [e])) t (.ref σ.next 0 off) = xl P t e off := by
 simp only [zd,zn,List.getElem?_cons_zero,Option.bind_some]
theorem znz {id k off ro : Nat} {es : List (List PV)} (ho : σ.objs id = some (.cells ro es)) (hk : es[k]? = some e) : zd P σ t (.ref id k off) = xl P t e off := by
 simp only [zd,ho,hk,Option.bind_some]
theorem zyg {id k ro : Nat} {es : List (List PV)} (h : qk P t = some n) (ho : σ.objs id = some (.cells ro es)) (hr : ro ≤ k) (hk : es[k]? = some e) (he : e.length = n) {v : PV} (hv : v.cells.length = n) (h1 : v.cells.all PV.one = true) :
  zu P σ t (.ref id k 0) v = some (σ.put id (.cells ro (es.set k v.cells))) := by
 simp only [zu,ho,hk,h,Option.bind_some]
 rw [if_pos ⟨hv,by omega,h1,hr⟩,zmc (by omega)]
theorem zlu {id k off ro : Nat} {es : List (List PV)} (h : qk P t = some n) (ho : σ.objs id = some (.cells ro es)) (hr : ro ≤ k) (hk : es[k]? = some e) {v : PV} (hv : v.cells.length = n) (he : off + n ≤ e.length) (h1 : v.cells.all PV.one = true) :
  zu P σ t (.ref id k off) v = some (σ.put id (.cells ro (es.set k (over e off v.cells)))) := by
 simp only [zu,ho,hk,h,Option.bind_some]
 rw [if_pos ⟨hv,he,h1,hr⟩]
theorem zmn {el : TypeId} {sz id idx len i : Nat} {cap : Option Nat} (hu : P.underlying t = some (.slice el)) (hs : qk P el = some sz) (hi : i < len) (κ : IntKind) : zh P t (.lsl id sz idx len cap) (.int κ (i : Nat)) = some (.ref id (idx + i) 0) := by
 simp only [zh,uq,hu,hs,Option.bind_some]
 rw [if_pos ⟨by omega,by omega,trivial⟩,hax]
theorem zhj {el : TypeId} (hu : P.underlying t = some (.slice el)) (id sz idx len : Nat) (cap : Option Nat) : jd P .len [t] [.lsl id sz idx len cap] = some (.int .i64 (len : Nat)) := by simp [jd,hu]
theorem zh1 {el : TypeId} {sz id idx len a b : Nat} {cap : Option Nat} {lo hi : Option PV} (hu : P.underlying t = some (.slice el)) (hs : qk P el = some sz) (hl : xi lo 0 = some a) (hh : xi hi len = some b) (h1 : a ≤ b) (h2 : b ≤ len) (h3 : ∀ c,cap = some c → len ≤ c) :
  zai P t (.lsl id sz idx len cap) lo hi none = some (.lsl id sz (idx + a) (b - a) (cap.map (· - a))) := by
 have hm : xi none (cap.getD len) = some (cap.getD len) := rfl
 simp only [zai,hu,hs,Option.bind_some,hl,hh,hm]
 have hb : b ≤ cap.getD len := by
  cases cap with
  | none => exact h2
  | some c => exact haz h2 (h3 c rfl)
 rw [if_neg (by simp),if_neg (by simp),if_pos ⟨h1,hb,hah _⟩]
 rfl
theorem zq5 {el : TypeId} {sz id idx len ro : Nat} {cap : Option Nat} {es : List (List PV)} {z : PV} (hu : P.underlying t = some (.slice el)) (hs : qk P el = some sz) (hp : sz ≠ 0) (hz : jc P el = some z) (hk : z.known = true) (hl : z.cells.length = sz) (h1 : z.cells.all PV.one = true)
  (ho : σ.objs id = some (.cells ro es)) (hi : idx + len ≤ es.length) (hr : ro ≤ idx) :
  y7 P σ .clear [t] [.lsl id sz idx len cap] = some (.tuple [],σ.put id (.cells ro (es.take idx ++ List.replicate len z.cells ++ es.drop (idx + len)))) := by
 simp only [y7,hu,zbd,hs,hz,Option.bind_some,ho]
 rw [if_neg (by simp [hp,hk,hl,h1]),if_neg (by simp),if_pos ⟨hi,hr⟩]
end
theorem zxq {σ : Store} {id ro : Nat} {e : List PV} (ho : σ.objs id = some (.cells ro [e])) (hp : ∀ c ∈ e,c.plain = true) (n : Nat) : fz (n + 2) σ (.ref id 0 0) = .pref e := by
 rw [show n + 2 = (n + 1) + 1 from rfl]
 unfold fz
 simp only [ho,List.getElem?_cons_zero,ha8]
 rw [vo hp]
end Go.Pvm
namespace Go.Pvm
inductive All2 {α β : Type} (R : α → β → Prop) : List α → List β → Prop
 | nil : All2 R [] []
 | cons {a : α} {b : β} {as : List α} {bs : List β} (h : R a b) (t : All2 R as bs) : All2 R (a :: as) (b :: bs)
namespace All2
variable {α β γ : Type} {R : α → β → Prop} {as as' : List α} {bs bs' : List β}
theorem len (h : All2 R as bs) : as.length = bs.length := by
 induction h with
 | nil => rfl
 | cons _ _ ih => simp [ih]
theorem app (h : All2 R as bs) (h' : All2 R as' bs') : All2 R (as ++ as') (bs ++ bs') := by
 induction h with
 | nil => exact h'
 | cons h _ ih => exact .cons h ih
theorem one {a : α} {b : β} (h : R a b) : All2 R [a] [b] := .cons h .nil
theorem get (h : All2 R as bs) : ∀ {i : Nat} {b : β},bs[i]? = some b → ∃ a,as[i]? = some a ∧ R a b := by
 induction h with
 | nil => intro i b e; simp at e
 | cons h _ ih =>
   intro i b e
   cases i with
   | zero => simp at e; subst e; exact ⟨_,rfl,h⟩
   | succ i => exact ih (by simpa using e)
theorem get' (h : All2 R as bs) : ∀ {i : Nat} {a : α},as[i]? = some a → ∃ b,bs[i]? = some b ∧ R a b := by
 induction h with
 | nil => intro i b e; simp at e
 | cons h _ ih =>
   intro i b e
   cases i with
   | zero => simp at e; subst e; exact ⟨_,rfl,h⟩
   | succ i => exact ih (by simpa using e)
theorem drop (h : All2 R as bs) : ∀ n,All2 R (as.drop n) (bs.drop n) := by
 induction h with
 | nil => intro n; simpa using All2.nil
 | cons h t ih =>
   intro n
   cases n with
   | zero => exact .cons h t
   | succ n => exact ih n
theorem take (h : All2 R as bs) : ∀ n,All2 R (as.take n) (bs.take n) := by
 induction h with
 | nil => intro n; simpa using All2.nil
 | cons h t ih =>
   intro n
   cases n with
   | zero => exact .nil
   | succ n => exact .cons h (ih n)
theorem set (h : All2 R as bs) {a : α} {b : β} (hab : R a b) : ∀ n,All2 R (as.set n a) (bs.set n b) := by
 induction h with
 | nil => intro n; exact .nil
 | cons h t ih =>
   intro n
   cases n with
   | zero => exact .cons hab t
   | succ n => exact .cons h (ih n)
theorem mem (h : All2 R as bs) {a : α} (ha : a ∈ as) : ∃ b ∈ bs,R a b := by
 induction h with
 | nil => cases ha
 | cons h _ ih =>
   rcases ha6.1 ha with rfl | ha
   ·exact ⟨_,.head _,h⟩
   ·obtain ⟨b,hb,r⟩ := ih ha
    exact ⟨b,.tail _ hb,r⟩
theorem mono {S : α → β → Prop} (h : All2 R as bs) (hs : ∀ a b,R a b → S a b) : All2 S as bs := by
 induction h with
 | nil => exact .nil
 | cons h _ ih => exact .cons (hs _ _ h) ih
theorem ofMap {f : β → α} (l : List β) : All2 (fun a b => a = f b) (l.map f) l := by
 induction l with
 | nil => exact .nil
 | cons a l ih => exact .cons rfl ih
theorem toMap {f : β → α} (h : All2 (fun a b => a = f b) as bs) : as = bs.map f := by
 induction h with
 | nil => rfl
 | cons h _ ih => rw [List.map_cons,← h,← ih]
theorem replicate {a : α} {b : β} (h : R a b) (n : Nat) : All2 R (List.replicate n a) (List.replicate n b) := by
 induction n with
 | zero => exact .nil
 | succ n ih => exact .cons h ih
end All2
abbrev ElR (α : Type) := List PV → α → Prop
structure ROk {α : Type} (sz : Nat) (R : ElR α) : Prop where
 len : ∀ e a,R e a → e.length = sz
 plain : ∀ e a,R e a → ∀ c ∈ e,c.plain = true
def Fn {α : Type} (f : α → List PV) : ElR α := fun e a => e = f a
theorem ROk.fn {α : Type} {sz : Nat} {f : α → List PV} (h : ∀ a,(f a).length = sz ∧ ∀ c ∈ f a,c.plain = true) : ROk sz (Fn f) := ⟨fun _ a e => e ▸ (h a).1,fun _ a e => e ▸ (h a).2⟩
theorem ROk.els {α : Type} {sz : Nat} {R : ElR α} (ok : ROk sz R) {es : List (List PV)} {l : List α} (h : All2 R es l) : Els sz es := fun e he => by
 obtain ⟨a,_,r⟩ := h.mem he
 exact ⟨ok.len e a r,ok.plain e a r⟩
structure SlT (P : Program) (t el : TypeId) (sz by_ : Nat) : Prop where
 u : P.underlying t = some (.slice el)
 el : El P el sz by_
def IsS {α : Type} (R : ElR α) (v : PV) (l : List α) : Prop := ∃ es,IsP v es ∧ All2 R es l
def QS {α : Type} (R : ElR α) (σ : Store) (sz : Nat) (v : PV) (l : List α) : Prop := ∃ es,IsQ σ sz v es ∧ All2 R es l
section
variable {α : Type} {P : Program} {σ τ : Store} {t el : TypeId} {sz by_ : Nat} {R : ElR α} {v u : PV} {l : List α}
theorem IsS.nil : IsS R .nilsl [] := ⟨[],.inl ⟨rfl,rfl⟩,.nil⟩
theorem IsS.q (h : IsS R v l) (σ : Store) (sz : Nat) : QS R σ sz v l := let ⟨es,h1,h2⟩ := h; ⟨es,h1.q,h2⟩
theorem QS.len (T : SlT P t el sz by_) (h : QS R σ sz v l) : jd P .len [t] [v] = some (.int .i64 (l.length : Nat)) := by
 obtain ⟨es,h1,h2⟩ := h
 rw [h1.len T.u,h2.len]
theorem IsS.len (T : SlT P t el sz by_) (h : IsS R v l) : jd P .len [t] [v] = some (.int .i64 (l.length : Nat)) := (h.q .empty sz).len T
theorem IsS.idx (T : SlT P t el sz by_) (ok : ROk sz R) (h : IsS R v l) {i : Nat} {a : α} (hi : l[i]? = some a) (κ : IntKind) : ∃ e,zh P t v (.int κ (i : Nat)) = some (.pref e) ∧ R e a := by
 obtain ⟨es,h1,h2⟩ := h
 obtain ⟨e,he,hr⟩ := h2.get hi
 exact ⟨e,h1.idx T.u T.el.hsz he (ok.len _ _ hr) κ,hr⟩
theorem QS.idx (T : SlT P t el sz by_) (ok : ROk sz R) (h : QS R σ sz v l) {i : Nat} {a : α} (hi : l[i]? = some a) (κ : IntKind) : ∃ x e,zh P t v (.int κ (i : Nat)) = some x ∧ ((∃ r,x = .pref r) ∨ ∃ id k,x = .ref id k 0) ∧ (∀ t',zd P σ t' x = xl P t' e 0) ∧ R e a := by
 obtain ⟨es,h1,h2⟩ := h
 obtain ⟨e,he,hr⟩ := h2.get hi
 obtain ⟨x,q1,q2,q3⟩ := h1.idx T.u T.el.hsz he (ok.len _ _ hr) κ
 exact ⟨x,e,q1,q2,q3,hr⟩
theorem IsS.cut (T : SlT P t el sz by_) (ok : ROk sz R) (h : IsS R v l) {lo hi : Option PV} {a b : Nat} (hl : xi lo 0 = some a) (hh : xi hi l.length = some b) (h1 : a ≤ b) (h2 : b ≤ l.length) : ∃ v',zai P t v lo hi none = some v' ∧ IsS R v' ((l.drop a).take (b - a)) := by
 obtain ⟨es,q1,q2⟩ := h
 obtain ⟨v',r1,r2⟩ := q1.cut T.u T.el.hsz (ok.els q2).len hl (by rw [q2.len]; exact hh) h1 (by rw [q2.len]; exact h2)
 exact ⟨v',r1,_,r2,(q2.drop a).take (b - a)⟩
theorem QS.frz (ok : ROk sz R) (h : QS R σ sz v l) (n : Nat) : IsS R (fz (n + 2) σ v) l := by
 obtain ⟨es,q1,q2⟩ := h
 exact ⟨es,q1.frz (ok.els q2).plain n,q2⟩
theorem IsS.frz (h : IsS R v l) (n : Nat) (σ : Store) : fz (n + 1) σ v = v := let ⟨_,h1,_⟩ := h; h1.frz n σ
theorem IsS.plain (h : IsS R v l) : v.plain = true := let ⟨_,h1,_⟩ := h; h1.plain
theorem IsS.lf (h : IsS R v l) : v.lf = true := zhi h.plain
theorem IsS.tops (h : IsS R v l) : tops v = [] := let ⟨_,h1,_⟩ := h; h1.tops
theorem IsS.nostr (h : IsS R v l) : zdy v = false := let ⟨_,h1,_⟩ := h; (h1.q (σ := .empty) (sz := 0)).nostr
theorem QS.mod (h : QS R σ sz v l) {ids : List Nat} (m : Mod σ τ ids) (hd : ∀ i ∈ Pvm.tops v,i ∉ ids) : QS R τ sz v l := let ⟨es,h1,h2⟩ := h; ⟨es,h1.mod m hd,h2⟩
end
def Ax (σ : Store) (sz : Nat) (v : PV) (es : List (List PV)) : Prop :=
 (v = .nilsl ∧ es = []) ∨ v = .psl true es ∨ ∃ id cap ro,v = .lsl id sz 0 es.length cap ∧ σ.objs id = some (.cells ro es) ∧ ro ≤ es.length ∧ (cap = none ∨ cap = some es.length) ∧ id < σ.next
section
variable {P : Program} {σ τ : Store} {t el : TypeId} {sz by_ : Nat} {u x : PV} {es new : List (List PV)}
theorem Ax.ap (h : Ax σ sz u es) : Ap σ sz u es := by
 rcases h with h | h | ⟨id,cap,ro,h1,h2,h3,h4,h5⟩
 ·exact .inl h
 ·exact .inr (.inl h)
 ·exact .inr (.inr ⟨id,0,cap,ro,es,h1,h2,by omega,by simp,h4.imp (fun e => ⟨e,by omega,h3⟩) (fun e => e),h5⟩)
theorem Ax.lf (h : Ax σ sz u es) (hp : Plain es) : ∀ id ∈ tops u,Lf σ id := by
 intro i hi
 rcases h with ⟨rfl,rfl⟩ | rfl | ⟨id,cap,ro,rfl,h2,h3,h4,h5⟩
 ·cases hi
 ·cases hi
 ·simp [tops] at hi; subst hi; exact ⟨ro,es,h2,hp.lf⟩
theorem Ax.mod (h : Ax σ sz u es) {ids : List Nat} (m : Mod σ τ ids) (hd : ∀ i ∈ tops u,i ∉ ids) : Ax τ sz u es := by
 rcases h with h | h | ⟨id,cap,ro,rfl,h2,h3,h4,h5⟩
 ·exact .inl h
 ·exact .inr (.inl h)
 ·exact .inr (.inr ⟨id,cap,ro,rfl,(m.2 id h5 (hd id (.head _))).trans h2,h3,h4,hao h5 m.1⟩)
theorem Ax.push (h : Ax σ sz u es) (o : Obj) : Ax (σ.push o) sz u es := h.mod (Mod.push σ o []) fun _ _ => by simp
theorem Ax.nil (σ : Store) (sz : Nat) : Ax σ sz .nilsl [] := .inl ⟨rfl,rfl⟩
theorem Ax.fresh (σ : Store) (sz : Nat) (es : List (List PV)) : Ax (σ.push (.cells 0 es)) sz (.lsl σ.next sz 0 es.length (some es.length)) es :=
 .inr (.inr ⟨_,_,0,rfl,zn _ _,hbe _,.inr rfl,haw _⟩)
theorem k9 (σ : Store) (i : Nat) (o : Obj) : ((σ.kill i).push o).objs σ.next = some o := by simp [Store.push,Store.kill]
theorem Ax.app (E : El P el sz by_) (h : Ax σ sz u es) (hes : ∀ e ∈ es,e.length = sz) (hx : xo σ x = some new) (ha : all1 sz new = true) (hb : (es.length + new.length) * by_ ≤ 140737488355328) :
  ∃ u' τ,xz P σ el u x = some (u',τ) ∧ Ax τ sz u' (es ++ new) ∧ Mod σ τ (tops u) ∧ ∀ i ∈ tops u',i ∈ tops u ∨ (σ.next ≤ i ∧ i < τ.next) := by
 by_cases hn : new = []
 ·subst hn
  refine ⟨u,σ,?_,by rw [hbj]; exact h,Mod.refl _ _,fun i hi => .inl hi⟩
  rw [xf E hx ha]
  rcases h with ⟨rfl,rfl⟩ | rfl | ⟨id,cap,ro,rfl,_⟩ <;> rfl
 ·have h0 : 0 < new.length := List.length_pos_iff.2 hn
  rcases h with ⟨rfl,rfl⟩ | rfl | ⟨id,cap,ro,rfl,h2,h3,h5,h6⟩
  ·refine ⟨_,_,zb0 E hx ha hn (by simpa using hb),?_,Mod.push _ _ _,fun i hi => ?_⟩
   ·exact .inr (.inr ⟨_,_,0,rfl,zn _ _,hbe _,.inl rfl,haw _⟩)
   ·simp [tops] at hi; subst hi; exact .inr ⟨hah _,haw _⟩
  ·have hall : (es.all fun e => e.length == sz) = true := by
    rw [har]; intro e h; simpa using hes e h
   refine ⟨.lsl σ.next sz 0 (es.length + new.length) none,σ.push (.cells 0 (es ++ new)),?_,?_,Mod.push _ _ _,fun i hi => ?_⟩
   ·rw [xf E hx ha]
    simp only
    rw [if_neg (by omega),if_pos trivial,if_pos hb,if_pos hall]
   ·exact .inr (.inr ⟨_,none,0,by simp,zn _ _,hbe _,.inl rfl,haw _⟩)
   ·simp [tops] at hi; subst hi; exact .inr ⟨hah _,haw _⟩
  ·have htk : (es.drop 0).take es.length = es := by simp
   rcases h5 with rfl | rfl
   ·refine ⟨_,_,zjx E hx ha hn h2 (hb4 _) (by omega) hb,?_,?_,fun i hi => ?_⟩
    ·rw [htk]
     exact .inr (.inr ⟨_,none,_,by simp,k9 _ _ _,by simp; omega,.inl rfl,haw _⟩)
    ·refine (Mod.kill (ids := [id]) (.head _)).trans' (Mod.push _ _ []) (fun _ h => by cases h)
    ·simp [tops] at hi; subst hi; exact .inr ⟨hah _,haw _⟩
   ·refine ⟨_,_,wl E hx ha hn h2 (by omega) hb,?_,Mod.push _ _ _,fun i hi => ?_⟩
    ·rw [htk]
     exact .inr (.inr ⟨_,none,0,by simp,zn _ _,hbe _,.inl rfl,haw _⟩)
    ·simp [tops] at hi; subst hi; exact .inr ⟨hah _,haw _⟩
end
def AxS {α : Type} (R : ElR α) (σ : Store) (sz : Nat) (v : PV) (l : List α) : Prop := ∃ es,Ax σ sz v es ∧ All2 R es l
section
variable {α : Type} {P : Program} {σ τ : Store} {t el : TypeId} {sz by_ : Nat} {R : ElR α} {v u x : PV} {l ln : List α}
theorem AxS.q (h : AxS R σ sz u l) : QS R σ sz u l := let ⟨es,h1,h2⟩ := h; ⟨es,h1.ap.q,h2⟩
theorem AxS.nil (σ : Store) : AxS R σ sz .nilsl [] := ⟨[],Ax.nil _ _,.nil⟩
theorem AxS.len (T : SlT P t el sz by_) (h : AxS R σ sz u l) : jd P .len [t] [u] = some (.int .i64 (l.length : Nat)) := h.q.len T
theorem AxS.frz (ok : ROk sz R) (h : AxS R σ sz u l) (n : Nat) : IsS R (fz (n + 2) σ u) l := h.q.frz ok n
theorem AxS.lf (ok : ROk sz R) (h : AxS R σ sz u l) : ∀ id ∈ tops u,Lf σ id := let ⟨_,h1,h2⟩ := h; h1.lf (ok.els h2).plain
theorem AxS.mod (h : AxS R σ sz u l) {ids : List Nat} (m : Mod σ τ ids) (hd : ∀ i ∈ tops u,i ∉ ids) : AxS R τ sz u l := let ⟨es,h1,h2⟩ := h; ⟨es,h1.mod m hd,h2⟩
theorem AxS.push (h : AxS R σ sz u l) (o : Obj) : AxS R (σ.push o) sz u l := let ⟨es,h1,h2⟩ := h; ⟨es,h1.push o,h2⟩
theorem AxS.fresh {es : List (List PV)} (h : All2 R es l) (σ : Store) (sz : Nat) {n : Nat} (hn : n = l.length) : AxS R (σ.push (.cells 0 es)) sz (.lsl σ.next sz 0 n (some n)) l := by
 subst hn
 rw [← h.len]
 exact ⟨es,Ax.fresh _ _ _,h⟩
theorem AxS.appQ (T : SlT P t el sz by_) (ok : ROk sz R) (h : AxS R σ sz u l) (hx : QS R σ sz x ln) (hb : (l.length + ln.length) * by_ ≤ 140737488355328) :
  ∃ u' τ,y7 P σ .append [t,t] [u,x] = some (u',τ) ∧ AxS R τ sz u' (l ++ ln) ∧ Mod σ τ (tops u) ∧ ∀ i ∈ tops u',i ∈ tops u ∨ (σ.next ≤ i ∧ i < τ.next) := by
 obtain ⟨es,h1,h2⟩ := h
 obtain ⟨new,x1,x2⟩ := hx
 obtain ⟨u',τ,q1,q2,q3,q4⟩ := h1.app T.el (ok.els h2).len x1.elems (ok.els x2).all1 (by rw [h2.len,x2.len]; exact hb)
 exact ⟨u',τ,by rw [j5 T.u T.u x1.nostr]; exact q1,⟨_,q2,h2.app x2⟩,q3,q4⟩
theorem AxS.app1 (T : SlT P t el sz by_) (ok : ROk sz R) (h : AxS R σ sz u l) {new : List (List PV)} (hn : All2 R new ln) (hb : (l.length + ln.length) * by_ ≤ 140737488355328) {n : Nat} (hn' : n = new.length) :
  ∃ u' τ,y7 P (σ.push (.cells 0 new)) .append [t,t] [u,.lsl σ.next sz 0 n (some n)] = some (u',τ) ∧ AxS R τ sz u' (l ++ ln) ∧ Mod σ τ (tops u) ∧ ∀ i ∈ tops u',i ∈ tops u ∨ (σ.next ≤ i ∧ i < τ.next) := by
 subst hn'
 have hx : QS R (σ.push (.cells 0 new)) sz (.lsl σ.next sz 0 new.length (some new.length)) ln := (AxS.fresh hn σ sz hn.len).q
 obtain ⟨u',τ,q1,q2,q3,q4⟩ := (h.push (.cells 0 new)).appQ T ok hx hb
 refine ⟨u',τ,q1,q2,((Mod.push σ (.cells 0 new) (tops u)).trans q3).mono fun i _ hi => by simpa using hi,fun i hi => ?_⟩
 rcases q4 i hi with h | h
 ·exact .inl h
 ·exact .inr ⟨by have := h.1; rw [zpu] at this; omega,h.2⟩
end
def cB (b : UInt8) : List PV := [.int .u8 b.toNat]
abbrev RB : ElR UInt8 := Fn cB
theorem okB : ROk 1 RB := ROk.fn fun a => ⟨rfl,by simp [cB,PV.plain]⟩
theorem zgs : ∀ l : List UInt8,bytesOf (l.map cB) = some l
 | [] => rfl
 | b :: l => by
   have h : cB b = [.int .u8 b.toNat] := rfl
   rw [List.map_cons,h]
   unfold bytesOf
   rw [zgs l]
   simp
def zm7 (l : List UInt8) : ByteArray := ⟨l.toArray⟩
section
variable {P : Program} {σ : Store} {t el ts : TypeId} {by_ : Nat} {v : PV} {l l' : List UInt8}
theorem QS.str (hs : P.underlying ts = some .string) (T : SlT P t el 1 by_) (hu : P.underlying el = some (.int .u8)) (h : QS RB σ 1 v l) : ul P σ t ts v = some (.str (zm7 l)) := by
 obtain ⟨es,h1,h2⟩ := h
 have he : es = l.map cB := h2.toMap
 subst he
 simp only [ul,T.u,hs,hu,h1.nostr,h1.elems,Bool.false_eq_true,if_false,Option.bind_some,zgs]
 rfl
theorem IsS.str (hs : P.underlying ts = some .string) (T : SlT P t el 1 by_) (hu : P.underlying el = some (.int .u8)) (h : IsS RB v l) (σ : Store) : ul P σ t ts v = some (.str (zm7 l)) := (h.q σ 1).str hs T hu
theorem zyf (t : TypeId) : j9 P .neq t (.str (zm7 l)) (.str (zm7 l')) = some (.bool (!(l == l'))) := by
 have e : ∀ l : List UInt8,(zm7 l).toList = l := fun l => by rw [ByteArray.toList_eq]; rfl
 simp only [j9,zv5,e]
end
end Go.Pvm
namespace Go.Pvm.Crc
end Go.Pvm.Crc
namespace Go.Pvm
end Go.Pvm
namespace Go.Pvm
section
variable {σ τ υ : Store} {ids a b : List Nat}
variable {sz : Nat} {v u : PV} {es : List (List PV)}
theorem Ax.lt (h : Ax σ sz u es) : ∀ i ∈ tops u,i < σ.next := by
 intro i hi
 rcases h with ⟨rfl,_⟩ | rfl | ⟨id,cap,ro,rfl,h2,h3,h4,h5⟩
 ·cases hi
 ·cases hi
 ·simp [tops] at hi; omega
variable {α : Type} {R : ElR α} {l : List α}
theorem AxS.lt (h : AxS R σ sz u l) : ∀ i ∈ tops u,i < σ.next := let ⟨_,h1,_⟩ := h; h1.lt
end
theorem zwl {σ : Store} {e : List PV} (h : PV.lf.lfs e = true) (k : Nat) : ke [σ.next] (σ.push (.cells k [e])) = some (σ.push (.cells 1 [e])) := by
 simp only [ke,zn,List.all_cons,List.all_nil,h,Bool.and_true,if_true]
 exact congrArg some (zl7 _ _ _)
theorem zy4 {σ : Store} {e : List PV} (hp : ∀ c ∈ e,c.plain = true) (k : Nat) : fz zp (σ.push (.cells k [e])) (.ref σ.next 0 0) = .pref e := zxq (zn _ _) hp 6
section
variable {P : Program} {σ : Store} {t el : TypeId} {sz by_ id : Nat} {x : PV} {es new : List (List PV)}
theorem zvy (T : SlT P t el sz by_) {ro n : Nat} (ho : σ.objs id = some (.cells ro es)) (hn : n = es.length) (hx : IsQ σ sz x new) (ha : all1 sz new = true) (hne : new ≠ []) (hb : (n + new.length) * by_ ≤ 140737488355328) :
  y7 P σ .append [t,t] [.lsl id sz 0 n (some n),x] = some (.lsl σ.next sz 0 (n + new.length) none,σ.push (.cells 0 (es ++ new))) := by
 subst hn
 rw [j5 T.u T.u hx.nostr,wl T.el hx.elems ha hne ho (by omega) hb]
 simp
theorem znm {v : PV} (h : tops v = []) (σ : Store) : ke (tops v) σ = some σ := by rw [h]; rfl
end
theorem AxS.cut {α : Type} {P : Program} {σ : Store} {t el : TypeId} {sz by_ : Nat} {R : ElR α} {u : PV} {l : List α} (T : SlT P t el sz by_) (ok : ROk sz R) (h : AxS R σ sz u l) {lo hi : Option PV} {a b : Nat} (hl : xi lo 0 = some a) (hh : xi hi l.length = some b) (h1 : a ≤ b) (h2 : b ≤ l.length) :
  ∃ v',zai P t u lo hi none = some v' ∧ QS R σ sz v' ((l.drop a).take (b - a)) ∧ ∀ j ∈ tops v',j ∈ tops u := by
 obtain ⟨es,q1,q2⟩ := h
 rcases q1 with ⟨rfl,rfl⟩ | rfl | ⟨id,cap,ro,rfl,o1,o2,o3,o4⟩
 ·obtain ⟨v',r1,r2⟩ := IsS.cut T ok (show IsS R .nilsl l from ⟨[],.inl ⟨rfl,rfl⟩,q2⟩) hl hh h1 h2
  exact ⟨v',r1,r2.q σ sz,fun j hj => by rw [r2.tops] at hj; cases hj⟩
 ·obtain ⟨v',r1,r2⟩ := IsS.cut T ok (show IsS R (.psl true es) l from ⟨es,.inr ⟨_,rfl⟩,q2⟩) hl hh h1 h2
  exact ⟨v',r1,r2.q σ sz,fun j hj => by rw [r2.tops] at hj; cases hj⟩
 ·have hle := q2.len
  have hc := zh1 (P := P) (t := t) (sz := sz) (id := id) (idx := 0) (len := es.length) (cap := cap) T.u T.el.hsz hl (by rw [hle]; exact hh) h1 (by omega) (fun c hc => by rcases o3 with rfl | rfl <;> simp at hc; omega)
  refine ⟨_,hc,⟨(es.drop a).take (b - a),.inr ⟨id,0 + a,cap.map (· - a),ro,es,?_,o1,by simp; omega,?_,o4⟩,(q2.drop a).take (b - a)⟩,fun j hj => by simpa [tops] using hj⟩
  ·have : ((es.drop a).take (b - a)).length = b - a := by simp; omega
   rw [this]
  ·have : ((es.drop a).take (b - a)).length = b - a := by simp; omega
   rw [this,hb4]
theorem zpq : reachBytes < 4611686018427387904 := by decide
theorem z0c {v : PV} (h : v.lf = true) : PV.lf.lfs [v] = true := by simp [PV.lf.lfs,h]
theorem fzA {α : Type} {R : ElR α} {v : PV} {l : List α} (h : IsS R v l) (σ : Store) : fz zp σ v = v := h.frz 7 σ
end Go.Pvm
namespace Go.Pvm
def Wr {α : Type} (R : ElR α) (σ : Store) (sz : Nat) (v : PV) (l : List α) : Prop :=
 ∃ id cap es,v = .lsl id sz 0 l.length cap ∧ (cap = none ∨ cap = some l.length) ∧ σ.objs id = some (.cells 0 es) ∧ All2 R es l ∧ id < σ.next
section
variable {α : Type} {P : Program} {σ τ : Store} {t el : TypeId} {sz by_ : Nat} {R : ElR α} {v u x : PV} {l ln : List α} {ids : List Nat}
theorem Wr.ax (h : Wr R σ sz v l) : AxS R σ sz v l := by
 obtain ⟨id,cap,es,rfl,h1,h2,h3,h4⟩ := h
 exact ⟨es,.inr (.inr ⟨id,cap,0,by rw [h3.len],h2,hbe _,h1.imp (fun e => e) (fun e => by rw [e,h3.len]),h4⟩),h3⟩
theorem Wr.q (h : Wr R σ sz v l) : QS R σ sz v l := h.ax.q
theorem Wr.mod (h : Wr R σ sz v l) (m : Mod σ τ ids) (hd : ∀ i ∈ tops v,i ∉ ids) : Wr R τ sz v l := by
 obtain ⟨id,cap,es,rfl,h1,h2,h3,h4⟩ := h
 exact ⟨id,cap,es,rfl,h1,(m.2 id h4 (hd id (.head _))).trans h2,h3,hao h4 m.1⟩
theorem Wr.lt (h : Wr R σ sz v l) : ∀ i ∈ tops v,i < σ.next := h.ax.lt
theorem zs6 {t' e2 : TypeId} (hu : P.underlying t = some (.slice el)) (hu2 : P.underlying t' = some (.slice e2)) (hs : qk P el = some sz) (hp : sz ≠ 0) {id idx len ro : Nat} {cap : Option Nat} {es src : List (List PV)} (hx : xo σ x = some src) (ha : all1 sz src = true)
  (ho : σ.objs id = some (.cells ro es)) (hi : idx + len ≤ es.length) (hr : ro ≤ idx) :
  y7 P σ .copy [t,t'] [.lsl id sz idx len cap,x] = some (.int .i64 (Nat.min src.length len),σ.put id (.cells ro (es.take idx ++ src.take len ++ es.drop (idx + (src.take len).length)))) := by
 simp only [y7,hu,hu2,zf0,hs,hx,Option.bind_some,ho]
 rw [if_neg hp,if_neg (by simp),if_pos ⟨hi,hr⟩,if_pos (zj1 ha _)]
theorem Wr.copy (T : SlT P t el sz by_) (ok : ROk sz R) (h : Wr R σ sz v l) {lo : Option PV} {a : Nat} (hl : xi lo 0 = some a) (ha : a + ln.length ≤ l.length) (hx : QS R σ sz x ln) :
  ∃ v' n τ,zai P t v lo none none = some v' ∧ y7 P σ .copy [t,t] [v',x] = some (.int .i64 n,τ) ∧ Mod σ τ (tops v) ∧ Wr R τ sz v (l.take a ++ ln ++ l.drop (a + ln.length)) := by
 obtain ⟨id,cap,es,rfl,h1,h2,h3,h4⟩ := h
 obtain ⟨new,x1,x2⟩ := hx
 have hel := h3.len
 have hnl := x2.len
 have hc := zh1 (P := P) (t := t) (sz := sz) (id := id) (idx := 0) (len := l.length) (cap := cap) (lo := lo) (hi := none) (a := a) (b := l.length) T.u T.el.hsz hl rfl (by omega) (hah _) (fun c hc => by rcases h1 with rfl | rfl <;> simp at hc; omega)
 have hcp := zs6 (P := P) (t := t) (t' := t) (σ := σ) (x := x) (idx := 0 + a) (len := l.length - a) (cap := cap.map (· - a)) T.u T.u T.el.hsz T.el.pos.1 x1.elems (ok.els x2).all1 h2 (by omega) (hbe _)
 rw [hbi (show new.length ≤ l.length - a by omega),hb4,hnl] at hcp
 rw [hb4] at hc
 refine ⟨_,_,_,hc,hcp,Mod.put (.head _),id,cap,_,?_,?_,xa _ _ _,((h3.take a).app x2).app (h3.drop _),h4⟩
 ·congr 1
  simp; omega
 ·rcases h1 with h1 | h1
  ·exact .inl h1
  ·refine .inr (h1.trans ?_)
   congr 1
   simp; omega
end
section
variable {σ τ : Store}
theorem zmk {i : Nat} (h : i < σ.next) : (σ.join τ).objs i = σ.objs i := by
 show (if i < σ.next then _ else _) = _
 rw [if_pos h]
theorem zho {i : Nat} (h : σ.next ≤ i) : (σ.join τ).objs i = τ.objs i := by
 show (if i < σ.next then _ else _) = _
 rw [if_neg (by omega)]
theorem Mod.join (h : σ.next ≤ τ.next) (ids : List Nat) : Mod σ (σ.join τ) ids := ⟨h,fun i hi _ => zmk hi⟩
variable {α : Type} {R : ElR α} {sz : Nat} {u : PV} {l : List α}
theorem AxS.join (h : AxS R τ sz u l) (hn : ∀ i ∈ tops u,σ.next ≤ i) : AxS R (σ.join τ) sz u l := by
 obtain ⟨es,h1,h2⟩ := h
 refine ⟨es,?_,h2⟩
 rcases h1 with h | h | ⟨id,cap,ro,rfl,q2,q3,q4,q5⟩
 ·exact .inl h
 ·exact .inr (.inl h)
 ·exact .inr (.inr ⟨id,cap,ro,rfl,(zho (hn id (.head _))).trans q2,q3,q4,q5⟩)
theorem Wr.join (h : Wr R τ sz u l) (hn : ∀ i ∈ tops u,σ.next ≤ i) : Wr R (σ.join τ) sz u l := by
 obtain ⟨id,cap,es,rfl,h1,h2,h3,h4⟩ := h
 exact ⟨id,cap,es,rfl,h1,(zho (hn id (.head _))).trans h2,h3,h4⟩
theorem j6 (n : Nat) : qu (.at_ n) n = true := by
 unfold qu
 simp [Store.at_]
theorem x7 {a : Nat} (h : qu τ a = true) (hn : a ≤ τ.next) {k : Nat} {es : List (List PV)} (he : es.all PV.own.owns = true) : qu (τ.push (.cells k es)) a = true := by
 unfold qu at h ⊢
 rw [har] at h ⊢
 intro i hi
 have hi : i < τ.next + 1 - a := by simpa [Store.push] using hi
 by_cases hq : a + i = τ.next
 ·have : (τ.push (.cells k es)).objs (a + i) = some (.cells k es) := by rw [hq]; exact zn _ _
  rw [this]
  exact he
 ·have h1 : (τ.push (.cells k es)).objs (a + i) = τ.objs (a + i) := yj (by omega)
  rw [h1]
  exact h i (by simp; omega)
theorem zup (l : List UInt8) : (l.map cB).all PV.own.owns = true := by
 rw [har]
 intro e he
 obtain ⟨b,_,rfl⟩ := List.mem_map.1 he
 rfl
end
end Go.Pvm
namespace Go.Pvm
def zt (sz : Nat) (es : List (List PV)) : Bool := es.all fun e => e.length == sz && e.all PV.plain
def zad : List (List PV) → Option (List Int)
 | [] => some []
 | [.int .i64 n] :: r => (zad r).map (n :: ·)
 | _ => none
def jr (n : Int) : List PV := [.int .i64 n]
inductive Word where
 | insert (t : TypeId)
 | sort
 | keys (g : FuncId)
 | sorted (g : FuncId)
 deriving DecidableEq
def zbx (P : Program) (t : TypeId) (args : List PV) (σ : Store) : Option (PV × Store) :=
 match args with
 | [s,.int .i64 i,.lsl id2 sz2 idx2 m cap2] => match P.underlying t with
   | some (.slice el) => (qk P el).bind fun sz => (zmy P el).bind fun by_ => (jc P el).bind fun z =>
     if sz = 0 ∨ by_ = 0 ∨ z.known = false ∨ z.cells.length ≠ sz ∨ m = 0 then none else
     match σ.objs id2 with
     | some (.cells ro2 es2) => if idx2 + m ≤ es2.length ∧ zt sz es2 = true then
       match s with
       | .nilsl => if i = 0 ∧ m * by_ ≤ 140737488355328 then some (.lsl σ.next sz 0 m none,σ.push (.cells 0 ((es2.drop idx2).take m))) else none
       | .lsl id sz' 0 len cap => match σ.objs id with
         | some (.cells 0 es) => if sz' = sz ∧ id ≠ id2 ∧ 0 ≤ i ∧ i.toNat ≤ len ∧ len ≤ es.length ∧ zt sz es = true ∧ (len + m) * by_ ≤ 140737488355328 then
           some (.lsl σ.next sz 0 (len + m) none,(σ.kill id).push (.cells 0 ((es.take len).take i.toNat ++ (es2.drop idx2).take m ++ (es.take len).drop i.toNat)))
           else none
         | _ => none
       | _ => none
       else none
     | _ => none
   | _ => none
 | _ => none
def zg0 (args : List PV) (σ : Store) : Option (PV × Store) :=
 match args with
 | [.nilsl] => some (.tuple [],σ)
 | [.lsl id 1 idx len _] => match σ.objs id with
   | some (.cells ro es) => if ro ≤ idx ∧ idx + len ≤ es.length ∧ len < 4611686018427387904 then
     (zad ((es.drop idx).take len)).map fun l => (.tuple [],σ.put id (.cells ro (es.take idx ++ (l.mergeSort fun x y => decide (x ≤ y)).map jr ++ es.drop (idx + len))))
     else none
   | _ => none
 | _ => none
def zqo (g : FuncId) (args : List PV) (σ : Store) : Option (PV × Store) :=
 match args with
 | [.mref id] => some (.func g [.ref σ.next 0 0],σ.push (.mbox id))
 | _ => none
def zdj : List (PV × PV) → Option (List Int)
 | [] => some []
 | (.int .i64 n,_) :: r => if -9223372036854775808 ≤ n ∧ n ≤ 9223372036854775807 then (zdj r).map (n :: ·) else none
 | _ => none
def zbm (g : FuncId) (args : List PV) (σ : Store) : Option (PV × Store) :=
 match args with
 | [.func f [.ref b 0 0]] => if f = g then (match σ.objs b with
   | some (.mbox id) => (match σ.objs id with
     | some (.map kvs) => if kvs.length ≤ 1000000 then (zdj kvs).map fun l => if l.length = 0 then (.nilsl,σ) else (.lsl σ.next 1 0 l.length none,σ.push (.cells 0 ((l.mergeSort fun x y => decide (x ≤ y)).map jr))) else none
     | _ => none)
   | _ => none) else none
 | _ => none
def zef (P : Program) : Word → List PV → Store → Option (PV × Store)
 | .insert t => zbx P t
 | .sort => zg0
 | .keys g => zqo g
 | .sorted g => zbm g
section
variable {P : Program} {ρ ρ' : Where} {F F' : xx} {w w' : World} {σ σ' : Store}
end
end Go.Pvm
