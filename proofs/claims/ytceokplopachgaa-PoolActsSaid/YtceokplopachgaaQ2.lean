import Derived.Test.YtceokplopachgaaQ1
import Derived.Test.YtceokplopachgaaP4
/- Part of the proof: calls, and all operations, of the evaluator over values alone. -/
set_option linter.unusedSimpArgs false
set_option linter.unusedVariables false
namespace Go.Pvm
def ub (C : xj) (Cω : z7) : Prop := ∀ g args A r A',C g args A = some (r,A') → ∀ ρ pargs σ,KS ρ A args pargs σ → ∃ p σ' ρ',Cω g pargs σ = some (p,σ') ∧ KS ρ' A' [r] [p] σ' ∧ Go2 A.length ρ A σ ρ' A' σ'
def zj2 (L : ju) (Lω : xg) : Prop := ∀ f cd n0 env A x env' A',L f cd n0 env A = some (x,env',A') → ∀ ρ penv σ,KS ρ A env penv σ → ∃ penv' σ' ρ',Lω f cd penv σ = some (x,penv',σ') ∧ KS ρ' A' env' penv' σ' ∧ Go2 n0 ρ A σ ρ' A' σ'
structure OwnOk (kc : KCfg) (P : Program) (Cω : z7) : Prop where
 own : ∀ g sz h,kc.own g = some (sz,h) → ∀ args es,h args = some es → ∀ pargs,VFs args pargs → ∀ n,∃ p τ,Cω g pargs (.at_ n) = some (p,τ) ∧ p.own = true ∧ qu τ n = true ∧ n ≤ τ.next ∧ hdl p = true ∧ KOR (fun _ => .undef) 0 τ p (.made true sz es) ∧ ∀ i ∈ tops p,n ≤ i
 told : ∀ g u,kc.told g = some u → ∀ args σ,Cω g args σ = zef P u args σ
 pur : ∀ g h,kc.pur g = some h → ∀ args es,h args = some es → ∀ pargs,VFs args pargs → ∃ p τ,Cω g pargs .empty = some (p,τ) ∧ VF (.psl false es) (fz zp τ p) := by intro g h hg; cases hg
section
variable {P : Program} {ρ ρ' : Nat → PV} {m : Nat} {A A' : List KO} {env penv : List PV} {σ σ' : Store} {β : Type} {r : β}
theorem KS.empty {args pargs : List PV} (h : VFs args pargs) (ρ : Nat → PV) (σ : Store) : KS ρ [] args pargs σ :=
 ⟨h.k,fun k hk => absurd hk (Nat.not_lt_zero _),fun k k' i hi => by cases hi⟩
theorem zl9 {C : xj} {Cω : z7} (hC : ub C Cω) {g : FuncId} {args pargs : List PV} {v : PV} (h : jm C g args = some v) (ha : VFs args pargs) : ∃ p τ,Cω g pargs .empty = some (p,τ) ∧ VF v (fz zp τ p) := by
 unfold jm at h
 rw [hac] at h
 obtain ⟨⟨r,A'⟩,h1,h2⟩ := h
 obtain ⟨p,τ,ρ',q1,q2,_⟩ := hC g args [] r A' h1 (fun _ => .undef) pargs .empty (KS.empty ha _ _)
 refine ⟨p,τ,q1,?_⟩
 rw [← h2]
 have := q2.env.getD 0
 exact ur q2 zp this
theorem zeq {kc : KCfg} {C : xj} {Cω : z7} (hC : ub C Cω) (hO : OwnOk kc P Cω) {g : FuncId} {args pargs : List PV} {v : PV} (h : zcb kc C g args = some v) (ha : VFs args pargs) : ∃ p τ,Cω g pargs .empty = some (p,τ) ∧ VF v (fz zp τ p) := by
 unfold zcb at h
 split at h
 ·rename_i sz f hf
  rw [hac] at h
  obtain ⟨es,h1,rfl⟩ := h
  obtain ⟨p,τ,e1,e2,e3,e4,eh,e5,e6⟩ := hO.own g sz f hf _ es h1 pargs ha 0
  refine ⟨p,τ,e1,?_⟩
  have hor : KOR (fun _ => p) 1 τ p (.made true sz es) := e5
  have hK : KS (fun _ => p) [.made true sz es] [.lsl 0 sz 0 0 none] [p] τ := ⟨.cons (.whole (haw 0) eh) .nil,fun k hk => by
   have : k = 0 := by simpa using hk
   subst this; exact hor,fun k k' i hi hi' => by
   have z : ∀ {k : Nat},i ∈ ko [KO.made true sz es] (fun _ => p) k → k = 0 := fun {k} hi => by
    cases k with
    | zero => rfl
    | succ k => cases hi
   rw [z hi,z hi']⟩
  have := ur hK zp (hK.env.getD 0)
  exact this
 ·split at h
  ·rename_i f hf
   rw [hac] at h
   obtain ⟨es,h1,rfl⟩ := h
   exact hO.pur g f hf _ es h1 pargs ha
  ·exact zl9 hC h ha
def WkO (o o' : KO) : Prop := (∀ ρ m σ u,KOR ρ m σ u o → KOR ρ m σ u o') ∧ (isDead o' = false → isDead o = false) ∧ (zbw o = true → zbw o' = true)
def WkA (A A' : List KO) : Prop := A'.length = A.length ∧ ∀ j,WkO (A.getD j .dead) (A'.getD j .dead)
theorem KS.wk (h : KS ρ A env penv σ) (hw : WkA A A') (n0 : Nat) : KS ρ A' env penv σ ∧ Go2 n0 ρ A σ ρ A' σ := by
 have hids : ∀ k i,i ∈ ko A' ρ k → i ∈ ko A ρ k := fun k i hi => by
  unfold ko at hi ⊢
  split at hi
  ·cases hi
  ·rename_i hd
   rw [if_neg (by rw [(hw.2 k).2.1 (by simpa using hd)]; decide)]
   exact hi
 refine ⟨⟨by rw [hw.1]; exact h.env,fun k hk => ?_,fun k k' i hi hi' => h.dis k k' i (hids k i hi) (hids k' i hi')⟩,hah _,fun _ _ _ => rfl,fun k i hi => .inl ⟨k,hids k i hi⟩,fun hle => ⟨by rw [hw.1]; exact hle,fun k _ => ⟨(hw.2 k).2.2,fun hd => ⟨(hw.2 k).2.1 hd,rfl⟩⟩⟩⟩
 rw [hw.1] at hk ⊢
 exact (hw.2 k).1 _ _ _ _ (h.obj k hk)
theorem ztc {s : OSk} {o : KO} {k : KO → Option β} (h : zor s o k = some r) : ∃ o',k o' = some r ∧ WkO o o' := by
 unfold zor at h
 split at h
 ·unfold zgu at h
  split at h
  ·cases h
  ·rename_i hnb
   exact ⟨_,h,fun _ _ _ _ _ => trivial,(fun h => by cases h),fun hb => by cases o <;> first | (cases hb; done) | exact (hnb _ _ _ rfl).elim⟩
 ·unfold zjw at h
  split at h
  ·split at h
   ·rename_i w t sk _ w' t' cs hc
    obtain ⟨hw,rfl⟩ := hc
    obtain ⟨cs',h1,h2,_⟩ := asSks_ok _ h
    refine ⟨_,h1,fun ρ m σ u ⟨id,pcs,ro,e,s1,s2,s3,s4⟩ => ⟨id,pcs,ro,e,s1,h2 _ _ _ s2,fun hwt => ?_,s4⟩,fun _ => rfl,fun _ => rfl⟩
    rcases hw with rfl | rfl
    ·cases hwt
    ·exact s3 hwt
   ·cases h
  ·cases h
 ·unfold zcu at h
  split at h
  ·split at h
   ·rename_i w sz _ w' sz' es hc
    obtain ⟨hw,rfl⟩ := hc
    refine ⟨_,h,fun ρ m σ u ⟨q0,q1,q2⟩ => ⟨q0,q1,q2.imp (fun x => x) fun ⟨id,cap,ro,ps,tl,e,s1,s2,s3,s4,s5,s6⟩ => ⟨id,cap,ro,ps,tl,e,s1,s2,s3,s4,fun hwt => ?_,s6⟩⟩,fun h => h,fun h => h⟩
    rcases hw with rfl | rfl
    ·cases hwt
    ·exact s5 hwt
   ·cases h
  ·cases h
theorem zfk : ∀ {s : List OSk} {l : List KO} {k : List KO → Option β},wh s l k = some r → ∃ l',k l' = some r ∧ WkA l l'
 | [],l,k,h => by
   unfold wh qp at h
   split at h
   ·exact ⟨[],h,rfl,fun j => ⟨fun _ _ _ _ h => h,fun h => h,fun h => h⟩⟩
   ·cases h
 | s :: sr,l,k,h => by
   unfold wh zan at h
   split at h
   ·rename_i o lr
    obtain ⟨o',h1,h2⟩ := ztc h
    obtain ⟨l',h3,h4,h5⟩ := zfk h1
    refine ⟨_,h3,by simp [h4],fun j => ?_⟩
    cases j with
    | zero => exact h2
    | succ j => exact h5 j
   ·cases h
theorem ui : ∀ {l : List Nat} {k i : Nat},uw l k = some i → l[i]? = some k
 | [],_,_,e => by cases e
 | j :: r,k,i,e => by
   unfold uw at e
   split at e
   ·rename_i hjk; cases e; simp [hjk]
   ·rw [hac] at e
    obtain ⟨i',e1,rfl⟩ := e
    simpa using ui e1
theorem zmm : ∀ {l : List Nat} {k : Nat},k ∈ l → ∃ i,uw l k = some i
 | j :: r,k,h => by
   unfold uw
   by_cases hjk : j = k
   ·exact ⟨0,by rw [if_pos hjk]⟩
   ·rw [if_neg hjk]
    obtain ⟨i,hi⟩ := zmm (l := r) (k := k) ((ha6.1 h).resolve_left (Ne.symm hjk))
    exact ⟨i + 1,by rw [hi]; rfl⟩
theorem zgh : ∀ {l : List Nat},zce l = true → ∀ {i i' k : Nat},l[i]? = some k → l[i']? = some k → i = i'
 | [],_,i,i',k,e,_ => by simp at e
 | j :: r,hb,i,i',k,e,e' => by
   unfold zce at hb
   rw [haq] at hb
   have hj : j ∉ r := by
    intro hm
    have := hb.1
    simp [hm] at this
   cases i with
   | zero =>
     cases i' with
     | zero => rfl
     | succ i' => simp at e e'; subst e; exact absurd (haj e') hj
   | succ i =>
     cases i' with
     | zero => simp at e e'; subst e'; exact absurd (haj e) hj
     | succ i' => rw [zgh hb.2 (i := i) (i' := i') (k := k) (by simpa using e) (by simpa using e')]
theorem zk0 {l : List Nat} (h : zce l = true) {i k : Nat} (e : l[i]? = some k) : uw l k = some i := by
 obtain ⟨i',hi⟩ := zmm (haj e)
 rw [hi,zgh h (ui hi) e]
theorem zqk {kc : KCfg} {C : xj} {Cω : z7} (hC : ub C Cω) {g : FuncId} {args : List PV} {k : PV → List PV → List KO → Option β} (h : zdi kc C g args env A k = some r) : ∃ v env' A',k v env' A' = some r ∧ env'.length = env.length ∧
  ∀ ρ penv σ n0 pargs,KS ρ A env penv σ → VKs ρ A.length args pargs → ∃ w σ',Cω g pargs σ = some (w,σ') ∧ Stp n0 ρ A σ v env' penv A' w σ' := by
 unfold zdi at h
 rw [jh] at h
 generalize zb9 64 A ((tops.topss args).foldl zrq []) 0 = l at h
 simp only at h
 split at h
 ·rename_i hc
  obtain ⟨hnd,hall⟩ := hc
  rw [forceVs_eq,y5,haa] at h
  obtain ⟨⟨r0,A0'⟩,h1,h⟩ := h
  obtain ⟨v,h,hv1,_⟩ := zfj _ h
  obtain ⟨A1,h,hw⟩ := zfk h
  split at h
  ·rename_i hle
   rw [x9,forceVs_eq,y5] at h
   refine ⟨_,_,_,h,k8 _ _,fun ρ penv σ n0 pargs hK ha => ?_⟩
   have hlt : ∀ j ∈ l,j < A.length := fun j hj => by
    rw [har] at hall
    simpa using hall j hj
   have hsub := (hK.withEnv ha).pack hnd hlt
   obtain ⟨p,σ',ρ1,q1,q2,q3⟩ := hC g _ _ r0 A0' h1 _ pargs σ hsub
   have q2' : KS ρ1 A0' [v] [p] σ' := q2.withEnv (.one (hv1 _ _ _ (q2.env.getD 0)))
   obtain ⟨q4,q5⟩ := q2'.wk hw (l.map fun j => uc (uw l) (A.getD j .dead)).length
   have q6 := q3.trans q5
   refine ⟨p,σ',q1,?_⟩
   clear q1 q2 q2' q3 q5 h1 h
   -- names
   generalize hA0 : (l.map fun j => uc (uw l) (A.getD j .dead)) = A0 at q6
   have hA0l : A0.length = l.length := by rw [← hA0]; simp
   have hA0g : ∀ i k,l[i]? = some k → A0.getD i .dead = uc (uw l) (A.getD k .dead) := fun i k e => by
    rw [← hA0,hai,hav,e]; rfl
   have hA0n : ∀ i,l[i]? = none → A0.getD i .dead = .dead := fun i e => by
    rw [← hA0,hai,hav,e]; rfl
   have hids0 : ∀ i x,x ∈ ko A0 (fun i => ρ (l.getD i 0)) i → ∃ k,l[i]? = some k ∧ x ∈ ko A ρ k := fun i x hx => by
    unfold ko at hx
    cases hq : l[i]? with
    | none => rw [hA0n i hq] at hx; cases hx
    | some k =>
      rw [hA0g i k hq,jq] at hx
      have : l.getD i 0 = k := by rw [hai,hq]; rfl
      simp only [this] at hx
      exact ⟨k,rfl,hx⟩
   let b := zx2 l A.length
   let gone := l.filter fun j => match uw l j with | some i => isDead (A1.getD i .dead) | none => true
   let ρ2 : Nat → PV := fun k => match uw l k with
    | some i => ρ1 i
    | none => if k < A.length then ρ k else ρ1 (l.length + (k - A.length))
   let A2 := (List.range A.length).map (fun j => match uw l j with
    | some i => uc b (A1.getD i .dead)
    | none => uc (k7 gone) (A.getD j .dead)) ++ (A1.drop l.length).map (uc b)
   have hA2l : A2.length = A.length + (A1.length - l.length) := by simp [A2]
   have hA2a : ∀ k i,k < A.length → uw l k = some i → A2.getD k .dead = uc b (A1.getD i .dead) := fun k i hk e => by
    rw [hai,hbh (by simpa using hk),hav,List.getElem?_range hk]
    simp [e]
   have hA2b : ∀ k,k < A.length → uw l k = none → A2.getD k .dead = uc (k7 gone) (A.getD k .dead) := fun k hk e => by
    rw [hai,hbh (by simpa using hk),hav,List.getElem?_range hk]
    simp [e]
   have hA2c : ∀ k,A.length ≤ k → A2.getD k .dead = uc b (A1.getD (l.length + (k - A.length)) .dead) := fun k hk => by
    rw [hai,List.getElem?_append_right (by simpa using hk),hav,hbp]
    simp only [han,List.length_range,hai]
    cases A1[l.length + (k - A.length)]? <;> rfl
   have hnone : ∀ k,A.length ≤ k → uw l k = none := fun k hk => by
    cases hq : uw l k with
    | none => rfl
    | some i => have := hlt k (haj (ui hq)); omega
   have hb : ∀ i k,i < A1.length → b i = some k → k < A2.length ∧ ρ2 k = ρ1 i := fun i k hi e => by
    have e : (if i < l.length then l[i]? else some (A.length + (i - l.length))) = some k := e
    split at e
    ·rename_i hil
     have hk := hlt k (haj e)
     exact ⟨by rw [hA2l]; omega,by simp only [ρ2,zk0 hnd e]⟩
    ·rename_i hil
     cases e
     refine ⟨by rw [hA2l]; omega,?_⟩
     simp only [ρ2,hnone _ (Nat.le_add_right _ _)]
     rw [if_neg (by omega)]
     congr 1
     omega
   have hkill : ∀ k k',k < A.length → k7 gone k = some k' → k' < A2.length ∧ ρ2 k' = ρ k := fun k k' hk e => by
    obtain ⟨rfl,hng⟩ := zhm e
    refine ⟨by rw [hA2l]; omega,?_⟩
    cases hq : uw l k' with
    | none => simp only [ρ2,hq]; rw [if_pos hk]
    | some i =>
      have hli := ui hq
      have hdd : isDead (A1.getD i .dead) = false := by
       cases hbq : isDead (A1.getD i .dead) with
       | false => rfl
       | true => exact absurd (List.mem_filter.2 ⟨haj hli,by rw [hq]; exact hbq⟩) hng
      have hil : i < l.length := (had.1 hli).1
      have := (((q6.bx (hah _)).2 i (by rw [hA0l]; exact hil)).2 hdd).2
      simp only [ρ2,hq]
      rw [this,hai,hli]; rfl
   have hids : ∀ k x,x ∈ ko A2 ρ2 k → (∃ i,i < A1.length ∧ x ∈ ko A1 ρ1 i ∧ b i = some k) ∨ (uw l k = none ∧ k < A.length ∧ x ∈ ko A ρ k) := fun k x hx => by
    unfold ko at hx
    by_cases hk : k < A.length
    ·cases hq : uw l k with
     | some i =>
       have hli := ui hq
       have hil : i < l.length := (had.1 hli).1
       rw [hA2a k i hk hq,jq] at hx
       simp only [ρ2,hq] at hx
       refine .inl ⟨i,by omega,hx,?_⟩
       show (if i < l.length then l[i]? else some (A.length + (i - l.length))) = some k
       rw [if_pos hil,hli]
     | none =>
       rw [hA2b k hk hq,jq] at hx
       simp only [ρ2,hq] at hx
       rw [if_pos hk] at hx
       exact .inr ⟨rfl,hk,hx⟩
    ·rw [hA2c k (by omega),jq] at hx
     simp only [ρ2,hnone k (by omega)] at hx
     rw [if_neg hk] at hx
     have hx' : x ∈ ko A1 ρ1 (l.length + (k - A.length)) := hx
     have hi : l.length + (k - A.length) < A1.length := by
      refine Nat.lt_of_not_le fun hge => ?_
      unfold ko at hx'
      rw [zhr hge] at hx'
      cases hx'
     refine .inl ⟨_,hi,hx',?_⟩
     show (if l.length + (k - A.length) < l.length then _ else some (A.length + (l.length + (k - A.length) - l.length))) = some k
     rw [if_neg (by omega)]
     congr 1
     omega
   have hmix : ∀ x i k,x ∈ ko A1 ρ1 i → uw l k = none → x ∈ ko A ρ k → False := fun x i k h1 h2 h3 => by
    rcases q6.own i x h1 with ⟨i',e⟩ | e
    ·obtain ⟨k',e1,e2⟩ := hids0 i' x e
     have := hK.dis k k' x h3 e2
     subst this
     rw [zk0 hnd e1] at h2
     cases h2
    ·have := hK.lt h3; omega
   refine ⟨ρ2,⟨?_,fun k hk => ?_,fun k k' x hx hx' => ?_⟩,?_,q6.nx,fun x hx hn => ?_,fun k x hx => ?_,fun hle => ⟨haz hle (haz (Nat.le_add_right _ _) (Nat.le_of_eq hA2l.symm)),fun k hk => ?_⟩⟩
   ·exact hK.env.rnms hkill
   ·show KOR ρ2 A2.length σ' (ρ2 k) (A2.getD k .dead)
    by_cases hkA : k < A.length
    ·cases hq : uw l k with
     | some i =>
       have hil : i < l.length := (had.1 (ui hq)).1
       rw [hA2a k i hkA hq]
       have : ρ2 k = ρ1 i := by simp only [ρ2,hq]
       rw [this]
       exact (q4.obj i (by omega)).rnm hb (hah _) fun _ _ _ => rfl
     | none =>
       rw [hA2b k hkA hq]
       have : ρ2 k = ρ k := by simp only [ρ2,hq]; rw [if_pos hkA]
       rw [this]
       refine (hK.obj k hkA).rnm hkill q6.nx fun hd x hx => ?_
       have hxk : x ∈ ko A ρ k := by unfold ko; rw [if_neg (by rw [hd]; decide)]; exact hx
       refine q6.fr x (hK.lt hxk) fun i hi => ?_
       obtain ⟨k',e1,e2⟩ := hids0 i x hi
       have := hK.dis k k' x hxk e2
       subst this
       rw [zk0 hnd e1] at hq
       cases hq
    ·rw [hA2c k (by omega)]
     have : ρ2 k = ρ1 (l.length + (k - A.length)) := by simp only [ρ2,hnone k (by omega)]; rw [if_neg hkA]
     rw [this]
     have hk : k < A2.length := hk
     rw [hA2l] at hk
     exact (q4.obj _ (by omega)).rnm hb (hah _) fun _ _ _ => rfl
   ·rcases hids k x hx with ⟨i,h1,h2,h3⟩ | ⟨h1,h2,h3⟩
    ·rcases hids k' x hx' with ⟨i',h4,h5,h6⟩ | ⟨h4,h5,h6⟩
     ·have := q4.dis i i' x h2 h5
      subst this
      rw [h3] at h6
      exact Option.some.inj h6
     ·exact (hmix x i k' h2 h4 h6).elim
    ·rcases hids k' x hx' with ⟨i',h4,h5,h6⟩ | ⟨h4,h5,h6⟩
     ·exact (hmix x i' k h5 h1 h3).elim
     ·exact hK.dis k k' x h3 h6
   ·exact (q4.env.getD 0).rnm hb
   ·refine q6.fr x hx fun i hi => ?_
    obtain ⟨k',_,e2⟩ := hids0 i x hi
    exact hn k' e2
   ·rcases hids k x hx with ⟨i,h1,h2,h3⟩ | ⟨h1,h2,h3⟩
    ·rcases q6.own i x h2 with ⟨i',e⟩ | e
     ·obtain ⟨k',_,e2⟩ := hids0 i' x e
      exact .inl ⟨k',e2⟩
     ·exact .inr e
    ·exact .inl ⟨k,h3⟩
   ·have hkA : k < A.length := by omega
    show (zbw (A.getD k .dead) = true → zbw (A2.getD k .dead) = true) ∧ (isDead (A2.getD k .dead) = false → isDead (A.getD k .dead) = false ∧ ρ2 k = ρ k)
    cases hq : uw l k with
    | some i =>
      have hli := ui hq
      have hil : i < l.length := (had.1 hli).1
      obtain ⟨g1,g2⟩ := (q6.bx (hah _)).2 i (by rw [hA0l]; exact hil)
      rw [hA0g i k hli,zb8] at g1
      rw [hA0g i k hli,jq] at g2
      rw [hA2a k i hkA hq,zb8,jq]
      refine ⟨g1,fun hd => ⟨(g2 hd).1,?_⟩⟩
      simp only [ρ2,hq]
      rw [(g2 hd).2,hai,hli]; rfl
    | none =>
      rw [hA2b k hkA hq,zb8,jq]
      exact ⟨fun h => h,fun h => ⟨h,by simp only [ρ2,hq]; rw [if_pos hkA]⟩⟩
  ·cases h
 ·cases h
theorem zq6 {c : Cfg} {kc : KCfg} {C : xj} {Cω : z7} (hC : ub C Cω) (hO : OwnOk kc c.P Cω) {g : FuncId} {args : List PV} {ty : TypeId} {k : PV → List PV → List KO → Option β} (h : ut c kc C g args ty env A k = some r) : ∃ v env' A',k v env' A' = some r ∧ env'.length = env.length ∧
  ∀ ρ penv σ n0 pargs,KS ρ A env penv σ → VKs ρ A.length args pargs → ∃ w σ',zi c Cω g pargs σ = some (w,σ') ∧ Stp n0 ρ A σ v env' penv A' w σ' := by
 unfold ut at h
 unfold zi
 split at h
 ·rename_i he
  simp only [if_pos he]
  split at h
  ·-- by itself
   rename_i hm
   rw [forceVs_eq,haa] at h
   obtain ⟨v0,h1,h⟩ := h
   obtain ⟨v,h,_,hv,hs⟩ := zfj _ h
   have hfz : ∀ {ρ penv σ pargs},KS ρ A env penv σ → VKs ρ A.length args pargs → VFs (args.map (fzK zp A)) (pargs.map (fz zp σ)) := fun hK ha => VFs.mapR ha fun _ _ q => ur hK zp q
   have hcall : ∀ {pargs : List PV} {σ : Store} {p : PV} {τ : Store},Cω g (pargs.map (fz zp σ)) .empty = some (p,τ) → qq c Cω g pargs σ = (let r := fz zp τ p; if r.scalar = true then some (r,σ) else if c.strict = true then (if PV.lf.lfs pargs = true then some (r,σ) else none) else (ke (tops.topss pargs) σ).map fun σ' => (r,σ')) := fun e => by
    unfold qq
    rw [hm]
    simp only [e,Option.bind_some]
   split at h
   ·rename_i hsc
    refine ⟨_,_,_,h,rfl,fun ρ penv σ n0 pargs hK ha => ?_⟩
    obtain ⟨p,τ,e1,e2⟩ := zeq hC hO h1 (hfz hK ha)
    have hvp := hv _ e2
    obtain ⟨e3,e4⟩ := hvp.scalar (hs hsc)
    refine ⟨_,σ,?_,ρ,hK,.fr hvp,Go2.refl _ _ _ _⟩
    rw [hcall e1]
    simp only
    rw [if_pos e4]
   ·split at h
    ·cases h
    rename_i hcl
    have hcl : PV.clean.cleans args = true := by simpa using hcl
    split at h
    ·rename_i hst
     split at h
     ·rename_i hlf
      refine ⟨_,_,_,h,rfl,fun ρ penv σ n0 pargs hK ha => ?_⟩
      obtain ⟨p,τ,e1,e2⟩ := zeq hC hO h1 (hfz hK ha)
      refine ⟨fz zp τ p,σ,?_,ρ,hK,.fr (hv _ e2),Go2.refl _ _ _ _⟩
      rw [hcall e1]
      simp only
      rw [if_pos hst,if_pos (ha.lf_eq hcl hlf)]
      split <;> rfl
     ·cases h
    ·rename_i hst
     rw [haa] at h
     obtain ⟨A',h2,h⟩ := h
     refine ⟨_,_,_,h,rfl,fun ρ penv σ n0 pargs hK ha => ?_⟩
     obtain ⟨p,τ,e1,e2⟩ := zeq hC hO h1 (hfz hK ha)
     by_cases hps : (fz zp τ p).scalar = true
     ·obtain ⟨g1,g2⟩ := zg5 _ h2 hK n0
      refine ⟨fz zp τ p,σ,?_,ρ,g1,.fr (hv _ e2),g2⟩
      rw [hcall e1]
      simp only
      rw [if_pos hps]
     ·obtain ⟨σ',g0,g1,g2⟩ := zip _ h2 hK n0
      refine ⟨fz zp τ p,σ',?_,ρ,g1,.fr (hv _ e2),g2⟩
      rw [hcall e1]
      simp only
      rw [if_neg hps,if_neg hst,ha.tops_eq hcl,g0]
      rfl
  ·-- its answer its own
   rename_i hm
   split at h
   ·rename_i sz f hf
    rw [forceVs_eq,haa] at h
    obtain ⟨es,h1,h⟩ := h
    refine ⟨_,_,_,h,rfl,fun ρ penv σ n0 pargs hK ha => ?_⟩
    obtain ⟨p,τ,e1,e2,e3,e4,eh,e5,e6⟩ := hO.own g sz f hf _ es h1 (pargs.map (fz zp σ)) (VFs.mapR ha fun _ _ q => ur hK zp q) σ.next
    have hor : KOR (upd ρ A.length p) (A.length + 1) (σ.join τ) p (.made true sz es) := by
     obtain ⟨q0,q1,⟨rfl,rfl⟩ | ⟨id,cap,ro,ps,tl,rfl,s1,s2,s3,s4,s5,s6⟩⟩ := e5
     ·exact ⟨q0,q1,.inl ⟨rfl,rfl⟩⟩
     ·exact ⟨q0,q1,.inr ⟨id,cap,ro,ps,tl,rfl,(zho (e6 id (.head _))).trans s1,s2,s3,s4,s5,s6⟩⟩
    obtain ⟨g1,g2⟩ := hK.more (σ' := σ.join τ) (u := p) (o := .made true sz es) e4 (fun i hi => zmk hi) e6 hor n0
    refine ⟨p,σ.join τ,?_,_,g1,?_,g2⟩
    ·unfold qq
     rw [hm]
     simp only [e1,Option.bind_some,e2,e3,Bool.and_self,if_true]
    ·have : VK (upd ρ A.length p) (A ++ [KO.made true sz es]).length (.lsl A.length sz 0 0 none) (upd ρ A.length p A.length) := .whole (by simp) (by rw [y8]; exact eh)
     rw [y8] at this
     exact this
   ·cases h
  ·rename_i hm
   split at h
   ·rename_i u hu
    obtain ⟨v,env',A',h1,h2,h3⟩ := zo6 h
    refine ⟨v,env',A',h1,h2,fun ρ penv σ n0 pargs hK ha => ?_⟩
    obtain ⟨w,σ',e1,e2⟩ := h3 ρ penv σ n0 pargs hK ha
    exact ⟨w,σ',by unfold qq; rw [hm]; exact (hO.told g u hu _ _).trans e1,e2⟩
   ·obtain ⟨v,env',A',h1,h2,h3⟩ := zqk hC h
    refine ⟨v,env',A',h1,h2,fun ρ penv σ n0 pargs hK ha => ?_⟩
    obtain ⟨w,σ',e1,e2⟩ := h3 ρ penv σ n0 pargs hK ha
    exact ⟨w,σ',by unfold qq; rw [hm]; exact e1,e2⟩
  ·cases h
 ·rename_i he
  split at h
  rotate_left
  ·cases h
  rename_i hm
  rw [haa] at h
  obtain ⟨v,hv,h⟩ := h
  refine ⟨v,_,_,h,rfl,fun ρ penv σ n0 pargs hK ha => ?_⟩
  have hv2 : zvd c.P g pargs = some v ∧ v.base = true := by
   unfold zvd at hv
   split at hv
   ·rename_i n hx
    cases hv
    have : pargs = [.float .f64 n] := by
     cases ha with
     | cons h t => cases t; rw [h.base_eq rfl]
    subst this
    exact ⟨by simp only [zvd,hx],rfl⟩
   ·rename_i n hx
    cases hv
    have : pargs = [.int .u64 n] := by
     cases ha with
     | cons h t => cases t; rw [h.base_eq rfl]
    subst this
    exact ⟨by simp only [zvd,hx],rfl⟩
   ·cases hv
  refine ⟨v,σ,?_,ρ,hK,.fr ?_,Go2.refl _ _ _ _⟩
  ·rw [if_neg he]
   unfold ztu
   rw [hm,hv2.1]
   rfl
  ·exact .base _ hv2.2
end
end Go.Pvm
namespace Go.Pvm
section
variable {P : Program} {ρ ρ' : Nat → PV} {m : Nat} {A A' : List KO} {env penv : List PV} {σ σ' : Store} {β : Type} {r : β}
theorem zot {op : BinOp} {κ : IntKind} {x y : Int} {v : PV} (h : zln op κ x y = some v) : v.base = true := by
 cases op <;> simp only [zln] at h <;> first | (cases h; done) | (cases h; rfl) | (split at h <;> first | (cases h; done) | (cases h; rfl))
theorem zfh {op : BinOp} {t : TypeId} {x y v : PV} (h : j9 P op t x y = some v) : v.base = true := by
 unfold j9 at h
 split at h
 ·split at h
  ·unfold zij at h
   split at h
   ·cases h
   ·split at h <;> first | (cases h; done) | (cases h; rfl)
  ·unfold zij at h
   split at h
   ·cases h
   ·split at h <;> first | (cases h; done) | (cases h; rfl)
  ·split at h
   ·exact zot h
   ·cases h
 ·unfold zv5 at h
  split at h
  ·split at h <;> first | (cases h; done) | (cases h; rfl)
  ·cases h; rfl
  ·cases h; rfl
  ·cases h
 ·split at h
  ·split at h <;> first | (cases h; done) | (cases h; rfl)
  ·cases h
 ·split at h
  ·cases h
  ·split at h
   ·rw [hac] at h; obtain ⟨b,_,rfl⟩ := h; rfl
   ·rw [hac] at h; obtain ⟨b,_,rfl⟩ := h; rfl
   ·cases h
theorem zve (n : Nat) (t : TypeId) (a b c a' b' c' : Nat) : eqv P n t (.ref a b c) .nilptr = eqv P n t (.ref a' b' c') .nilptr := by
 cases n with
 | zero => rfl
 | succ n =>
   unfold eqv
   cases P.underlying t with
   | none => rfl
   | some d => cases d <;> rfl
theorem zs1 (n : Nat) (t : TypeId) (a b : List PV) : eqv P n t (.pref a) .nilptr = eqv P n t (.pref b) .nilptr := by
 cases n with
 | zero => rfl
 | succ n =>
   unfold eqv
   cases P.underlying t with
   | none => rfl
   | some d => cases d <;> rfl
theorem zvn {op : BinOp} {t : TypeId} {x y v : PV} (h : zzm P op t x y = some v) : v.base = true ∧ ∀ ρ m p q,VK ρ m x p → VK ρ m y q → j9 P op t p q = some v := by
 unfold zzm at h
 split at h
 ·rename_i hf
  exact ⟨zfh h,fun ρ m p q hp hq => by rw [hp.flat_eq hf.1,hq.flat_eq hf.2]; exact h⟩
 ·split at h
  ·refine ⟨zfh h,fun ρ m p q hp hq => ?_⟩
   obtain ⟨_,hr⟩ := hp.ref_inv
   rw [hq.base_eq rfl]
   have key : ∃ a b c,p = .ref a b c := by
    unfold uv at hr
    split at hr <;> first | (cases hr; exact ⟨_,_,_,rfl⟩) | cases hr
   obtain ⟨a',b',c',rfl⟩ := key
   unfold j9 zjc at h ⊢
   simp only [Bool.false_eq_true,if_false] at h ⊢
   rw [zve 10000 t a' b' c' _ _ _]
   exact h
  ·refine ⟨zfh h,fun ρ m p q hp hq => ?_⟩
   obtain ⟨ps,rfl,_⟩ := hp.pref_inv
   rw [hq.base_eq rfl]
   unfold j9 zjc at h ⊢
   simp only [Bool.false_eq_true,if_false] at h ⊢
   rw [zs1 10000 t ps _]
   exact h
  ·cases h
theorem zv1 {op : UnOp} {x v : PV} (h : unv op x = some v) : v.base = true ∧ ∀ ρ m p,VK ρ m x p → unv op p = some v := by
 unfold unv at h
 split at h
 ·cases h; exact ⟨rfl,fun ρ m p hp => by rw [hp.int_eq]; rfl⟩
 ·cases h; exact ⟨rfl,fun ρ m p hp => by rw [hp.int_eq]; rfl⟩
 ·cases h; exact ⟨rfl,fun ρ m p hp => by rw [hp.bool_eq]; rfl⟩
 ·cases h
theorem ze7 {f : PV → PV → Option PV} (hf : ∀ a b c,f a b = some c → c.base = true) : ∀ (l : List PV) {x v : PV},VF x x → zfz f x l = some v → VF v v
 | [],x,v,hx,h => by cases h; exact hx
 | y :: l,x,v,hx,h => by
   unfold zfz at h
   rw [haa] at h
   obtain ⟨z,h1,h2⟩ := h
   exact ze7 hf l (.base _ (hf _ _ _ h1)) h2
theorem VFs.baseR : ∀ {cs : List PV},cs.all PV.base = true → VFs cs cs
 | [],_ => .nil
 | c :: cs,h => by
   rw [List.all_cons,haq] at h
   exact .cons (.base _ h.1) (VFs.baseR h.2)
theorem VF.flatR {v : PV} (h : v.flat = true) : VF v v := by
 rcases zgm h with hb | ⟨cs,rfl,hb⟩
 ·exact .base _ hb
 ·exact .agg (VFs.baseR hb)
theorem zhv {place : Nat → Option (Nat × Nat)} : ∀ (ps : List (Nat × Operand)) {cs pcs out : List PV},VKs ρ m env penv → VKs ρ m cs pcs → zhw place cs (ps.map fun (i,x) => (i,opd env x)) = some out → ∃ pout,zhw place pcs (ps.map fun (i,x) => (i,opd penv x)) = some pout ∧ VKs ρ m out pout
 | [],cs,pcs,out,he,hc,h => by cases h; exact ⟨_,rfl,hc⟩
 | (i,x) :: ps,cs,pcs,out,he,hc,h => by
   simp only [List.map_cons,zhw,haa] at h ⊢
   obtain ⟨⟨off,size⟩,h1,h⟩ := h
   simp only at h
   split at h
   ·rename_i hq
    have hx := xu he x
    have hcs := hx.cells hq.2.2
    obtain ⟨pout,h2,h3⟩ := zhv ps he (hc.over hcs off) h
    refine ⟨pout,⟨(off,size),h1,?_⟩,h3⟩
    simp only
    rw [if_pos ⟨by rw [← hcs.len]; exact hq.1,by rw [← hc.len]; exact hq.2.1,hx.known hq.2.2⟩]
    exact h2
   ·cases h
theorem zb3 {t : TypeId} {z : PV} (h : jc P t = some z) : VF z z := by
 unfold jc at h
 rw [hac] at h
 obtain ⟨v,_,rfl⟩ := h
 exact .ofValue v
theorem zrd {t : TypeId} {ps : List (Nat × Operand)} {v : PV} (he : VKs ρ m env penv) (h : jz P t (ps.map fun (i,x) => (i,opd env x)) = some v) : ∃ p,jz P t (ps.map fun (i,x) => (i,opd penv x)) = some p ∧ VK ρ m v p := by
 unfold jz at h ⊢
 rw [haa] at h
 obtain ⟨z,hz,h⟩ := h
 rw [hz]
 simp only [Option.bind_some]
 split at h
 ·cases h
 rename_i hk
 rw [if_neg hk]
 have hzc : VKs ρ m z.cells z.cells := (VK.fr (zb3 hz)).cells (by simpa using hk)
 split at h
 ·rename_i fs hu
  rw [haa] at h
  obtain ⟨pl,hpl,h⟩ := h
  rw [hac] at h
  obtain ⟨out,h1,rfl⟩ := h
  obtain ⟨pout,h2,h3⟩ := zhv ps he hzc h1
  rw [hpl]
  simp only [Option.bind_some,h2,Option.map_some]
  exact ⟨_,rfl,.agg h3⟩
 ·rename_i n el hu
  rw [haa] at h
  obtain ⟨pl,hpl,h⟩ := h
  rw [hac] at h
  obtain ⟨out,h1,rfl⟩ := h
  obtain ⟨pout,h2,h3⟩ := zhv ps he hzc h1
  rw [hpl]
  simp only [Option.bind_some,h2,Option.map_some]
  exact ⟨_,rfl,.agg h3⟩
 ·cases h
theorem zil {sz : Nat} : ∀ (ps : List (Nat × Operand)) {es pes out : List (List PV)},VKs ρ m env penv → All2 (VKs ρ m) es pes → uz es sz (ps.map fun (i,x) => (i,opd env x)) = some out → ∃ pout,uz pes sz (ps.map fun (i,x) => (i,opd penv x)) = some pout ∧ All2 (VKs ρ m) out pout
 | [],es,pes,out,he,hc,h => by cases h; exact ⟨_,rfl,hc⟩
 | (i,x) :: ps,es,pes,out,he,hc,h => by
   simp only [List.map_cons,uz] at h ⊢
   split at h
   ·rename_i hq
    have hx := xu he x
    have hcs := hx.cells hq.2.2
    obtain ⟨pout,h2,h3⟩ := zil ps he (hc.set hcs i) h
    refine ⟨pout,?_,h3⟩
    rw [if_pos ⟨by rw [← hcs.len]; exact hq.1,by rw [← hc.len]; exact hq.2.1,hx.known hq.2.2⟩]
    exact h2
   ·cases h
theorem zpo {sz : Nat} {es pes : List (List PV)} (h : All2 (VKs ρ m) es pes) (hr : zt sz es = true) : VFss es pes := by
 induction h with
 | nil => exact .nil
 | cons h _ ih =>
   unfold zt at hr
   rw [List.all_cons,haq,haq] at hr
   exact .cons (h.plain hr.1.2).1 (ih hr.2)
theorem KS.fresh (hK : KS ρ A env penv σ) {sz n : Nat} {es ps : List (List PV)} (h0 : sz ≠ 0) (hr : zt sz es = true) (hv : VFss es ps) (hn : n = es.length) (n0 : Nat) : Stp n0 ρ A σ (whole A.length sz) env penv (A ++ [.made true sz es]) (.lsl σ.next sz 0 n (some n)) (σ.push (.cells 0 ps)) := by
 subst hn
 obtain ⟨h1,h2⟩ := hK.more (σ' := σ.push (.cells 0 ps)) (u := .lsl σ.next sz 0 es.length (some es.length)) (o := .made true sz es) (hbd _) (fun i hi => yj hi) (fun i hi => by rw [ham.1 hi]; exact hah _)
  (KOR.mk0 (ρ := fun _ => .undef) (m := 0) h0 hr (id := σ.next) rfl (zn _ _) hv (.inr rfl) (fun _ => rfl) (haw _)) n0
 refine ⟨_,h1,?_,h2⟩
 have : VK (upd ρ A.length (.lsl σ.next sz 0 es.length (some es.length))) (A ++ [KO.made true sz es]).length (.lsl A.length sz 0 0 none) (upd ρ A.length (.lsl σ.next sz 0 es.length (some es.length)) A.length) := .whole (by simp) (by rw [y8]; rfl)
 rw [y8] at this
 exact this
theorem KS.laid (hK : KS ρ A env penv σ) {cs ps : List PV} (t : TypeId) (hv : VKs ρ A.length cs ps) (n0 : Nat) : Stp n0 ρ A σ (.ref A.length 0 0) env penv (A ++ [.box true t cs]) (.ref σ.next 0 0) (σ.push (.cells 0 [ps])) := by
 obtain ⟨h1,h2⟩ := hK.more (σ' := σ.push (.cells 0 [ps])) (u := .ref σ.next 0 0) (o := .box true t cs) (hbd _) (fun i hi => yj hi) (fun i hi => by rw [ham.1 hi]; exact hah _)
  ⟨σ.next,ps,0,rfl,zn _ _,hv.mono (hbd _) fun k hk => qr _ (by omega),fun _ => rfl,haw _⟩ n0
 exact ⟨_,h1,.ref (by simp) (by rw [y8]; rfl),h2⟩
theorem Stp.id (hK : KS ρ A env penv σ) {v p : PV} (hv : VK ρ A.length v p) (n0 : Nat) : Stp n0 ρ A σ v env penv A p σ := ⟨ρ,hK,hv,Go2.refl _ _ _ _⟩
theorem zq1 {el : TypeId} {d s : PV} {t u e2 : TypeId} {k : Nat → List KO → Option β} (ht : P.underlying t = some (.slice el)) (hu : P.underlying u = some (.slice e2)) (h : zq2 P A el d s k = some r) : ∃ n A',k n A' = some r ∧
  ∀ ρ env penv σ n0 p q,KS ρ A env penv σ → VK ρ A.length d p → VK ρ A.length s q → ∃ σ',y7 P σ .copy [t,u] [p,q] = some (.int .i64 (n : Nat),σ') ∧ KS ρ A' env penv σ' ∧ Go2 n0 ρ A σ ρ A' σ' := by
 unfold zq2 at h
 rw [haa] at h
 obtain ⟨sz,hsz,h⟩ := h
 obtain ⟨src,h,hx⟩ := zg4 h
 split at h
 ·cases h
 rename_i hro
 have hro : zt sz src = true := by simpa using hro
 obtain ⟨j,es,a,n,h,hj,hd⟩ := zcc h
 refine ⟨_,_,h,fun ρ env penv σ n0 p q hK hp hq => ?_⟩
 have hdd : isDead (A.getD j .dead) = false := by rw [hj]; rfl
 obtain ⟨q0,q1,_⟩ := hK.get (jt hdd) hj
 obtain ⟨ps,e1,e2⟩ := hx ρ env penv σ q hK hq
 have hall := (rowsPl_els.1 (jv e2 hro)).all1
 rcases hd ρ env penv σ p hK hp with ⟨rfl,e3,rfl,rfl,rfl⟩ | ⟨id,cap,cap',pes,tl,rfl,e3,e4,e5,e6,e7,e9,e8⟩
 ·obtain ⟨g1,g2⟩ := hK.put (σ' := σ) (o := .made true sz (([] : List (List PV)).take 0 ++ src.take 0 ++ ([] : List (List PV)).drop (0 + (src.take 0).length))) hdd (hah _) (fun _ _ _ => rfl) ⟨q0,by simpa using q1,.inl ⟨e3,by simp⟩⟩ (fun hb => by rw [hj] at hb; cases hb) n0
  refine ⟨σ,?_,g1,g2⟩
  simp only [y7,ht,hu,zf0,hsz,e1,Option.bind_some]
  rw [if_neg q0,if_pos hall]
  show some (PV.int .i64 0,σ) = some (PV.int .i64 ((Nat.min src.length 0 : Nat) : Int),σ)
  rw [show Nat.min src.length 0 = 0 from Nat.min_zero _]
  rfl
 ·have hlen : (es.take a ++ src.take n ++ es.drop (a + (src.take n).length)).length = es.length := by
   simp only [hak,ha7,List.length_drop]
   omega
  obtain ⟨g1,g2⟩ := hK.put (σ' := σ.put id (.cells 0 ((pes.take a ++ ps.take n ++ pes.drop (a + (ps.take n).length)) ++ tl))) (o := .made true sz (es.take a ++ src.take n ++ es.drop (a + (src.take n).length))) hdd (hah _) (fun x _ hx => yb fun ex => hx (by rw [e3,ex]; exact .head _))
   ⟨q0,xp (xp (jk q1 _) (jk hro _)) (kd q1 _),.inr ⟨id,cap',0,_,tl,by rw [hlen]; exact e3,xa _ _ _,by
    have hl2 : (ps.take n).length = (src.take n).length := by rw [ha7,ha7,e2.len]
    rw [hl2]
    exact ((e6.take a).app (e2.take n)).app (e6.drop _),by rw [hlen]; exact e4,e9,fun _ => rfl,e8⟩⟩ (fun hb => by rw [hj] at hb; cases hb) n0
  refine ⟨_,?_,g1,g2⟩
  have hle6 : a + n ≤ pes.length := by rw [← e6.len]; exact e7
  have hle7 : a + (ps.take n).length ≤ pes.length := by rw [ha7]; omega
  simp only [y7,ht,hu,zf0,hsz,e1,Option.bind_some,e5]
  rw [if_neg q0,if_neg (by simp),if_pos ⟨by rw [hak]; omega,hbe _⟩,if_pos (zj1 hall _),e2.len,List.take_append_of_le_length (show a ≤ pes.length by omega),List.drop_append_of_le_length hle7]
  simp only [hbc]
theorem zom {el : TypeId} {d : PV} {t : TypeId} {k : List KO → Option β} (ht : P.underlying t = some (.slice el)) (h : zlb P A el d k = some r) : ∃ A',k A' = some r ∧
  ∀ ρ env penv σ n0 p,KS ρ A env penv σ → VK ρ A.length d p → ∃ σ',y7 P σ .clear [t] [p] = some (.tuple [],σ') ∧ KS ρ A' env penv σ' ∧ Go2 n0 ρ A σ ρ A' σ' := by
 unfold zlb at h
 simp only [haa] at h
 obtain ⟨sz,hsz,z,hz,h⟩ := h
 split at h
 ·cases h
 rename_i hne
 have hk : z.known = true := by
  cases hq : z.known with
  | true => rfl
  | false => exact absurd (.inl hq) hne
 have hl : z.cells.length = sz := by
  by_cases hq : z.cells.length = sz
  ·exact hq
  ·exact absurd (.inr (.inl hq)) hne
 have hpl : z.cells.all PV.plain = true := by
  cases hq : z.cells.all PV.plain with
  | true => rfl
  | false => exact absurd (.inr (.inr hq)) hne
 have hone : z.cells.all PV.one = true := by
  rw [har] at hpl ⊢
  exact fun x hx => wx (hpl x hx)
 obtain ⟨j,es,a,n,h,hj,hd⟩ := zcc h
 refine ⟨_,h,fun ρ env penv σ n0 p hK hp => ?_⟩
 have hdd : isDead (A.getD j .dead) = false := by rw [hj]; rfl
 obtain ⟨q0,q1,_⟩ := hK.get (jt hdd) hj
 have hcond : ¬ (sz = 0 ∨ z.known = false ∨ z.cells.length ≠ sz ∨ z.cells.all PV.one = false) := by simp [q0,hk,hl,hone]
 have hzc : VFs z.cells z.cells := ((VK.fr (ρ := ρ) (m := 0) (zb3 hz)).cells hk).plain hpl |>.1
 rcases hd ρ env penv σ p hK hp with ⟨rfl,e3,rfl,rfl,rfl⟩ | ⟨id,cap,cap',pes,tl,rfl,e3,e4,e5,e6,e7,e9,e8⟩
 ·obtain ⟨g1,g2⟩ := hK.put (σ' := σ) (o := .made true sz (([] : List (List PV)).take 0 ++ List.replicate 0 z.cells ++ ([] : List (List PV)).drop (0 + 0))) hdd (hah _) (fun _ _ _ => rfl) ⟨q0,by simpa using q1,.inl ⟨e3,by simp⟩⟩ (fun hb => by rw [hj] at hb; cases hb) n0
  refine ⟨σ,?_,g1,g2⟩
  simp only [y7,ht,zbd,hsz,hz,Option.bind_some]
  rw [if_neg hcond]
 ·have hlen : (es.take a ++ List.replicate n z.cells ++ es.drop (a + n)).length = es.length := by
   simp only [hak,ha7,List.length_drop,List.length_replicate]
   omega
  have hrep : zt sz (List.replicate n z.cells) = true := by
   unfold zt
   rw [har]
   intro e he
   rw [List.eq_of_mem_replicate he,hpl]
   simp [hl]
  obtain ⟨g1,g2⟩ := hK.put (σ' := σ.put id (.cells 0 ((pes.take a ++ List.replicate n z.cells ++ pes.drop (a + n)) ++ tl))) (o := .made true sz (es.take a ++ List.replicate n z.cells ++ es.drop (a + n))) hdd (hah _) (fun x _ hx => yb fun ex => hx (by rw [e3,ex]; exact .head _))
   ⟨q0,xp (xp (jk q1 _) hrep) (kd q1 _),.inr ⟨id,cap',0,_,tl,by rw [hlen]; exact e3,xa _ _ _,((e6.take a).app (VFss.of (All2.replicate hzc n))).app (e6.drop _),by rw [hlen]; exact e4,e9,fun _ => rfl,e8⟩⟩ (fun hb => by rw [hj] at hb; cases hb) n0
  refine ⟨_,?_,g1,g2⟩
  simp only [y7,ht,zbd,hsz,hz,Option.bind_some,e5]
  have hle6 : a + n ≤ pes.length := by rw [← e6.len]; exact e7
  rw [if_neg hcond,if_neg (by simp),if_pos ⟨by rw [hak]; omega,hbe _⟩,List.take_append_of_le_length (show a ≤ pes.length by omega),List.drop_append_of_le_length hle6]
  simp only [hbc]
theorem ztb {b : Builtin} {ts : List TypeId} {args : List PV} {ty : TypeId} {k : PV → List PV → List KO → Option β} (h : zop P b ts args ty env A k = some r) : ∃ v env' A',k v env' A' = some r ∧ env'.length = env.length ∧
  ∀ ρ penv σ n0 pargs,KS ρ A env penv σ → VKs ρ A.length args pargs → ∃ w σ',jo P σ b ts pargs = some (w,σ') ∧ Stp n0 ρ A σ v env' penv A' w σ' := by
 unfold zop at h
 split at h
 ·rename_i t tr x xr
  split at h
  ·rename_i hu
   split at h
   ·rename_i s
    refine ⟨_,_,_,h,rfl,fun ρ penv σ n0 pargs hK ha => ?_⟩
    cases ha with
    | cons hp ht =>
      rw [hp.str_eq]
      exact ⟨.int .i64 (s.size : Nat),σ,by show (jd P .len (t :: tr) (.str s :: _)).map _ = _; simp only [jd,hu,Option.map_some],.id hK (.fr (.base _ rfl)) n0⟩
   ·cases h
  ·rename_i el hu
   split at h
   ·cases h
   rename_i hns
   have h0 := h
   obtain ⟨n,h,hn⟩ := zsp h
   refine ⟨_,_,_,h,rfl,fun ρ penv σ n0 pargs hK ha => ?_⟩
   cases ha with
   | cons hp ht =>
     rename_i p ps
     have hl := hn ρ env penv σ p hK hp
     have hsl : zdy p = false := hp.nostr (by cases x <;> first | (exact absurd rfl hns) | rfl | cases h0)
     refine ⟨.int .i64 (n : Nat),σ,?_,.id hK (.fr (.base _ rfl)) n0⟩
     show (jd P .len (t :: tr) (p :: ps)).map _ = _
     cases p <;> first | (cases hl; done) | (cases hsl; done) | skip
     all_goals (cases hl; simp only [jd,hu,Option.map_some])
     all_goals rfl
  ·cases h
 ·rename_i x xr
  split at h
  ·rename_i hf
   rw [haa] at h
   obtain ⟨v,h1,h2⟩ := h
   refine ⟨_,_,_,xv h2,rfl,fun ρ penv σ n0 pargs hK ha => ?_⟩
   cases ha with
   | cons hp ht =>
     rw [hp.flat_eq hf.1,ht.flat_eq hf.2]
     refine ⟨v,σ,?_,.id hK (.fr (ze7 (fun a b c e => ?_) _ (VF.flatR hf.1) h1)) n0⟩
     ·have e : jd P .max ts (x :: xr) = some v := by unfold jd; exact h1
      unfold jo
      rw [if_pos (show zh4 .max = true from rfl),e]; rfl
     ·unfold zsm at e; split at e <;> first | (cases e; rfl) | cases e
  ·cases h
 ·rename_i x xr
  split at h
  ·rename_i hf
   rw [haa] at h
   obtain ⟨v,h1,h2⟩ := h
   refine ⟨_,_,_,xv h2,rfl,fun ρ penv σ n0 pargs hK ha => ?_⟩
   cases ha with
   | cons hp ht =>
     rw [hp.flat_eq hf.1,ht.flat_eq hf.2]
     refine ⟨v,σ,?_,.id hK (.fr (ze7 (fun a b c e => ?_) _ (VF.flatR hf.1) h1)) n0⟩
     ·have e : jd P .min ts (x :: xr) = some v := by unfold jd; exact h1
      unfold jo
      rw [if_pos (show zh4 .min = true from rfl),e]; rfl
     ·unfold zsl at e; split at e <;> first | (cases e; rfl) | cases e
  ·cases h
 ·rename_i t u s x
  split at h
  ·rename_i el e2 hu1 hu2
   split at h
   ·cases h
   rename_i hns
   have h0 := h
   obtain ⟨v,env',A',h,hl,hx⟩ := zm3 h
   refine ⟨v,env',A',h,hl,fun ρ penv σ n0 pargs hK ha => ?_⟩
   cases ha with
   | cons hp ha =>
     cases ha with
     | cons hq ha =>
       cases ha
       rename_i p q
       obtain ⟨w,σ',e1,e3⟩ := hx ρ penv σ n0 p q hK hp hq
       refine ⟨w,σ',?_,e3⟩
       have hqs : zdy q = false := hq.nostr (by
        cases x <;> first | (exact absurd rfl hns) | rfl | skip
        all_goals (exfalso; unfold zjz at h0; simp only [haa] at h0; obtain ⟨_,_,_,_,_,_,h0⟩ := h0; cases h0))
       show y7 P σ .append [t,u] [p,q] = _
       rw [j5 hu1 hu2 hqs]
       exact e1
  ·rename_i el hu1 hu2
   split at h
   ·rename_i hs
    obtain ⟨v,env',A',h,hl,hx⟩ := zm3 h
    refine ⟨v,env',A',h,hl,fun ρ penv σ n0 pargs hK ha => ?_⟩
    cases ha with
    | cons hp ha =>
      cases ha with
      | cons hq ha =>
        cases ha
        rename_i p q
        obtain ⟨w,σ',e1,e3⟩ := hx ρ penv σ n0 p q hK hp hq
        refine ⟨w,σ',?_,e3⟩
        cases x <;> first | (cases hs; done) | skip
        rw [hq.str_eq] at e1 ⊢
        show y7 P σ .append [t,u] [p,.str _] = _
        simp only [y7,hu1,hu2]
        exact e1
   ·cases h
  ·cases h
 ·rename_i t u d s
  split at h
  ·rename_i el e2 hu1 hu2
   obtain ⟨n,A',h,hx⟩ := zq1 hu1 hu2 h
   refine ⟨_,_,_,h,rfl,fun ρ penv σ n0 pargs hK ha => ?_⟩
   cases ha with
   | cons hp ha =>
     cases ha with
     | cons hq ha =>
       cases ha
       obtain ⟨σ',g1,g2,g3⟩ := hx ρ env penv σ n0 _ _ hK hp hq
       exact ⟨_,σ',g1,ρ,g2,.fr (.base _ rfl),g3⟩
  ·cases h
 ·rename_i t d
  split at h
  ·rename_i el hu1
   obtain ⟨A',h,hx⟩ := zom hu1 h
   refine ⟨_,_,_,h,rfl,fun ρ penv σ n0 pargs hK ha => ?_⟩
   cases ha with
   | cons hp ha =>
     cases ha
     obtain ⟨σ',g1,g2,g3⟩ := hx ρ env penv σ n0 _ hK hp
     exact ⟨_,σ',g1,ρ,g2,.fr (.tuple .nil),g3⟩
  ·cases h
 ·cases h
theorem ziq {u p : PV} {i o : Nat} (h : uv u i o = some p) (n : Nat) : ∃ id,p = .ref id i o ∧ uv u i (o + n) = some (.ref id i (o + n)) := by
 unfold uv at h
 split at h <;> first | (cases h; exact ⟨_,rfl,rfl⟩) | cases h
theorem zn3 {t ty : TypeId} {x i : PV} {k : PV → Option β} (h : zc5 P t ty x i k = some r) : ∃ v,k v = some r ∧ ∀ ρ m p pi,VK ρ m x p → VK ρ m i pi → ∃ q,zck P t p pi = some q ∧ VK ρ m v q := by
 have hint : ∀ {n : Int},uq i = some n → ∀ {ρ : Nat → PV} {m : Nat} {pi : PV},VK ρ m i pi → uq pi = some n := fun {n} hn {ρ m pi} hi => by
  cases i <;> first | (cases hn; done) | skip
  rw [hi.int_eq]
  exact hn
 unfold zc5 at h
 split at h
 ·rename_i cs
  split at h
  ·rename_i nn el hu
   simp only [haa] at h
   obtain ⟨n,hn,sz,hsz,h⟩ := h
   obtain ⟨m,hm,hnm,h⟩ := zbl (hah _) h
   rw [haa] at h
   obtain ⟨v,h1,h2⟩ := h
   refine ⟨_,xv h2,fun ρ m' p pi hx hi => ?_⟩
   obtain ⟨ps,rfl,hc⟩ := hx.agg_inv
   obtain ⟨p,e1,e2⟩ := wt h1 hc
   refine ⟨p,?_,e2⟩
   simp only [zck,hint hn hi,hu,hsz,Option.bind_some]
   rw [if_pos (by omega),show n.toNat = m by omega,e1]
  ·cases h
 ·rename_i hna
  simp only [haa] at h
  obtain ⟨v,h1,h2⟩ := h
  refine ⟨_,xv h2,fun ρ m' p pi hx hi => ?_⟩
  unfold zck at h1 ⊢
  rw [haa] at h1
  obtain ⟨n,hn,h1⟩ := h1
  rw [hint hn hi]
  simp only [Option.bind_some]
  split at h1
  ·exact absurd rfl (hna _)
  ·rename_i s hu
   rw [hx.str_eq]
   split at h1
   ·rename_i hb
    refine ⟨v,?_,?_⟩
    ·simp only [hu]
     rw [if_pos hb,h1]
    ·rw [hac] at h1
     obtain ⟨b,_,rfl⟩ := h1
     exact .fr (.base _ rfl)
   ·cases h1
  ·cases h1
theorem zut {c : Cfg} {kc : KCfg} {C : xj} {Cω : z7} (hC : ub C Cω) (hO : OwnOk kc c.P Cω) {o : Oper} {k : PV → List PV → List KO → Option β} (h : zow c kc C env A o k = some r) : ∃ v env' A',k v env' A' = some r ∧ env'.length = env.length ∧
  ∀ ρ penv σ n0,KS ρ A env penv σ → ∃ p σ',yc c Cω penv σ o = some (p,σ') ∧ Stp n0 ρ A σ v env' penv A' p σ' := by
 obtain ⟨dst,op,type,pos,after,guard⟩ := o
 unfold zow at h
 unfold yc
 cases op <;> simp only at h ⊢
 case move x => exact ⟨_,_,_,h,rfl,fun ρ penv σ n0 hK => ⟨_,_,rfl,.id hK (xu hK.env x) n0⟩⟩
 case assign x => exact ⟨_,_,_,h,rfl,fun ρ penv σ n0 hK => ⟨_,_,rfl,.id hK (xu hK.env x) n0⟩⟩
 case pick cd a b =>
  split at h
  ·rename_i t ht
   have hb : ∀ {ρ penv σ},KS ρ A env penv σ → opd penv cd = .bool t := fun hK => by
    have := xu hK.env cd
    rw [ht] at this
    exact this.bool_eq
   split at h
   ·rename_i htt
    exact ⟨_,_,_,h,rfl,fun ρ penv σ n0 hK => ⟨opd penv a,σ,by simp only [hb hK]; rw [if_pos htt],.id hK (xu hK.env a) n0⟩⟩
   ·rename_i htt
    exact ⟨_,_,_,h,rfl,fun ρ penv σ n0 hK => ⟨opd penv b,σ,by simp only [hb hK]; rw [if_neg htt],.id hK (xu hK.env b) n0⟩⟩
  ·cases h
 case alloc el =>
  simp only [haa] at h
  obtain ⟨z,h1,h2⟩ := h
  split at h2
  ·rename_i hk
   refine ⟨_,_,_,h2,rfl,fun ρ penv σ n0 hK => ⟨_,_,?_,hK.laid el ((VK.fr (zb3 h1)).cells hk.1) n0⟩⟩
   rw [h1]
   simp only [Option.bind_some]
   rw [if_pos hk]
  ·cases h2
 case box el x =>
  split at h
  ·rename_i hk
   refine ⟨_,_,_,h,rfl,fun ρ penv σ n0 hK => ?_⟩
   have hx := xu hK.env x
   have hc := hx.cells hk.1
   refine ⟨_,_,?_,hK.laid el hc n0⟩
   rw [if_pos ⟨hx.known hk.1,by rw [← hc.len]; exact hk.2⟩]
  ·cases h
 case build t ps =>
  simp only [haa] at h
  obtain ⟨z,h1,h2⟩ := h
  rw [x9] at h2
  refine ⟨_,_,_,h2,rfl,fun ρ penv σ n0 hK => ?_⟩
  obtain ⟨p,e1,e2⟩ := zrd hK.env h1
  exact ⟨p,σ,by rw [e1]; rfl,.id hK e2 n0⟩
 case buildSlice t n ps =>
  split at h
  ·rename_i el hu
   simp only [haa] at h
   obtain ⟨sz,hsz,z,hz,h⟩ := h
   split at h
   ·rename_i hc
    rw [haa] at h
    obtain ⟨es,h1,h⟩ := h
    split at h
    ·rename_i hr
     refine ⟨_,_,_,h,rfl,fun ρ penv σ n0 hK => ?_⟩
     have hzc : VKs ρ A.length z.cells z.cells := (VK.fr (zb3 hz)).cells hc.2.1
     obtain ⟨pes,e1,e2⟩ := zil ps.toList hK.env (All2.replicate hzc n) h1
     have hlen : es.length = n := by
      have : ∀ (l : List (Nat × PV)) (a b : List (List PV)),uz a sz l = some b → b.length = a.length := by
       intro l
       induction l with
       | nil => intro a b h; cases h; rfl
       | cons x l ih =>
         intro a b h
         unfold uz at h
         split at h
         ·rw [ih _ _ h]; simp
         ·cases h
      rw [this _ _ _ h1]; simp
     refine ⟨_,_,?_,hK.fresh hc.1 hr (zpo e2 hr) hlen.symm n0⟩
     simp only [xt,hu,hsz,hz,Option.bind_some]
     rw [if_pos hc,e1]
     rfl
    ·cases h
   ·cases h
  ·cases h
 case load t a =>
  split at h
  ·rename_i hc
   simp only [haa] at h
   obtain ⟨v,h1,h2⟩ := h
   rw [x9] at h2
   refine ⟨_,_,_,h2,rfl,fun ρ penv σ n0 hK => ?_⟩
   rw [if_pos hc]
   have ha := xu hK.env a
   unfold zbb at h1
   split at h1
   ·rename_i cs hq
    rw [hq] at ha
    obtain ⟨ps,e,hcs⟩ := ha.pref_inv
    obtain ⟨p,e1,e2⟩ := wt h1 hcs.k
    exact ⟨p,σ,by rw [e]; simp only [zbb,e1,Option.map_some],.id hK e2 n0⟩
   ·cases h1
  ·rename_i hc
   obtain ⟨v,h1,h2⟩ := zi1 h
   rw [x9] at h1
   refine ⟨_,_,_,h1,rfl,fun ρ penv σ n0 hK => ?_⟩
   rw [if_neg hc]
   obtain ⟨q,e1,e2⟩ := h2 ρ env penv σ _ hK (xu hK.env a)
   exact ⟨q,σ,by rw [e1]; rfl,.id hK e2 n0⟩
 case store t a x =>
  obtain ⟨A',h1,h2⟩ := zm8 h
  refine ⟨_,_,_,h1,rfl,fun ρ penv σ n0 hK => ?_⟩
  obtain ⟨σ',e1,e2,e3,_⟩ := h2 ρ env penv σ n0 _ _ hK (xu hK.env a) (xu hK.env x)
  exact ⟨.tuple [],σ',by rw [e1]; rfl,ρ,e2,.fr (.tuple .nil),e3⟩
 case nilCheck x =>
  simp only [haa] at h
  obtain ⟨v,h1,h2⟩ := h
  refine ⟨_,_,_,h2,rfl,fun ρ penv σ n0 hK => ?_⟩
  have hx := xu hK.env x
  have hv : v = opd env x := by
   generalize opd env x = z at h1
   unfold zc2 at h1
   split at h1 <;> first | (cases h1; rfl) | cases h1
  rw [← hv] at h1 hx
  refine ⟨opd penv x,σ,?_,.id hK hx n0⟩
  generalize opd penv x = p at hx
  unfold zc2 at h1
  split at h1
  ·obtain ⟨_,hr⟩ := hx.ref_inv
   obtain ⟨id,rfl,_⟩ := ziq hr 0
   rfl
  ·obtain ⟨ps,rfl,_⟩ := hx.pref_inv
   rfl
  ·obtain ⟨ps,rfl,_⟩ := hx.func_inv
   rfl
  ·cases h1
 case binOp op t x y ty =>
  simp only [haa] at h
  obtain ⟨v,h1,h2⟩ := h
  obtain ⟨hb,h3⟩ := zvn h1
  refine ⟨_,_,_,xv h2,rfl,fun ρ penv σ n0 hK => ?_⟩
  exact ⟨v,σ,by rw [h3 _ _ _ _ (xu hK.env x) (xu hK.env y)]; rfl,.id hK (.fr (.base _ hb)) n0⟩
 case unOp op t x =>
  simp only [haa] at h
  obtain ⟨v,h1,h2⟩ := h
  obtain ⟨hb,h3⟩ := zv1 h1
  refine ⟨_,_,_,xv h2,rfl,fun ρ penv σ n0 hK => ?_⟩
  exact ⟨v,σ,by rw [h3 _ _ _ (xu hK.env x)]; rfl,.id hK (.fr (.base _ hb)) n0⟩
 case convert s d x =>
  obtain ⟨v,h1,h2⟩ := zq3 h
  refine ⟨_,_,_,xv h1,rfl,fun ρ penv σ n0 hK => ?_⟩
  obtain ⟨q,e1,e2⟩ := h2 ρ env penv σ _ hK (xu hK.env x)
  exact ⟨q,σ,by rw [e1]; rfl,.id hK e2 n0⟩
 case makeFunc fn fs cs =>
  cases fn <;> simp only at h ⊢
  case func f =>
   split at h
   ·rename_i hk
    exact ⟨_,_,_,h,rfl,fun ρ penv σ n0 hK => ⟨_,_,by rw [if_pos hk],.id hK (.func f (zkv hK.env _)) n0⟩⟩
   ·cases h
  all_goals cases h
 case makeSlice t l cp =>
  split at h
  ·rename_i el l' cp' hu hl hcp
   simp only [haa] at h
   obtain ⟨sz,hsz,by_,hby,z,hz,h⟩ := h
   split at h
   ·rename_i hc
    split at h
    ·rename_i hd
     obtain ⟨d1,rfl,d3,d4⟩ := hd
     refine ⟨_,_,_,h,rfl,fun ρ penv σ n0 hK => ?_⟩
     have e1 : opd penv l = .int .i64 l' := by have := xu hK.env l; rw [hl] at this; exact this.int_eq
     have e2 : opd penv cp = .int .i64 l' := by have := xu hK.env cp; rw [hcp] at this; exact this.int_eq
     have hzc : VFs z.cells z.cells := ((VK.fr (ρ := ρ) (m := 0) (zb3 hz)).cells hc.2.1).plain hc.2.2.2 |>.1
     have hr : zt sz (List.replicate l'.toNat z.cells) = true := by
      unfold zt
      rw [har]
      intro e he
      rw [List.eq_of_mem_replicate he,hc.2.2.2]
      simp [hc.2.2.1]
     have hv : VFss (List.replicate l'.toNat z.cells) (List.replicate l'.toNat z.cells) := VFss.of (All2.replicate hzc _)
     refine ⟨_,_,?_,hK.fresh (n := l'.toNat) hc.1 hr hv (by simp) n0⟩
     simp only [qw,hu,e1,e2,hsz,hby,hz,Option.bind_some]
     rw [if_pos ⟨hc.1,hc.2.1,hc.2.2.1,d1,Int.le_refl _,d3,d4⟩]
    ·cases h
   ·cases h
  ·cases h
 case slice t x lo hi mx =>
  obtain ⟨v,h1,h2⟩ := zs4 h
  refine ⟨_,_,_,h1,rfl,fun ρ penv σ n0 hK => ?_⟩
  obtain ⟨q,e1,e2⟩ := h2 ρ env penv σ _ _ _ _ hK (xu hK.env x) (OpR.map hK.env lo) (OpR.map hK.env hi) (OpR.map hK.env mx)
  exact ⟨q,σ,by rw [e1]; rfl,.id hK e2 n0⟩
 case fieldAddr s x f =>
  simp only [haa] at h
  obtain ⟨v,h1,h2⟩ := h
  refine ⟨_,_,_,h2,rfl,fun ρ penv σ n0 hK => ?_⟩
  have hx := xu hK.env x
  unfold zj at h1 ⊢
  split at h1
  ·rename_i fs hu
   simp only [haa] at h1
   obtain ⟨fd,hfd,n,hn,h1⟩ := h1
   simp only [hfd,hn,Option.bind_some]
   split at h1
   ·cases h1
   rename_i hn0
   simp only [if_neg hn0]
   split at h1
   ·rename_i j i off hq
    cases h1
    rw [hq] at hx
    obtain ⟨hl,hr⟩ := hx.ref_inv
    obtain ⟨id,e1,e2⟩ := ziq hr fd.offset
    rw [e1]
    exact ⟨_,σ,rfl,.id hK (.ref hl e2) n0⟩
   ·rename_i cs hq
    cases h1
    rw [hq] at hx
    obtain ⟨ps,e,hc⟩ := hx.pref_inv
    rw [e]
    exact ⟨_,σ,rfl,.id hK (.fr (.pref (hc.drop _))) n0⟩
   ·cases h1
  ·cases h1
 case field s x f =>
  simp only [haa] at h
  obtain ⟨v,h1,h2⟩ := h
  rw [x9] at h2
  refine ⟨_,_,_,h2,rfl,fun ρ penv σ n0 hK => ?_⟩
  have hx := xu hK.env x
  unfold zdm at h1
  split at h1
  ·rename_i fs cs hu hq
   rw [haa] at h1
   obtain ⟨fd,hfd,h1⟩ := h1
   rw [hq] at hx
   obtain ⟨ps,e,hc⟩ := hx.agg_inv
   obtain ⟨p,e1,e2⟩ := wt h1 hc
   refine ⟨p,σ,?_,.id hK e2 n0⟩
   rw [e]
   simp only [zdm,hu,hfd,Option.bind_some,e1,Option.map_some]
  ·cases h1
 case indexAddr t x i =>
  obtain ⟨v,h1,h2⟩ := zsu h
  refine ⟨_,_,_,h1,rfl,fun ρ penv σ n0 hK => ?_⟩
  obtain ⟨q,e1,e2⟩ := h2 ρ env penv σ _ _ hK (xu hK.env x) (xu hK.env i)
  exact ⟨q,σ,by rw [e1]; rfl,.id hK e2 n0⟩
 case index t x i =>
  obtain ⟨v,h2,hv⟩ := zn3 h
  refine ⟨_,_,_,h2,rfl,fun ρ penv σ n0 hK => ?_⟩
  obtain ⟨q,e1,e2⟩ := hv ρ A.length _ _ (xu hK.env x) (xu hK.env i)
  exact ⟨q,σ,by rw [e1]; rfl,.id hK e2 n0⟩
 case extract x i =>
  simp only [haa] at h
  obtain ⟨v,h1,h2⟩ := h
  rw [x9] at h2
  refine ⟨_,_,_,h2,rfl,fun ρ penv σ n0 hK => ?_⟩
  have hx := xu hK.env x
  generalize opd env x = z at h1 hx
  unfold ka at h1
  split at h1
  ·obtain ⟨ps,e,hc⟩ := hx.tuple_inv
   rw [e]
   obtain ⟨p,e1,e2⟩ := hc.get h1
   exact ⟨p,σ,by simp only [e1,Option.map_some],.id hK e2 n0⟩
  ·cases h1
 case call cl =>
  obtain ⟨callee,args,ts⟩ := cl
  cases callee <;> simp only at h ⊢
  case builtin b =>
   split at h
   ·cases h
   rename_i hml
   obtain ⟨v,env',A',h1,hl,h2⟩ := ztb h
   exact ⟨v,env',A',h1,hl,fun ρ penv σ n0 hK => by rw [if_neg hml]; exact h2 ρ penv σ n0 _ hK (zkv hK.env _)⟩
  case value x =>
   simp only [haa] at h
   obtain ⟨⟨g,cs⟩,h0,h⟩ := h
   obtain ⟨v,env',A',h1,hl,h2⟩ := zq6 hC hO h
   refine ⟨v,env',A',h1,hl,fun ρ penv σ n0 hK => ?_⟩
   have hx := xu hK.env x
   generalize opd env x = z at h0 hx
   unfold fnv at h0
   split at h0
   ·cases h0
    obtain ⟨ps,e,hc⟩ := hx.func_inv
    rw [e]
    exact h2 ρ penv σ n0 _ hK ((zkv hK.env _).app hc)
   ·cases h0
  case invoke x m => cases h
 all_goals cases h
theorem zps (he : VKs ρ m env penv) {d : Option Nat} {v p : PV} (hv : VK ρ m v p) : VKs ρ m (zfu env d v) (zfu penv d p) := by
 cases d with
 | none => exact he
 | some t => exact he.set hv t
theorem zl6 (env : List PV) (d : Option Nat) (v : PV) : (zfu env d v).length = env.length := by
 cases d with
 | none => rfl
 | some t => exact List.length_set
theorem zn0 {A : List KO} {j : Nat} (h : zbw (A.getD j .dead) = true) : isDead (A.getD j .dead) = false := by
 generalize A.getD j .dead = o at h
 cases o <;> first | rfl | cases h
theorem zx1 {ρ : Nat → PV} {A : List KO} {env penv : List PV} {σ : Store} {j : Nat} (hK : KS ρ A env penv σ) (h : zbw (A.getD j .dead) = true) : j < A.length ∧ ∃ id,ρ j = .ref id 0 0 ∧ (σ.objs id).isSome = true := by
 have hj : j < A.length := by
  rcases ha4 j A.length with h1 | h1
  ·exact h1
  ·rw [hai,hbv h1] at h; cases h
 refine ⟨hj,?_⟩
 have ho := hK.obj j hj
 generalize A.getD j .dead = o at h ho
 cases o with
 | box w t cells => obtain ⟨id,pcs,ro,h1,h2,_⟩ := ho; exact ⟨id,h1,by rw [h2]; rfl⟩
 | _ => cases h
theorem zr6 {ρ : Nat → PV} {m : Nat} {k i o : Nat} {p : PV} (h : VK ρ m (.ref k i o) p) : k < m ∧ uv (ρ k) i o = some p := by
 cases h with
 | fr h => cases h with | base h => cases ‹PV.base _ = true›
 | ref h h2 => exact ⟨h,h2⟩
theorem zl3 {u p : PV} {i o : Nat} (h : uv u i o = some p) : zbo p = (tops u).head? ∧ (zbo p).isSome = true := by
 cases u <;> first | (simp [uv] at h; subst h; simp [zbo,tops]) | (simp [uv] at h)
theorem zqr {c : Cfg} {ρ : Nat → PV} {A : List KO} {env penv : List PV} {σ : Store} {o : Oper} (hK : KS ρ A env penv σ) (h : zqs c env A o = true) : zaf c penv o = true := by
 unfold zqs at h
 unfold zaf
 cases hz : c.floZ with
 | nil => rfl
 | cons z zs =>
   rw [hz] at h
   simp only at h ⊢
   split at h
   ·rename_i t ta e
    rw [e]
    simp only [Bool.or_eq_true] at h ⊢
    refine h.imp id fun h => ?_
    rw [List.any_eq_true] at h ⊢
    obtain ⟨u,hu,h⟩ := h
    refine ⟨u,hu,?_⟩
    have h1 := hK.env.getD u
    have h2 := hK.env.getD ta
    split at h
    ·rename_i j a b k a' b' e1 e2
     rw [beq_iff_eq] at h
     subst h
     rw [e1] at h1
     rw [e2] at h2
     obtain ⟨q1,q2⟩ := zl3 (zr6 h1).2
     obtain ⟨q3,_⟩ := zl3 (zr6 h2).2
     rw [haq,beq_iff_eq]
     exact ⟨q2,q1.trans q3.symm⟩
    ·cases h
   ·rename_i cl e
    rw [e]
    simp only
    split at h
    ·rename_i e2
     rw [e2]
     simp only
     split at h
     ·rename_i s r e3
      rw [e3]
      simp only
      have hs := xu hK.env s
      generalize opd penv s = sp at hs
      split at h
      ·rename_i id sz a n cap e4
       rw [e4] at hs
       rw [haq,Bool.not_eq_true',har] at h
       obtain ⟨hd,ha⟩ := h
       have key : ∀ i,(i ∈ tops (ρ id)) → ((z :: zs).all fun u => match zbo (penv.getD u .undef) with | some j => j != i | none => false) = true := by
        intro i hi
        rw [har]
        intro u hu
        have h1 := ha u hu
        have h2 := hK.env.getD u
        split at h1
        ·rename_i j a' b' e5
         rw [haq,bne_iff_ne] at h1
         rw [e5] at h2
         obtain ⟨hj,id',q1,q2⟩ := zx1 hK h1.2
         have q3 := (zr6 h2).2
         rw [q1] at q3
         simp only [uv,Option.some.injEq] at q3
         rw [← q3]
         simp only [zbo,bne_iff_ne]
         intro e6
         subst e6
         refine h1.1 (hK.dis j id id' ?_ ?_)
         ·unfold ko
          rw [zn0 h1.2,q1]
          simp [tops]
         ·unfold ko
          rw [hd]
          simpa using hi
        ·cases h1
       have tail : ∀ p : PV,(p = .nilsl ∨ ∃ i a b c d,p = .lsl i a b c d ∧ i ∈ tops (ρ id)) → (match p with
         | .lsl id _ _ _ _ => (z :: zs).all fun u => match zbo (penv.getD u .undef) with | some j => j != id | none => false
         | .nilsl | .psl _ _ => true
         | _ => false) = true := by
        rintro p (rfl | ⟨i,a,b,c,d,rfl,hi⟩)
        ·rfl
        ·exact key i hi
       refine tail _ ?_
       cases hs with
       | fr h => cases h with | base h => cases ‹PV.base _ = true›
       | whole h hh =>
         generalize hq : ρ id = q at hh key
         cases q <;> first | cases hh | skip
         ·exact .inl rfl
         ·exact .inr ⟨_,_,_,_,_,rfl,by simp [tops]⟩
       | view h hh h2 =>
         generalize hq : ρ id = q at hh key
         cases q <;> first | cases hh | skip
         ·exact .inl rfl
         ·exact .inr ⟨_,_,_,_,_,rfl,by simp [tops]⟩
      ·rename_i e4
       rw [e4] at hs
       rw [hs.nilsl_eq]
      ·rename_i b es e4
       rw [e4] at hs
       cases hs with
       | fr h => cases h with
         | base h => cases ‹PV.base _ = true›
         | psl => rfl
         | nl => rfl
      ·cases h
     ·cases h
    ·rename_i hne
     split
     ·rename_i e2; exact absurd e2 (hne ·)
     ·rfl
   ·rename_i hne1 hne2
    split
    ·rename_i t ta e; exact absurd e (hne1 t ta)
    ·rename_i cl e; exact absurd e (hne2 cl)
    ·rfl
theorem zsz {c : Cfg} {ρ : Nat → PV} {A : List KO} {env penv : List PV} {σ : Store} (hK : KS ρ A env penv σ) (h : zvb c env A = true) : zrn c penv σ = true := by
 unfold zvb at h
 unfold zrn
 rw [har] at h ⊢
 intro u hu
 have h1 := h u hu
 have h2 := hK.env.getD u
 split at h1
 ·rename_i j a b e
  rw [e] at h2
  obtain ⟨_,id,q1,q2⟩ := zx1 hK h1
  have q3 := (zr6 h2).2
  rw [q1] at q3
  simp only [uv,Option.some.injEq] at q3
  rw [← q3]
  exact q2
 ·cases h1
theorem zuv {c : Cfg} {kc : KCfg} {C : xj} {Cω : z7} (hC : ub C Cω) (hO : OwnOk kc c.P Cω) {env : List PV} {A : List KO} {r : β} {o : Oper} {k : PV → List PV → List KO → Option β} (h : zet c kc C env A o k = some r) : ∃ v env' A',k v env' A' = some r ∧ env'.length = env.length ∧
  ∀ ρ penv σ n0,KS ρ A env penv σ → ∃ p σ',zof c Cω penv σ o = some (p,σ') ∧ Stp n0 ρ A σ v env' penv A' p σ' := by
 unfold zet at h
 split at h
 ·rename_i hg
  obtain ⟨v,e,A',h1,h2,h3⟩ := zut hC hO h
  exact ⟨v,e,A',h1,h2,fun ρ penv σ n0 hK => by rw [zea (zqr hK hg)]; exact h3 ρ penv σ n0 hK⟩
 ·cases h
theorem zd6 {c : Cfg} {kc : KCfg} {C : xj} {Cω : z7} (hC : ub C Cω) (hO : OwnOk kc c.P Cω) {all : List Oper} : ∀ (l : List Oper) {env : List PV} {A : List KO} {k : List PV → List KO → Option β},qb c kc C all l env A k = some r →
  ∃ env' A',k env' A' = some r ∧ env'.length = env.length ∧ ∀ ρ penv σ n0,KS ρ A env penv σ → ∃ penv' σ' ρ',y4 c Cω all l penv σ = some (penv',σ') ∧ KS ρ' A' env' penv' σ' ∧ Go2 n0 ρ A σ ρ' A' σ'
 | [],env,A,k,h => ⟨_,_,h,rfl,fun ρ penv σ n0 hK => ⟨penv,σ,ρ,rfl,hK,Go2.refl _ _ _ _⟩⟩
 | o :: l,env,A,k,h => by
   have go : (zet c kc C env A o fun v env A => zde env o.dst v fun e => qb c kc C all l e A k) = some r → ∃ env' A',k env' A' = some r ∧ env'.length = env.length ∧ ∀ ρ penv σ n0,vy all penv o = some true → KS ρ A env penv σ → ∃ penv' σ' ρ',y4 c Cω all (o :: l) penv σ = some (penv',σ') ∧ KS ρ' A' env' penv' σ' ∧ Go2 n0 ρ A σ ρ' A' σ' := by
    intro h
    obtain ⟨v,e1,A1,h1,hl1,h2⟩ := zuv hC hO h
    rw [ky] at h1
    obtain ⟨e2,A2,h3,hl2,h4⟩ := zd6 hC hO l h1
    refine ⟨e2,A2,h3,by rw [hl2,zl6,hl1],fun ρ penv σ n0 hw hK => ?_⟩
    obtain ⟨p,σ1,g1,ρ1,g2,g3,g4⟩ := h2 ρ penv σ n0 hK
    obtain ⟨penv',σ',ρ',g5,g6,g7⟩ := h4 ρ1 (zfu penv o.dst p) σ1 n0 (g2.withEnv (zps g2.env g3))
    refine ⟨penv',σ',ρ',?_,g6,g4.trans g7⟩
    simp only [y4,hw,Option.bind_some,if_true,g1]
    exact g5
   have no : qb c kc C all l (zfu env o.dst (.tuple [])) A k = some r → ∃ env' A',k env' A' = some r ∧ env'.length = env.length ∧ ∀ ρ penv σ n0,vy all penv o = some false → KS ρ A env penv σ → ∃ penv' σ' ρ',y4 c Cω all (o :: l) penv σ = some (penv',σ') ∧ KS ρ' A' env' penv' σ' ∧ Go2 n0 ρ A σ ρ' A' σ' := by
    intro h
    obtain ⟨e2,A2,h3,hl2,h4⟩ := zd6 hC hO l h
    refine ⟨e2,A2,h3,by rw [hl2,zl6],fun ρ penv σ n0 hw hK => ?_⟩
    obtain ⟨penv',σ',ρ',g5,g6,g7⟩ := h4 ρ (zfu penv o.dst (.tuple [])) σ n0 (hK.withEnv (zps hK.env (.fr (.tuple .nil))))
    refine ⟨penv',σ',ρ',?_,g6,g7⟩
    simp only [y4,hw,Option.bind_some,Bool.false_eq_true,if_false]
    exact g5
   unfold qb at h
   simp only [vj] at h
   split at h
   ·rename_i hg
    obtain ⟨e,A',h1,h2,h3⟩ := go h
    exact ⟨e,A',h1,h2,fun ρ penv σ n0 hK => h3 ρ penv σ n0 (by unfold vy; rw [hg]) hK⟩
   ·rename_i g w hg
    split at h
    ·cases h
    ·rename_i d hd
     have hwb : ∀ {b : Bool} {ρ penv σ},env.getD d .undef = .bool b → KS ρ A env penv σ → vy all penv o = some (b == w) := fun hb hK => by
      have := hK.env.getD d
      rw [hb] at this
      unfold vy
      rw [hg]
      simp only [hd]
      rw [this.bool_eq]
     split at h
     ·rename_i b hb
      split at h
      ·rename_i hbt
       subst hbt
       rw [zb6 hb] at h
       cases w with
       | true =>
         rw [if_pos rfl] at h
         obtain ⟨e,A',h1,h2,h3⟩ := go h
         exact ⟨e,A',h1,h2,fun ρ penv σ n0 hK => h3 ρ penv σ n0 (hwb hb hK) hK⟩
       | false =>
         rw [if_neg (by decide),ky] at h
         obtain ⟨e,A',h1,h2,h3⟩ := no h
         exact ⟨e,A',h1,h2,fun ρ penv σ n0 hK => h3 ρ penv σ n0 (hwb hb hK) hK⟩
      ·rename_i hbt
       have hbf : b = false := by simpa using hbt
       subst hbf
       rw [zb6 hb] at h
       cases w with
       | false =>
         rw [if_pos rfl] at h
         obtain ⟨e,A',h1,h2,h3⟩ := go h
         exact ⟨e,A',h1,h2,fun ρ penv σ n0 hK => h3 ρ penv σ n0 (hwb hb hK) hK⟩
       | true =>
         rw [if_neg (by decide),ky] at h
         obtain ⟨e,A',h1,h2,h3⟩ := no h
         exact ⟨e,A',h1,h2,fun ρ penv σ n0 hK => h3 ρ penv σ n0 (hwb hb hK) hK⟩
     ·rename_i vs hb
      rw [ky] at h
      obtain ⟨e,A',h1,h2,h3⟩ := no h
      refine ⟨e,A',h1,h2,fun ρ penv σ n0 hK => h3 ρ penv σ n0 ?_ hK⟩
      have := hK.env.getD d
      rw [hb] at this
      obtain ⟨ps,e,_⟩ := this.tuple_inv
      unfold vy
      rw [hg]
      simp only [hd]
      rw [e]
     ·cases h
end
end Go.Pvm
namespace Go.Pvm
section
variable {P : Program} {ρ ρ' : Nat → PV} {m : Nat} {A A' : List KO} {env penv : List PV} {σ σ' : Store} {β : Type} {r : β}
theorem zgq : ∀ (l : List Nat) {env : List PV} {A : List KO} {k : List PV → List KO → Option β},zbz l env A k = some r → ∃ env' A',k env' A' = some r ∧ env'.length = env.length ∧
  ∀ ρ penv σ n0,KS ρ A env penv σ → ∃ penv' σ' ρ',kp l penv σ = some (penv',σ') ∧ KS ρ' A' env' penv' σ' ∧ Go2 n0 ρ A σ ρ' A' σ'
 | [],env,A,k,h => ⟨_,_,h,rfl,fun ρ penv σ n0 hK => ⟨penv,σ,ρ,rfl,hK,Go2.refl _ _ _ _⟩⟩
 | t :: l,env,A,k,h => by
   unfold zbz at h
   split at h
   ·rename_i hcl
    rw [haa] at h
    obtain ⟨A1,h1,h⟩ := h
    rw [x9,vj,y5] at h
    obtain ⟨e2,A2,h2,hl,h3⟩ := zgq l h
    refine ⟨e2,A2,h2,by rw [hl]; simp,fun ρ penv σ n0 hK => ?_⟩
    have ht := hK.env.getD t
    obtain ⟨σ1,g0,g1,g2⟩ := zip _ h1 hK n0
    have hfz := ur hK zp ht
    obtain ⟨penv',σ',ρ',g3,g4,g5⟩ := h3 ρ (penv.set t (fz zp σ (penv.getD t .undef))) σ1 n0 (g1.withEnv (g1.env.set (.fr hfz) t))
    refine ⟨penv',σ',ρ',?_,g4,g2.trans g5⟩
    unfold kp zff
    rw [ht.tops_eq hcl,g0]
    exact g3
   ·cases h
theorem zsa {c : Cfg} {f : FuncId} {id : Nat} {k : Bool → List PV → List KO → Option β} (h : zir c f id env A k = some r) : ∃ b env' A',k b env' A' = some r ∧ env'.length = env.length ∧
  ∀ ρ penv σ n0,KS ρ A env penv σ → ∃ penv' σ' ρ',pre c f id penv σ = some (b,penv',σ') ∧ KS ρ' A' env' penv' σ' ∧ Go2 n0 ρ A σ ρ' A' σ' := by
 unfold zir at h
 unfold pre
 split at h
 ·rename_i hc
  exact ⟨_,_,_,h,rfl,fun ρ penv σ n0 hK => ⟨penv,σ,ρ,by rw [hc],hK,Go2.refl _ _ _ _⟩⟩
 ·rename_i b zs hc
  obtain ⟨e,A',h1,hl,h2⟩ := zgq zs h
  refine ⟨b,e,A',h1,hl,fun ρ penv σ n0 hK => ?_⟩
  obtain ⟨penv',σ',ρ',g1,g2,g3⟩ := h2 ρ penv σ n0 hK
  exact ⟨penv',σ',ρ',by rw [hc]; simp only [g1,Option.map_some],g2,g3⟩
theorem zer {n : Nat} {k : List PV → List KO → Option β} (h : zcd (List.range n) env A k = some r) : ∃ env' A',k env' A' = some r ∧ env'.length = env.length ∧
  ∀ ρ penv σ,KS ρ A env penv σ → ∃ ρ',KS ρ' A' env' penv σ ∧ Go2 n ρ A σ ρ' A' σ := by
 unfold zcd at h
 rw [jh] at h
 have hpre : ∀ (l0 l : List Nat) (i : Nat) (k : Nat),l0[i]? = some k → (∃ t,l = l0 ++ t) → l[i]? = some k := fun l0 l i k e ⟨t,ht⟩ => by
  rw [ht,hbh (had.1 e).1]; exact e
 have hadd : ∀ (x : List Nat) (l0 : List Nat),∃ t,x.foldl zrq l0 = l0 ++ t := by
  intro x
  induction x with
  | nil => intro l0; exact ⟨[],by simp⟩
  | cons a x ih =>
    intro l0
    obtain ⟨t,ht⟩ := ih (zrq l0 a)
    rw [List.foldl_cons,ht]
    unfold zrq
    split
    ·exact ⟨t,rfl⟩
    ·exact ⟨[a] ++ t,by rw [hbc]⟩
 have hreach : ∀ (n : Nat) (l0 : List Nat) (i : Nat),∃ t,zb9 n A l0 i = l0 ++ t := by
  intro n
  induction n with
  | zero => intro l0 i; exact ⟨[],by simp [zb9]⟩
  | succ n ih =>
    intro l0 i
    unfold zb9
    split
    ·exact ⟨[],by simp⟩
    ·split
     ·rename_i cs _
      obtain ⟨t,ht⟩ := hadd (tops.topss cs) l0
      obtain ⟨t',ht'⟩ := ih ((tops.topss cs).foldl zrq l0) (i + 1)
      exact ⟨t ++ t',by rw [ht',ht,hbc]⟩
     ·exact ih l0 (i + 1)
 obtain ⟨t,ht⟩ : ∃ t,zb9 64 A ((tops.topss env).foldl zrq (List.range n)) 0 = List.range n ++ t := by
  obtain ⟨t,ht⟩ := hadd (tops.topss env) (List.range n)
  obtain ⟨t',ht'⟩ := hreach 64 ((tops.topss env).foldl zrq (List.range n)) 0
  exact ⟨t ++ t',by rw [ht',ht,hbc]⟩
 rw [ht] at h
 split at h
 ·rename_i hc
  rw [forceVs_eq,y5] at h
  refine ⟨_,_,h,k8 _ _,fun ρ penv σ hK => ?_⟩
  have hlt : ∀ j ∈ List.range n ++ t,j < A.length := fun j hj => by
   have := hc.2
   rw [har] at this
   simpa using this j hj
  have hp := hK.pack hc.1 hlt
  refine ⟨_,hp,hah _,fun _ _ _ => rfl,fun k x hx => ?_,fun hle => ⟨by simp,fun k hk => ?_⟩⟩
  ·unfold ko at hx
   rw [hai,hav] at hx
   cases hq : (List.range n ++ t)[k]? with
   | none => rw [hq] at hx; cases hx
   | some j =>
     rw [hq] at hx
     simp only [Option.map_some,Option.getD_some,jq] at hx
     have e : (List.range n ++ t).getD k 0 = j := by rw [hai,hq]; rfl
     simp only [e] at hx
     exact .inl ⟨j,hx⟩
  ·have hq : (List.range n ++ t)[k]? = some k := hpre (List.range n) _ k k (List.getElem?_range hk) ⟨t,rfl⟩
   have e : (List.range n ++ t).getD k 0 = k := by rw [hai,hq]; rfl
   rw [hai (l := List.map _ _),hav,hq]
   simp only [Option.map_some,Option.getD_some,zb8,jq,e]
   exact ⟨fun h => h,fun h => ⟨h,trivial⟩⟩
 ·cases h
structure More (ρ : Nat → PV) (A : List KO) (ρ' : Nat → PV) (A' : List KO) : Prop where
 len : A.length ≤ A'.length
 r : ∀ k,k < A.length → ρ' k = ρ k
 a : ∀ k,k < A.length → A'.getD k .dead = A.getD k .dead
theorem More.refl (ρ : Nat → PV) (A : List KO) : More ρ A ρ A := ⟨hah _,fun _ _ => rfl,fun _ _ => rfl⟩
theorem More.trans {ρ'' : Nat → PV} {A'' : List KO} (h : More ρ A ρ' A') (h' : More ρ' A' ρ'' A'') : More ρ A ρ'' A'' :=
 ⟨haz h.len h'.len,fun k hk => (h'.r k (hao hk h.len)).trans (h.r k hk),fun k hk => (h'.a k (hao hk h.len)).trans (h.a k hk)⟩
theorem u6 : ∀ (offs : List (Nat × Nat)) {cs pcs : List PV} {A : List KO} {ρ : Nat → PV},KS ρ A env penv σ → VKs ρ A.length cs pcs → ∀ n0,
  ∃ ρ',KS ρ' (xq offs cs A).2 env penv σ ∧ VKs ρ' (xq offs cs A).2.length (xq offs cs A).1 pcs ∧ Go2 n0 ρ A σ ρ' (xq offs cs A).2 σ ∧ More ρ A ρ' (xq offs cs A).2
 | [],cs,pcs,A,ρ,hK,hc,n0 => ⟨ρ,hK,hc,Go2.refl _ _ _ _,More.refl _ _⟩
 | (o,sz) :: offs,cs,pcs,A,ρ,hK,hc,n0 => by
   show ∃ ρ',KS ρ' (xq offs (wb cs A o sz).1 (wb cs A o sz).2).2 env penv σ ∧ VKs ρ' (xq offs (wb cs A o sz).1 (wb cs A o sz).2).2.length (xq offs (wb cs A o sz).1 (wb cs A o sz).2).1 pcs ∧ Go2 n0 ρ A σ ρ' (xq offs (wb cs A o sz).1 (wb cs A o sz).2).2 σ ∧ More ρ A ρ' (xq offs (wb cs A o sz).1 (wb cs A o sz).2).2
   have same : ∀ x : List PV × List KO,x = (cs,A) → ∃ ρ',KS ρ' (xq offs x.1 x.2).2 env penv σ ∧ VKs ρ' (xq offs x.1 x.2).2.length (xq offs x.1 x.2).1 pcs ∧ Go2 n0 ρ A σ ρ' (xq offs x.1 x.2).2 σ ∧ More ρ A ρ' (xq offs x.1 x.2).2 := fun x hx => by
    rw [hx]; exact u6 offs hK hc n0
   have fin : ∀ x : List PV × List KO,wb cs A o sz = x → ∃ ρ',KS ρ' (xq offs x.1 x.2).2 env penv σ ∧ VKs ρ' (xq offs x.1 x.2).2.length (xq offs x.1 x.2).1 pcs ∧ Go2 n0 ρ A σ ρ' (xq offs x.1 x.2).2 σ ∧ More ρ A ρ' (xq offs x.1 x.2).2 := fun x hx => by
    unfold wb at hx
    split at hx
    ·rename_i hq
     have stay : ∀ {m : Nat} {ρ : Nat → PV} {u : PV} {p : PV},pcs[o]? = some p → VKs ρ m cs pcs → VK ρ m u p → VKs ρ m (cs.set o u) pcs := fun {m ρ u p} hp hc hu => by
      have q := hc.set hu o
      have e : pcs.set o p = pcs := by
       refine List.ext_getElem? fun i => ?_
       by_cases hi : o = i
       ·subst hi; rw [hp,ha3 (had.1 hp).1]
       ·rw [ha5 hi]
      rw [e] at q
      exact q
     split at hx
     ·subst hx
      obtain ⟨p,hp,hv⟩ := hc.get hq
      have hpn := hv.nilsl_eq
      subst hpn
      exact u6 offs hK (stay hp hc (.fr (.nl false))) n0
     ·rename_i hsz
      subst hx
      obtain ⟨h1,h2⟩ := hK.more (σ' := σ) (u := .nilsl) (o := .made true sz []) (hah _) (fun _ _ => rfl) (fun i hi => by cases hi) ⟨hsz,rfl,.inl ⟨rfl,rfl⟩⟩ n0
      obtain ⟨p,hp,hv⟩ := hc.get hq
      have hpn := hv.nilsl_eq
      subst hpn
      have hw : VK (upd ρ A.length .nilsl) (A ++ [KO.made true sz []]).length (whole A.length sz) .nilsl := by
       have : VK (upd ρ A.length .nilsl) (A ++ [KO.made true sz []]).length (.lsl A.length sz 0 0 none) (upd ρ A.length .nilsl A.length) := .whole (by simp) (by rw [y8]; rfl)
       rw [y8] at this
       exact this
      have hm : More ρ A (upd ρ A.length .nilsl) (A ++ [KO.made true sz []]) := ⟨by simp,fun k hk => qr _ (by omega),fun k hk => za0 hk⟩
      have hc' : VKs (upd ρ A.length .nilsl) (A ++ [KO.made true sz []]).length (cs.set o (whole A.length sz)) pcs := by
       have q := (hc.mono hm.len hm.r).set hw o
       have e : pcs.set o .nilsl = pcs := by
        refine List.ext_getElem? fun i => ?_
        by_cases hi : o = i
        ·subst hi; rw [hp,ha3 (had.1 hp).1]
        ·rw [ha5 hi]
       rw [e] at q
       exact q
      obtain ⟨ρ',g1,g2,g3,g4⟩ := u6 offs h1 hc' n0
      exact ⟨ρ',g1,g2,h2.trans g3,hm.trans g4⟩
    ·exact same x hx.symm
   exact fin _ rfl
theorem zen (pl : List Nat) : ∀ (l : List (Nat × TypeId)) {env : List PV} {A : List KO} {ρ : Nat → PV},KS ρ A env penv σ → ∀ n0,∃ ρ',KS ρ' (wq P pl l env A).2 (wq P pl l env A).1 penv σ ∧ Go2 n0 ρ A σ ρ' (wq P pl l env A).2 σ
 | [],env,A,ρ,hK,n0 => ⟨ρ,hK,Go2.refl _ _ _ _⟩
 | (i,t) :: l,env,A,ρ,hK,n0 => by
   have fin : ∀ {x : PV} (cs : List PV) (mk : List PV → PV),env.getD i .undef = x → i < env.length → (∀ ρ m p,VK ρ m x p → ∃ pcs,VKs ρ m cs pcs ∧ ∀ ρ' m' cs',VKs ρ' m' cs' pcs → VK ρ' m' (mk cs') p) →
     ∃ ρ',KS ρ' (wq P pl l (env.set i (mk (xq (vk (pl.contains (2000000 + i)) (kq P 8 t 0)) cs A).1)) (xq (vk (pl.contains (2000000 + i)) (kq P 8 t 0)) cs A).2).2 (wq P pl l (env.set i (mk (xq (vk (pl.contains (2000000 + i)) (kq P 8 t 0)) cs A).1)) (xq (vk (pl.contains (2000000 + i)) (kq P 8 t 0)) cs A).2).1 penv σ ∧ Go2 n0 ρ A σ ρ' (wq P pl l (env.set i (mk (xq (vk (pl.contains (2000000 + i)) (kq P 8 t 0)) cs A).1)) (xq (vk (pl.contains (2000000 + i)) (kq P 8 t 0)) cs A).2).2 σ := by
    intro x cs mk hx hi hcs
    have hxi := hK.env.getD i
    rw [hx] at hxi
    obtain ⟨pcs,h1,h2⟩ := hcs _ _ _ hxi
    obtain ⟨ρ1,g1,g2,g3,_⟩ := u6 (vk (pl.contains (2000000 + i)) (kq P 8 t 0)) hK h1 n0
    have hset : VKs ρ1 (xq (vk (pl.contains (2000000 + i)) (kq P 8 t 0)) cs A).2.length (env.set i (mk (xq (vk (pl.contains (2000000 + i)) (kq P 8 t 0)) cs A).1)) penv := by
     have q := g1.env.set (h2 _ _ _ g2) i
     have e : penv.set i (penv.getD i .undef) = penv := by
      refine List.ext_getElem? fun j => ?_
      by_cases hj : i = j
      ·subst hj
       have hil : i < penv.length := by rw [← hK.env.len]; exact hi
       rw [ha3 hil,hai,haf hil]; rfl
      ·rw [ha5 hj]
     rw [e] at q
     exact q
    obtain ⟨ρ',g4,g5⟩ := zen pl l (g1.withEnv hset) n0
    exact ⟨ρ',g4,g3.trans g5⟩
   have hil : ∀ {x : PV},env.getD i .undef = x → x.known = true → i < env.length := fun hx hk => by
    refine Nat.lt_of_not_le fun hge => ?_
    rw [hai,hbv hge] at hx
    subst hx
    cases hk
   unfold wq
   split
   ·rename_i cs hx
    exact fin cs .agg hx (hil hx rfl) fun ρ m p hp => by
     obtain ⟨ps,rfl,hq⟩ := hp.agg_inv
     exact ⟨ps,hq,fun _ _ _ h => .agg h⟩
   ·rename_i hx
    exact fin [.nilsl] (fun cs => cs.headD .nilsl) hx (hil hx rfl) fun ρ m p hp => by
     rw [hp.nilsl_eq]
     refine ⟨[.nilsl],.one (.fr (.base _ rfl)),fun ρ' m' cs' h => ?_⟩
     cases h with
     | cons a b => exact a
   ·exact zen pl l hK n0
theorem zeo (pl : List Nat) : ∀ (l : List Nat) {A : List KO} {ρ : Nat → PV},KS ρ A env penv σ → ∀ n0,∃ ρ',KS ρ' (zgc P pl l A) env penv σ ∧ Go2 n0 ρ A σ ρ' (zgc P pl l A) σ
 | [],A,ρ,hK,n0 => ⟨ρ,hK,Go2.refl _ _ _ _⟩
 | k :: l,A,ρ,hK,n0 => by
   unfold zgc
   split
   ·rename_i w t cs hj
    have hd : isDead (A.getD k .dead) = false := by rw [hj]; rfl
    obtain ⟨id,pcs,ro,e,s1,s2,s3,s4⟩ := hK.get (jt hd) hj
    obtain ⟨ρ1,g1,g2,g3,g4⟩ := u6 (vk (pl.contains (1000000 + t)) (kq P 8 t 0)) hK s2 n0
    have hkl := jt hd
    have hj' : (xq (vk (pl.contains (1000000 + t)) (kq P 8 t 0)) cs A).2.getD k .dead = .box w t cs := by rw [g4.a k hkl,hj]
    obtain ⟨h1,h2⟩ := g1.put (σ' := σ) (j := k) (o := .box w t (xq (vk (pl.contains (1000000 + t)) (kq P 8 t 0)) cs A).1) (by rw [hj']; rfl) (hah _) (fun _ _ _ => rfl) ⟨id,pcs,ro,by rw [g4.r k hkl]; exact e,s1,g2,s3,s4⟩ (fun _ => rfl) n0
    obtain ⟨ρ',g5,g6⟩ := zeo pl l h1 n0
    exact ⟨ρ',g5,(g3.trans h2).trans g6⟩
   ·exact zeo pl l hK n0
theorem zat (pl : List Nat) : ∀ (l : List (Nat × TypeId)) (env : List PV) (A : List KO),(wq P pl l env A).1.length = env.length
 | [],_,_ => rfl
 | (i,t) :: l,env,A => by
   unfold wq
   split
   ·rw [zat pl l]; simp
   ·rw [zat pl l]; simp
   ·exact zat pl l _ _
theorem zo1 : ∀ (l : List Nat) (A : List KO),WkA A (wkA l A)
 | [],A => ⟨rfl,fun j => ⟨fun _ _ _ _ h => h,fun h => h,fun h => h⟩⟩
 | i :: l,A => by
   unfold wkA
   split
   ·rename_i w sz es hj
    obtain ⟨h1,h2⟩ := zo1 l (A.set i (.made false sz es))
    have hil : i < A.length := jt (by rw [hj]; rfl)
    refine ⟨by rw [h1]; simp,fun j => ?_⟩
    obtain ⟨a,b,c⟩ := h2 j
    by_cases hji : j = i
    ·subst hji
     rw [zhq hil] at a b c
     rw [hj]
     refine ⟨fun ρ m σ u ⟨q0,q1,q2⟩ => a ρ m σ u ⟨q0,q1,q2.imp (fun x => x) fun ⟨id,cap,ro,ps,tl,e,s1,s2,s3,s4,s5,s6⟩ => ⟨id,cap,ro,ps,tl,e,s1,s2,s3,s4,(fun hwt => by cases hwt),s6⟩⟩,fun h => rfl,fun h => by cases h⟩
    ·rw [getD_set_ne hji] at a b c
     exact ⟨a,b,c⟩
   ·exact zo1 l A
theorem zp4 : ∀ (l : List Nat) {env : List PV} {A : List KO} {ρ : Nat → PV},KS ρ A env penv σ → ∀ n0,∃ ρ',KS ρ' (mvA l env A).2 (mvA l env A).1 penv σ ∧ Go2 n0 ρ A σ ρ' (mvA l env A).2 σ
 | [],env,A,ρ,hK,n0 => ⟨ρ,hK,Go2.refl _ _ _ _⟩
 | j :: l,env,A,ρ,hK,n0 => by
   unfold mvA
   split
   ·rename_i w sz es hj
    have hd : isDead (A.getD j .dead) = false := by rw [hj]; rfl
    obtain ⟨g1,g2⟩ := hK.renew (σ' := σ) (f := mvF j A.length) (j := j) (u := ρ j) (o := .made w sz es) hd (by rw [hj]; rfl) (fun k k' hk e => by
      unfold mvF at e
      split at e
      ·rename_i hkj
       cases e
       exact ⟨by omega,by rw [y8,hkj]⟩
      ·cases e
       exact ⟨by omega,qr _ (by omega)⟩)
     (hah _) (fun _ _ _ => rfl) (fun i hi => .inl hi) (hK.get (jt hd) hj) n0
    obtain ⟨ρ',g3,g4⟩ := zp4 l g1 n0
    exact ⟨ρ',g3,g2.trans g4⟩
   ·exact zp4 l hK n0
theorem zkw : ∀ (l : List Nat) (env : List PV) (A : List KO),(mvA l env A).1.length = env.length
 | [],_,_ => rfl
 | j :: l,env,A => by
   unfold mvA
   split
   ·rw [zkw l,k8]
   ·exact zkw l _ _
theorem zjb {n0 : Nat} {tys : List (Nat × TypeId)} {wk : List Nat × List Nat} {k : List PV → List KO → Option β} (h : zcl P n0 tys wk env A k = some r) : ∃ env' A',k env' A' = some r ∧ env'.length = env.length ∧
  ∀ ρ penv σ,KS ρ A env penv σ → ∃ ρ',KS ρ' A' env' penv σ ∧ Go2 n0 ρ A σ ρ' A' σ := by
 unfold zcl at h
 simp only [forceVs_eq,y5] at h
 obtain ⟨e,A',h1,hl,h2⟩ := zer h
 refine ⟨e,_,h1,by rw [hl,zkw,zat],fun ρ penv σ hK => ?_⟩
 obtain ⟨ρ1,g1,g2⟩ := zen (P := P) wk.2 tys hK n0
 obtain ⟨ρ2,g3,g4⟩ := zeo (P := P) wk.2 _ g1 n0
 obtain ⟨ρ2',g3',g4'⟩ := zp4 wk.2 g3 n0
 obtain ⟨ρ3,g5,g6⟩ := h2 ρ2' penv σ g3'
 obtain ⟨g7,g8⟩ := g5.wk (zo1 wk.1 A') n0
 exact ⟨ρ3,g7,(((g2.trans g4).trans g4').trans g6).trans g8⟩
theorem zhn (he : VKs ρ m env penv) (n : Nat) (l : List Nat) : VKs ρ m (za4 n l env) (za4 n l penv) := by
 refine .map _ fun i _ => ?_
 show VK ρ m (if l.contains i = true then env.getD i .undef else .undef) (if l.contains i = true then penv.getD i .undef else .undef)
 split
 ·exact he.getD i
 ·exact .undef _
theorem zh8 {sk : List (Nat × Sk)} {ml : List Nat} {e : List PV} : ∀ (is : List Nat) {k : List PV → Option β},zdz sk ml e is k = some r → ∃ vs,k vs = some r ∧ vs.length = is.length ∧ ∀ ρ m pe,VKs ρ m e pe → VKs ρ m vs (is.map fun i => if ml.contains i = true then pe.getD i .undef else .undef)
 | [],k,h => ⟨[],h,rfl,fun _ _ _ _ => .nil⟩
 | i :: is,k,h => by
   unfold zdz at h
   split at h
   ·rename_i s hf
    obtain ⟨v',h1,h2,_⟩ := zfj _ h
    obtain ⟨vs,h3,hl,h4⟩ := zh8 is h1
    refine ⟨_,h3,by simp [hl],fun ρ m pe hp => .cons ?_ (h4 ρ m pe hp)⟩
    split at hf
    ·rename_i hc
     show VK ρ m v' (if ml.contains i = true then pe.getD i .undef else .undef)
     rw [if_pos hc]
     exact h2 _ _ _ (hp.getD i)
    ·cases hf
   ·obtain ⟨vs,h3,hl,h4⟩ := zh8 is h
    exact ⟨_,h3,by simp [hl],fun ρ m pe hp => .cons (.undef _) (h4 ρ m pe hp)⟩
theorem wo {cd : Operand} {b : Bool} {k : List PV → Option β} (h : opd env cd = .bool b) : zui env cd b k = k env := zik h
theorem vv {c : Cfg} {kc : KCfg} {C : xj} {L : ju} {Cω : z7} {Lω : xg} (hC : ub C Cω) (hL : zj2 L Lω) (hO : OwnOk kc c.P Cω) {f : FuncId} {n0 : Nat} : ∀ (cd : Code) {env : List PV} {A : List KO} {k : Ex → List PV → List KO → Option β},y3 c kc C L f n0 cd env A k = some r →
  ∃ x env' A',k x env' A' = some r ∧ env'.length = env.length ∧ ∀ ρ penv σ,KS ρ A env penv σ → ∃ penv' σ' ρ',zg c Cω Lω f cd penv σ = some (x,penv',σ') ∧ KS ρ' A' env' penv' σ' ∧ Go2 n0 ρ A σ ρ' A' σ'
 | .skip,env,A,k,h | .label _,env,A,k,h | .exit _,env,A,k,h | .ret,env,A,k,h => ⟨_,_,_,h,rfl,fun ρ penv σ hK => ⟨penv,σ,ρ,rfl,hK,Go2.refl _ _ _ _⟩⟩
 | .region id ops draw,env,A,k,h => by
   simp only [y3] at h
   obtain ⟨b,e0,A0,h,hl0,h0⟩ := zsa h
   simp only [zg]
   unfold kf
   split at h
   ·rename_i hd
    simp only [if_pos hd]
    split at h
    ·rename_i hk
     rw [haq,haq,haq] at hk
     obtain ⟨e,A',h1,hl,h2⟩ := zd6 (c := { c.at_ f with strict := true,calm := b,calmA := zbe c f id ops.toList,floZ := c.flo f id,floA := ki (c.flo f id) ops.toList }) (Cω := Cω) hC hO _ h
     refine ⟨_,_,_,h1,by rw [hl,hl0],fun ρ penv σ hK => ?_⟩
     obtain ⟨penv0,σ0,ρ0,g1,g2,g3⟩ := h0 ρ penv σ n0 hK
     have hk' : (wg { c.at_ f with calm := b,calmA := zbe c f id ops.toList,floZ := c.flo f id,floA := ki (c.flo f id) ops.toList } ops.toList && qm ops.toList && (zro { c.at_ f with floZ := c.flo f id } ops.toList && zrn { c.at_ f with floZ := c.flo f id } penv0 σ0)) = true := by rw [zgn hk.1.1,hk.1.2,hk.2.1,zsz g2 hk.2.2]; rfl
     obtain ⟨penv',σ',ρ',g4,g5,g6⟩ := h2 ρ0 penv0 σ0 n0 g2
     refine ⟨penv',σ',ρ',?_,g5,g3.trans g6⟩
     rw [g1]
     simp only [Option.bind_some]
     rw [if_pos hk',g4]
     rfl
    ·cases h
   ·rename_i hd
    simp only [if_neg hd]
    obtain ⟨e,A',h1,hl,h2⟩ := zd6 (c := c.at_ f) (Cω := Cω) hC hO _ h
    refine ⟨_,_,_,h1,by rw [hl,hl0],fun ρ penv σ hK => ?_⟩
    obtain ⟨penv0,σ0,ρ0,g1,g2,g3⟩ := h0 ρ penv σ n0 hK
    obtain ⟨penv',σ',ρ',g4,g5,g6⟩ := h2 ρ0 penv0 σ0 n0 g2
    refine ⟨penv',σ',ρ',?_,g5,g3.trans g6⟩
    rw [g1]
    simp only [Option.bind_some]
    rw [g4]
    rfl
 | .seq a b,env,A,k,h => by
   simp only [y3] at h
   obtain ⟨x,e,A1,h1,hl1,h2⟩ := vv hC hL hO a h
   simp only [zg]
   cases x with
   | normal =>
     obtain ⟨x',e',A2,h3,hl2,h4⟩ := vv hC hL hO b h1
     refine ⟨x',e',A2,h3,by rw [hl2,hl1],fun ρ penv σ hK => ?_⟩
     obtain ⟨penv1,σ1,ρ1,g1,g2,g3⟩ := h2 ρ penv σ hK
     obtain ⟨penv2,σ2,ρ2,g4,g5,g6⟩ := h4 ρ1 penv1 σ1 g2
     exact ⟨penv2,σ2,ρ2,by rw [g1]; exact g4,g5,g3.trans g6⟩
   | exit i =>
     refine ⟨_,e,A1,h1,hl1,fun ρ penv σ hK => ?_⟩
     obtain ⟨penv1,σ1,ρ1,g1,g2,g3⟩ := h2 ρ penv σ hK
     exact ⟨penv1,σ1,ρ1,by rw [g1]; rfl,g2,g3⟩
   | ret =>
     refine ⟨_,e,A1,h1,hl1,fun ρ penv σ hK => ?_⟩
     obtain ⟨penv1,σ1,ρ1,g1,g2,g3⟩ := h2 ρ penv σ hK
     exact ⟨penv1,σ1,ρ1,by rw [g1]; rfl,g2,g3⟩
 | .cond cd a b,env,A,k,h => by
   simp only [y3] at h
   simp only [zg]
   split at h
   ·rename_i t ht
    have hb : ∀ {ρ penv σ},KS ρ A env penv σ → opd penv cd = .bool t := fun hK => by
     have := xu hK.env cd
     rw [ht] at this
     exact this.bool_eq
    split at h
    ·rename_i htt
     subst htt
     rw [wo ht] at h
     obtain ⟨x,e,A1,h1,hl1,h2⟩ := vv hC hL hO a h
     refine ⟨x,e,A1,h1,hl1,fun ρ penv σ hK => ?_⟩
     obtain ⟨penv1,σ1,ρ1,g1,g2⟩ := h2 ρ penv σ hK
     exact ⟨penv1,σ1,ρ1,by rw [hb hK]; exact g1,g2⟩
    ·rename_i htt
     have htf : t = false := by simpa using htt
     subst htf
     rw [wo ht] at h
     obtain ⟨x,e,A1,h1,hl1,h2⟩ := vv hC hL hO b h
     refine ⟨x,e,A1,h1,hl1,fun ρ penv σ hK => ?_⟩
     obtain ⟨penv1,σ1,ρ1,g1,g2⟩ := h2 ρ penv σ hK
     exact ⟨penv1,σ1,ρ1,by rw [hb hK]; exact g1,g2⟩
   ·cases h
 | .block id cd,env,A,k,h => by
   simp only [y3] at h
   obtain ⟨x,e,A1,h1,hl1,h2⟩ := vv hC hL hO cd h
   simp only [zg]
   cases x with
   | normal =>
     refine ⟨_,e,A1,h1,hl1,fun ρ penv σ hK => ?_⟩
     obtain ⟨penv1,σ1,ρ1,g1,g2⟩ := h2 ρ penv σ hK
     exact ⟨penv1,σ1,ρ1,by rw [g1]; rfl,g2⟩
   | ret =>
     refine ⟨_,e,A1,h1,hl1,fun ρ penv σ hK => ?_⟩
     obtain ⟨penv1,σ1,ρ1,g1,g2⟩ := h2 ρ penv σ hK
     exact ⟨penv1,σ1,ρ1,by rw [g1]; rfl,g2⟩
   | exit i =>
     simp only at h1
     split at h1
     ·rename_i hi
      refine ⟨_,e,A1,h1,hl1,fun ρ penv σ hK => ?_⟩
      obtain ⟨penv1,σ1,ρ1,g1,g2⟩ := h2 ρ penv σ hK
      exact ⟨penv1,σ1,ρ1,by rw [g1]; simp only [Option.map_some]; rw [if_pos hi],g2⟩
     ·rename_i hi
      refine ⟨_,e,A1,h1,hl1,fun ρ penv σ hK => ?_⟩
      obtain ⟨penv1,σ1,ρ1,g1,g2⟩ := h2 ρ penv σ hK
      exact ⟨penv1,σ1,ρ1,by rw [g1]; simp only [Option.map_some]; rw [if_neg hi],g2⟩
 | .loop cd,env,A,k,h => by
   simp only [y3] at h
   simp only [zg]
   split at h
   ·rename_i hd l hm
    obtain ⟨e0,A0,h,hl0,h0⟩ := zjb h
    rw [haa] at h
    obtain ⟨⟨x,e,A1⟩,h1,h2⟩ := h
    have key : ∀ {sk : List (Nat × Sk)} {os : List OSk} {ml : List Nat} {kk : List PV → List KO → Option β},(zdz sk ml e (List.range env.length) fun e => wh os A1 fun A => kk e A) = some r → (zur l x).map (·.1) = ml →
      ∃ e' A',kk e' A' = some r ∧ e'.length = env.length ∧ ∀ ρ penv σ,KS ρ A env penv σ → ∃ penv' σ' ρ',(Lω f cd (ux c f cd penv.length penv) σ).map (fun (x,e,s) => (x,zhc c f cd x penv.length e,s)) = some (x,penv',σ') ∧ KS ρ' A' e' penv' σ' ∧ Go2 n0 ρ A σ ρ' A' σ' := by
     intro sk os ml kk hh hml
     obtain ⟨vs,h3,hl3,h4⟩ := zh8 _ hh
     obtain ⟨A',h5,h6⟩ := zfk h3
     refine ⟨vs,A',h5,by rw [hl3]; simp,fun ρ penv σ hK => ?_⟩
     have hlen := hK.env.len
     obtain ⟨ρ0,g1,g2⟩ := h0 ρ (za4 env.length hd penv) σ (hK.withEnv (zhn hK.env _ _))
     obtain ⟨penv1,σ1,ρ1,g3,g4,g5⟩ := hL f cd n0 e0 A0 x e A1 h1 ρ0 _ σ g1
     have hh' : ux c f cd penv.length penv = za4 env.length hd penv := by unfold ux; rw [hm,hlen]
     have ho : zhc c f cd x penv.length penv1 = za4 env.length ml penv1 := by unfold zhc; rw [hm,hlen]; simp only; rw [hml]
     obtain ⟨g6,g7⟩ := g4.wk h6 n0
     refine ⟨za4 env.length ml penv1,σ1,ρ1,?_,g6.withEnv ?_,(g2.trans g5).trans g7⟩
     ·rw [hh',g3]
      simp only [Option.map_some]
      rw [ho]
     ·rw [h6.1]
      exact h4 _ _ _ g4.env
    cases x with
    | normal => cases h2
    | exit i =>
      replace h2 : (if kc.noex f (zq cd) = false then zdz (kc.osk f (zq cd) _ _).1 (l.1.map (·.1)) e (List.range env.length) fun e => wh (kc.osk f (zq cd) _ _).2 A1 fun A => k (.exit i) e A else none) = some r := h2
      split at h2
      ·obtain ⟨e',A',q1,q2,q3⟩ := key h2 rfl
       exact ⟨_,e',A',q1,q2,q3⟩
      ·cases h2
    | ret =>
      replace h2 : (match l.2 with | [] => none | _ :: _ => zdz (kc.rsk f (zq cd) _ _).1 (l.2.map (·.1)) e (List.range env.length) fun e => wh (kc.rsk f (zq cd) _ _).2 A1 fun A => k .ret e A) = some r := h2
      split at h2
      ·cases h2
      ·rename_i hq
       obtain ⟨e',A',q1,q2,q3⟩ := key h2 rfl
       exact ⟨_,e',A',q1,q2,q3⟩
   ·cases h
 | .rangeFunc ..,_,_,_,h | .scope _,_,_,_,h | .goto _,_,_,_,h | .refuse _,_,_,_,h => by simp only [y3] at h; cases h
theorem zd3 {e : List PV} : ∀ (rs : List ResultVar) {k : List PV → Option β},zpp P A e rs k = some r → ∃ vs,k vs = some r ∧ ∀ ρ penv σ,KS ρ A e penv σ → ∃ ps,jl P σ penv rs = some ps ∧ VKs ρ A.length vs ps
 | [],k,h => ⟨[],h,fun ρ penv σ hK => ⟨[],rfl,.nil⟩⟩
 | .tmp t :: rs,k,h => by
   obtain ⟨vs,h1,h2⟩ := zd3 rs h
   refine ⟨_,h1,fun ρ penv σ hK => ?_⟩
   obtain ⟨ps,g1,g2⟩ := h2 ρ penv σ hK
   exact ⟨_,by simp only [jl,u5,Option.bind_some,g1]; rfl,.cons (hK.env.getD t) g2⟩
 | .cell a t :: rs,k,h => by
   simp only [zpp] at h
   obtain ⟨v,h0,hv⟩ := zi1 h
   rw [x9] at h0
   obtain ⟨vs,h1,h2⟩ := zd3 rs h0
   refine ⟨_,h1,fun ρ penv σ hK => ?_⟩
   obtain ⟨q,e1,e2⟩ := hv ρ e penv σ _ hK (hK.env.getD a)
   obtain ⟨ps,g1,g2⟩ := h2 ρ penv σ hK
   exact ⟨_,by simp only [jl,u5,e1,Option.bind_some,g1]; rfl,.cons e2 g2⟩
theorem VKs.split {a b ps : List PV} (h : VKs ρ m (a ++ b) ps) : ∃ p q,ps = p ++ q ∧ VKs ρ m a p ∧ VKs ρ m b q :=
 ⟨ps.take a.length,ps.drop a.length,(List.take_append_drop _ _).symm,by have := h.take a.length; rwa [List.take_left] at this,by have := h.drop a.length; rwa [List.drop_left] at this⟩
theorem zo5 (u : PV) (a n : Nat) : tops (zjk u a n) = tops u := by
 cases u <;> rfl
theorem zs3 {u : PV} {a n : Nat} (h : hdl u = true) : hdl (zjk u a n) = true := by
 cases u <;> first | rfl | cases h
theorem KOR.cut {ρ' : Nat → PV} {m' : Nat} {u : PV} {w : Bool} {sz n : Nat} {es : List (List PV)} (h : KOR ρ m σ u (.made w sz es)) (hv : zo2 u 0 n) : KOR ρ' m' σ (zjk u 0 n) (.made w sz (es.take n)) := by
 obtain ⟨q0,q1,⟨rfl,rfl⟩ | ⟨id,cap,ro,ps,tl,rfl,s1,s2,s3,s4,s5,s6⟩⟩ := h
 ·exact ⟨q0,by simp [zt],.inl ⟨rfl,by simp⟩⟩
 ·have hv : 0 + n ≤ es.length := hv
  have hl := s2.len
  refine ⟨q0,jk q1 n,.inr ⟨id,cap.map (· - 0),ro,ps.take n,ps.drop n ++ tl,?_,?_,s2.take n,?_,xp (kd (jv s2 q1) n) s4,s5,s6⟩⟩
  ·show PV.lsl id sz 0 n _ = _
   rw [ha7]
   congr 1
   omega
  ·rw [← hbc,List.take_append_drop]; exact s1
  ·rcases s3 with rfl | rfl
   ·exact .inl rfl
   ·right
    simp only [Option.map_some]
    congr 1
    rw [ha7,hak,List.length_drop]
    omega
theorem zax (m0 : Nat) : ∀ (nr : List Nat) {dn vs : List PV} {A : List KO} {k : List PV → List KO → Option β},zdw m0 nr dn vs A k = some r → ∃ vs' A',k vs' A' = some r ∧
  ∀ ρ σ n0 ps,KS ρ A (dn ++ vs) ps σ → ∃ ρ',KS ρ' A' vs' ps σ ∧ Go2 n0 ρ A σ ρ' A' σ
 | [],dn,vs,A,k,h => ⟨_,A,h,fun ρ σ n0 ps hK => ⟨ρ,hK,Go2.refl _ _ _ _⟩⟩
 | _ :: _,dn,[],A,k,h => ⟨dn,A,h,fun ρ σ n0 ps hK => by rw [hbj] at hK; exact ⟨ρ,hK,Go2.refl _ _ _ _⟩⟩
 | n :: nr,dn,v :: vs,A,k,h => by
   have rest : zdw m0 nr (dn ++ [v]) vs A k = some r → ∃ vs' A',k vs' A' = some r ∧
     ∀ ρ σ n0 ps,KS ρ A (dn ++ v :: vs) ps σ → ∃ ρ',KS ρ' A' vs' ps σ ∧ Go2 n0 ρ A σ ρ' A' σ := fun h => by
    obtain ⟨vs',A',h1,h2⟩ := zax m0 nr h
    refine ⟨_,A',h1,fun ρ σ n0 ps hK => h2 ρ σ n0 ps ?_⟩
    rw [hbc]; exact hK
   cases n with
   | zero => exact rest h
   | succ sz =>
     unfold zdw at h
     split at h
     ·obtain ⟨vs',A',h1,h2⟩ := zax m0 nr h
      refine ⟨_,A',h1,fun ρ σ n0 ps hK => ?_⟩
      obtain ⟨pd,p1,rfl,hd,hv⟩ := hK.env.split
      obtain ⟨p,pt,rfl,hv,ht⟩ := VKs.cons_inv hv
      rw [hv.nilsl_eq]
      obtain ⟨m1,m2⟩ := (hK.withEnv (hd.app ht)).more (σ' := σ) (u := .nilsl) (o := .made true (sz + 1) []) (hah _) (fun _ _ => rfl) (fun i hi => by cases hi) ⟨Nat.succ_ne_zero _,rfl,.inl ⟨rfl,rfl⟩⟩ n0
      have hl : A.length < (A ++ [KO.made true (sz + 1) []]).length := by simp
      have hw : VK (upd ρ A.length .nilsl) (A ++ [KO.made true (sz + 1) []]).length (.lsl A.length (sz + 1) 0 0 none) (upd ρ A.length .nilsl A.length) := .whole hl (by rw [y8]; rfl)
      rw [y8] at hw
      obtain ⟨q1,q2,e9,hd',ht'⟩ := m1.env.split
      have hle : q1.length = pd.length := by rw [← hd'.len,← hd.len]
      obtain ⟨rfl,rfl⟩ := List.append_inj e9.symm hle
      obtain ⟨ρ',g1,g2⟩ := h2 _ σ n0 _ (m1.withEnv (by rw [hbc]; exact hd'.app (.cons hw ht')))
      exact ⟨ρ',g1,m2.trans g2⟩
     ·rename_i j sz' a n
      split at h
      ·rename_i hc
       obtain ⟨hj0,rfl,rfl,rfl⟩ := hc
       split at h
       rotate_left
       ·cases h
       rename_i sz'' es hj
       split at h
       rotate_left
       ·cases h
       rename_i hsz
       subst hsz
       unfold vm at h
       rw [forceVs_eq,y5] at h
       obtain ⟨vs',A',h1,h2⟩ := zax m0 nr h
       refine ⟨_,A',h1,fun ρ σ n0 ps hK => ?_⟩
       obtain ⟨pd,p1,rfl,hd,hv⟩ := hK.env.split
       obtain ⟨p,pt,rfl,hv,ht⟩ := VKs.cons_inv hv
       obtain ⟨hjl,hh,⟨_,_,_,rfl⟩ | ⟨e,_⟩⟩ := hv.lsl_inv
       rotate_left
       ·cases e
       have hko := hK.get hjl hj
       obtain ⟨ρ1,s1,s2,s3⟩ := (hK.withEnv (hd.app ht)).anew (u := ρ j) (σ' := σ) (new := es) hj n0 hh (hah _) (fun _ _ _ => rfl) (fun i hi => .inl hi) hko
       obtain ⟨q1,q2,e9,hd',ht'⟩ : ∃ q1 q2,pd ++ pt = q1 ++ q2 ∧ VKs ρ1 _ ((rnm.rnms (k7 [j]) (dn ++ vs)).take dn.length) q1 ∧ VKs ρ1 _ ((rnm.rnms (k7 [j]) (dn ++ vs)).drop dn.length) q2 :=
        ⟨(pd ++ pt).take dn.length,(pd ++ pt).drop dn.length,(List.take_append_drop _ _).symm,s1.env.take _,s1.env.drop _⟩
       have hle : q1.length = pd.length := by
        rw [← hd'.len,ha7,k8,hak,← hd.len]; omega
       obtain ⟨rfl,rfl⟩ := List.append_inj e9.symm hle
       obtain ⟨ρ',g1,g2⟩ := h2 _ σ n0 _ (s1.withEnv (by rw [hbc]; exact hd'.app (.cons s2 ht')))
       exact ⟨ρ',g1,s3.trans g2⟩
      ·exact rest h
     ·rename_i j sz' a n c0
      split at h
      ·rename_i hc
       obtain ⟨rfl,rfl⟩ := hc
       split at h
       rotate_left
       ·cases h
       rename_i ha0
       subst ha0
       split at h
       rotate_left
       ·cases h
       rename_i sz'' es hj
       split at h
       rotate_left
       ·cases h
       rename_i hsz
       subst hsz
       unfold vm at h
       rw [forceVs_eq,y5] at h
       obtain ⟨vs',A',h1,h2⟩ := zax m0 nr h
       refine ⟨_,A',h1,fun ρ σ n0 ps hK => ?_⟩
       obtain ⟨pd,p1,rfl,hd,hv⟩ := hK.env.split
       obtain ⟨p,pt,rfl,hv,ht⟩ := VKs.cons_inv hv
       obtain ⟨hjl,hh,⟨e,_⟩ | ⟨_,hvo,rfl⟩⟩ := hv.lsl_inv
       ·cases e
       have hko := hK.get hjl hj
       obtain ⟨ρ1,s1,s2,s3⟩ := (hK.withEnv (hd.app ht)).anew (u := zjk (ρ j) 0 n) (σ' := σ) (new := es.take n) hj n0 (zs3 hh) (hah _) (fun _ _ _ => rfl) (fun i hi => .inl (by rwa [zo5] at hi)) (KOR.cut hko hvo)
       obtain ⟨q1,q2,e9,hd',ht'⟩ : ∃ q1 q2,pd ++ pt = q1 ++ q2 ∧ VKs ρ1 _ ((rnm.rnms (k7 [j]) (dn ++ vs)).take dn.length) q1 ∧ VKs ρ1 _ ((rnm.rnms (k7 [j]) (dn ++ vs)).drop dn.length) q2 :=
        ⟨(pd ++ pt).take dn.length,(pd ++ pt).drop dn.length,(List.take_append_drop _ _).symm,s1.env.take _,s1.env.drop _⟩
       have hle : q1.length = pd.length := by
        rw [← hd'.len,ha7,k8,hak,← hd.len]; omega
       obtain ⟨rfl,rfl⟩ := List.append_inj e9.symm hle
       obtain ⟨ρ',g1,g2⟩ := h2 _ σ n0 _ (s1.withEnv (by rw [hbc]; exact hd'.app (.cons s2 ht')))
       exact ⟨ρ',g1,s3.trans g2⟩
      ·exact rest h
     ·exact rest h
theorem zsi (m0 : Nat) (nr : List Nat) {vs : List PV} {A : List KO} {k : List PV → List KO → Option β} (h : zsj m0 nr vs A k = some r) : ∃ vs' A',k vs' A' = some r ∧
  ∀ ρ σ n0 ps,KS ρ A vs ps σ → ∃ ρ',KS ρ' A' vs' ps σ ∧ Go2 n0 ρ A σ ρ' A' σ := by
 unfold zsj at h
 split at h
 ·split at h
  ·rename_i cs vs'
   obtain ⟨ws,A',h1,h2⟩ := zax m0 nr.tail h
   refine ⟨_,A',h1,fun ρ σ n0 ps hK => ?_⟩
   obtain ⟨p,pt,rfl,hv,ht⟩ := VKs.cons_inv hK.env
   obtain ⟨qs,rfl,hq⟩ := hv.agg_inv
   obtain ⟨ρ',g1,g2⟩ := h2 ρ σ n0 (qs ++ pt) (hK.withEnv (hq.app ht))
   refine ⟨ρ',g1.withEnv (.cons (.agg ?_) ?_),g2⟩
   ·have := g1.env.take cs.length
    rwa [hq.len,List.take_left,← hq.len] at this
   ·have := g1.env.drop cs.length
    rwa [hq.len,List.drop_left,← hq.len] at this
  ·cases h
 ·exact zax m0 nr h
theorem zo4 {vs ps : List PV} (h : VKs ρ m vs ps) : VK ρ m (up vs) (up ps) := by
 match h with
 | .nil => exact .fr (.tuple .nil)
 | .cons h .nil => exact h
 | .cons h (.cons h' t) => exact .tuple (.cons h (.cons h' t))
end
theorem zpb {c : Cfg} {kc : KCfg} {C : xj} {L : ju} (hC : ub C (ze c)) (hL : zj2 L (y2 c)) (hO : OwnOk kc c.P (ze c)) : ub (jf c kc C L) (ze c) := by
 intro g args A r A' h ρ pargs σ hK
 unfold jf at h
 split at h
 ·cases h
 rename_i htold
 have hT : c.told g = none := by
  cases hq : c.told g with
  | none => rfl
  | some u => rw [hq] at htold; exact absurd rfl htold
 split at h
 ·rename_i fn hf
  split at h
  ·rename_i cd hcd
   obtain ⟨x,e,A1,h1,_,h2⟩ := vv hC hL hO cd h
   have hent : VKs ρ A.length (zcp fn args) (zcp fn pargs) := by
    unfold zcp
    rw [← hK.env.len]
    refine hK.env.app (.of (All2.replicate (.undef _) _))
   obtain ⟨penv',σ',ρ1,g1,g2,g3⟩ := h2 ρ _ σ (hK.withEnv hent)
   have fin : ∀ {vs : List PV},(zsj A.length (kc.nret g) vs A1 fun vs A2 => zcd (List.range A.length) [up vs] A2 fun e A => jg e fun v _ => some (v,A)) = some (r,A') → (∃ ps,jl c.P σ' penv' fn.results.toList = some ps ∧ VKs ρ1 A1.length vs ps) → (x = .normal ∨ x = .ret) → ∃ p σ'' ρ',ze c g pargs σ = some (p,σ'') ∧ KS ρ' A' [r] [p] σ'' ∧ Go2 A.length ρ A σ ρ' A' σ'' := by
    intro vs hp0 ⟨ps,hps,hvs⟩ hx
    obtain ⟨vs1,A3,hp,hnl⟩ := zsi _ _ hp0
    obtain ⟨ρ3,n1,n2⟩ := hnl ρ1 σ' A.length ps (g2.withEnv hvs)
    obtain ⟨e2,A2,q1,q2,q3⟩ := zer hp
    obtain ⟨ρ2,q4,q5⟩ := q3 ρ3 [up ps] σ' (n1.withEnv (.one (zo4 n1.env)))
    unfold jg at q1
    split at q1
    ·rename_i v0 e3
     cases q1
     have h30 : e3 = [] := by
      have : e3.length + 1 = 1 := q2
      exact ha1 (by omega)
     subst h30
     refine ⟨up ps,σ',ρ2,?_,q4,(g3.trans n2).trans q5⟩
     refine zmw hT ?_
     unfold uu
     rw [hT]
     simp only [hf,hcd,g1,Option.bind_some,hps,Option.map_some]
     rcases hx with rfl | rfl <;> rfl
    ·cases q1
   cases x with
   | exit i => cases h1
   | normal =>
     obtain ⟨vs,h3,h4⟩ := zd3 _ h1
     exact fin h3 (h4 ρ1 penv' σ' g2) (.inl rfl)
   | ret =>
     obtain ⟨vs,h3,h4⟩ := zd3 _ h1
     exact fin h3 (h4 ρ1 penv' σ' g2) (.inr rfl)
  ·cases h
 ·cases h
theorem znb {c : Cfg} {kc : KCfg} {C : xj} {L : ju} (hC : ub C (ze c)) (hL : zj2 L (y2 c)) (hO : OwnOk kc c.P (ze c)) : zj2 (jj c kc C L) (y2 c) := by
 intro f cd n0 env A x env' A' h ρ penv σ hK
 unfold jj at h
 obtain ⟨x0,e,A1,h1,hl1,h2⟩ := vv hC hL hO cd h
 obtain ⟨penv1,σ1,ρ1,g1,g2,g3⟩ := h2 ρ penv σ hK
 have hlen := hK.env.len
 have hout : ∀ n y,VKs ρ1 A1.length (zhc c f cd y n e) (zhc c f cd y n penv1) := fun n y => by
  unfold zhc
  split
  ·exact zhn g2.env _ _
  ·exact g2.env
 have hhead : ∀ n,VKs ρ1 A1.length (ux c f cd n e) (ux c f cd n penv1) := fun n => by
  unfold ux
  split
  ·exact zhn g2.env _ _
  ·exact g2.env
 unfold zu9 at h1
 split at h1
 ·obtain ⟨e2,A2,q1,_,q2⟩ := zjb h1
  obtain ⟨ρ2,q3,q4⟩ := q2 ρ1 _ σ1 (g2.withEnv (hhead env.length))
  obtain ⟨penv3,σ3,ρ3,q5,q6,q7⟩ := hL f cd n0 e2 A2 x env' A' q1 ρ2 _ σ1 q3
  refine ⟨penv3,σ3,ρ3,?_,q6,(g3.trans q4).trans q7⟩
  refine zhh ?_
  unfold ue
  simp only [g1,Option.bind_some,← hlen]
  exact q5
 ·rename_i y hy
  obtain ⟨e2,A2,q1,_,q2⟩ := zer h1
  cases q1
  obtain ⟨ρ2,q3,q4⟩ := q2 ρ1 _ σ1 (g2.withEnv (hout env.length x))
  refine ⟨zhc c f cd x env.length penv1,σ1,ρ2,?_,q3,g3.trans q4⟩
  refine zhh ?_
  unfold ue
  simp only [g1,Option.bind_some,← hlen]
theorem zii {c : Cfg} {kc : KCfg} (hO : OwnOk kc c.P (ze c)) : ∀ n,ub (jy c kc n) (ze c) ∧ zj2 (loopNK c kc n) (y2 c)
 | 0 => ⟨(fun g args A r A' h => by cases h),(fun f cd n0 env A x env' A' h => by cases h)⟩
 | n + 1 => ⟨by unfold jy; exact zpb (zii hO n).1 (zii hO n).2 hO,by unfold loopNK; exact znb (zii hO n).1 (zii hO n).2 hO⟩
end Go.Pvm
namespace Go.Pvm
section
variable {β γ : Type} {κ : γ → Option β}
def s2 {X Y : Type} (x : X) (y : Y) : Option (X × Y) := some (x,y)
def s3 {X Y Z : Type} (x : X) (y : Y) (z : Z) : Option (X × Y × Z) := some (x,y,z)
theorem zll (i : IntKind) (v : PV) {g : Int → Option β} {f : Int → Option γ} (h : ∀ n,g n = (f n).bind κ) : asInt i v g = (asInt i v f).bind κ := by
 unfold asInt; split
 ·split
  ·exact h _
  ·rfl
 ·rfl
theorem zm2 (v : PV) {g : Bool → Option β} {f : Bool → Option γ} (h : ∀ n,g n = (f n).bind κ) : asBool v g = (asBool v f).bind κ := by
 unfold asBool; split
 ·exact h _
 ·rfl
theorem zrh (v : PV) {g : ByteArray → Option β} {f : ByteArray → Option γ} (h : ∀ n,g n = (f n).bind κ) : ua v g = (ua v f).bind κ := by
 unfold ua; split
 ·exact h _
 ·rfl
theorem zvv (i : FloatKind) (v : PV) {g : Nat → Option β} {f : Nat → Option γ} (h : ∀ n,g n = (f n).bind κ) : zjv i v g = (zjv i v f).bind κ := by
 unfold zjv; split
 ·split
  ·exact h _
  ·rfl
 ·rfl
theorem zx4 (v : PV) {g : List (List PV) → Option β} {f : List (List PV) → Option γ} (h : ∀ n,g n = (f n).bind κ) : zty v g = (zty v f).bind κ := by
 unfold zty; split <;> first | exact h _ | rfl
theorem zlk (d : Option TypeDesc) (v : PV) {g : PV → Option β} {f : PV → Option γ} (h : ∀ n,g n = (f n).bind κ) : asK d v g = (asK d v f).bind κ := by
 unfold asK
 split
 ·exact zll _ _ fun _ => h _
 ·exact zm2 _ fun _ => h _
 ·exact zrh _ fun _ => h _
 ·exact h _
theorem qx {c : Prop} [Decidable c] {a b : Option β} {a' b' : Option γ} (h : a = a'.bind κ) (h' : b = b'.bind κ) : (if c then a else b) = (if c then a' else b').bind κ := by
 split <;> assumption
theorem xk {c : Prop} [Decidable c] {a : Option β} {a' : Option γ} (h : a = a'.bind κ) : (if c then a else none) = (if c then a' else none).bind κ := qx h rfl
theorem zw {X : Type} (o : Option X) {g : X → Option β} {f : X → Option γ} (h : ∀ x,g x = (f x).bind κ) : o.bind g = (o.bind f).bind κ := by
 cases o with
 | none => rfl
 | some x => exact h x
mutual
theorem zjs : ∀ (s : Sk) (v : PV) {g : PV → Option β} {f : PV → Option γ} (h : ∀ n,g n = (f n).bind κ),asSk s v g = (asSk s v f).bind κ
 | .any,v,_,_,h => h _
 | .drop,v,_,_,h => h _
 | .bool,v,_,_,h => zm2 _ fun _ => h _
 | .str,v,_,_,h => zrh _ fun _ => h _
 | .psl,v,_,_,h => zx4 _ fun _ => h _
 | .int i,v,_,_,h => zll _ _ fun _ => h _
 | .flt i,v,_,_,h => zvv _ _ fun _ => h _
 | .ref a b c,v,_,_,h => by
   unfold asSk zoq; split
   ·exact xk (h _)
   ·rfl
 | .whole a b,v,_,_,h => by
   unfold asSk zam; split
   ·exact xk (h _)
   ·rfl
 | .agg l,v,_,_,h => by
   unfold asSk asAgg; split
   ·exact asSks_b l _ fun _ => h _
   ·rfl
 | .tup l,v,_,_,h => by
   unfold asSk zlj; split
   ·exact asSks_b l _ fun _ => h _
   ·rfl
 | .view a b,v,_,_,h => by
   unfold asSk zjr; split
   ·exact xk (h _)
   ·rfl
 | .wv a b,v,_,_,h => by
   unfold asSk zvs; split
   ·exact xk (h _)
   ·exact xk (h _)
   ·rfl
 | .fn a l,v,_,_,h => by
   unfold asSk zx5; split
   ·exact xk (asSks_b l _ fun _ => h _)
   ·rfl
 | .pref l,v,_,_,h => by
   unfold asSk zm1; split
   ·exact asSks_b l _ fun _ => h _
   ·rfl
theorem asSks_b : ∀ (l : List Sk) (cs : List PV) {g : List PV → Option β} {f : List PV → Option γ} (h : ∀ n,g n = (f n).bind κ),asSk.asSks l cs g = (asSk.asSks l cs f).bind κ
 | [],cs,_,_,h => by
   unfold asSk.asSks qz; split
   ·exact h _
   ·rfl
 | s :: l,cs,_,_,h => by
   unfold asSk.asSks jg; split
   ·exact zjs s _ fun _ => asSks_b l _ fun _ => h _
   ·rfl
end
variable {P : Program} {A : List KO} {env : List PV}
theorem zkg (A : List KO) (x : PV) {g : List (List PV) → Option β} {f : List (List PV) → Option γ} (h : ∀ n,g n = (f n).bind κ) : zio A x g = (zio A x f).bind κ := by
 unfold zio
 split <;> first | exact h _ | rfl | skip
 split
 ·split <;> exact h _
 ·rfl
theorem zu2 (A : List KO) (x : PV) {g : Nat → Option β} {f : Nat → Option γ} (h : ∀ n,g n = (f n).bind κ) : zny A x g = (zny A x f).bind κ := by
 unfold zny
 split <;> first | exact h _ | rfl | skip
 split
 ·exact h _
 ·split
  ·exact h _
  ·rfl
theorem zsn (t : TypeId) (a : PV) {g : PV → Option β} {f : PV → Option γ} (h : ∀ n,g n = (f n).bind κ) : zez P A t a g = (zez P A t a f).bind κ := by
 unfold zez
 split
 ·exact zw _ h
 ·split
  ·exact xk (zw _ h)
  ·exact zw _ fun _ => zw _ fun _ => zjs _ _ h
  ·rfl
 ·rfl
theorem zo9 (t : TypeId) (a v : PV) {g : List KO → Option β} {f : List KO → Option γ} (h : ∀ n,g n = (f n).bind κ) : zcx P A t a v g = (zcx P A t a v f).bind κ := by
 unfold zcx
 simp only [y5]
 split
 ·refine zw _ fun _ => ?_
  split
  ·exact xk (h _)
  ·exact xk (xk (h _))
  ·rfl
 ·rfl
theorem zsr (l : List Nat) (env : List PV) (A : List KO) {g : List PV → List KO → Option β} {f : List PV → List KO → Option γ} (h : ∀ n A,g n A = (f n A).bind κ) : vm l env A g = (vm l env A f).bind κ := by
 unfold vm
 simp only [forceVs_eq,y5]
 exact h _ _
theorem zrk (el : TypeId) (s x : PV) {g : PV → List PV → List KO → Option β} {f : PV → List PV → List KO → Option γ} (h : ∀ n e A,g n e A = (f n e A).bind κ) : zjz P el s x env A g = (zjz P el s x env A f).bind κ := by
 unfold zjz
 refine zw _ fun _ => zw _ fun _ => zw _ fun _ => zkg _ _ fun _ => ?_
 refine qx rfl (qx rfl ?_)
 split
 ·exact xk (h _ _ _)
 ·split
  ·exact xk (xk (zsr _ _ _ fun _ _ => h _ _ _))
  ·rfl
 ·rfl
theorem zs7 (s d : TypeId) (x : PV) {g : PV → Option β} {f : PV → Option γ} (h : ∀ n,g n = (f n).bind κ) : zgo P A s d x g = (zgo P A s d x f).bind κ := by
 unfold zgo
 split
 ·split
  ·exact qx rfl (zkg _ _ fun _ => zw _ fun _ => h _)
  ·rfl
 ·exact xk (zw _ h)
theorem zvg (t : TypeId) (x : PV) (lo hi mx : Option PV) {g : PV → Option β} {f : PV → Option γ} (h : ∀ n,g n = (f n).bind κ) : zoh P A t x lo hi mx g = (zoh P A t x lo hi mx f).bind κ := by
 unfold zoh
 refine qx rfl ?_
 split
 ·exact zw _ h
 ·exact zw _ h
 ·exact zw _ fun _ => zw _ fun _ => zw _ fun _ => xk (xk (h _))
 ·refine zw _ fun _ => qx rfl ?_
  split
  ·refine qx rfl ?_
   split
   ·exact zw _ fun _ => zw _ fun _ => xk (h _)
   ·exact zw _ fun _ => zw _ fun _ => xk (h _)
  ·rfl
 ·exact zw _ fun _ => zw _ fun _ => zw _ fun _ => xk (h _)
 ·rfl
theorem zgz (i : Int) (n : Nat) {g : Nat → Option β} {f : Nat → Option γ} (h : ∀ m,g m = (f m).bind κ) : ∀ r,zdd i n g r = (zdd i n f r).bind κ
 | 0 => rfl
 | r + 1 => by unfold zdd; exact qx (h _) (zgz i n h r)
theorem zqq (t ty : TypeId) (x i : PV) {g : PV → Option β} {f : PV → Option γ} (h : ∀ n,g n = (f n).bind κ) : zc5 P t ty x i g = (zc5 P t ty x i f).bind κ := by
 unfold zc5
 split
 ·split
  ·exact zw _ fun _ => zw _ fun _ => zgz _ _ (fun _ => zw _ fun _ => zlk _ _ h) _
  ·rfl
 ·exact zw _ fun _ => zlk _ _ h
theorem zu5 (t : TypeId) (x i : PV) {g : PV → Option β} {f : PV → Option γ} (h : ∀ n,g n = (f n).bind κ) : zn5 P A t x i g = (zn5 P A t x i f).bind κ := by
 unfold zn5
 refine zw _ fun _ => ?_
 split
 ·refine zw _ fun _ => ?_
  split
  ·exact xk (zw _ fun _ => asSks_b _ _ fun _ => xk (h _))
  ·refine qx rfl ?_
   split
   ·refine qx rfl ?_
    split
    ·exact xk (h _)
    ·exact xk (h _)
   ·rfl
  ·rfl
 ·refine zw _ fun _ => zgz _ _ (fun _ => ?_) _
  split <;> first | exact h _ | rfl
 ·rfl
theorem zsd (l : List Nat) (env : List PV) (A : List KO) {g : List PV → List KO → Option β} {f : List PV → List KO → Option γ} (h : ∀ n A,g n A = (f n A).bind κ) : zcd l env A g = (zcd l env A f).bind κ := by
 unfold zcd
 simp only [jh,forceVs_eq,y5]
 exact xk (h _ _)
theorem zmo (n0 : Nat) (tys : List (Nat × TypeId)) (wk : List Nat × List Nat) (env : List PV) (A : List KO) {g : List PV → List KO → Option β} {f : List PV → List KO → Option γ} (h : ∀ n A,g n A = (f n A).bind κ) : zcl P n0 tys wk env A g = (zcl P n0 tys wk env A f).bind κ := by
 unfold zcl
 simp only [forceVs_eq,y5]
 exact zsd _ _ _ fun _ _ => h _ _
theorem zvt (s : OSk) (o : KO) {g : KO → Option β} {f : KO → Option γ} (h : ∀ n,g n = (f n).bind κ) : zor s o g = (zor s o f).bind κ := by
 unfold zor
 split
 ·unfold zgu; split
  ·rfl
  ·exact h _
 ·unfold zjw; split
  ·exact xk (asSks_b _ _ fun _ => h _)
  ·rfl
 ·unfold zcu; split
  ·exact xk (h _)
  ·rfl
theorem zec : ∀ (s : List OSk) (l : List KO) {g : List KO → Option β} {f : List KO → Option γ} (h : ∀ n,g n = (f n).bind κ),wh s l g = (wh s l f).bind κ
 | [],l,_,_,h => by
   unfold wh qp; split
   ·exact h _
   ·rfl
 | s :: sr,l,_,_,h => by
   unfold wh zan; split
   ·exact zvt s _ fun _ => zec sr _ fun _ => h _
   ·rfl
theorem zh9 (sk : List (Nat × Sk)) (m : List Nat) (e : List PV) : ∀ (is : List Nat) {g : List PV → Option β} {f : List PV → Option γ} (h : ∀ n,g n = (f n).bind κ),zdz sk m e is g = (zdz sk m e is f).bind κ
 | [],_,_,h => h _
 | i :: is,_,_,h => by
   unfold zdz
   split
   ·exact zjs _ _ fun _ => zh9 sk m e is fun _ => h _
   ·exact zh9 sk m e is fun _ => h _
theorem zso (kc : KCfg) (C : xj) (n : FuncId) (args : List PV) {g : PV → List PV → List KO → Option β} {f : PV → List PV → List KO → Option γ} (h : ∀ n e A,g n e A = (f n e A).bind κ) : zdi kc C n args env A g = (zdi kc C n args env A f).bind κ := by
 unfold zdi
 simp only [jh,forceVs_eq,y5,x9]
 exact xk (zw _ fun _ => zjs _ _ fun _ => zec _ _ fun _ => xk (h _ _ _))
theorem zed (l : List PV) {g : PV → List PV → Option β} {f : PV → List PV → Option γ} (h : ∀ a b,g a b = (f a b).bind κ) : jg l g = (jg l f).bind κ := by
 unfold jg
 split
 ·exact h _ _
 ·rfl
theorem zri (l : List PV) {g : Option β} {f : Option γ} (h : g = f.bind κ) : qz l g = (qz l f).bind κ := by
 unfold qz
 split
 ·exact h
 ·rfl
theorem zha (A : List KO) (d : PV) (sz : Nat) {g : Nat → List (List PV) → Nat → Nat → Option β} {f : Nat → List (List PV) → Nat → Nat → Option γ} (h : ∀ a b c d,g a b c d = (f a b c d).bind κ) : zba A d sz g = (zba A d sz f).bind κ := by
 unfold zba
 split
 ·refine qx rfl ?_
  split
  ·refine qx rfl ?_
   split <;> exact h _ _ _ _
  ·rfl
 ·rfl
theorem zrt (u : Word) (args : List PV) {g : PV → List PV → List KO → Option β} {f : PV → List PV → List KO → Option γ} (h : ∀ n e A,g n e A = (f n e A).bind κ) : zls P u args env A g = (zls P u args env A f).bind κ := by
 cases u with
 | insert t =>
   show zn2 P t args env A g = (zn2 P t args env A f).bind κ
   unfold zn2
   refine zed _ fun s l => zed _ fun i l => zed _ fun x l => zri _ (zll _ _ fun i => ?_)
   split
   ·refine zw _ fun _ => zw _ fun _ => zw _ fun _ => qx rfl ?_
    split
    ·split
     ·refine xk ?_
      split
      ·exact xk (xk (h _ _ _))
      ·split
       ·refine xk ?_
        split
        ·refine xk (xk (xk ?_))
         unfold vm
         simp only [forceVs_eq,y5]
         exact h _ _ _
        ·rfl
       ·split
        ·refine xk (xk (xk ?_))
         unfold vm
         simp only [forceVs_eq,y5]
         exact h _ _ _
        ·rfl
      ·rfl
     ·rfl
    ·rfl
   ·rfl
 | sort =>
   show znf args env A g = (znf args env A f).bind κ
   unfold znf
   refine zed _ fun s l => zri _ ?_
   split
   ·exact h _ _ _
   ·exact zha _ _ _ fun _ _ _ _ => xk (zw _ fun _ => h _ _ _)
 | keys q => rfl
 | sorted q => rfl
theorem zs8 (c : Cfg) (kc : KCfg) (C : xj) (n : FuncId) (args : List PV) (ty : TypeId) {g : PV → List PV → List KO → Option β} {f : PV → List PV → List KO → Option γ} (h : ∀ n e A,g n e A = (f n e A).bind κ) : ut c kc C n args ty env A g = (ut c kc C n args ty env A f).bind κ := by
 unfold ut
 simp only [forceVs_eq]
 refine qx ?_ (xk (zw _ fun _ => h _ _ _))
 split
 ·exact zw _ fun _ => zjs _ _ fun _ => qx (h _ _ _) (qx rfl (qx (xk (h _ _ _)) (zw _ fun _ => h _ _ _)))
 ·split
  ·exact zw _ fun _ => h _ _ _
  ·rfl
 ·split
  ·exact zrt _ _ h
  ·exact zso _ _ _ _ h
 ·rfl
theorem zvm (b : Builtin) (ts : List TypeId) (args : List PV) (ty : TypeId) {g : PV → List PV → List KO → Option β} {f : PV → List PV → List KO → Option γ} (h : ∀ n e A,g n e A = (f n e A).bind κ) : zop P b ts args ty env A g = (zop P b ts args ty env A f).bind κ := by
 unfold zop
 split
 ·split
  ·split
   ·exact h _ _ _
   ·rfl
  ·exact qx rfl (zu2 _ _ fun _ => h _ _ _)
  ·rfl
 ·exact xk (zw _ fun _ => zlk _ _ fun _ => h _ _ _)
 ·exact xk (zw _ fun _ => zlk _ _ fun _ => h _ _ _)
 ·split
  ·exact qx rfl (zrk _ _ _ h)
  ·exact xk (zrk _ _ _ h)
  ·rfl
 ·split
  ·exact zw _ fun _ => zkg _ _ fun _ => qx rfl (zha _ _ _ fun _ _ _ _ => h _ _ _)
  ·rfl
 ·split
  ·exact zw _ fun _ => zw _ fun _ => qx rfl (zha _ _ _ fun _ _ _ _ => h _ _ _)
  ·rfl
 ·rfl
theorem zws (c : Cfg) (kc : KCfg) (C : xj) (o : Oper) {g : PV → List PV → List KO → Option β} {f : PV → List PV → List KO → Option γ} (h : ∀ n e A,g n e A = (f n e A).bind κ) : zow c kc C env A o g = (zow c kc C env A o f).bind κ := by
 obtain ⟨dst,op,type,pos,after,guard⟩ := o
 unfold zow
 cases op <;> simp only [x9]
 case move x => exact h _ _ _
 case assign x => exact h _ _ _
 case pick cd a b =>
  split
  ·exact qx (h _ _ _) (h _ _ _)
  ·rfl
 case alloc el => exact zw _ fun _ => xk (h _ _ _)
 case box el x => exact xk (h _ _ _)
 case build t ps => exact zw _ fun _ => h _ _ _
 case buildSlice t n ps =>
  split
  ·exact zw _ fun _ => zw _ fun _ => xk (zw _ fun _ => xk (h _ _ _))
  ·rfl
 case load t a => exact qx (zw _ fun _ => h _ _ _) (zsn _ _ fun _ => h _ _ _)
 case store t a x => exact zo9 _ _ _ fun _ => h _ _ _
 case nilCheck x => exact zw _ fun _ => h _ _ _
 case binOp op t x y ty => exact zw _ fun _ => zlk _ _ fun _ => h _ _ _
 case unOp op t x => exact zw _ fun _ => zlk _ _ fun _ => h _ _ _
 case convert s d x => exact zs7 _ _ _ fun _ => zlk _ _ fun _ => h _ _ _
 case makeFunc fn fs cs =>
  cases fn <;> simp only
  case func f => exact xk (h _ _ _)
  all_goals rfl
 case makeSlice t l cp =>
  split
  ·exact zw _ fun _ => zw _ fun _ => zw _ fun _ => xk (xk (h _ _ _))
  ·rfl
 case slice t x lo hi mx => exact zvg _ _ _ _ _ fun _ => h _ _ _
 case fieldAddr s x f => exact zw _ fun _ => h _ _ _
 case field s x f => exact zw _ fun _ => h _ _ _
 case indexAddr t x i => exact zu5 _ _ _ fun _ => h _ _ _
 case index t x i => exact zqq _ _ _ _ fun _ => h _ _ _
 case extract x i => exact zw _ fun _ => h _ _ _
 case call cl =>
  obtain ⟨callee,args,ts⟩ := cl
  cases callee <;> simp only
  case builtin b => exact qx rfl (zvm _ _ _ _ h)
  case value x => exact zw _ fun _ => zs8 _ _ _ _ _ _ h
  case invoke x m => rfl
 all_goals rfl
theorem zti (c : Cfg) (kc : KCfg) (C : xj) (o : Oper) {g : PV → List PV → List KO → Option β} {f : PV → List PV → List KO → Option γ} (h : ∀ n e A,g n e A = (f n e A).bind κ) : zet c kc C env A o g = (zet c kc C env A o f).bind κ := by
 unfold zet
 exact xk (zws _ _ _ _ h)
theorem zhe (c : Cfg) (kc : KCfg) (C : xj) (all : List Oper) : ∀ (l : List Oper) (env : List PV) (A : List KO) {g : List PV → List KO → Option β} {f : List PV → List KO → Option γ} (h : ∀ n A,g n A = (f n A).bind κ),qb c kc C all l env A g = (qb c kc C all l env A f).bind κ
 | [],_,_,_,_,h => h _ _
 | o :: l,env,A,g,f,h => by
   have go : ∀ (env : List PV),(zet c kc C env A o fun v env A => zde env o.dst v fun e => qb c kc C all l e A g) = (zet c kc C env A o fun v env A => zde env o.dst v fun e => qb c kc C all l e A f).bind κ := fun env => by
    simp only [ky]
    exact zti _ _ _ _ fun _ _ _ => zhe c kc C all l _ _ h
   have no : ∀ (env : List PV),(zde env o.dst (.tuple []) fun e => qb c kc C all l e A g) = (zde env o.dst (.tuple []) fun e => qb c kc C all l e A f).bind κ := fun env => by
    simp only [ky]
    exact zhe c kc C all l _ _ h
   unfold qb
   split
   ·exact go env
   ·split
    ·rfl
    ·split
     ·simp only [vj]
      exact qx (qx (go _) (no _)) (qx (go _) (no _))
     ·exact no _
     ·rfl
theorem zjl : ∀ (l : List Nat) (e : List PV) (A : List KO) {g : List PV → List KO → Option β} {f : List PV → List KO → Option γ} (h : ∀ n A,g n A = (f n A).bind κ),zbz l e A g = (zbz l e A f).bind κ
 | [],_,_,_,_,h => h _ _
 | t :: l,e,A,g,f,h => by
   unfold zbz
   simp only [x9,vj,y5]
   exact xk (zw _ fun _ => zjl l _ _ h)
theorem zpw (c : Cfg) (n : FuncId) (id : Nat) (env : List PV) (A : List KO) {g : Bool → List PV → List KO → Option β} {f : Bool → List PV → List KO → Option γ} (h : ∀ b n A,g b n A = (f b n A).bind κ) : zir c n id env A g = (zir c n id env A f).bind κ := by
 unfold zir
 split
 ·exact h _ _ _
 ·exact zjl _ _ _ fun _ _ => h _ _ _
theorem zwt (x : Ex) {e : Nat → Option γ} {r : Option γ} {e' : Nat → Option β} {r' : Option β} (he : ∀ i,e' i = (e i).bind κ) (hr : r' = r.bind κ) : zgf x e' r' = (zgf x e r).bind κ := by
 cases x with
 | normal => rfl
 | exit i => exact he i
 | ret => exact hr
theorem za2 (c : Cfg) (kc : KCfg) (C : xj) (L : ju) (n : FuncId) (n0 : Nat) : ∀ (cd : Code) (env : List PV) (A : List KO) {g : Ex → List PV → List KO → Option β} {f : Ex → List PV → List KO → Option γ} (h : ∀ x e A,g x e A = (f x e A).bind κ),y3 c kc C L n n0 cd env A g = (y3 c kc C L n n0 cd env A f).bind κ
 | .skip,_,_,_,_,h | .label _,_,_,_,_,h | .exit _,_,_,_,_,h | .ret,_,_,_,_,h => h _ _ _
 | .region id ops draw,env,A,g,f,h => by
   simp only [y3]
   exact zpw _ _ _ _ _ fun _ _ _ => qx (xk (zhe _ _ _ _ _ _ _ fun _ _ => h _ _ _)) (zhe _ _ _ _ _ _ _ fun _ _ => h _ _ _)
 | .seq a b,env,A,g,f,h => by
   simp only [y3]
   refine za2 c kc C L n n0 a _ _ fun x e s => ?_
   cases x with
   | normal => exact za2 c kc C L n n0 b _ _ h
   | exit i => exact h _ _ _
   | ret => exact h _ _ _
 | .cond cd a b,env,A,g,f,h => by
   simp only [y3]
   split
   ·rename_i t ht
    split
    ·rename_i htt
     subst htt
     rw [wo ht,wo ht]
     exact za2 c kc C L n n0 a _ _ h
    ·rename_i htt
     have htf : t = false := by simpa using htt
     subst htf
     rw [wo ht,wo ht]
     exact za2 c kc C L n n0 b _ _ h
   ·rfl
 | .block id cd,env,A,g,f,h => by
   simp only [y3]
   refine za2 c kc C L n n0 cd _ _ fun x e s => ?_
   cases x with
   | normal => exact h _ _ _
   | exit i => exact qx (h _ _ _) (h _ _ _)
   | ret => exact h _ _ _
 | .loop cd,env,A,g,f,h => by
   simp only [y3]
   split
   ·refine zmo _ _ _ _ _ fun _ _ => zw _ fun _ => zwt _ (fun i => xk (zh9 _ _ _ _ fun _ => zec _ _ fun _ => h _ _ _)) ?_
    split
    ·rfl
    ·exact zh9 _ _ _ _ fun _ => zec _ _ fun _ => h _ _ _
   ·rfl
 | .rangeFunc ..,_,_,_,_,_ | .scope _,_,_,_,_,_ | .goto _,_,_,_,_,_ | .refuse _,_,_,_,_,_ => by simp only [y3]; rfl
theorem zd7 (c : Cfg) (kc : KCfg) (C : xj) (o : Oper) (k : PV → List PV → List KO → Option β) : zet c kc C env A o k = (zet c kc C env A o s3).bind fun x => k x.1 x.2.1 x.2.2 := zti c kc C o fun _ _ _ => rfl
theorem u7 (c : Cfg) (n : FuncId) (id : Nat) (env : List PV) (A : List KO) (k : Bool → List PV → List KO → Option β) : zir c n id env A k = (zir c n id env A s3).bind fun x => k x.1 x.2.1 x.2.2 := zpw c n id env A fun _ _ _ => rfl
theorem qn (n0 : Nat) (tys : List (Nat × TypeId)) (wk : List Nat × List Nat) (env : List PV) (A : List KO) (k : List PV → List KO → Option β) : zcl P n0 tys wk env A k = (zcl P n0 tys wk env A s2).bind fun x => k x.1 x.2 := zmo n0 tys wk env A fun _ _ => rfl
theorem xh (c : Cfg) (kc : KCfg) (C : xj) (L : ju) (n : FuncId) (n0 : Nat) (cd : Code) (env : List PV) (A : List KO) (k : Ex → List PV → List KO → Option β) : y3 c kc C L n n0 cd env A k = (y3 c kc C L n n0 cd env A s3).bind fun x => k x.1 x.2.1 x.2.2 := za2 c kc C L n n0 cd env A fun _ _ _ => rfl
end
end Go.Pvm
namespace Go.Pvm
def zox (C C' : xj) : Prop := ∀ f a A r,C f a A = some r → C' f a A = some r
def zvz (L L' : ju) : Prop := ∀ f cd n e A r,L f cd n e A = some r → L' f cd n e A = some r
section
variable {β : Type} {r : β} {A : List KO} {env : List PV} {c : Cfg} {kc : KCfg} {C C' : xj} {L L' : ju} {f : FuncId} {n0 : Nat}
theorem znp (hC : zox C C') {g : FuncId} {args : List PV} {v : PV} (h : jm C g args = some v) : jm C' g args = some v := by
 unfold jm at h ⊢
 rw [hac] at h
 obtain ⟨q,h1,h2⟩ := h
 rw [hC _ _ _ _ h1,Option.map_some,h2]
theorem zkm (hC : zox C C') {g : FuncId} {args : List PV} {v : PV} (h : zcb kc C g args = some v) : zcb kc C' g args = some v := by
 unfold zcb at h ⊢
 split at h
 ·exact h
 ·split at h
  ·exact h
  ·exact znp hC h
theorem zle (hC : zox C C') {g : FuncId} {args : List PV} {ty : TypeId} {k : PV → List PV → List KO → Option β} (h : ut c kc C g args ty env A k = some r) : ut c kc C' g args ty env A k = some r := by
 unfold ut at h ⊢
 simp only [forceVs_eq] at h ⊢
 split at h
 ·rename_i he
  rw [if_pos he]
  split at h
  ·rename_i hm
   rw [haa] at h
   obtain ⟨v,h1,h2⟩ := h
   rw [zkm hC h1]
   exact h2
  ·exact h
  ·rename_i hm
   split at h
   ·exact h
   unfold zdi at h ⊢
   simp only [jh,forceVs_eq,y5,x9] at h ⊢
   split at h
   ·rename_i hq
    rw [if_pos hq]
    rw [haa] at h
    obtain ⟨v,h1,h2⟩ := h
    rw [hC _ _ _ _ h1]
    exact h2
   ·cases h
  ·exact h
 ·rename_i he
  rw [if_neg he]
  exact h
theorem zpz (hC : zox C C') {o : Oper} {k : PV → List PV → List KO → Option β} (h : zow c kc C env A o k = some r) : zow c kc C' env A o k = some r := by
 obtain ⟨dst,op,type,pos,after,guard⟩ := o
 cases op
 case call cl =>
  obtain ⟨callee,args,ts⟩ := cl
  cases callee
  case value x =>
   unfold zow at h ⊢
   simp only [haa] at h ⊢
   obtain ⟨q,h1,h2⟩ := h
   exact ⟨q,h1,zle hC h2⟩
  all_goals exact h
 case makeFunc fn fs cs => cases fn <;> exact h
 all_goals exact h
theorem ziw (hC : zox C C') {o : Oper} {k : PV → List PV → List KO → Option β} (h : zet c kc C env A o k = some r) : zet c kc C' env A o k = some r := by
 unfold zet at h ⊢
 split at h
 ·rename_i hg; rw [if_pos hg]; exact zpz hC h
 ·cases h
theorem wu (hC : zox C C') {all : List Oper} : ∀ (l : List Oper) {env : List PV} {A : List KO} {k : List PV → List KO → Option β},qb c kc C all l env A k = some r → qb c kc C' all l env A k = some r
 | [],_,_,_,h => h
 | o :: l,env,A,k,h => by
   have go : ∀ {env : List PV},(zet c kc C env A o fun v env A => zde env o.dst v fun e => qb c kc C all l e A k) = some r → (zet c kc C' env A o fun v env A => zde env o.dst v fun e => qb c kc C' all l e A k) = some r := fun h => by
    rw [zd7,haa] at h
    obtain ⟨x,h1,h2⟩ := h
    rw [zd7,ziw hC h1]
    simp only [Option.bind_some]
    rw [ky] at h2 ⊢
    exact wu hC l h2
   have no : ∀ {env : List PV},(zde env o.dst (.tuple []) fun e => qb c kc C all l e A k) = some r → (zde env o.dst (.tuple []) fun e => qb c kc C' all l e A k) = some r := fun h => by
    rw [ky] at h ⊢
    exact wu hC l h
   unfold qb at h ⊢
   split at h
   ·rename_i hg
    (try rw [hg])
    exact go h
   ·rename_i g w hg
    (try rw [hg])
    simp only [vj] at h ⊢
    split at h
    ·cases h
    ·rename_i d hd
     (try rw [hd])
     (try simp only)
     split at h
     ·rename_i b hb
      (try simp only [hb])
      split at h
      ·rename_i hbt
       (try rw [if_pos hbt])
       split at h
       ·rename_i hw; (try rw [if_pos hw]); exact go h
       ·rename_i hw; (try rw [if_neg hw]); exact no h
      ·rename_i hbt
       (try rw [if_neg hbt])
       split at h
       ·rename_i hw; (try rw [if_pos hw]); exact go h
       ·rename_i hw; (try rw [if_neg hw]); exact no h
     ·rename_i vs hb
      (try simp only [hb])
      exact no h
     ·cases h
theorem jb (hC : zox C C') (hL : zvz L L') : ∀ (cd : Code) {β : Type} {r : β} {env : List PV} {A : List KO} {k : Ex → List PV → List KO → Option β},y3 c kc C L f n0 cd env A k = some r → y3 c kc C' L' f n0 cd env A k = some r
 | .skip,_,_,_,_,_,h | .label _,_,_,_,_,_,h | .exit _,_,_,_,_,_,h | .ret,_,_,_,_,_,h => h
 | .region id ops draw,β,r,env,A,k,h => by
   simp only [y3] at h ⊢
   rw [u7,haa] at h
   obtain ⟨x,h1,h2⟩ := h
   rw [u7,h1]
   simp only [Option.bind_some]
   split at h2
   ·rename_i hd
    rw [if_pos hd]
    split at h2
    ·rename_i hk
     rw [if_pos hk]
     exact wu hC _ h2
    ·cases h2
   ·rename_i hd
    rw [if_neg hd]
    exact wu hC _ h2
 | .seq a b,β,r,env,A,k,h => by
   simp only [y3] at h ⊢
   rw [xh,haa] at h
   obtain ⟨⟨x,e,A1⟩,h1,h2⟩ := h
   rw [xh,jb hC hL a h1]
   simp only [Option.bind_some]
   cases x with
   | normal => exact jb hC hL b h2
   | exit i => exact h2
   | ret => exact h2
 | .cond cd a b,β,r,env,A,k,h => by
   simp only [y3] at h ⊢
   split at h
   ·rename_i t ht
    split at h
    ·rename_i htt
     rw [if_pos htt]
     subst htt
     rw [wo ht] at h ⊢
     exact jb hC hL a h
    ·rename_i htt
     rw [if_neg htt]
     have htf : t = false := by simpa using htt
     subst htf
     rw [wo ht] at h ⊢
     exact jb hC hL b h
   ·cases h
 | .block id cd,β,r,env,A,k,h => by
   simp only [y3] at h ⊢
   rw [xh,haa] at h
   obtain ⟨⟨x,e,A1⟩,h1,h2⟩ := h
   rw [xh,jb hC hL cd h1]
   exact h2
 | .loop cd,β,r,env,A,k,h => by
   simp only [y3] at h ⊢
   split at h
   ·rename_i hd l hm
    rw [qn,haa] at h
    obtain ⟨x,h1,h2⟩ := h
    rw [haa] at h2
    obtain ⟨y,h3,h4⟩ := h2
    rw [qn,h1]
    simp only [Option.bind_some]
    rw [hL _ _ _ _ _ _ h3]
    exact h4
   ·cases h
 | .rangeFunc ..,_,_,_,_,_,h | .scope _,_,_,_,_,_,h | .goto _,_,_,_,_,_,h | .refuse _,_,_,_,_,_,h => by simp only [y3] at h; cases h
theorem zj9 (hC : zox C C') (hL : zvz L L') : zox (jf c kc C L) (jf c kc C' L') := fun g a A r h => by
 unfold jf at h ⊢
 split at h
 ·cases h
 rename_i ht
 rw [if_neg ht]
 split at h
 ·rename_i fn hf
  split at h
  ·rename_i cd hcd
   exact jb hC hL cd h
  ·cases h
 ·cases h
theorem zid (hC : zox C C') (hL : zvz L L') : zvz (jj c kc C L) (jj c kc C' L') := fun g cd n e A r h => by
 unfold jj at h ⊢
 rw [xh,haa] at h
 obtain ⟨⟨x,e1,A1⟩,h1,h2⟩ := h
 rw [xh,jb hC hL cd h1]
 simp only [Option.bind_some]
 unfold zu9 at h2 ⊢
 cases x with
 | normal =>
   simp only at h2 ⊢
   rw [qn,haa] at h2
   obtain ⟨y,h3,h4⟩ := h2
   rw [qn,h3]
   exact hL _ _ _ _ _ _ h4
 | exit i => exact h2
 | ret => exact h2
end
theorem zjq (c : Cfg) (kc : KCfg) : ∀ n,zox (jy c kc n) (jy c kc (n + 1)) ∧ zvz (loopNK c kc n) (loopNK c kc (n + 1))
 | 0 => ⟨(fun f a A r h => by cases h),(fun f cd n e A r h => by cases h)⟩
 | n + 1 => by
   obtain ⟨h1,h2⟩ := zjq c kc n
   refine ⟨fun f a A r h => ?_,fun f cd n e A r h => ?_⟩
   ·unfold jy at h ⊢; exact zj9 h1 h2 _ _ _ _ h
   ·unfold loopNK at h ⊢; exact zid h1 h2 _ _ _ _ _ _ h
theorem jx (c : Cfg) (kc : KCfg) {m : Nat} : ∀ n,m ≤ n → zox (jy c kc m) (jy c kc n) ∧ zvz (loopNK c kc m) (loopNK c kc n)
 | 0,h => by
   have : m = 0 := by omega
   subst this
   exact ⟨fun _ _ _ _ h => h,fun _ _ _ _ _ _ h => h⟩
 | n + 1,h => by
   by_cases he : m = n + 1
   ·subst he; exact ⟨fun _ _ _ _ h => h,fun _ _ _ _ _ _ h => h⟩
   ·obtain ⟨h1,h2⟩ := jx c kc (m := m) n (by omega)
    obtain ⟨h3,h4⟩ := zjq c kc n
    exact ⟨fun _ _ _ _ h => h3 _ _ _ _ (h1 _ _ _ _ h),fun _ _ _ _ _ _ h => h4 _ _ _ _ _ _ (h2 _ _ _ _ _ _ h)⟩
open Classical in
noncomputable def qy (c : Cfg) (kc : KCfg) : xj := fun f a A => if h : ∃ n r,jy c kc n f a A = some r then jy c kc (Classical.choose h) f a A else none
open Classical in
noncomputable def zdh (c : Cfg) (kc : KCfg) : ju := fun f cd n0 e A => if h : ∃ n r,loopNK c kc n f cd n0 e A = some r then loopNK c kc (Classical.choose h) f cd n0 e A else none
section
variable {c : Cfg} {kc : KCfg}
theorem callωK_iff {g : FuncId} {a : List PV} {A : List KO} {r : PV × List KO} : qy c kc g a A = some r ↔ ∃ n,jy c kc n g a A = some r := by
 unfold qy
 constructor
 ·intro h
  split at h
  ·exact ⟨_,h⟩
  ·cases h
 ·rintro ⟨n,h⟩
  have hx : ∃ n r,jy c kc n g a A = some r := ⟨n,r,h⟩
  rw [dif_pos hx]
  obtain ⟨r',hr'⟩ := Classical.choose_spec hx
  rw [hr']
  rcases Nat.le_total n (Classical.choose hx) with hle | hle
  ·rw [(jx c kc _ hle).1 _ _ _ _ h] at hr'; exact hr'.symm
  ·rw [(jx c kc _ hle).1 _ _ _ _ hr'] at h; exact h
theorem loopωK_iff {g : FuncId} {cd : Code} {n0 : Nat} {e : List PV} {A : List KO} {r : Ex × List PV × List KO} : zdh c kc g cd n0 e A = some r ↔ ∃ n,loopNK c kc n g cd n0 e A = some r := by
 unfold zdh
 constructor
 ·intro h
  split at h
  ·exact ⟨_,h⟩
  ·cases h
 ·rintro ⟨n,h⟩
  have hx : ∃ n r,loopNK c kc n g cd n0 e A = some r := ⟨n,r,h⟩
  rw [dif_pos hx]
  obtain ⟨r',hr'⟩ := Classical.choose_spec hx
  rw [hr']
  rcases Nat.le_total n (Classical.choose hx) with hle | hle
  ·rw [(jx c kc _ hle).2 _ _ _ _ _ _ h] at hr'; exact hr'.symm
  ·rw [(jx c kc _ hle).2 _ _ _ _ _ _ hr'] at h; exact h
theorem zwk (hO : OwnOk kc c.P (ze c)) : ub (qy c kc) (ze c) := fun g args A r A' h => by
 obtain ⟨n,h⟩ := callωK_iff.1 h
 exact (zii hO n).1 g args A r A' h
section
variable {β : Type} {r : β} {A : List KO} {env : List PV} {c2 : Cfg} {f : FuncId} {n0 : Nat}
theorem zkn {g : FuncId} {args : List PV} {v : PV} (h : zcb kc (qy c kc) g args = some v) : ∃ n,zcb kc (jy c kc n) g args = some v := by
 unfold zcb at h ⊢
 split at h
 ·exact ⟨0,h⟩
 ·split at h
  ·exact ⟨0,h⟩
  ·unfold jm at h
   rw [hac] at h
   obtain ⟨q,h3,h4⟩ := h
   obtain ⟨n,h5⟩ := callωK_iff.1 h3
   refine ⟨n,?_⟩
   unfold jm
   rw [h5,Option.map_some,h4]
theorem zlf {g : FuncId} {args : List PV} {ty : TypeId} {k : PV → List PV → List KO → Option β} (h : ut c2 kc (qy c kc) g args ty env A k = some r) : ∃ n,ut c2 kc (jy c kc n) g args ty env A k = some r := by
 unfold ut at h ⊢
 simp only [forceVs_eq] at h ⊢
 split at h
 ·rename_i he
  simp only [if_pos he]
  split at h
  ·rename_i hm
   rw [haa] at h
   obtain ⟨v,h1,h2⟩ := h
   obtain ⟨n,h3⟩ := zkn h1
   refine ⟨n,?_⟩
   rw [h3]
   exact h2
  ·exact ⟨0,h⟩
  ·rename_i hm
   split at h
   ·exact ⟨0,h⟩
   unfold zdi at h ⊢
   simp only [jh,forceVs_eq,y5,x9] at h ⊢
   split at h
   ·rename_i hq
    simp only [if_pos hq]
    rw [haa] at h
    obtain ⟨v,h1,h2⟩ := h
    obtain ⟨n,h5⟩ := callωK_iff.1 h1
    exact ⟨n,by rw [h5]; exact h2⟩
   ·cases h
  ·exact ⟨0,h⟩
 ·rename_i he
  simp only [if_neg he]
  exact ⟨0,h⟩
theorem zp0 {o : Oper} {k : PV → List PV → List KO → Option β} (h : zow c2 kc (qy c kc) env A o k = some r) : ∃ n,zow c2 kc (jy c kc n) env A o k = some r := by
 obtain ⟨dst,op,type,pos,after,guard⟩ := o
 cases op
 case call cl =>
  obtain ⟨callee,args,ts⟩ := cl
  cases callee
  case value x =>
   unfold zow at h ⊢
   simp only [haa] at h ⊢
   obtain ⟨q,h1,h2⟩ := h
   obtain ⟨n,h3⟩ := zlf h2
   exact ⟨n,q,h1,h3⟩
  all_goals exact ⟨0,h⟩
 case makeFunc fn fs cs => cases fn <;> exact ⟨0,h⟩
 all_goals exact ⟨0,h⟩
theorem zp1 {o : Oper} {k : PV → List PV → List KO → Option β} (h : zet c2 kc (qy c kc) env A o k = some r) : ∃ n,zet c2 kc (jy c kc n) env A o k = some r := by
 unfold zet at h ⊢
 split at h
 ·rename_i hg
  obtain ⟨n,h1⟩ := zp0 h
  exact ⟨n,by rw [if_pos hg]; exact h1⟩
 ·cases h
theorem zav {all : List Oper} : ∀ (l : List Oper) {env : List PV} {A : List KO} {k : List PV → List KO → Option β},qb c2 kc (qy c kc) all l env A k = some r → ∃ n,qb c2 kc (jy c kc n) all l env A k = some r
 | [],_,_,_,h => ⟨0,h⟩
 | o :: l,env,A,k,h => by
   have go : ∀ {env : List PV},(zet c2 kc (qy c kc) env A o fun v env A => zde env o.dst v fun e => qb c2 kc (qy c kc) all l e A k) = some r → ∃ n,(zet c2 kc (jy c kc n) env A o fun v env A => zde env o.dst v fun e => qb c2 kc (jy c kc n) all l e A k) = some r := fun h => by
    rw [zd7,haa] at h
    obtain ⟨x,h1,h2⟩ := h
    rw [ky] at h2
    obtain ⟨n1,h3⟩ := zp1 h1
    obtain ⟨n2,h4⟩ := zav l h2
    refine ⟨max n1 n2,?_⟩
    rw [zd7,ziw (jx c kc _ (Nat.le_max_left n1 n2)).1 h3]
    simp only [Option.bind_some]
    rw [ky]
    exact wu (jx c kc _ (Nat.le_max_right n1 n2)).1 l h4
   have no : ∀ {env : List PV},(zde env o.dst (.tuple []) fun e => qb c2 kc (qy c kc) all l e A k) = some r → ∃ n,(zde env o.dst (.tuple []) fun e => qb c2 kc (jy c kc n) all l e A k) = some r := fun h => by
    simp only [ky] at h ⊢
    exact zav l h
   unfold qb at h ⊢
   split at h
   ·rename_i hg
    (try rw [hg])
    exact go h
   ·rename_i g w hg
    (try rw [hg])
    simp only [vj] at h ⊢
    split at h
    ·cases h
    ·rename_i d hd
     (try rw [hd])
     (try simp only)
     split at h
     ·rename_i b hb
      (try simp only [hb])
      split at h
      ·rename_i hbt
       (try simp only [if_pos hbt])
       split at h
       ·rename_i hw; (try simp only [if_pos hw]); exact go h
       ·rename_i hw; (try simp only [if_neg hw]); exact no h
      ·rename_i hbt
       (try simp only [if_neg hbt])
       split at h
       ·rename_i hw; (try simp only [if_pos hw]); exact go h
       ·rename_i hw; (try simp only [if_neg hw]); exact no h
     ·rename_i vs hb
      (try simp only [hb])
      exact no h
     ·cases h
theorem ql : ∀ (cd : Code) {β : Type} {r : β} {env : List PV} {A : List KO} {k : Ex → List PV → List KO → Option β},y3 c kc (qy c kc) (zdh c kc) f n0 cd env A k = some r → ∃ n,y3 c kc (jy c kc n) (loopNK c kc n) f n0 cd env A k = some r
 | .skip,_,_,_,_,_,h | .label _,_,_,_,_,_,h | .exit _,_,_,_,_,_,h | .ret,_,_,_,_,_,h => ⟨0,h⟩
 | .region id ops draw,β,r,env,A,k,h => by
   simp only [y3] at h ⊢
   rw [u7,haa] at h
   obtain ⟨x,h1,h2⟩ := h
   split at h2
   ·rename_i hd
    split at h2
    ·rename_i hk
     obtain ⟨n,h3⟩ := zav _ h2
     refine ⟨n,?_⟩
     rw [u7,h1]
     simp only [Option.bind_some]
     rw [if_pos hd,if_pos hk]
     exact h3
    ·cases h2
   ·rename_i hd
    obtain ⟨n,h3⟩ := zav _ h2
    refine ⟨n,?_⟩
    rw [u7,h1]
    simp only [Option.bind_some]
    rw [if_neg hd]
    exact h3
 | .seq a b,β,r,env,A,k,h => by
   simp only [y3] at h ⊢
   rw [xh,haa] at h
   obtain ⟨⟨x,e,A1⟩,h1,h2⟩ := h
   obtain ⟨n1,h3⟩ := ql a h1
   cases x with
   | normal =>
     obtain ⟨n2,h4⟩ := ql b h2
     refine ⟨max n1 n2,?_⟩
     obtain ⟨u1,u2⟩ := jx c kc _ (Nat.le_max_left n1 n2)
     obtain ⟨u3,u4⟩ := jx c kc _ (Nat.le_max_right n1 n2)
     rw [xh,jb u1 u2 a h3]
     exact jb u3 u4 b h4
   | exit i => exact ⟨n1,by rw [xh,h3]; exact h2⟩
   | ret => exact ⟨n1,by rw [xh,h3]; exact h2⟩
 | .cond cd a b,β,r,env,A,k,h => by
   simp only [y3] at h ⊢
   split at h
   ·rename_i t ht
    split at h
    ·rename_i htt
     simp only [if_pos htt]
     subst htt
     simp only [wo ht] at h ⊢
     exact ql a h
    ·rename_i htt
     simp only [if_neg htt]
     have htf : t = false := by simpa using htt
     subst htf
     simp only [wo ht] at h ⊢
     exact ql b h
   ·cases h
 | .block id cd,β,r,env,A,k,h => by
   simp only [y3] at h ⊢
   rw [xh,haa] at h
   obtain ⟨⟨x,e,A1⟩,h1,h2⟩ := h
   obtain ⟨n1,h3⟩ := ql cd h1
   exact ⟨n1,by rw [xh,h3]; exact h2⟩
 | .loop cd,β,r,env,A,k,h => by
   simp only [y3] at h ⊢
   split at h
   ·rename_i hd l hm
    rw [qn,haa] at h
    obtain ⟨x,h1,h2⟩ := h
    rw [haa] at h2
    obtain ⟨y,h3,h4⟩ := h2
    obtain ⟨n,h5⟩ := loopωK_iff.1 h3
    refine ⟨n,?_⟩
    rw [qn,h1]
    simp only [Option.bind_some]
    rw [h5]
    exact h4
   ·cases h
 | .rangeFunc ..,_,_,_,_,_,h | .scope _,_,_,_,_,_,h | .goto _,_,_,_,_,_,h | .refuse _,_,_,_,_,_,h => by simp only [y3] at h; cases h
end
theorem zjp {g : FuncId} {a : List PV} {A : List KO} {r : PV × List KO} (h : jf c kc (qy c kc) (zdh c kc) g a A = some r) : qy c kc g a A = some r := by
 refine callωK_iff.2 ?_
 unfold jf at h
 split at h
 ·cases h
 rename_i ht
 split at h
 ·rename_i fn hf
  split at h
  ·rename_i cd hcd
   obtain ⟨n,h1⟩ := ql cd h
   refine ⟨n + 1,?_⟩
   unfold jy jf
   rw [if_neg ht,hf]
   simp only [hcd]
   exact h1
  ·cases h
 ·cases h
theorem zqi {g : FuncId} {cd : Code} {n0 : Nat} {e : List PV} {A : List KO} {r : Ex × List PV × List KO} (h : jj c kc (qy c kc) (zdh c kc) g cd n0 e A = some r) : zdh c kc g cd n0 e A = some r := by
 refine loopωK_iff.2 ?_
 unfold jj at h
 rw [xh,haa] at h
 obtain ⟨⟨x,e1,A1⟩,h1,h2⟩ := h
 obtain ⟨n1,h3⟩ := ql cd h1
 unfold zu9 at h2
 cases x with
 | normal =>
   simp only at h2
   rw [qn,haa] at h2
   obtain ⟨y,h4,h5⟩ := h2
   obtain ⟨n2,h6⟩ := loopωK_iff.1 h5
   obtain ⟨u1,u2⟩ := jx c kc _ (Nat.le_max_left n1 n2)
   obtain ⟨u3,u4⟩ := jx c kc _ (Nat.le_max_right n1 n2)
   refine ⟨max n1 n2 + 1,?_⟩
   unfold loopNK jj zu9
   rw [xh,jb u1 u2 cd h3]
   simp only [Option.bind_some]
   rw [qn,h4]
   exact u4 _ _ _ _ _ _ h6
 | exit i =>
   refine ⟨n1 + 1,?_⟩
   unfold loopNK jj zu9
   rw [xh,h3]
   exact h2
 | ret =>
   refine ⟨n1 + 1,?_⟩
   unfold loopNK jj zu9
   rw [xh,h3]
   exact h2
theorem zsc {g : FuncId} {a : List PV} {v w : PV} {A : List KO} (h : jf c kc (qy c kc) (zdh c kc) g a [] = some (v,A)) (hf : fzK zp A v = w) : jm (qy c kc) g a = some w := by
 unfold jm
 rw [zjp h,Option.map_some]
 exact congrArg some hf
theorem zep (_hT : zib c) (hO : OwnOk kc c.P (ze c)) {g : FuncId} {a pa : List PV} {v : PV} (h : jm (qy c kc) g a = some v) (ha : VFs a pa) : ∃ p τ,ze c g pa .empty = some (p,τ) ∧ VF v (fz zp τ p) :=
 zl9 (zwk hO) h ha
end
end Go.Pvm
namespace Go.Pvm
def zdo (sz by_ : Nat) (args : List PV) : Option (List (List PV)) := match args with
 | [.psl _ es] => if zt sz es = true ∧ es.all PV.own.owns = true ∧ es.length * by_ ≤ 140737488355328 then some es else none
 | _ => none
theorem zol {α : Type} {sz by_ : Nat} {b : Bool} {enc : α → List PV} (l : List α) (h : ∀ a,(enc a).length = sz ∧ (enc a).all PV.plain = true ∧ PV.own.owns (enc a) = true) (hb : l.length * by_ ≤ 140737488355328) : zdo sz by_ [.psl b (l.map enc)] = some (l.map enc) := by
 have h1 : zt sz (l.map enc) = true := by
  unfold zt
  rw [har]
  intro e he
  obtain ⟨a,_,rfl⟩ := List.mem_map.1 he
  rw [(h a).2.1]
  simp [(h a).1]
 have h2 : (l.map enc).all PV.own.owns = true := by
  rw [har]
  intro e he
  obtain ⟨a,_,rfl⟩ := List.mem_map.1 he
  exact (h a).2.2
 show (if zt sz (l.map enc) = true ∧ (l.map enc).all PV.own.owns = true ∧ (l.map enc).length * by_ ≤ 140737488355328 then some (l.map enc) else none) = _
 rw [if_pos ⟨h1,h2,by rw [han]; exact hb⟩]
theorem VF.own1 {v p : PV} (h : VF v p) (hp : v.plain = true) (ho : v.own = true) : p.own = true := by
 cases h with
 | undef => cases hp
 | base _ hb => exact ho
 | psl b b' h =>
   rename_i es ps
   have : es.isEmpty = true := ho
   have : ps.isEmpty = true := by
    cases h with
    | nil => rfl
    | cons => cases this
   exact this
 | nl => rfl
 | pref => cases ho
 | agg => cases hp
 | tuple => cases hp
 | func => cases hp
theorem VFs.own1 : ∀ {v p : List PV},VFs v p → v.all PV.plain = true → PV.own.owns v = true → PV.own.owns p = true
 | _,_,.nil,_,_ => rfl
 | _,_,.cons h t,hp,ho => by
   rw [List.all_cons,haq] at hp
   unfold PV.own.owns at ho ⊢
   rw [haq] at ho
   rw [h.own1 hp.1 ho.1,t.own1 hp.2 ho.2]; rfl
theorem VFss.own1 {sz : Nat} : ∀ {v p : List (List PV)},VFss v p → zt sz v = true → v.all PV.own.owns = true → p.all PV.own.owns = true
 | _,_,.nil,_,_ => rfl
 | e :: es,_,.cons h t,hp,ho => by
   have hp1 := ve hp (.head _)
   have hp2 : zt sz es = true := by unfold zt at hp ⊢; rw [List.all_cons,haq] at hp; exact hp.2
   rw [List.all_cons,haq] at ho ⊢
   exact ⟨h.own1 hp1.2 ho.1,t.own1 hp2 ho.2⟩
section
variable {β : Type}
theorem xb (b : Bool) (es : List (List PV)) (k : List (List PV) → Option β) : zty (.psl b es) k = k es := rfl
theorem xc (k : List (List PV) → Option β) : zty .nilsl k = k [] := rfl
theorem y1 (cs : List PV) (k : List PV → Option β) : asAgg (.agg cs) k = k cs := rfl
theorem yq (cs : List PV) (k : List PV → Option β) : zlj (.tuple cs) k = k cs := rfl
theorem zo (c : PV) (cs : List PV) (k : PV → List PV → Option β) : jg (c :: cs) k = k c cs := rfl
theorem yl (k : Option β) : qz [] k = k := rfl
theorem ym (i : FloatKind) (n : Nat) (k : Nat → Option β) : zjv i (.float i n) k = k n := by simp [zjv]
theorem yk (a b c : Nat) (k : Option β) : zoq a b c (.ref a b c) k = k := by simp [zoq]
theorem zm (a b : Nat) (k : Option β) : zam a b (whole a b) k = k := by simp [zam,whole]
theorem yd (a b : Nat) (k : Option β) (k' : Nat → Nat → Option β) : zvs a b (whole a b) k k' = k := by simp [zvs,whole]
theorem yp (a b x n : Nat) (k : Option β) (k' : Nat → Nat → Option β) : zvs a b (zdt a b x n) k k' = k' x n := by simp [zvs,zdt]
theorem zx (a b x n : Nat) (k : Nat → Nat → Option β) : zjr a b (zdt a b x n) k = k x n := by simp [zjr,zdt]
theorem xw (f : FuncId) (cs : List PV) (k : List PV → Option β) : zx5 f (.func f cs) k = k cs := by simp [zx5]
theorem zy (cs : List PV) (k : List PV → Option β) : zm1 (.pref cs) k = k cs := rfl
theorem zl (c : KO) (cs : List KO) (k : KO → List KO → Option β) : zan (c :: cs) k = k c cs := rfl
theorem yf (k : Option β) : qp [] k = k := rfl
theorem yo (w : Bool) (t : TypeId) (cs : List PV) (k : List PV → Option β) : zjw w t (.box w t cs) k = k cs := by simp [zjw]
theorem zlm (w : Bool) (t : TypeId) (cs : List PV) (k : List PV → Option β) : zjw false t (.box w t cs) k = k cs := by simp [zjw]
theorem zr (w : Bool) (sz : Nat) (es : List (List PV)) (k : List (List PV) → Option β) : zcu w sz (.made w sz es) k = k es := by simp [zcu]
theorem zju (w : Bool) (sz : Nat) (es : List (List PV)) (k : List (List PV) → Option β) : zcu false sz (.made w sz es) k = k es := by simp [zcu]
theorem z6 (k : Option β) : zgu .dead k = k := rfl
theorem zz (w : Bool) (sz : Nat) (es : List (List PV)) (k : Option β) : zgu (.made w sz es) k = k := rfl
def zd0 (κ : IntKind) (l : List PV) (k : Int → List PV → Option β) : Option β := jg l fun v r => asInt κ v fun n => k n r
def zvw (l : List PV) (k : Bool → List PV → Option β) : Option β := jg l fun v r => asBool v fun n => k n r
def zz3 (κ : FloatKind) (l : List PV) (k : Nat → List PV → Option β) : Option β := jg l fun v r => zjv κ v fun n => k n r
def ztz (l : List PV) (k : List (List PV) → List PV → Option β) : Option β := jg l fun v r => zty v fun n => k n r
def zrp (a b : Nat) (l : List PV) (k : List PV → Option β) : Option β := jg l fun v r => zam a b v (k r)
def zz2 (a b c : Nat) (l : List PV) (k : List PV → Option β) : Option β := jg l fun v r => zoq a b c v (k r)
def zos (w : Bool) (sz : Nat) (l : List KO) (k : List (List PV) → List KO → Option β) : Option β := zan l fun o r => zcu w sz o fun es => k es r
def zvu (w : Bool) (t : TypeId) (l : List KO) (k : List PV → List KO → Option β) : Option β := zan l fun o r => zjw w t o fun cs => k cs r
def zz1 (l : List KO) (k : List KO → Option β) : Option β := zan l fun o r => zgu o (k r)
def gS (x : Ex × List PV × List KO) (i : Nat) : PV := List.getD x.2.1 i .undef
theorem yn (κ : IntKind) (n : Int) (r : List PV) (k : Int → List PV → Option β) : zd0 κ (.int κ n :: r) k = k n r := by simp [zd0,zo,zb]
theorem yz (n : Bool) (r : List PV) (k : Bool → List PV → Option β) : zvw (.bool n :: r) k = k n r := by simp [zvw,zo,zc]
theorem yy (κ : FloatKind) (n : Nat) (r : List PV) (k : Nat → List PV → Option β) : zz3 κ (.float κ n :: r) k = k n r := by simp [zz3,zo,ym]
theorem xd (b : Bool) (n : List (List PV)) (r : List PV) (k : List (List PV) → List PV → Option β) : ztz (.psl b n :: r) k = k n r := rfl
theorem xe (r : List PV) (k : List (List PV) → List PV → Option β) : ztz (.nilsl :: r) k = k [] r := rfl
theorem yw (a b : Nat) (r : List PV) (k : List PV → Option β) : zrp a b (whole a b :: r) k = k r := by simp [zrp,zo,zm]
theorem yx (a b c : Nat) (r : List PV) (k : List PV → Option β) : zz2 a b c (.ref a b c :: r) k = k r := by simp [zz2,zo,yk]
theorem yr (w : Bool) (sz : Nat) (n : List (List PV)) (r : List KO) (k : List (List PV) → List KO → Option β) : zos w sz (.made w sz n :: r) k = k n r := by simp [zos,zl,zr]
theorem yg (w : Bool) (sz : Nat) (n : List (List PV)) (r : List KO) (k : List (List PV) → List KO → Option β) : zos false sz (.made w sz n :: r) k = k n r := by simp [zos,zl,zju]
theorem yv (w : Bool) (t : TypeId) (n : List PV) (r : List KO) (k : List PV → List KO → Option β) : zvu w t (.box w t n :: r) k = k n r := by simp [zvu,zl,yo]
theorem yh (w : Bool) (t : TypeId) (n : List PV) (r : List KO) (k : List PV → List KO → Option β) : zvu false t (.box w t n :: r) k = k n r := by simp [zvu,zl,zlm]
theorem yu (r : List KO) (k : List KO → Option β) : zz1 (.dead :: r) k = k r := rfl
theorem yt (w : Bool) (sz : Nat) (es : List (List PV)) (r : List KO) (k : List KO → Option β) : zz1 (.made w sz es :: r) k = k r := rfl
theorem vn (x : Ex) (e : List PV) (A : List KO) (i : Nat) : gS (x,e,A) i = List.getD e i .undef := rfl
theorem zcm {n i : Nat} (h : i < n) (l : List (Nat × PV)) : List.getD (mkS n l) i .undef = (l.lookup i).getD .undef := by
 unfold mkS
 rw [hai,hav,List.getElem?_range h]
 rfl
end
abbrev Rws := List (List PV)
theorem z5e {α : Type} {sz : Nat} {enc : α → List PV} (l : List α) (h : ∀ a,(enc a).length = sz ∧ (enc a).all PV.plain = true) : zt sz (l.map enc) = true := by
 unfold zt
 rw [har]
 intro e he
 obtain ⟨a,_,rfl⟩ := List.mem_map.1 he
 rw [(h a).2]
 simp [(h a).1]
end Go.Pvm
namespace Go.Pvm
def ArgK {α : Type} (P : Program) (t : TypeId) (e : α → List PV) (Q : α → Prop) : Prop := ∀ top n c,WT P top n t c → ∃ a,VFs (e a) c ∧ Q a
theorem VFss.of_each {α : Type} {e : α → List PV} {Q : α → Prop} : ∀ (es : List (List PV)),(∀ c ∈ es,∃ a,VFs (e a) c ∧ Q a) → ∃ l : List α,l.length = es.length ∧ VFss (l.map e) es ∧ ∀ a ∈ l,Q a
 | [],_ => ⟨[],rfl,.nil,fun a ha => by cases ha⟩
 | c :: es,h => by
   obtain ⟨a,h1,h2⟩ := h c (List.mem_cons_self ..)
   obtain ⟨l,h3,h4,h5⟩ := VFss.of_each es fun c hc => h c (List.mem_cons_of_mem _ hc)
   refine ⟨a :: l,by simp [h3],.cons h1 h4,fun b hb => ?_⟩
   rcases ha6.1 hb with rfl | hb
   ·exact h2
   ·exact h5 b hb
theorem ArgK.int {P : Program} {t : TypeId} {k : IntKind} (h : P.underlying t = some (.int k)) : ArgK P t (fun n : Int => [.int k n]) (fun n => k.min ≤ n ∧ n ≤ k.max) := fun top n c hw => by
 obtain ⟨x,rfl,hx⟩ := zv0 h hw
 exact ⟨x,.cons (.base _ rfl) .nil,hx⟩
theorem ArgK.slice {α : Type} {P : Program} {t el : TypeId} {e : α → List PV} {Q : α → Prop} (hu : P.underlying t = some (.slice el)) (h0 : P.cellsOf el ≠ 0) (he : ArgK P el e Q) :
  ArgK P t (fun l : List α => [.psl false (l.map e)]) (fun l => l.length * P.bytesOf el ≤ reachBytes ∧ ∀ a ∈ l,Q a) := fun top n c h => by
 cases n with
 | zero => exact h.elim
 | succ n =>
   unfold WT at h
   rw [hu] at h
   rcases h with h | ⟨es,h1,_,h2,h3⟩ | ⟨_,h1,_⟩
   ·exact ⟨[],by rw [h]; exact .cons (.nl false) .nil,by simp,fun a ha => by cases ha⟩
   ·obtain ⟨l,q1,q2,q3⟩ := VFss.of_each (e := e) (Q := Q) es fun c hc => he _ n c (h3 c hc).2
    exact ⟨l,by rw [h1]; exact .cons (.psl _ _ q2) .nil,by rw [q1]; exact h2,q3⟩
   ·exact absurd h1 h0
theorem ArgK.one {α : Type} {P : Program} {t : TypeId} {e : α → PV} {Q : α → Prop} (he : ArgK P t (fun a => [e a]) Q) (hs : zou ((P.underlying t).getD .bool) = false) {v : PV} (h : WTV P t v) : ∃ a,VF (e a) v ∧ Q a := by
 obtain ⟨n,h⟩ := h
 rw [hs] at h
 obtain ⟨a,h1,h2⟩ := he _ _ _ h
 cases h1 with
 | cons h1 _ => exact ⟨a,h1,h2⟩
theorem VFs.append {a b c d : List PV} (h : VFs a b) (h' : VFs c d) : VFs (a ++ c) (b ++ d) := by
 cases h with
 | nil => exact h'
 | cons h t => exact .cons h (VFs.append t h')
end Go.Pvm
