import Derived.Test.YtjfgklgcbogejaaGreatQ1
import Derived.Test.YtjfgklgcbogejaaGreatP4
/- Part of the proof: calls, and all operations, of the evaluator over values alone. -/
set_option linter.unusedSimpArgs false
set_option linter.unusedVariables false
namespace Go.Pvm
def zbt (C : yu) (Cω : x6) : Prop := ∀ g args A r A',C g args A = some (r,A') → ∀ ρ pargs σ,KS ρ A args pargs σ → ∃ p σ' ρ',Cω g pargs σ = some (p,σ') ∧ KS ρ' A' [r] [p] σ' ∧ Go2 A.length ρ A σ ρ' A' σ'
def zoi (L : yx) (Lω : vq) : Prop := ∀ f cd n0 env A x env' A',L f cd n0 env A = some (x,env',A') → ∀ ρ penv σ,KS ρ A env penv σ → ∃ penv' σ' ρ',Lω f cd penv σ = some (x,penv',σ') ∧ KS ρ' A' env' penv' σ' ∧ Go2 n0 ρ A σ ρ' A' σ'
structure OwnOk (kc : KCfg) (P : Program) (Cω : x6) : Prop where
 own : ∀ g sz h,kc.own g = some (sz,h) → ∀ args es,h args = some es → ∀ pargs,VFs args pargs → ∀ n,∃ p τ,Cω g pargs (.at_ n) = some (p,τ) ∧ p.own = true ∧ wn τ n = true ∧ n ≤ τ.next ∧ hdl p = true ∧ KOR (fun _ => .undef) 0 τ p (.made true sz es) ∧ ∀ i ∈ tops p,n ≤ i
 told : ∀ g u,kc.told g = some u → ∀ args σ,Cω g args σ = zi9 P u args σ
section
variable {P : Program} {ρ ρ' : Nat → PV} {m : Nat} {A A' : List KO} {env penv : List PV} {σ σ' : Store} {β : Type} {r : β}
theorem KS.empty {args pargs : List PV} (h : VFs args pargs) (ρ : Nat → PV) (σ : Store) : KS ρ [] args pargs σ :=
 ⟨h.k,fun k hk => absurd hk (Nat.not_lt_zero _),fun k k' i hi => by cases hi⟩
theorem zq5 {C : yu} {Cω : x6} (hC : zbt C Cω) {g : FuncId} {args pargs : List PV} {v : PV} (h : yo C g args = some v) (ha : VFs args pargs) : ∃ p τ,Cω g pargs .empty = some (p,τ) ∧ VF v (fz xm τ p) := by
 unfold yo at h
 rw [Option.map_eq_some_iff] at h
 obtain ⟨⟨r,A'⟩,h1,h2⟩ := h
 obtain ⟨p,τ,ρ',q1,q2,_⟩ := hC g args [] r A' h1 (fun _ => .undef) pargs .empty (KS.empty ha _ _)
 refine ⟨p,τ,q1,?_⟩
 rw [← h2]
 have := q2.env.getD 0
 exact zbr q2 xm this
theorem zhw {kc : KCfg} {C : yu} {Cω : x6} (hC : zbt C Cω) (hO : OwnOk kc P Cω) {g : FuncId} {args pargs : List PV} {v : PV} (h : zd8 kc C g args = some v) (ha : VFs args pargs) : ∃ p τ,Cω g pargs .empty = some (p,τ) ∧ VF v (fz xm τ p) := by
 unfold zd8 at h
 split at h
 ·rename_i sz f hf
  rw [Option.map_eq_some_iff] at h
  obtain ⟨es,h1,rfl⟩ := h
  obtain ⟨p,τ,e1,e2,e3,e4,eh,e5,e6⟩ := hO.own g sz f hf _ es h1 pargs ha 0
  refine ⟨p,τ,e1,?_⟩
  have hor : KOR (fun _ => p) 1 τ p (.made true sz es) := e5
  have hK : KS (fun _ => p) [.made true sz es] [.lsl 0 sz 0 0 none] [p] τ := ⟨.cons (.whole (Nat.lt_succ_self 0) eh) .nil,fun k hk => by
   have : k = 0 := by simpa using hk
   subst this; exact hor,fun k k' i hi hi' => by
   have z : ∀ {k : Nat},i ∈ wj [KO.made true sz es] (fun _ => p) k → k = 0 := fun {k} hi => by
    cases k with
    | zero => rfl
    | succ k => cases hi
   rw [z hi,z hi']⟩
  have := zbr hK xm (hK.env.getD 0)
  exact this
 ·exact zq5 hC h ha
def WkO (o o' : KO) : Prop := (∀ ρ m σ u,KOR ρ m σ u o → KOR ρ m σ u o') ∧ (jj o' = false → jj o = false) ∧ (zip o = true → zip o' = true)
def WkA (A A' : List KO) : Prop := A'.length = A.length ∧ ∀ j,WkO (A.getD j .dead) (A'.getD j .dead)
theorem KS.wk (h : KS ρ A env penv σ) (hw : WkA A A') (n0 : Nat) : KS ρ A' env penv σ ∧ Go2 n0 ρ A σ ρ A' σ := by
 have hids : ∀ k i,i ∈ wj A' ρ k → i ∈ wj A ρ k := fun k i hi => by
  unfold wj at hi ⊢
  split at hi
  ·cases hi
  ·rename_i hd
   rw [if_neg (by rw [(hw.2 k).2.1 (by simpa using hd)]; decide)]
   exact hi
 refine ⟨⟨by rw [hw.1]; exact h.env,fun k hk => ?_,fun k k' i hi hi' => h.dis k k' i (hids k i hi) (hids k' i hi')⟩,Nat.le_refl _,fun _ _ _ => rfl,fun k i hi => .inl ⟨k,hids k i hi⟩,fun hle => ⟨by rw [hw.1]; exact hle,fun k _ => ⟨(hw.2 k).2.2,fun hd => ⟨(hw.2 k).2.1 hd,rfl⟩⟩⟩⟩
 rw [hw.1] at hk ⊢
 exact (hw.2 k).1 _ _ _ _ (h.obj k hk)
theorem z1c {s : OSk} {o : KO} {k : KO → Option β} (h : ztx s o k = some r) : ∃ o',k o' = some r ∧ WkO o o' := by
 unfold ztx at h
 split at h
 ·unfold zkl at h
  split at h
  ·cases h
  ·rename_i hnb
   exact ⟨_,h,fun _ _ _ _ _ => trivial,(fun h => by cases h),fun hb => by cases o <;> first | (cases hb; done) | exact (hnb _ _ _ rfl).elim⟩
 ·unfold zof at h
  split at h
  ·split at h
   ·rename_i w t sk _ w' t' cs hc
    obtain ⟨hw,rfl⟩ := hc
    obtain ⟨cs',h1,h2,_⟩ := asSks_ok _ h
    refine ⟨_,h1,fun ρ m σ u ⟨id,pcs,ro,e,s1,s2,s3,s4⟩ => ⟨id,pcs,ro,e,s1,h2 _ _ _ s2,fun hwt => ?_,s4⟩,fun _ => rfl,fun _ => rfl⟩
    rcases hw with rfl | rfl
    ·cases hwt
    ·exact s3 hwt
   ·cases h
  ·cases h
 ·unfold zgd at h
  split at h
  ·split at h
   ·rename_i w sz _ w' sz' es hc
    obtain ⟨hw,rfl⟩ := hc
    refine ⟨_,h,fun ρ m σ u ⟨q0,q1,q2⟩ => ⟨q0,q1,q2.imp (fun x => x) fun ⟨id,cap,ro,ps,tl,e,s1,s2,s3,s4,s5,s6⟩ => ⟨id,cap,ro,ps,tl,e,s1,s2,s3,s4,fun hwt => ?_,s6⟩⟩,fun h => h,fun h => h⟩
    rcases hw with rfl | rfl
    ·cases hwt
    ·exact s5 hwt
   ·cases h
  ·cases h
theorem zi5 : ∀ {s : List OSk} {l : List KO} {k : List KO → Option β},zaj s l k = some r → ∃ l',k l' = some r ∧ WkA l l'
 | [],l,k,h => by
   unfold zaj yt at h
   split at h
   ·exact ⟨[],h,rfl,fun j => ⟨fun _ _ _ _ h => h,fun h => h,fun h => h⟩⟩
   ·cases h
 | s :: sr,l,k,h => by
   unfold zaj zds at h
   split at h
   ·rename_i o lr
    obtain ⟨o',h1,h2⟩ := z1c h
    obtain ⟨l',h3,h4,h5⟩ := zi5 h1
    refine ⟨_,h3,by simp [h4],fun j => ?_⟩
    cases j with
    | zero => exact h2
    | succ j => exact h5 j
   ·cases h
theorem zbk : ∀ {l : List Nat} {k i : Nat},zbx l k = some i → l[i]? = some k
 | [],_,_,e => by cases e
 | j :: r,k,i,e => by
   unfold zbx at e
   split at e
   ·rename_i hjk; cases e; simp [hjk]
   ·rw [Option.map_eq_some_iff] at e
    obtain ⟨i',e1,rfl⟩ := e
    simpa using zbk e1
theorem zrt : ∀ {l : List Nat} {k : Nat},k ∈ l → ∃ i,zbx l k = some i
 | j :: r,k,h => by
   unfold zbx
   by_cases hjk : j = k
   ·exact ⟨0,by rw [if_pos hjk]⟩
   ·rw [if_neg hjk]
    obtain ⟨i,hi⟩ := zrt (l := r) (k := k) ((List.mem_cons.1 h).resolve_left (Ne.symm hjk))
    exact ⟨i + 1,by rw [hi]; rfl⟩
theorem zj5 : ∀ {l : List Nat},zec l = true → ∀ {i i' k : Nat},l[i]? = some k → l[i']? = some k → i = i'
 | [],_,i,i',k,e,_ => by simp at e
 | j :: r,hb,i,i',k,e,e' => by
   unfold zec at hb
   rw [Bool.and_eq_true] at hb
   have hj : j ∉ r := by
    intro hm
    have := hb.1
    simp [hm] at this
   cases i with
   | zero =>
     cases i' with
     | zero => rfl
     | succ i' => simp at e e'; subst e; exact absurd (List.mem_of_getElem? e') hj
   | succ i =>
     cases i' with
     | zero => simp at e e'; subst e'; exact absurd (List.mem_of_getElem? e) hj
     | succ i' => rw [zj5 hb.2 (i := i) (i' := i') (k := k) (by simpa using e) (by simpa using e')]
theorem zpq {l : List Nat} (h : zec l = true) {i k : Nat} (e : l[i]? = some k) : zbx l k = some i := by
 obtain ⟨i',hi⟩ := zrt (List.mem_of_getElem? e)
 rw [hi,zj5 h (zbk hi) e]
theorem zwi {kc : KCfg} {C : yu} {Cω : x6} (hC : zbt C Cω) {g : FuncId} {args : List PV} {k : PV → List PV → List KO → Option β} (h : zf9 kc C g args env A k = some r) : ∃ v env' A',k v env' A' = some r ∧ env'.length = env.length ∧
  ∀ ρ penv σ n0 pargs,KS ρ A env penv σ → VKs ρ A.length args pargs → ∃ w σ',Cω g pargs σ = some (w,σ') ∧ Stp n0 ρ A σ v env' penv A' w σ' := by
 unfold zf9 at h
 rw [j9] at h
 generalize zd6 64 A ((tops.topss args).foldl zx7 []) 0 = l at h
 simp only at h
 split at h
 ·rename_i hc
  obtain ⟨hnd,hall⟩ := hc
  rw [forceVs_eq,xl,Option.bind_eq_some_iff] at h
  obtain ⟨⟨r0,A0'⟩,h1,h⟩ := h
  obtain ⟨v,h,hv1,_⟩ := zi4 _ h
  obtain ⟨A1,h,hw⟩ := zi5 h
  split at h
  ·rename_i hle
   rw [jx,forceVs_eq,xl] at h
   refine ⟨_,_,_,h,ww _ _,fun ρ penv σ n0 pargs hK ha => ?_⟩
   have hlt : ∀ j ∈ l,j < A.length := fun j hj => by
    rw [List.all_eq_true] at hall
    simpa using hall j hj
   have hsub := (hK.withEnv ha).pack hnd hlt
   obtain ⟨p,σ',ρ1,q1,q2,q3⟩ := hC g _ _ r0 A0' h1 _ pargs σ hsub
   have q2' : KS ρ1 A0' [v] [p] σ' := q2.withEnv (.one (hv1 _ _ _ (q2.env.getD 0)))
   obtain ⟨q4,q5⟩ := q2'.wk hw (l.map fun j => za5 (zbx l) (A.getD j .dead)).length
   have q6 := q3.trans q5
   refine ⟨p,σ',q1,?_⟩
   clear q1 q2 q2' q3 q5 h1 h
   -- names
   generalize hA0 : (l.map fun j => za5 (zbx l) (A.getD j .dead)) = A0 at q6
   have hA0l : A0.length = l.length := by rw [← hA0]; simp
   have hA0g : ∀ i k,l[i]? = some k → A0.getD i .dead = za5 (zbx l) (A.getD k .dead) := fun i k e => by
    rw [← hA0,List.getD_eq_getElem?_getD,List.getElem?_map,e]; rfl
   have hA0n : ∀ i,l[i]? = none → A0.getD i .dead = .dead := fun i e => by
    rw [← hA0,List.getD_eq_getElem?_getD,List.getElem?_map,e]; rfl
   have hids0 : ∀ i x,x ∈ wj A0 (fun i => ρ (l.getD i 0)) i → ∃ k,l[i]? = some k ∧ x ∈ wj A ρ k := fun i x hx => by
    unfold wj at hx
    cases hq : l[i]? with
    | none => rw [hA0n i hq] at hx; cases hx
    | some k =>
      rw [hA0g i k hq,qh] at hx
      have : l.getD i 0 = k := by rw [List.getD_eq_getElem?_getD,hq]; rfl
      simp only [this] at hx
      exact ⟨k,rfl,hx⟩
   let b := z7z l A.length
   let gone := l.filter fun j => match zbx l j with | some i => jj (A1.getD i .dead) | none => true
   let ρ2 : Nat → PV := fun k => match zbx l k with
    | some i => ρ1 i
    | none => if k < A.length then ρ k else ρ1 (l.length + (k - A.length))
   let A2 := (List.range A.length).map (fun j => match zbx l j with
    | some i => za5 b (A1.getD i .dead)
    | none => za5 (wo gone) (A.getD j .dead)) ++ (A1.drop l.length).map (za5 b)
   have hA2l : A2.length = A.length + (A1.length - l.length) := by simp [A2]
   have hA2a : ∀ k i,k < A.length → zbx l k = some i → A2.getD k .dead = za5 b (A1.getD i .dead) := fun k i hk e => by
    rw [List.getD_eq_getElem?_getD,List.getElem?_append_left (by simpa using hk),List.getElem?_map,List.getElem?_range hk]
    simp [e]
   have hA2b : ∀ k,k < A.length → zbx l k = none → A2.getD k .dead = za5 (wo gone) (A.getD k .dead) := fun k hk e => by
    rw [List.getD_eq_getElem?_getD,List.getElem?_append_left (by simpa using hk),List.getElem?_map,List.getElem?_range hk]
    simp [e]
   have hA2c : ∀ k,A.length ≤ k → A2.getD k .dead = za5 b (A1.getD (l.length + (k - A.length)) .dead) := fun k hk => by
    rw [List.getD_eq_getElem?_getD,List.getElem?_append_right (by simpa using hk),List.getElem?_map,List.getElem?_drop]
    simp only [List.length_map,List.length_range,List.getD_eq_getElem?_getD]
    cases A1[l.length + (k - A.length)]? <;> rfl
   have hnone : ∀ k,A.length ≤ k → zbx l k = none := fun k hk => by
    cases hq : zbx l k with
    | none => rfl
    | some i => have := hlt k (List.mem_of_getElem? (zbk hq)); omega
   have hb : ∀ i k,i < A1.length → b i = some k → k < A2.length ∧ ρ2 k = ρ1 i := fun i k hi e => by
    have e : (if i < l.length then l[i]? else some (A.length + (i - l.length))) = some k := e
    split at e
    ·rename_i hil
     have hk := hlt k (List.mem_of_getElem? e)
     exact ⟨by rw [hA2l]; omega,by simp only [ρ2,zpq hnd e]⟩
    ·rename_i hil
     cases e
     refine ⟨by rw [hA2l]; omega,?_⟩
     simp only [ρ2,hnone _ (Nat.le_add_right _ _)]
     rw [if_neg (by omega)]
     congr 1
     omega
   have hkill : ∀ k k',k < A.length → wo gone k = some k' → k' < A2.length ∧ ρ2 k' = ρ k := fun k k' hk e => by
    obtain ⟨rfl,hng⟩ := zlj e
    refine ⟨by rw [hA2l]; omega,?_⟩
    cases hq : zbx l k' with
    | none => simp only [ρ2,hq]; rw [if_pos hk]
    | some i =>
      have hli := zbk hq
      have hdd : jj (A1.getD i .dead) = false := by
       cases hbq : jj (A1.getD i .dead) with
       | false => rfl
       | true => exact absurd (List.mem_filter.2 ⟨List.mem_of_getElem? hli,by rw [hq]; exact hbq⟩) hng
      have hil : i < l.length := (List.getElem?_eq_some_iff.1 hli).1
      have := (((q6.bx (Nat.le_refl _)).2 i (by rw [hA0l]; exact hil)).2 hdd).2
      simp only [ρ2,hq]
      rw [this,List.getD_eq_getElem?_getD,hli]; rfl
   have hids : ∀ k x,x ∈ wj A2 ρ2 k → (∃ i,i < A1.length ∧ x ∈ wj A1 ρ1 i ∧ b i = some k) ∨ (zbx l k = none ∧ k < A.length ∧ x ∈ wj A ρ k) := fun k x hx => by
    unfold wj at hx
    by_cases hk : k < A.length
    ·cases hq : zbx l k with
     | some i =>
       have hli := zbk hq
       have hil : i < l.length := (List.getElem?_eq_some_iff.1 hli).1
       rw [hA2a k i hk hq,qh] at hx
       simp only [ρ2,hq] at hx
       refine .inl ⟨i,by omega,hx,?_⟩
       show (if i < l.length then l[i]? else some (A.length + (i - l.length))) = some k
       rw [if_pos hil,hli]
     | none =>
       rw [hA2b k hk hq,qh] at hx
       simp only [ρ2,hq] at hx
       rw [if_pos hk] at hx
       exact .inr ⟨rfl,hk,hx⟩
    ·rw [hA2c k (by omega),qh] at hx
     simp only [ρ2,hnone k (by omega)] at hx
     rw [if_neg hk] at hx
     have hx' : x ∈ wj A1 ρ1 (l.length + (k - A.length)) := hx
     have hi : l.length + (k - A.length) < A1.length := by
      refine Nat.lt_of_not_le fun hge => ?_
      unfold wj at hx'
      rw [zlr hge] at hx'
      cases hx'
     refine .inl ⟨_,hi,hx',?_⟩
     show (if l.length + (k - A.length) < l.length then _ else some (A.length + (l.length + (k - A.length) - l.length))) = some k
     rw [if_neg (by omega)]
     congr 1
     omega
   have hmix : ∀ x i k,x ∈ wj A1 ρ1 i → zbx l k = none → x ∈ wj A ρ k → False := fun x i k h1 h2 h3 => by
    rcases q6.own i x h1 with ⟨i',e⟩ | e
    ·obtain ⟨k',e1,e2⟩ := hids0 i' x e
     have := hK.dis k k' x h3 e2
     subst this
     rw [zpq hnd e1] at h2
     cases h2
    ·have := hK.lt h3; omega
   refine ⟨ρ2,⟨?_,fun k hk => ?_,fun k k' x hx hx' => ?_⟩,?_,q6.nx,fun x hx hn => ?_,fun k x hx => ?_,fun hle => ⟨Nat.le_trans hle (Nat.le_trans (Nat.le_add_right _ _) (Nat.le_of_eq hA2l.symm)),fun k hk => ?_⟩⟩
   ·exact hK.env.rnms hkill
   ·show KOR ρ2 A2.length σ' (ρ2 k) (A2.getD k .dead)
    by_cases hkA : k < A.length
    ·cases hq : zbx l k with
     | some i =>
       have hil : i < l.length := (List.getElem?_eq_some_iff.1 (zbk hq)).1
       rw [hA2a k i hkA hq]
       have : ρ2 k = ρ1 i := by simp only [ρ2,hq]
       rw [this]
       exact (q4.obj i (by omega)).rnm hb (Nat.le_refl _) fun _ _ _ => rfl
     | none =>
       rw [hA2b k hkA hq]
       have : ρ2 k = ρ k := by simp only [ρ2,hq]; rw [if_pos hkA]
       rw [this]
       refine (hK.obj k hkA).rnm hkill q6.nx fun hd x hx => ?_
       have hxk : x ∈ wj A ρ k := by unfold wj; rw [if_neg (by rw [hd]; decide)]; exact hx
       refine q6.fr x (hK.lt hxk) fun i hi => ?_
       obtain ⟨k',e1,e2⟩ := hids0 i x hi
       have := hK.dis k k' x hxk e2
       subst this
       rw [zpq hnd e1] at hq
       cases hq
    ·rw [hA2c k (by omega)]
     have : ρ2 k = ρ1 (l.length + (k - A.length)) := by simp only [ρ2,hnone k (by omega)]; rw [if_neg hkA]
     rw [this]
     have hk : k < A2.length := hk
     rw [hA2l] at hk
     exact (q4.obj _ (by omega)).rnm hb (Nat.le_refl _) fun _ _ _ => rfl
   ·rcases hids k x hx with ⟨i,h1,h2,h3⟩ | ⟨h1,h2,h3⟩
    ·rcases hids k' x hx' with ⟨i',h4,h5,h6⟩ | ⟨h4,h5,h6⟩
     ·have := q4.dis i i' x h2 h5
      subst this
      rw [h3] at h6
      exact Option.some.inj h6
     ·exact (hmix x i k' h2 h4 h6).elim
    ·rcases hids k' x hx' with ⟨i',h4,h5,h6⟩ | ⟨h4,h5,h6⟩
     ·exact (hmix x i' k h5 h1 h3).elim
     ·exact hK.dis k k' x h3 h6
   ·exact (q4.env.getD 0).rnm hb
   ·refine q6.fr x hx fun i hi => ?_
    obtain ⟨k',_,e2⟩ := hids0 i x hi
    exact hn k' e2
   ·rcases hids k x hx with ⟨i,h1,h2,h3⟩ | ⟨h1,h2,h3⟩
    ·rcases q6.own i x h2 with ⟨i',e⟩ | e
     ·obtain ⟨k',_,e2⟩ := hids0 i' x e
      exact .inl ⟨k',e2⟩
     ·exact .inr e
    ·exact .inl ⟨k,h3⟩
   ·have hkA : k < A.length := by omega
    show (zip (A.getD k .dead) = true → zip (A2.getD k .dead) = true) ∧ (jj (A2.getD k .dead) = false → jj (A.getD k .dead) = false ∧ ρ2 k = ρ k)
    cases hq : zbx l k with
    | some i =>
      have hli := zbk hq
      have hil : i < l.length := (List.getElem?_eq_some_iff.1 hli).1
      obtain ⟨g1,g2⟩ := (q6.bx (Nat.le_refl _)).2 i (by rw [hA0l]; exact hil)
      rw [hA0g i k hli,zd5] at g1
      rw [hA0g i k hli,qh] at g2
      rw [hA2a k i hkA hq,zd5,qh]
      refine ⟨g1,fun hd => ⟨(g2 hd).1,?_⟩⟩
      simp only [ρ2,hq]
      rw [(g2 hd).2,List.getD_eq_getElem?_getD,hli]; rfl
    | none =>
      rw [hA2b k hkA hq,zd5,qh]
      exact ⟨fun h => h,fun h => ⟨h,by simp only [ρ2,hq]; rw [if_pos hkA]⟩⟩
  ·cases h
 ·cases h
theorem zxr {c : Cfg} {kc : KCfg} {C : yu} {Cω : x6} (hC : zbt C Cω) (hO : OwnOk kc c.P Cω) {g : FuncId} {args : List PV} {ty : TypeId} {k : PV → List PV → List KO → Option β} (h : zbs c kc C g args ty env A k = some r) : ∃ v env' A',k v env' A' = some r ∧ env'.length = env.length ∧
  ∀ ρ penv σ n0 pargs,KS ρ A env penv σ → VKs ρ A.length args pargs → ∃ w σ',wr c Cω g pargs σ = some (w,σ') ∧ Stp n0 ρ A σ v env' penv A' w σ' := by
 unfold zbs at h
 unfold wr
 split at h
 ·rename_i he
  simp only [if_pos he]
  split at h
  ·-- by itself
   rename_i hm
   rw [forceVs_eq,Option.bind_eq_some_iff] at h
   obtain ⟨v0,h1,h⟩ := h
   obtain ⟨v,h,_,hv,hs⟩ := zi4 _ h
   have hfz : ∀ {ρ penv σ pargs},KS ρ A env penv σ → VKs ρ A.length args pargs → VFs (args.map (fzK xm A)) (pargs.map (fz xm σ)) := fun hK ha => VFs.mapR ha fun _ _ q => zbr hK xm q
   have hcall : ∀ {pargs : List PV} {σ : Store} {p : PV} {τ : Store},Cω g (pargs.map (fz xm σ)) .empty = some (p,τ) → wq c Cω g pargs σ = (let r := fz xm τ p; if r.scalar = true then some (r,σ) else if c.strict = true then (if PV.lf.lfs pargs = true then some (r,σ) else none) else (zd4 (tops.topss pargs) σ).map fun σ' => (r,σ')) := fun e => by
    unfold wq
    rw [hm]
    simp only [e,Option.bind_some]
   split at h
   ·rename_i hsc
    refine ⟨_,_,_,h,rfl,fun ρ penv σ n0 pargs hK ha => ?_⟩
    obtain ⟨p,τ,e1,e2⟩ := zhw hC hO h1 (hfz hK ha)
    have hvp := hv _ e2
    obtain ⟨e3,e4⟩ := hvp.scalar (hs hsc)
    refine ⟨_,σ,?_,ρ,hK,.fr hvp,Go2.refl _ _ _ _⟩
    rw [hcall e1]
    simp only
    rw [if_pos e4]
   ·split at h
    ·cases h
    rename_i hcl
    have hcl : PV.clean.cleans args = true := by simpa using hcl
    split at h
    ·rename_i hst
     split at h
     ·rename_i hlf
      refine ⟨_,_,_,h,rfl,fun ρ penv σ n0 pargs hK ha => ?_⟩
      obtain ⟨p,τ,e1,e2⟩ := zhw hC hO h1 (hfz hK ha)
      refine ⟨fz xm τ p,σ,?_,ρ,hK,.fr (hv _ e2),Go2.refl _ _ _ _⟩
      rw [hcall e1]
      simp only
      rw [if_pos hst,if_pos (ha.lf_eq hcl hlf)]
      split <;> rfl
     ·cases h
    ·rename_i hst
     rw [Option.bind_eq_some_iff] at h
     obtain ⟨A',h2,h⟩ := h
     refine ⟨_,_,_,h,rfl,fun ρ penv σ n0 pargs hK ha => ?_⟩
     obtain ⟨p,τ,e1,e2⟩ := zhw hC hO h1 (hfz hK ha)
     by_cases hps : (fz xm τ p).scalar = true
     ·obtain ⟨g1,g2⟩ := zk2 _ h2 hK n0
      refine ⟨fz xm τ p,σ,?_,ρ,g1,.fr (hv _ e2),g2⟩
      rw [hcall e1]
      simp only
      rw [if_pos hps]
     ·obtain ⟨σ',g0,g1,g2⟩ := zm0 _ h2 hK n0
      refine ⟨fz xm τ p,σ',?_,ρ,g1,.fr (hv _ e2),g2⟩
      rw [hcall e1]
      simp only
      rw [if_neg hps,if_neg hst,ha.tops_eq hcl,g0]
      rfl
  ·-- its answer its own
   rename_i hm
   split at h
   ·rename_i sz f hf
    rw [forceVs_eq,Option.bind_eq_some_iff] at h
    obtain ⟨es,h1,h⟩ := h
    refine ⟨_,_,_,h,rfl,fun ρ penv σ n0 pargs hK ha => ?_⟩
    obtain ⟨p,τ,e1,e2,e3,e4,eh,e5,e6⟩ := hO.own g sz f hf _ es h1 (pargs.map (fz xm σ)) (VFs.mapR ha fun _ _ q => zbr hK xm q) σ.next
    have hor : KOR (upd ρ A.length p) (A.length + 1) (σ.join τ) p (.made true sz es) := by
     obtain ⟨q0,q1,⟨rfl,rfl⟩ | ⟨id,cap,ro,ps,tl,rfl,s1,s2,s3,s4,s5,s6⟩⟩ := e5
     ·exact ⟨q0,q1,.inl ⟨rfl,rfl⟩⟩
     ·exact ⟨q0,q1,.inr ⟨id,cap,ro,ps,tl,rfl,(zzu (e6 id (.head _))).trans s1,s2,s3,s4,s5,s6⟩⟩
    obtain ⟨g1,g2⟩ := hK.more (σ' := σ.join τ) (u := p) (o := .made true sz es) e4 (fun i hi => zzt hi) e6 hor n0
    refine ⟨p,σ.join τ,?_,_,g1,?_,g2⟩
    ·unfold wq
     rw [hm]
     simp only [e1,Option.bind_some,e2,e3,Bool.and_self,if_true]
    ·have : VK (upd ρ A.length p) (A ++ [KO.made true sz es]).length (.lsl A.length sz 0 0 none) (upd ρ A.length p A.length) := .whole (by simp) (by rw [xw]; exact eh)
     rw [xw] at this
     exact this
   ·cases h
  ·rename_i hm
   split at h
   ·rename_i u hu
    obtain ⟨v,env',A',h1,h2,h3⟩ := zuc h
    refine ⟨v,env',A',h1,h2,fun ρ penv σ n0 pargs hK ha => ?_⟩
    obtain ⟨w,σ',e1,e2⟩ := h3 ρ penv σ n0 pargs hK ha
    exact ⟨w,σ',by unfold wq; rw [hm]; exact (hO.told g u hu _ _).trans e1,e2⟩
   ·obtain ⟨v,env',A',h1,h2,h3⟩ := zwi hC h
    refine ⟨v,env',A',h1,h2,fun ρ penv σ n0 pargs hK ha => ?_⟩
    obtain ⟨w,σ',e1,e2⟩ := h3 ρ penv σ n0 pargs hK ha
    exact ⟨w,σ',by unfold wq; rw [hm]; exact e1,e2⟩
  ·cases h
 ·rename_i he
  split at h
  rotate_left
  ·cases h
  rename_i hm
  rw [Option.bind_eq_some_iff] at h
  obtain ⟨v,hv,h⟩ := h
  refine ⟨v,_,_,h,rfl,fun ρ penv σ n0 pargs hK ha => ?_⟩
  have hv2 : z3j c.P g pargs = some v ∧ v.base = true := by
   unfold z3j at hv
   split at hv
   ·rename_i n hx
    cases hv
    have : pargs = [.float .f64 n] := by
     cases ha with
     | cons h t => cases t; rw [h.base_eq rfl]
    subst this
    exact ⟨by simp only [z3j,hx],rfl⟩
   ·rename_i n hx
    cases hv
    have : pargs = [.int .u64 n] := by
     cases ha with
     | cons h t => cases t; rw [h.base_eq rfl]
    subst this
    exact ⟨by simp only [z3j,hx],rfl⟩
   ·cases hv
  refine ⟨v,σ,?_,ρ,hK,.fr ?_,Go2.refl _ _ _ _⟩
  ·rw [if_neg he]
   unfold z0i
   rw [hm,hv2.1]
   rfl
  ·exact .base _ hv2.2
end
end Go.Pvm
namespace Go.Pvm
section
variable {P : Program} {ρ ρ' : Nat → PV} {m : Nat} {A A' : List KO} {env penv : List PV} {σ σ' : Store} {β : Type} {r : β}
theorem zty {op : BinOp} {κ : IntKind} {x y : Int} {v : PV} (h : zxz op κ x y = some v) : v.base = true := by
 cases op <;> simp only [zxz] at h <;> first | (cases h; done) | (cases h; rfl) | (split at h <;> first | (cases h; done) | (cases h; rfl))
theorem zi2 {op : BinOp} {t : TypeId} {x y v : PV} (h : zch P op t x y = some v) : v.base = true := by
 unfold zch at h
 split at h
 ·split at h
  ·unfold zmu at h
   split at h
   ·cases h
   ·split at h <;> first | (cases h; done) | (cases h; rfl)
  ·unfold zmu at h
   split at h
   ·cases h
   ·split at h <;> first | (cases h; done) | (cases h; rfl)
  ·split at h
   ·exact zty h
   ·cases h
 ·unfold z75 at h
  split at h
  ·split at h <;> first | (cases h; done) | (cases h; rfl)
  ·cases h; rfl
  ·cases h; rfl
  ·cases h
 ·split at h
  ·split at h <;> first | (cases h; done) | (cases h; rfl)
  ·cases h
 ·split at h
  ·cases h
  ·split at h
   ·rw [Option.map_eq_some_iff] at h; obtain ⟨b,_,rfl⟩ := h; rfl
   ·rw [Option.map_eq_some_iff] at h; obtain ⟨b,_,rfl⟩ := h; rfl
   ·cases h
theorem z3k (n : Nat) (t : TypeId) (a b c a' b' c' : Nat) : eqv P n t (.ref a b c) .nilptr = eqv P n t (.ref a' b' c') .nilptr := by
 cases n with
 | zero => rfl
 | succ n =>
   unfold eqv
   cases P.underlying t with
   | none => rfl
   | some d => cases d <;> rfl
theorem z0j (n : Nat) (t : TypeId) (a b : List PV) : eqv P n t (.pref a) .nilptr = eqv P n t (.pref b) .nilptr := by
 cases n with
 | zero => rfl
 | succ n =>
   unfold eqv
   cases P.underlying t with
   | none => rfl
   | some d => cases d <;> rfl
theorem z38 {op : BinOp} {t : TypeId} {x y v : PV} (h : z99 P op t x y = some v) : v.base = true ∧ ∀ ρ m p q,VK ρ m x p → VK ρ m y q → zch P op t p q = some v := by
 unfold z99 at h
 split at h
 ·rename_i hf
  exact ⟨zi2 h,fun ρ m p q hp hq => by rw [hp.flat_eq hf.1,hq.flat_eq hf.2]; exact h⟩
 ·split at h
  ·refine ⟨zi2 h,fun ρ m p q hp hq => ?_⟩
   obtain ⟨_,hr⟩ := hp.ref_inv
   rw [hq.base_eq rfl]
   have key : ∃ a b c,p = .ref a b c := by
    unfold zgh at hr
    split at hr <;> first | (cases hr; exact ⟨_,_,_,rfl⟩) | cases hr
   obtain ⟨a',b',c',rfl⟩ := key
   unfold zch znq at h ⊢
   simp only [Bool.false_eq_true,if_false] at h ⊢
   rw [z3k 10000 t a' b' c' _ _ _]
   exact h
  ·refine ⟨zi2 h,fun ρ m p q hp hq => ?_⟩
   obtain ⟨ps,rfl,_⟩ := hp.pref_inv
   rw [hq.base_eq rfl]
   unfold zch znq at h ⊢
   simp only [Bool.false_eq_true,if_false] at h ⊢
   rw [z0j 10000 t ps _]
   exact h
  ·cases h
theorem z4r {op : UnOp} {x v : PV} (h : unv op x = some v) : v.base = true ∧ ∀ ρ m p,VK ρ m x p → unv op p = some v := by
 unfold unv at h
 split at h
 ·cases h; exact ⟨rfl,fun ρ m p hp => by rw [hp.int_eq]; rfl⟩
 ·cases h; exact ⟨rfl,fun ρ m p hp => by rw [hp.int_eq]; rfl⟩
 ·cases h; exact ⟨rfl,fun ρ m p hp => by rw [hp.bool_eq]; rfl⟩
 ·cases h
theorem zis {f : PV → PV → Option PV} (hf : ∀ a b c,f a b = some c → c.base = true) : ∀ (l : List PV) {x v : PV},VF x x → zjf f x l = some v → VF v v
 | [],x,v,hx,h => by cases h; exact hx
 | y :: l,x,v,hx,h => by
   unfold zjf at h
   rw [Option.bind_eq_some_iff] at h
   obtain ⟨z,h1,h2⟩ := h
   exact zis hf l (.base _ (hf _ _ _ h1)) h2
theorem VFs.baseR : ∀ {cs : List PV},cs.all PV.base = true → VFs cs cs
 | [],_ => .nil
 | c :: cs,h => by
   rw [List.all_cons,Bool.and_eq_true] at h
   exact .cons (.base _ h.1) (VFs.baseR h.2)
theorem VF.flatR {v : PV} (h : v.flat = true) : VF v v := by
 rcases zkc h with hb | ⟨cs,rfl,hb⟩
 ·exact .base _ hb
 ·exact .agg (VFs.baseR hb)
theorem zlv {place : Nat → Option (Nat × Nat)} : ∀ (ps : List (Nat × Operand)) {cs pcs out : List PV},VKs ρ m env penv → VKs ρ m cs pcs → zlw place cs (ps.map fun (i,x) => (i,opd env x)) = some out → ∃ pout,zlw place pcs (ps.map fun (i,x) => (i,opd penv x)) = some pout ∧ VKs ρ m out pout
 | [],cs,pcs,out,he,hc,h => by cases h; exact ⟨_,rfl,hc⟩
 | (i,x) :: ps,cs,pcs,out,he,hc,h => by
   simp only [List.map_cons,zlw,Option.bind_eq_some_iff] at h ⊢
   obtain ⟨⟨off,size⟩,h1,h⟩ := h
   simp only at h
   split at h
   ·rename_i hq
    have hx := jq he x
    have hcs := hx.cells hq.2.2
    obtain ⟨pout,h2,h3⟩ := zlv ps he (hc.over hcs off) h
    refine ⟨pout,⟨(off,size),h1,?_⟩,h3⟩
    simp only
    rw [if_pos ⟨by rw [← hcs.len]; exact hq.1,by rw [← hc.len]; exact hq.2.1,hx.known hq.2.2⟩]
    exact h2
   ·cases h
theorem zdx {t : TypeId} {z : PV} (h : qg P t = some z) : VF z z := by
 unfold qg at h
 rw [Option.map_eq_some_iff] at h
 obtain ⟨v,_,rfl⟩ := h
 exact .ofValue v
theorem zxs {t : TypeId} {ps : List (Nat × Operand)} {v : PV} (he : VKs ρ m env penv) (h : zes P t (ps.map fun (i,x) => (i,opd env x)) = some v) : ∃ p,zes P t (ps.map fun (i,x) => (i,opd penv x)) = some p ∧ VK ρ m v p := by
 unfold zes at h ⊢
 rw [Option.bind_eq_some_iff] at h
 obtain ⟨z,hz,h⟩ := h
 rw [hz]
 simp only [Option.bind_some]
 split at h
 ·cases h
 rename_i hk
 rw [if_neg hk]
 have hzc : VKs ρ m z.cells z.cells := (VK.fr (zdx hz)).cells (by simpa using hk)
 split at h
 ·rename_i fs hu
  rw [Option.bind_eq_some_iff] at h
  obtain ⟨pl,hpl,h⟩ := h
  rw [Option.map_eq_some_iff] at h
  obtain ⟨out,h1,rfl⟩ := h
  obtain ⟨pout,h2,h3⟩ := zlv ps he hzc h1
  rw [hpl]
  simp only [Option.bind_some,h2,Option.map_some]
  exact ⟨_,rfl,.agg h3⟩
 ·rename_i n el hu
  rw [Option.bind_eq_some_iff] at h
  obtain ⟨pl,hpl,h⟩ := h
  rw [Option.map_eq_some_iff] at h
  obtain ⟨out,h1,rfl⟩ := h
  obtain ⟨pout,h2,h3⟩ := zlv ps he hzc h1
  rw [hpl]
  simp only [Option.bind_some,h2,Option.map_some]
  exact ⟨_,rfl,.agg h3⟩
 ·cases h
theorem zmw {sz : Nat} : ∀ (ps : List (Nat × Operand)) {es pes out : List (List PV)},VKs ρ m env penv → All2 (VKs ρ m) es pes → zb3 es sz (ps.map fun (i,x) => (i,opd env x)) = some out → ∃ pout,zb3 pes sz (ps.map fun (i,x) => (i,opd penv x)) = some pout ∧ All2 (VKs ρ m) out pout
 | [],es,pes,out,he,hc,h => by cases h; exact ⟨_,rfl,hc⟩
 | (i,x) :: ps,es,pes,out,he,hc,h => by
   simp only [List.map_cons,zb3] at h ⊢
   split at h
   ·rename_i hq
    have hx := jq he x
    have hcs := hx.cells hq.2.2
    obtain ⟨pout,h2,h3⟩ := zmw ps he (hc.set hcs i) h
    refine ⟨pout,?_,h3⟩
    rw [if_pos ⟨by rw [← hcs.len]; exact hq.1,by rw [← hc.len]; exact hq.2.1,hx.known hq.2.2⟩]
    exact h2
   ·cases h
theorem zu3 {sz : Nat} {es pes : List (List PV)} (h : All2 (VKs ρ m) es pes) (hr : y8 sz es = true) : VFss es pes := by
 induction h with
 | nil => exact .nil
 | cons h _ ih =>
   unfold y8 at hr
   rw [List.all_cons,Bool.and_eq_true,Bool.and_eq_true] at hr
   exact .cons (h.plain hr.1.2).1 (ih hr.2)
theorem KS.fresh (hK : KS ρ A env penv σ) {sz n : Nat} {es ps : List (List PV)} (h0 : sz ≠ 0) (hr : y8 sz es = true) (hv : VFss es ps) (hn : n = es.length) (n0 : Nat) : Stp n0 ρ A σ (whole A.length sz) env penv (A ++ [.made true sz es]) (.lsl σ.next sz 0 n (some n)) (σ.push (.cells 0 ps)) := by
 subst hn
 obtain ⟨h1,h2⟩ := hK.more (σ' := σ.push (.cells 0 ps)) (u := .lsl σ.next sz 0 es.length (some es.length)) (o := .made true sz es) (Nat.le_succ _) (fun i hi => ki hi) (fun i hi => by rw [List.mem_singleton.1 hi]; exact Nat.le_refl _)
  (KOR.mk0 (ρ := fun _ => .undef) (m := 0) h0 hr (id := σ.next) rfl (xx _ _) hv (.inr rfl) (fun _ => rfl) (Nat.lt_succ_self _)) n0
 refine ⟨_,h1,?_,h2⟩
 have : VK (upd ρ A.length (.lsl σ.next sz 0 es.length (some es.length))) (A ++ [KO.made true sz es]).length (.lsl A.length sz 0 0 none) (upd ρ A.length (.lsl σ.next sz 0 es.length (some es.length)) A.length) := .whole (by simp) (by rw [xw]; rfl)
 rw [xw] at this
 exact this
theorem KS.laid (hK : KS ρ A env penv σ) {cs ps : List PV} (t : TypeId) (hv : VKs ρ A.length cs ps) (n0 : Nat) : Stp n0 ρ A σ (.ref A.length 0 0) env penv (A ++ [.box true t cs]) (.ref σ.next 0 0) (σ.push (.cells 0 [ps])) := by
 obtain ⟨h1,h2⟩ := hK.more (σ' := σ.push (.cells 0 [ps])) (u := .ref σ.next 0 0) (o := .box true t cs) (Nat.le_succ _) (fun i hi => ki hi) (fun i hi => by rw [List.mem_singleton.1 hi]; exact Nat.le_refl _)
  ⟨σ.next,ps,0,rfl,xx _ _,hv.mono (Nat.le_succ _) fun k hk => va _ (by omega),fun _ => rfl,Nat.lt_succ_self _⟩ n0
 exact ⟨_,h1,.ref (by simp) (by rw [xw]; rfl),h2⟩
theorem Stp.id (hK : KS ρ A env penv σ) {v p : PV} (hv : VK ρ A.length v p) (n0 : Nat) : Stp n0 ρ A σ v env penv A p σ := ⟨ρ,hK,hv,Go2.refl _ _ _ _⟩
theorem zxh {el : TypeId} {d s : PV} {t u e2 : TypeId} {k : Nat → List KO → Option β} (ht : P.underlying t = some (.slice el)) (hu : P.underlying u = some (.slice e2)) (h : zxi P A el d s k = some r) : ∃ n A',k n A' = some r ∧
  ∀ ρ env penv σ n0 p q,KS ρ A env penv σ → VK ρ A.length d p → VK ρ A.length s q → ∃ σ',jp P σ .copy [t,u] [p,q] = some (.int .i64 (n : Nat),σ') ∧ KS ρ A' env penv σ' ∧ Go2 n0 ρ A σ ρ A' σ' := by
 unfold zxi at h
 rw [Option.bind_eq_some_iff] at h
 obtain ⟨sz,hsz,h⟩ := h
 obtain ⟨src,h,hx⟩ := zk1 h
 split at h
 ·cases h
 rename_i hro
 have hro : y8 sz src = true := by simpa using hro
 obtain ⟨j,es,a,n,h,hj,hd⟩ := zd9 h
 refine ⟨_,_,h,fun ρ env penv σ n0 p q hK hp hq => ?_⟩
 have hdd : jj (A.getD j .dead) = false := by rw [hj]; rfl
 obtain ⟨q0,q1,_⟩ := hK.get (qk hdd) hj
 obtain ⟨ps,e1,e2⟩ := hx ρ env penv σ q hK hq
 have hall := (rowsPl_els.1 (j3 e2 hro)).all1
 rcases hd ρ env penv σ p hK hp with ⟨rfl,e3,rfl,rfl,rfl⟩ | ⟨id,cap,cap',pes,tl,rfl,e3,e4,e5,e6,e7,e9,e8⟩
 ·obtain ⟨g1,g2⟩ := hK.put (σ' := σ) (o := .made true sz (([] : List (List PV)).take 0 ++ src.take 0 ++ ([] : List (List PV)).drop (0 + (src.take 0).length))) hdd (Nat.le_refl _) (fun _ _ _ => rfl) ⟨q0,by simpa using q1,.inl ⟨e3,by simp⟩⟩ (fun hb => by rw [hj] at hb; cases hb) n0
  refine ⟨σ,?_,g1,g2⟩
  simp only [jp,ht,hu,zjh,hsz,e1,Option.bind_some]
  rw [if_neg q0,if_pos hall]
  show some (PV.int .i64 0,σ) = some (PV.int .i64 ((Nat.min src.length 0 : Nat) : Int),σ)
  rw [show Nat.min src.length 0 = 0 from Nat.min_zero _]
  rfl
 ·have hlen : (es.take a ++ src.take n ++ es.drop (a + (src.take n).length)).length = es.length := by
   simp only [List.length_append,List.length_take,List.length_drop]
   omega
  obtain ⟨g1,g2⟩ := hK.put (σ' := σ.put id (.cells 0 ((pes.take a ++ ps.take n ++ pes.drop (a + (ps.take n).length)) ++ tl))) (o := .made true sz (es.take a ++ src.take n ++ es.drop (a + (src.take n).length))) hdd (Nat.le_refl _) (fun x _ hx => kf fun ex => hx (by rw [e3,ex]; exact .head _))
   ⟨q0,jg (jg (qb q1 _) (qb hro _)) (vh q1 _),.inr ⟨id,cap',0,_,tl,by rw [hlen]; exact e3,zap _ _ _,by
    have hl2 : (ps.take n).length = (src.take n).length := by rw [List.length_take,List.length_take,e2.len]
    rw [hl2]
    exact ((e6.take a).app (e2.take n)).app (e6.drop _),by rw [hlen]; exact e4,e9,fun _ => rfl,e8⟩⟩ (fun hb => by rw [hj] at hb; cases hb) n0
  refine ⟨_,?_,g1,g2⟩
  have hle6 : a + n ≤ pes.length := by rw [← e6.len]; exact e7
  have hle7 : a + (ps.take n).length ≤ pes.length := by rw [List.length_take]; omega
  simp only [jp,ht,hu,zjh,hsz,e1,Option.bind_some,e5]
  rw [if_neg q0,if_neg (by simp),if_pos ⟨by rw [List.length_append]; omega,Nat.zero_le _⟩,if_pos (zx3 hall _),e2.len,List.take_append_of_le_length (show a ≤ pes.length by omega),List.drop_append_of_le_length hle7]
  simp only [List.append_assoc]
theorem zts {el : TypeId} {d : PV} {t : TypeId} {k : List KO → Option β} (ht : P.underlying t = some (.slice el)) (h : zp1 P A el d k = some r) : ∃ A',k A' = some r ∧
  ∀ ρ env penv σ n0 p,KS ρ A env penv σ → VK ρ A.length d p → ∃ σ',jp P σ .clear [t] [p] = some (.tuple [],σ') ∧ KS ρ A' env penv σ' ∧ Go2 n0 ρ A σ ρ A' σ' := by
 unfold zp1 at h
 simp only [Option.bind_eq_some_iff] at h
 obtain ⟨sz,hsz,z,hz,h⟩ := h
 split at h
 ·cases h
 rename_i hne
 have hk : z.known = true := by
  cases hq : z.known with
  | true => rfl
  | false => exact absurd (.inl hq) hne
 have hl : z.cells.length = sz := by
  by_cases hq : z.cells.length = sz
  ·exact hq
  ·exact absurd (.inr (.inl hq)) hne
 have hpl : z.cells.all PV.plain = true := by
  cases hq : z.cells.all PV.plain with
  | true => rfl
  | false => exact absurd (.inr (.inr hq)) hne
 have hone : z.cells.all PV.one = true := by
  rw [List.all_eq_true] at hpl ⊢
  exact fun x hx => zh1 (hpl x hx)
 obtain ⟨j,es,a,n,h,hj,hd⟩ := zd9 h
 refine ⟨_,h,fun ρ env penv σ n0 p hK hp => ?_⟩
 have hdd : jj (A.getD j .dead) = false := by rw [hj]; rfl
 obtain ⟨q0,q1,_⟩ := hK.get (qk hdd) hj
 have hcond : ¬ (sz = 0 ∨ z.known = false ∨ z.cells.length ≠ sz ∨ z.cells.all PV.one = false) := by simp [q0,hk,hl,hone]
 have hzc : VFs z.cells z.cells := ((VK.fr (ρ := ρ) (m := 0) (zdx hz)).cells hk).plain hpl |>.1
 rcases hd ρ env penv σ p hK hp with ⟨rfl,e3,rfl,rfl,rfl⟩ | ⟨id,cap,cap',pes,tl,rfl,e3,e4,e5,e6,e7,e9,e8⟩
 ·obtain ⟨g1,g2⟩ := hK.put (σ' := σ) (o := .made true sz (([] : List (List PV)).take 0 ++ List.replicate 0 z.cells ++ ([] : List (List PV)).drop (0 + 0))) hdd (Nat.le_refl _) (fun _ _ _ => rfl) ⟨q0,by simpa using q1,.inl ⟨e3,by simp⟩⟩ (fun hb => by rw [hj] at hb; cases hb) n0
  refine ⟨σ,?_,g1,g2⟩
  simp only [jp,ht,zep,hsz,hz,Option.bind_some]
  rw [if_neg hcond]
 ·have hlen : (es.take a ++ List.replicate n z.cells ++ es.drop (a + n)).length = es.length := by
   simp only [List.length_append,List.length_take,List.length_drop,List.length_replicate]
   omega
  have hrep : y8 sz (List.replicate n z.cells) = true := by
   unfold y8
   rw [List.all_eq_true]
   intro e he
   rw [List.eq_of_mem_replicate he,hpl]
   simp [hl]
  obtain ⟨g1,g2⟩ := hK.put (σ' := σ.put id (.cells 0 ((pes.take a ++ List.replicate n z.cells ++ pes.drop (a + n)) ++ tl))) (o := .made true sz (es.take a ++ List.replicate n z.cells ++ es.drop (a + n))) hdd (Nat.le_refl _) (fun x _ hx => kf fun ex => hx (by rw [e3,ex]; exact .head _))
   ⟨q0,jg (jg (qb q1 _) hrep) (vh q1 _),.inr ⟨id,cap',0,_,tl,by rw [hlen]; exact e3,zap _ _ _,((e6.take a).app (VFss.of (All2.replicate hzc n))).app (e6.drop _),by rw [hlen]; exact e4,e9,fun _ => rfl,e8⟩⟩ (fun hb => by rw [hj] at hb; cases hb) n0
  refine ⟨_,?_,g1,g2⟩
  simp only [jp,ht,zep,hsz,hz,Option.bind_some,e5]
  have hle6 : a + n ≤ pes.length := by rw [← e6.len]; exact e7
  rw [if_neg hcond,if_neg (by simp),if_pos ⟨by rw [List.length_append]; omega,Nat.zero_le _⟩,List.take_append_of_le_length (show a ≤ pes.length by omega),List.drop_append_of_le_length hle6]
  simp only [List.append_assoc]
theorem z1a {b : Builtin} {ts : List TypeId} {args : List PV} {ty : TypeId} {k : PV → List PV → List KO → Option β} (h : ztw P b ts args ty env A k = some r) : ∃ v env' A',k v env' A' = some r ∧ env'.length = env.length ∧
  ∀ ρ penv σ n0 pargs,KS ρ A env penv σ → VKs ρ A.length args pargs → ∃ w σ',qp P σ b ts pargs = some (w,σ') ∧ Stp n0 ρ A σ v env' penv A' w σ' := by
 unfold ztw at h
 split at h
 ·rename_i t tr x xr
  split at h
  ·rename_i hu
   split at h
   ·rename_i s
    refine ⟨_,_,_,h,rfl,fun ρ penv σ n0 pargs hK ha => ?_⟩
    cases ha with
    | cons hp ht =>
      rw [hp.str_eq]
      exact ⟨.int .i64 (s.size : Nat),σ,by show (u7 P .len (t :: tr) (.str s :: _)).map _ = _; simp only [u7,hu,Option.map_some],.id hK (.fr (.base _ rfl)) n0⟩
   ·cases h
  ·rename_i el hu
   split at h
   ·cases h
   rename_i hns
   have h0 := h
   obtain ⟨n,h,hn⟩ := zzp h
   refine ⟨_,_,_,h,rfl,fun ρ penv σ n0 pargs hK ha => ?_⟩
   cases ha with
   | cons hp ht =>
     rename_i p ps
     have hl := hn ρ env penv σ p hK hp
     have hsl : zio p = false := hp.nostr (by cases x <;> first | (exact absurd rfl hns) | rfl | cases h0)
     refine ⟨.int .i64 (n : Nat),σ,?_,.id hK (.fr (.base _ rfl)) n0⟩
     show (u7 P .len (t :: tr) (p :: ps)).map _ = _
     cases p <;> first | (cases hl; done) | (cases hsl; done) | skip
     all_goals (cases hl; simp only [u7,hu,Option.map_some])
     all_goals rfl
  ·cases h
 ·rename_i x xr
  split at h
  ·rename_i hf
   rw [Option.bind_eq_some_iff] at h
   obtain ⟨v,h1,h2⟩ := h
   refine ⟨_,_,_,jz h2,rfl,fun ρ penv σ n0 pargs hK ha => ?_⟩
   cases ha with
   | cons hp ht =>
     rw [hp.flat_eq hf.1,ht.flat_eq hf.2]
     refine ⟨v,σ,?_,.id hK (.fr (zis (fun a b c e => ?_) _ (VF.flatR hf.1) h1)) n0⟩
     ·have e : u7 P .max ts (x :: xr) = some v := by unfold u7; exact h1
      unfold qp
      rw [if_pos (show zn9 .max = true from rfl),e]; rfl
     ·unfold zzf at e; split at e <;> first | (cases e; rfl) | cases e
  ·cases h
 ·rename_i x xr
  split at h
  ·rename_i hf
   rw [Option.bind_eq_some_iff] at h
   obtain ⟨v,h1,h2⟩ := h
   refine ⟨_,_,_,jz h2,rfl,fun ρ penv σ n0 pargs hK ha => ?_⟩
   cases ha with
   | cons hp ht =>
     rw [hp.flat_eq hf.1,ht.flat_eq hf.2]
     refine ⟨v,σ,?_,.id hK (.fr (zis (fun a b c e => ?_) _ (VF.flatR hf.1) h1)) n0⟩
     ·have e : u7 P .min ts (x :: xr) = some v := by unfold u7; exact h1
      unfold qp
      rw [if_pos (show zn9 .min = true from rfl),e]; rfl
     ·unfold zzb at e; split at e <;> first | (cases e; rfl) | cases e
  ·cases h
 ·rename_i t u s x
  split at h
  ·rename_i el e2 hu1 hu2
   split at h
   ·cases h
   rename_i hns
   have h0 := h
   obtain ⟨v,env',A',h,hl,hx⟩ := zr9 h
   refine ⟨v,env',A',h,hl,fun ρ penv σ n0 pargs hK ha => ?_⟩
   cases ha with
   | cons hp ha =>
     cases ha with
     | cons hq ha =>
       cases ha
       rename_i p q
       obtain ⟨w,σ',e1,e3⟩ := hx ρ penv σ n0 p q hK hp hq
       refine ⟨w,σ',?_,e3⟩
       have hqs : zio q = false := hq.nostr (by
        cases x <;> first | (exact absurd rfl hns) | rfl | skip
        all_goals (exfalso; unfold zog at h0; simp only [Option.bind_eq_some_iff] at h0; obtain ⟨_,_,_,_,_,_,h0⟩ := h0; cases h0))
       show jp P σ .append [t,u] [p,q] = _
       rw [jw hu1 hu2 hqs]
       exact e1
  ·rename_i el hu1 hu2
   split at h
   ·rename_i hs
    obtain ⟨v,env',A',h,hl,hx⟩ := zr9 h
    refine ⟨v,env',A',h,hl,fun ρ penv σ n0 pargs hK ha => ?_⟩
    cases ha with
    | cons hp ha =>
      cases ha with
      | cons hq ha =>
        cases ha
        rename_i p q
        obtain ⟨w,σ',e1,e3⟩ := hx ρ penv σ n0 p q hK hp hq
        refine ⟨w,σ',?_,e3⟩
        cases x <;> first | (cases hs; done) | skip
        rw [hq.str_eq] at e1 ⊢
        show jp P σ .append [t,u] [p,.str _] = _
        simp only [jp,hu1,hu2]
        exact e1
   ·cases h
  ·cases h
 ·rename_i t u d s
  split at h
  ·rename_i el e2 hu1 hu2
   obtain ⟨n,A',h,hx⟩ := zxh hu1 hu2 h
   refine ⟨_,_,_,h,rfl,fun ρ penv σ n0 pargs hK ha => ?_⟩
   cases ha with
   | cons hp ha =>
     cases ha with
     | cons hq ha =>
       cases ha
       obtain ⟨σ',g1,g2,g3⟩ := hx ρ env penv σ n0 _ _ hK hp hq
       exact ⟨_,σ',g1,ρ,g2,.fr (.base _ rfl),g3⟩
  ·cases h
 ·rename_i t d
  split at h
  ·rename_i el hu1
   obtain ⟨A',h,hx⟩ := zts hu1 h
   refine ⟨_,_,_,h,rfl,fun ρ penv σ n0 pargs hK ha => ?_⟩
   cases ha with
   | cons hp ha =>
     cases ha
     obtain ⟨σ',g1,g2,g3⟩ := hx ρ env penv σ n0 _ hK hp
     exact ⟨_,σ',g1,ρ,g2,.fr (.tuple .nil),g3⟩
  ·cases h
 ·cases h
theorem zm1 {u p : PV} {i o : Nat} (h : zgh u i o = some p) (n : Nat) : ∃ id,p = .ref id i o ∧ zgh u i (o + n) = some (.ref id i (o + n)) := by
 unfold zgh at h
 split at h <;> first | (cases h; exact ⟨_,rfl,rfl⟩) | cases h
theorem zs6 {t ty : TypeId} {x i : PV} {k : PV → Option β} (h : zfk P t ty x i k = some r) : ∃ v,k v = some r ∧ ∀ ρ m p pi,VK ρ m x p → VK ρ m i pi → ∃ q,zek P t p pi = some q ∧ VK ρ m v q := by
 have hint : ∀ {n : Int},zej i = some n → ∀ {ρ : Nat → PV} {m : Nat} {pi : PV},VK ρ m i pi → zej pi = some n := fun {n} hn {ρ m pi} hi => by
  cases i <;> first | (cases hn; done) | skip
  rw [hi.int_eq]
  exact hn
 unfold zfk at h
 split at h
 ·rename_i cs
  split at h
  ·rename_i nn el hu
   simp only [Option.bind_eq_some_iff] at h
   obtain ⟨n,hn,sz,hsz,h⟩ := h
   obtain ⟨m,hm,hnm,h⟩ := zdg (Nat.le_refl _) h
   rw [Option.bind_eq_some_iff] at h
   obtain ⟨v,h1,h2⟩ := h
   refine ⟨_,jz h2,fun ρ m' p pi hx hi => ?_⟩
   obtain ⟨ps,rfl,hc⟩ := hx.agg_inv
   obtain ⟨p,e1,e2⟩ := zau h1 hc
   refine ⟨p,?_,e2⟩
   simp only [zek,hint hn hi,hu,hsz,Option.bind_some]
   rw [if_pos (by omega),show n.toNat = m by omega,e1]
  ·cases h
 ·rename_i hna
  simp only [Option.bind_eq_some_iff] at h
  obtain ⟨v,h1,h2⟩ := h
  refine ⟨_,jz h2,fun ρ m' p pi hx hi => ?_⟩
  unfold zek at h1 ⊢
  rw [Option.bind_eq_some_iff] at h1
  obtain ⟨n,hn,h1⟩ := h1
  rw [hint hn hi]
  simp only [Option.bind_some]
  split at h1
  ·exact absurd rfl (hna _)
  ·rename_i s hu
   rw [hx.str_eq]
   split at h1
   ·rename_i hb
    refine ⟨v,?_,?_⟩
    ·simp only [hu]
     rw [if_pos hb,h1]
    ·rw [Option.map_eq_some_iff] at h1
     obtain ⟨b,_,rfl⟩ := h1
     exact .fr (.base _ rfl)
   ·cases h1
  ·cases h1
theorem z25 {c : Cfg} {kc : KCfg} {C : yu} {Cω : x6} (hC : zbt C Cω) (hO : OwnOk kc c.P Cω) {o : Oper} {k : PV → List PV → List KO → Option β} (h : zh0 c kc C env A o k = some r) : ∃ v env' A',k v env' A' = some r ∧ env'.length = env.length ∧
  ∀ ρ penv σ n0,KS ρ A env penv σ → ∃ p σ',xn c Cω penv σ o = some (p,σ') ∧ Stp n0 ρ A σ v env' penv A' p σ' := by
 obtain ⟨dst,op,type,pos,after,guard⟩ := o
 unfold zh0 at h
 unfold xn
 cases op <;> simp only at h ⊢
 case move x => exact ⟨_,_,_,h,rfl,fun ρ penv σ n0 hK => ⟨_,_,rfl,.id hK (jq hK.env x) n0⟩⟩
 case assign x => exact ⟨_,_,_,h,rfl,fun ρ penv σ n0 hK => ⟨_,_,rfl,.id hK (jq hK.env x) n0⟩⟩
 case pick cd a b =>
  split at h
  ·rename_i t ht
   have hb : ∀ {ρ penv σ},KS ρ A env penv σ → opd penv cd = .bool t := fun hK => by
    have := jq hK.env cd
    rw [ht] at this
    exact this.bool_eq
   split at h
   ·rename_i htt
    exact ⟨_,_,_,h,rfl,fun ρ penv σ n0 hK => ⟨opd penv a,σ,by simp only [hb hK]; rw [if_pos htt],.id hK (jq hK.env a) n0⟩⟩
   ·rename_i htt
    exact ⟨_,_,_,h,rfl,fun ρ penv σ n0 hK => ⟨opd penv b,σ,by simp only [hb hK]; rw [if_neg htt],.id hK (jq hK.env b) n0⟩⟩
  ·cases h
 case alloc el =>
  simp only [Option.bind_eq_some_iff] at h
  obtain ⟨z,h1,h2⟩ := h
  split at h2
  ·rename_i hk
   refine ⟨_,_,_,h2,rfl,fun ρ penv σ n0 hK => ⟨_,_,?_,hK.laid el ((VK.fr (zdx h1)).cells hk.1) n0⟩⟩
   rw [h1]
   simp only [Option.bind_some]
   rw [if_pos hk]
  ·cases h2
 case box el x =>
  split at h
  ·rename_i hk
   refine ⟨_,_,_,h,rfl,fun ρ penv σ n0 hK => ?_⟩
   have hx := jq hK.env x
   have hc := hx.cells hk.1
   refine ⟨_,_,?_,hK.laid el hc n0⟩
   rw [if_pos ⟨hx.known hk.1,by rw [← hc.len]; exact hk.2⟩]
  ·cases h
 case build t ps =>
  simp only [Option.bind_eq_some_iff] at h
  obtain ⟨z,h1,h2⟩ := h
  rw [jx] at h2
  refine ⟨_,_,_,h2,rfl,fun ρ penv σ n0 hK => ?_⟩
  obtain ⟨p,e1,e2⟩ := zxs hK.env h1
  exact ⟨p,σ,by rw [e1]; rfl,.id hK e2 n0⟩
 case buildSlice t n ps =>
  split at h
  ·rename_i el hu
   simp only [Option.bind_eq_some_iff] at h
   obtain ⟨sz,hsz,z,hz,h⟩ := h
   split at h
   ·rename_i hc
    rw [Option.bind_eq_some_iff] at h
    obtain ⟨es,h1,h⟩ := h
    split at h
    ·rename_i hr
     refine ⟨_,_,_,h,rfl,fun ρ penv σ n0 hK => ?_⟩
     have hzc : VKs ρ A.length z.cells z.cells := (VK.fr (zdx hz)).cells hc.2.1
     obtain ⟨pes,e1,e2⟩ := zmw ps.toList hK.env (All2.replicate hzc n) h1
     have hlen : es.length = n := by
      have : ∀ (l : List (Nat × PV)) (a b : List (List PV)),zb3 a sz l = some b → b.length = a.length := by
       intro l
       induction l with
       | nil => intro a b h; cases h; rfl
       | cons x l ih =>
         intro a b h
         unfold zb3 at h
         split at h
         ·rw [ih _ _ h]; simp
         ·cases h
      rw [this _ _ _ h1]; simp
     refine ⟨_,_,?_,hK.fresh hc.1 hr (zu3 e2 hr) hlen.symm n0⟩
     simp only [j4,hu,hsz,hz,Option.bind_some]
     rw [if_pos hc,e1]
     rfl
    ·cases h
   ·cases h
  ·cases h
 case load t a =>
  split at h
  ·rename_i hc
   simp only [Option.bind_eq_some_iff] at h
   obtain ⟨v,h1,h2⟩ := h
   rw [jx] at h2
   refine ⟨_,_,_,h2,rfl,fun ρ penv σ n0 hK => ?_⟩
   rw [if_pos hc]
   have ha := jq hK.env a
   unfold zig at h1
   split at h1
   ·rename_i cs hq
    rw [hq] at ha
    obtain ⟨ps,e,hcs⟩ := ha.pref_inv
    obtain ⟨p,e1,e2⟩ := zau h1 hcs.k
    exact ⟨p,σ,by rw [e]; simp only [zig,e1,Option.map_some],.id hK e2 n0⟩
   ·cases h1
  ·rename_i hc
   obtain ⟨v,h1,h2⟩ := znc h
   rw [jx] at h1
   refine ⟨_,_,_,h1,rfl,fun ρ penv σ n0 hK => ?_⟩
   rw [if_neg hc]
   obtain ⟨q,e1,e2⟩ := h2 ρ env penv σ _ hK (jq hK.env a)
   exact ⟨q,σ,by rw [e1]; rfl,.id hK e2 n0⟩
 case store t a x =>
  obtain ⟨A',h1,h2⟩ := zsh h
  refine ⟨_,_,_,h1,rfl,fun ρ penv σ n0 hK => ?_⟩
  obtain ⟨σ',e1,e2,e3,_⟩ := h2 ρ env penv σ n0 _ _ hK (jq hK.env a) (jq hK.env x)
  exact ⟨.tuple [],σ',by rw [e1]; rfl,ρ,e2,.fr (.tuple .nil),e3⟩
 case nilCheck x =>
  simp only [Option.bind_eq_some_iff] at h
  obtain ⟨v,h1,h2⟩ := h
  refine ⟨_,_,_,h2,rfl,fun ρ penv σ n0 hK => ?_⟩
  have hx := jq hK.env x
  have hv : v = opd env x := by
   generalize opd env x = z at h1
   unfold z5t at h1
   split at h1 <;> first | (cases h1; rfl) | cases h1
  rw [← hv] at h1 hx
  refine ⟨opd penv x,σ,?_,.id hK hx n0⟩
  generalize opd penv x = p at hx
  unfold z5t at h1
  split at h1
  ·obtain ⟨_,hr⟩ := hx.ref_inv
   obtain ⟨id,rfl,_⟩ := zm1 hr 0
   rfl
  ·obtain ⟨ps,rfl,_⟩ := hx.pref_inv
   rfl
  ·obtain ⟨ps,rfl,_⟩ := hx.func_inv
   rfl
  ·cases h1
 case binOp op t x y ty =>
  simp only [Option.bind_eq_some_iff] at h
  obtain ⟨v,h1,h2⟩ := h
  obtain ⟨hb,h3⟩ := z38 h1
  refine ⟨_,_,_,jz h2,rfl,fun ρ penv σ n0 hK => ?_⟩
  exact ⟨v,σ,by rw [h3 _ _ _ _ (jq hK.env x) (jq hK.env y)]; rfl,.id hK (.fr (.base _ hb)) n0⟩
 case unOp op t x =>
  simp only [Option.bind_eq_some_iff] at h
  obtain ⟨v,h1,h2⟩ := h
  obtain ⟨hb,h3⟩ := z4r h1
  refine ⟨_,_,_,jz h2,rfl,fun ρ penv σ n0 hK => ?_⟩
  exact ⟨v,σ,by rw [h3 _ _ _ (jq hK.env x)]; rfl,.id hK (.fr (.base _ hb)) n0⟩
 case convert s d x =>
  obtain ⟨v,h1,h2⟩ := zxj h
  refine ⟨_,_,_,jz h1,rfl,fun ρ penv σ n0 hK => ?_⟩
  obtain ⟨q,e1,e2⟩ := h2 ρ env penv σ _ hK (jq hK.env x)
  exact ⟨q,σ,by rw [e1]; rfl,.id hK e2 n0⟩
 case makeFunc fn fs cs =>
  cases fn <;> simp only at h ⊢
  case func f =>
   split at h
   ·rename_i hk
    exact ⟨_,_,_,h,rfl,fun ρ penv σ n0 hK => ⟨_,_,by rw [if_pos hk],.id hK (.func f (zpf hK.env _)) n0⟩⟩
   ·cases h
  all_goals cases h
 case makeSlice t l cp =>
  split at h
  ·rename_i el l' cp' hu hl hcp
   simp only [Option.bind_eq_some_iff] at h
   obtain ⟨sz,hsz,by_,hby,z,hz,h⟩ := h
   split at h
   ·rename_i hc
    split at h
    ·rename_i hd
     obtain ⟨d1,rfl,d3,d4⟩ := hd
     refine ⟨_,_,_,h,rfl,fun ρ penv σ n0 hK => ?_⟩
     have e1 : opd penv l = .int .i64 l' := by have := jq hK.env l; rw [hl] at this; exact this.int_eq
     have e2 : opd penv cp = .int .i64 l' := by have := jq hK.env cp; rw [hcp] at this; exact this.int_eq
     have hzc : VFs z.cells z.cells := ((VK.fr (ρ := ρ) (m := 0) (zdx hz)).cells hc.2.1).plain hc.2.2.2 |>.1
     have hr : y8 sz (List.replicate l'.toNat z.cells) = true := by
      unfold y8
      rw [List.all_eq_true]
      intro e he
      rw [List.eq_of_mem_replicate he,hc.2.2.2]
      simp [hc.2.2.1]
     have hv : VFss (List.replicate l'.toNat z.cells) (List.replicate l'.toNat z.cells) := VFss.of (All2.replicate hzc _)
     refine ⟨_,_,?_,hK.fresh (n := l'.toNat) hc.1 hr hv (by simp) n0⟩
     simp only [zb9,hu,e1,e2,hsz,hby,hz,Option.bind_some]
     rw [if_pos ⟨hc.1,hc.2.1,hc.2.2.1,d1,Int.le_refl _,d3,d4⟩]
    ·cases h
   ·cases h
  ·cases h
 case slice t x lo hi mx =>
  obtain ⟨v,h1,h2⟩ := z03 h
  refine ⟨_,_,_,h1,rfl,fun ρ penv σ n0 hK => ?_⟩
  obtain ⟨q,e1,e2⟩ := h2 ρ env penv σ _ _ _ _ hK (jq hK.env x) (OpR.map hK.env lo) (OpR.map hK.env hi) (OpR.map hK.env mx)
  exact ⟨q,σ,by rw [e1]; rfl,.id hK e2 n0⟩
 case fieldAddr s x f =>
  simp only [Option.bind_eq_some_iff] at h
  obtain ⟨v,h1,h2⟩ := h
  refine ⟨_,_,_,h2,rfl,fun ρ penv σ n0 hK => ?_⟩
  have hx := jq hK.env x
  unfold vm at h1 ⊢
  split at h1
  ·rename_i fs hu
   simp only [Option.bind_eq_some_iff] at h1
   obtain ⟨fd,hfd,n,hn,h1⟩ := h1
   simp only [hfd,hn,Option.bind_some]
   split at h1
   ·cases h1
   rename_i hn0
   simp only [if_neg hn0]
   split at h1
   ·rename_i j i off hq
    cases h1
    rw [hq] at hx
    obtain ⟨hl,hr⟩ := hx.ref_inv
    obtain ⟨id,e1,e2⟩ := zm1 hr fd.offset
    rw [e1]
    exact ⟨_,σ,rfl,.id hK (.ref hl e2) n0⟩
   ·rename_i cs hq
    cases h1
    rw [hq] at hx
    obtain ⟨ps,e,hc⟩ := hx.pref_inv
    rw [e]
    exact ⟨_,σ,rfl,.id hK (.fr (.pref (hc.drop _))) n0⟩
   ·cases h1
  ·cases h1
 case field s x f =>
  simp only [Option.bind_eq_some_iff] at h
  obtain ⟨v,h1,h2⟩ := h
  rw [jx] at h2
  refine ⟨_,_,_,h2,rfl,fun ρ penv σ n0 hK => ?_⟩
  have hx := jq hK.env x
  unfold zga at h1
  split at h1
  ·rename_i fs cs hu hq
   rw [Option.bind_eq_some_iff] at h1
   obtain ⟨fd,hfd,h1⟩ := h1
   rw [hq] at hx
   obtain ⟨ps,e,hc⟩ := hx.agg_inv
   obtain ⟨p,e1,e2⟩ := zau h1 hc
   refine ⟨p,σ,?_,.id hK e2 n0⟩
   rw [e]
   simp only [zga,hu,hfd,Option.bind_some,e1,Option.map_some]
  ·cases h1
 case indexAddr t x i =>
  obtain ⟨v,h1,h2⟩ := zzw h
  refine ⟨_,_,_,h1,rfl,fun ρ penv σ n0 hK => ?_⟩
  obtain ⟨q,e1,e2⟩ := h2 ρ env penv σ _ _ hK (jq hK.env x) (jq hK.env i)
  exact ⟨q,σ,by rw [e1]; rfl,.id hK e2 n0⟩
 case index t x i =>
  obtain ⟨v,h2,hv⟩ := zs6 h
  refine ⟨_,_,_,h2,rfl,fun ρ penv σ n0 hK => ?_⟩
  obtain ⟨q,e1,e2⟩ := hv ρ A.length _ _ (jq hK.env x) (jq hK.env i)
  exact ⟨q,σ,by rw [e1]; rfl,.id hK e2 n0⟩
 case extract x i =>
  simp only [Option.bind_eq_some_iff] at h
  obtain ⟨v,h1,h2⟩ := h
  rw [jx] at h2
  refine ⟨_,_,_,h2,rfl,fun ρ penv σ n0 hK => ?_⟩
  have hx := jq hK.env x
  generalize opd env x = z at h1 hx
  unfold z74 at h1
  split at h1
  ·obtain ⟨ps,e,hc⟩ := hx.tuple_inv
   rw [e]
   obtain ⟨p,e1,e2⟩ := hc.get h1
   exact ⟨p,σ,by simp only [e1,Option.map_some],.id hK e2 n0⟩
  ·cases h1
 case call cl =>
  obtain ⟨callee,args,ts⟩ := cl
  cases callee <;> simp only at h ⊢
  case builtin b =>
   obtain ⟨v,env',A',h1,hl,h2⟩ := z1a h
   exact ⟨v,env',A',h1,hl,fun ρ penv σ n0 hK => h2 ρ penv σ n0 _ hK (zpf hK.env _)⟩
  case value x =>
   simp only [Option.bind_eq_some_iff] at h
   obtain ⟨⟨g,cs⟩,h0,h⟩ := h
   obtain ⟨v,env',A',h1,hl,h2⟩ := zxr hC hO h
   refine ⟨v,env',A',h1,hl,fun ρ penv σ n0 hK => ?_⟩
   have hx := jq hK.env x
   generalize opd env x = z at h0 hx
   unfold fnv at h0
   split at h0
   ·cases h0
    obtain ⟨ps,e,hc⟩ := hx.func_inv
    rw [e]
    exact h2 ρ penv σ n0 _ hK ((zpf hK.env _).app hc)
   ·cases h0
  case invoke x m => cases h
 all_goals cases h
theorem zu9 (he : VKs ρ m env penv) {d : Option Nat} {v p : PV} (hv : VK ρ m v p) : VKs ρ m (zjw env d v) (zjw penv d p) := by
 cases d with
 | none => exact he
 | some t => exact he.set hv t
theorem zq2 (env : List PV) (d : Option Nat) (v : PV) : (zjw env d v).length = env.length := by
 cases d with
 | none => rfl
 | some t => exact List.length_set
theorem zgx {c : Cfg} {kc : KCfg} {C : yu} {Cω : x6} (hC : zbt C Cω) (hO : OwnOk kc c.P Cω) {all : List Oper} : ∀ (l : List Oper) {env : List PV} {A : List KO} {k : List PV → List KO → Option β},kd c kc C all l env A k = some r →
  ∃ env' A',k env' A' = some r ∧ env'.length = env.length ∧ ∀ ρ penv σ n0,KS ρ A env penv σ → ∃ penv' σ' ρ',xj c Cω all l penv σ = some (penv',σ') ∧ KS ρ' A' env' penv' σ' ∧ Go2 n0 ρ A σ ρ' A' σ'
 | [],env,A,k,h => ⟨_,_,h,rfl,fun ρ penv σ n0 hK => ⟨penv,σ,ρ,rfl,hK,Go2.refl _ _ _ _⟩⟩
 | o :: l,env,A,k,h => by
   have go : (zh0 c kc C env A o fun v env A => zfs env o.dst v fun e => kd c kc C all l e A k) = some r → ∃ env' A',k env' A' = some r ∧ env'.length = env.length ∧ ∀ ρ penv σ n0,za6 all penv o = some true → KS ρ A env penv σ → ∃ penv' σ' ρ',xj c Cω all (o :: l) penv σ = some (penv',σ') ∧ KS ρ' A' env' penv' σ' ∧ Go2 n0 ρ A σ ρ' A' σ' := by
    intro h
    obtain ⟨v,e1,A1,h1,hl1,h2⟩ := z25 hC hO h
    rw [wm] at h1
    obtain ⟨e2,A2,h3,hl2,h4⟩ := zgx hC hO l h1
    refine ⟨e2,A2,h3,by rw [hl2,zq2,hl1],fun ρ penv σ n0 hw hK => ?_⟩
    obtain ⟨p,σ1,g1,ρ1,g2,g3,g4⟩ := h2 ρ penv σ n0 hK
    obtain ⟨penv',σ',ρ',g5,g6,g7⟩ := h4 ρ1 (zjw penv o.dst p) σ1 n0 (g2.withEnv (zu9 g2.env g3))
    refine ⟨penv',σ',ρ',?_,g6,g4.trans g7⟩
    simp only [xj,hw,Option.bind_some,if_true,g1]
    exact g5
   have no : kd c kc C all l (zjw env o.dst (.tuple [])) A k = some r → ∃ env' A',k env' A' = some r ∧ env'.length = env.length ∧ ∀ ρ penv σ n0,za6 all penv o = some false → KS ρ A env penv σ → ∃ penv' σ' ρ',xj c Cω all (o :: l) penv σ = some (penv',σ') ∧ KS ρ' A' env' penv' σ' ∧ Go2 n0 ρ A σ ρ' A' σ' := by
    intro h
    obtain ⟨e2,A2,h3,hl2,h4⟩ := zgx hC hO l h
    refine ⟨e2,A2,h3,by rw [hl2,zq2],fun ρ penv σ n0 hw hK => ?_⟩
    obtain ⟨penv',σ',ρ',g5,g6,g7⟩ := h4 ρ (zjw penv o.dst (.tuple [])) σ n0 (hK.withEnv (zu9 hK.env (.fr (.tuple .nil))))
    refine ⟨penv',σ',ρ',?_,g6,g7⟩
    simp only [xj,hw,Option.bind_some,Bool.false_eq_true,if_false]
    exact g5
   unfold kd at h
   simp only [uo] at h
   split at h
   ·rename_i hg
    obtain ⟨e,A',h1,h2,h3⟩ := go h
    exact ⟨e,A',h1,h2,fun ρ penv σ n0 hK => h3 ρ penv σ n0 (by unfold za6; rw [hg]) hK⟩
   ·rename_i g w hg
    split at h
    ·cases h
    ·rename_i d hd
     have hwb : ∀ {b : Bool} {ρ penv σ},env.getD d .undef = .bool b → KS ρ A env penv σ → za6 all penv o = some (b == w) := fun hb hK => by
      have := hK.env.getD d
      rw [hb] at this
      unfold za6
      rw [hg]
      simp only [hd]
      rw [this.bool_eq]
     split at h
     ·rename_i b hb
      split at h
      ·rename_i hbt
       subst hbt
       rw [zd2 hb] at h
       cases w with
       | true =>
         rw [if_pos rfl] at h
         obtain ⟨e,A',h1,h2,h3⟩ := go h
         exact ⟨e,A',h1,h2,fun ρ penv σ n0 hK => h3 ρ penv σ n0 (hwb hb hK) hK⟩
       | false =>
         rw [if_neg (by decide),wm] at h
         obtain ⟨e,A',h1,h2,h3⟩ := no h
         exact ⟨e,A',h1,h2,fun ρ penv σ n0 hK => h3 ρ penv σ n0 (hwb hb hK) hK⟩
      ·rename_i hbt
       have hbf : b = false := by simpa using hbt
       subst hbf
       rw [zd2 hb] at h
       cases w with
       | false =>
         rw [if_pos rfl] at h
         obtain ⟨e,A',h1,h2,h3⟩ := go h
         exact ⟨e,A',h1,h2,fun ρ penv σ n0 hK => h3 ρ penv σ n0 (hwb hb hK) hK⟩
       | true =>
         rw [if_neg (by decide),wm] at h
         obtain ⟨e,A',h1,h2,h3⟩ := no h
         exact ⟨e,A',h1,h2,fun ρ penv σ n0 hK => h3 ρ penv σ n0 (hwb hb hK) hK⟩
     ·rename_i vs hb
      rw [wm] at h
      obtain ⟨e,A',h1,h2,h3⟩ := no h
      refine ⟨e,A',h1,h2,fun ρ penv σ n0 hK => h3 ρ penv σ n0 ?_ hK⟩
      have := hK.env.getD d
      rw [hb] at this
      obtain ⟨ps,e,_⟩ := this.tuple_inv
      unfold za6
      rw [hg]
      simp only [hd]
      rw [e]
     ·cases h
end
end Go.Pvm
namespace Go.Pvm
section
variable {P : Program} {ρ ρ' : Nat → PV} {m : Nat} {A A' : List KO} {env penv : List PV} {σ σ' : Store} {β : Type} {r : β}
theorem zkh : ∀ (l : List Nat) {env : List PV} {A : List KO} {k : List PV → List KO → Option β},zdr l env A k = some r → ∃ env' A',k env' A' = some r ∧ env'.length = env.length ∧
  ∀ ρ penv σ n0,KS ρ A env penv σ → ∃ penv' σ' ρ',vt l penv σ = some (penv',σ') ∧ KS ρ' A' env' penv' σ' ∧ Go2 n0 ρ A σ ρ' A' σ'
 | [],env,A,k,h => ⟨_,_,h,rfl,fun ρ penv σ n0 hK => ⟨penv,σ,ρ,rfl,hK,Go2.refl _ _ _ _⟩⟩
 | t :: l,env,A,k,h => by
   unfold zdr at h
   split at h
   ·rename_i hcl
    rw [Option.bind_eq_some_iff] at h
    obtain ⟨A1,h1,h⟩ := h
    rw [jx,uo,xl] at h
    obtain ⟨e2,A2,h2,hl,h3⟩ := zkh l h
    refine ⟨e2,A2,h2,by rw [hl]; simp,fun ρ penv σ n0 hK => ?_⟩
    have ht := hK.env.getD t
    obtain ⟨σ1,g0,g1,g2⟩ := zm0 _ h1 hK n0
    have hfz := zbr hK xm ht
    obtain ⟨penv',σ',ρ',g3,g4,g5⟩ := h3 ρ (penv.set t (fz xm σ (penv.getD t .undef))) σ1 n0 (g1.withEnv (g1.env.set (.fr hfz) t))
    refine ⟨penv',σ',ρ',?_,g4,g2.trans g5⟩
    unfold vt ziy
    rw [ht.tops_eq hcl,g0]
    exact g3
   ·cases h
theorem zy0 {c : Cfg} {f : FuncId} {id : Nat} {k : Bool → List PV → List KO → Option β} (h : zm2 c f id env A k = some r) : ∃ b env' A',k b env' A' = some r ∧ env'.length = env.length ∧
  ∀ ρ penv σ n0,KS ρ A env penv σ → ∃ penv' σ' ρ',pre c f id penv σ = some (b,penv',σ') ∧ KS ρ' A' env' penv' σ' ∧ Go2 n0 ρ A σ ρ' A' σ' := by
 unfold zm2 at h
 unfold pre
 split at h
 ·rename_i hc
  exact ⟨_,_,_,h,rfl,fun ρ penv σ n0 hK => ⟨penv,σ,ρ,by rw [hc],hK,Go2.refl _ _ _ _⟩⟩
 ·rename_i b zs hc
  obtain ⟨e,A',h1,hl,h2⟩ := zkh zs h
  refine ⟨b,e,A',h1,hl,fun ρ penv σ n0 hK => ?_⟩
  obtain ⟨penv',σ',ρ',g1,g2,g3⟩ := h2 ρ penv σ n0 hK
  exact ⟨penv',σ',ρ',by rw [hc]; simp only [g1,Option.map_some],g2,g3⟩
theorem zhx {n : Nat} {k : List PV → List KO → Option β} (h : zea (List.range n) env A k = some r) : ∃ env' A',k env' A' = some r ∧ env'.length = env.length ∧
  ∀ ρ penv σ,KS ρ A env penv σ → ∃ ρ',KS ρ' A' env' penv σ ∧ Go2 n ρ A σ ρ' A' σ := by
 unfold zea at h
 rw [j9] at h
 have hpre : ∀ (l0 l : List Nat) (i : Nat) (k : Nat),l0[i]? = some k → (∃ t,l = l0 ++ t) → l[i]? = some k := fun l0 l i k e ⟨t,ht⟩ => by
  rw [ht,List.getElem?_append_left (List.getElem?_eq_some_iff.1 e).1]; exact e
 have hadd : ∀ (x : List Nat) (l0 : List Nat),∃ t,x.foldl zx7 l0 = l0 ++ t := by
  intro x
  induction x with
  | nil => intro l0; exact ⟨[],by simp⟩
  | cons a x ih =>
    intro l0
    obtain ⟨t,ht⟩ := ih (zx7 l0 a)
    rw [List.foldl_cons,ht]
    unfold zx7
    split
    ·exact ⟨t,rfl⟩
    ·exact ⟨[a] ++ t,by rw [List.append_assoc]⟩
 have hreach : ∀ (n : Nat) (l0 : List Nat) (i : Nat),∃ t,zd6 n A l0 i = l0 ++ t := by
  intro n
  induction n with
  | zero => intro l0 i; exact ⟨[],by simp [zd6]⟩
  | succ n ih =>
    intro l0 i
    unfold zd6
    split
    ·exact ⟨[],by simp⟩
    ·split
     ·rename_i cs _
      obtain ⟨t,ht⟩ := hadd (tops.topss cs) l0
      obtain ⟨t',ht'⟩ := ih ((tops.topss cs).foldl zx7 l0) (i + 1)
      exact ⟨t ++ t',by rw [ht',ht,List.append_assoc]⟩
     ·exact ih l0 (i + 1)
 obtain ⟨t,ht⟩ : ∃ t,zd6 64 A ((tops.topss env).foldl zx7 (List.range n)) 0 = List.range n ++ t := by
  obtain ⟨t,ht⟩ := hadd (tops.topss env) (List.range n)
  obtain ⟨t',ht'⟩ := hreach 64 ((tops.topss env).foldl zx7 (List.range n)) 0
  exact ⟨t ++ t',by rw [ht',ht,List.append_assoc]⟩
 rw [ht] at h
 split at h
 ·rename_i hc
  rw [forceVs_eq,xl] at h
  refine ⟨_,_,h,ww _ _,fun ρ penv σ hK => ?_⟩
  have hlt : ∀ j ∈ List.range n ++ t,j < A.length := fun j hj => by
   have := hc.2
   rw [List.all_eq_true] at this
   simpa using this j hj
  have hp := hK.pack hc.1 hlt
  refine ⟨_,hp,Nat.le_refl _,fun _ _ _ => rfl,fun k x hx => ?_,fun hle => ⟨by simp,fun k hk => ?_⟩⟩
  ·unfold wj at hx
   rw [List.getD_eq_getElem?_getD,List.getElem?_map] at hx
   cases hq : (List.range n ++ t)[k]? with
   | none => rw [hq] at hx; cases hx
   | some j =>
     rw [hq] at hx
     simp only [Option.map_some,Option.getD_some,qh] at hx
     have e : (List.range n ++ t).getD k 0 = j := by rw [List.getD_eq_getElem?_getD,hq]; rfl
     simp only [e] at hx
     exact .inl ⟨j,hx⟩
  ·have hq : (List.range n ++ t)[k]? = some k := hpre (List.range n) _ k k (List.getElem?_range hk) ⟨t,rfl⟩
   have e : (List.range n ++ t).getD k 0 = k := by rw [List.getD_eq_getElem?_getD,hq]; rfl
   rw [List.getD_eq_getElem?_getD (l := List.map _ _),List.getElem?_map,hq]
   simp only [Option.map_some,Option.getD_some,zd5,qh,e]
   exact ⟨fun h => h,fun h => ⟨h,trivial⟩⟩
 ·cases h
structure More (ρ : Nat → PV) (A : List KO) (ρ' : Nat → PV) (A' : List KO) : Prop where
 len : A.length ≤ A'.length
 r : ∀ k,k < A.length → ρ' k = ρ k
 a : ∀ k,k < A.length → A'.getD k .dead = A.getD k .dead
theorem More.refl (ρ : Nat → PV) (A : List KO) : More ρ A ρ A := ⟨Nat.le_refl _,fun _ _ => rfl,fun _ _ => rfl⟩
theorem More.trans {ρ'' : Nat → PV} {A'' : List KO} (h : More ρ A ρ' A') (h' : More ρ' A' ρ'' A'') : More ρ A ρ'' A'' :=
 ⟨Nat.le_trans h.len h'.len,fun k hk => (h'.r k (Nat.lt_of_lt_of_le hk h.len)).trans (h.r k hk),fun k hk => (h'.a k (Nat.lt_of_lt_of_le hk h.len)).trans (h.a k hk)⟩
theorem zb5 : ∀ (offs : List (Nat × Nat)) {cs pcs : List PV} {A : List KO} {ρ : Nat → PV},KS ρ A env penv σ → VKs ρ A.length cs pcs → ∀ n0,
  ∃ ρ',KS ρ' (jh offs cs A).2 env penv σ ∧ VKs ρ' (jh offs cs A).2.length (jh offs cs A).1 pcs ∧ Go2 n0 ρ A σ ρ' (jh offs cs A).2 σ ∧ More ρ A ρ' (jh offs cs A).2
 | [],cs,pcs,A,ρ,hK,hc,n0 => ⟨ρ,hK,hc,Go2.refl _ _ _ _,More.refl _ _⟩
 | (o,sz) :: offs,cs,pcs,A,ρ,hK,hc,n0 => by
   show ∃ ρ',KS ρ' (jh offs (zaa cs A o sz).1 (zaa cs A o sz).2).2 env penv σ ∧ VKs ρ' (jh offs (zaa cs A o sz).1 (zaa cs A o sz).2).2.length (jh offs (zaa cs A o sz).1 (zaa cs A o sz).2).1 pcs ∧ Go2 n0 ρ A σ ρ' (jh offs (zaa cs A o sz).1 (zaa cs A o sz).2).2 σ ∧ More ρ A ρ' (jh offs (zaa cs A o sz).1 (zaa cs A o sz).2).2
   have same : ∀ x : List PV × List KO,x = (cs,A) → ∃ ρ',KS ρ' (jh offs x.1 x.2).2 env penv σ ∧ VKs ρ' (jh offs x.1 x.2).2.length (jh offs x.1 x.2).1 pcs ∧ Go2 n0 ρ A σ ρ' (jh offs x.1 x.2).2 σ ∧ More ρ A ρ' (jh offs x.1 x.2).2 := fun x hx => by
    rw [hx]; exact zb5 offs hK hc n0
   have fin : ∀ x : List PV × List KO,zaa cs A o sz = x → ∃ ρ',KS ρ' (jh offs x.1 x.2).2 env penv σ ∧ VKs ρ' (jh offs x.1 x.2).2.length (jh offs x.1 x.2).1 pcs ∧ Go2 n0 ρ A σ ρ' (jh offs x.1 x.2).2 σ ∧ More ρ A ρ' (jh offs x.1 x.2).2 := fun x hx => by
    unfold zaa at hx
    split at hx
    ·rename_i hq
     have stay : ∀ {m : Nat} {ρ : Nat → PV} {u : PV} {p : PV},pcs[o]? = some p → VKs ρ m cs pcs → VK ρ m u p → VKs ρ m (cs.set o u) pcs := fun {m ρ u p} hp hc hu => by
      have q := hc.set hu o
      have e : pcs.set o p = pcs := by
       refine List.ext_getElem? fun i => ?_
       by_cases hi : o = i
       ·subst hi; rw [hp,List.getElem?_set_self (List.getElem?_eq_some_iff.1 hp).1]
       ·rw [List.getElem?_set_ne hi]
      rw [e] at q
      exact q
     split at hx
     ·subst hx
      obtain ⟨p,hp,hv⟩ := hc.get hq
      have hpn := hv.nilsl_eq
      subst hpn
      exact zb5 offs hK (stay hp hc (.fr (.nl false))) n0
     ·rename_i hsz
      subst hx
      obtain ⟨h1,h2⟩ := hK.more (σ' := σ) (u := .nilsl) (o := .made true sz []) (Nat.le_refl _) (fun _ _ => rfl) (fun i hi => by cases hi) ⟨hsz,rfl,.inl ⟨rfl,rfl⟩⟩ n0
      obtain ⟨p,hp,hv⟩ := hc.get hq
      have hpn := hv.nilsl_eq
      subst hpn
      have hw : VK (upd ρ A.length .nilsl) (A ++ [KO.made true sz []]).length (whole A.length sz) .nilsl := by
       have : VK (upd ρ A.length .nilsl) (A ++ [KO.made true sz []]).length (.lsl A.length sz 0 0 none) (upd ρ A.length .nilsl A.length) := .whole (by simp) (by rw [xw]; rfl)
       rw [xw] at this
       exact this
      have hm : More ρ A (upd ρ A.length .nilsl) (A ++ [KO.made true sz []]) := ⟨by simp,fun k hk => va _ (by omega),fun k hk => zcu hk⟩
      have hc' : VKs (upd ρ A.length .nilsl) (A ++ [KO.made true sz []]).length (cs.set o (whole A.length sz)) pcs := by
       have q := (hc.mono hm.len hm.r).set hw o
       have e : pcs.set o .nilsl = pcs := by
        refine List.ext_getElem? fun i => ?_
        by_cases hi : o = i
        ·subst hi; rw [hp,List.getElem?_set_self (List.getElem?_eq_some_iff.1 hp).1]
        ·rw [List.getElem?_set_ne hi]
       rw [e] at q
       exact q
      obtain ⟨ρ',g1,g2,g3,g4⟩ := zb5 offs h1 hc' n0
      exact ⟨ρ',g1,g2,h2.trans g3,hm.trans g4⟩
    ·exact same x hx.symm
   exact fin _ rfl
theorem zht (pl : List Nat) : ∀ (l : List (Nat × TypeId)) {env : List PV} {A : List KO} {ρ : Nat → PV},KS ρ A env penv σ → ∀ n0,∃ ρ',KS ρ' (zat P pl l env A).2 (zat P pl l env A).1 penv σ ∧ Go2 n0 ρ A σ ρ' (zat P pl l env A).2 σ
 | [],env,A,ρ,hK,n0 => ⟨ρ,hK,Go2.refl _ _ _ _⟩
 | (i,t) :: l,env,A,ρ,hK,n0 => by
   have fin : ∀ {x : PV} (cs : List PV) (mk : List PV → PV),env.getD i .undef = x → i < env.length → (∀ ρ m p,VK ρ m x p → ∃ pcs,VKs ρ m cs pcs ∧ ∀ ρ' m' cs',VKs ρ' m' cs' pcs → VK ρ' m' (mk cs') p) →
     ∃ ρ',KS ρ' (zat P pl l (env.set i (mk (jh (ur (pl.contains (2000000 + i)) (wa P 8 t 0)) cs A).1)) (jh (ur (pl.contains (2000000 + i)) (wa P 8 t 0)) cs A).2).2 (zat P pl l (env.set i (mk (jh (ur (pl.contains (2000000 + i)) (wa P 8 t 0)) cs A).1)) (jh (ur (pl.contains (2000000 + i)) (wa P 8 t 0)) cs A).2).1 penv σ ∧ Go2 n0 ρ A σ ρ' (zat P pl l (env.set i (mk (jh (ur (pl.contains (2000000 + i)) (wa P 8 t 0)) cs A).1)) (jh (ur (pl.contains (2000000 + i)) (wa P 8 t 0)) cs A).2).2 σ := by
    intro x cs mk hx hi hcs
    have hxi := hK.env.getD i
    rw [hx] at hxi
    obtain ⟨pcs,h1,h2⟩ := hcs _ _ _ hxi
    obtain ⟨ρ1,g1,g2,g3,_⟩ := zb5 (ur (pl.contains (2000000 + i)) (wa P 8 t 0)) hK h1 n0
    have hset : VKs ρ1 (jh (ur (pl.contains (2000000 + i)) (wa P 8 t 0)) cs A).2.length (env.set i (mk (jh (ur (pl.contains (2000000 + i)) (wa P 8 t 0)) cs A).1)) penv := by
     have q := g1.env.set (h2 _ _ _ g2) i
     have e : penv.set i (penv.getD i .undef) = penv := by
      refine List.ext_getElem? fun j => ?_
      by_cases hj : i = j
      ·subst hj
       have hil : i < penv.length := by rw [← hK.env.len]; exact hi
       rw [List.getElem?_set_self hil,List.getD_eq_getElem?_getD,List.getElem?_eq_getElem hil]; rfl
      ·rw [List.getElem?_set_ne hj]
     rw [e] at q
     exact q
    obtain ⟨ρ',g4,g5⟩ := zht pl l (g1.withEnv hset) n0
    exact ⟨ρ',g4,g3.trans g5⟩
   have hil : ∀ {x : PV},env.getD i .undef = x → x.known = true → i < env.length := fun hx hk => by
    refine Nat.lt_of_not_le fun hge => ?_
    rw [List.getD_eq_getElem?_getD,List.getElem?_eq_none hge] at hx
    subst hx
    cases hk
   unfold zat
   split
   ·rename_i cs hx
    exact fin cs .agg hx (hil hx rfl) fun ρ m p hp => by
     obtain ⟨ps,rfl,hq⟩ := hp.agg_inv
     exact ⟨ps,hq,fun _ _ _ h => .agg h⟩
   ·rename_i hx
    exact fin [.nilsl] (fun cs => cs.headD .nilsl) hx (hil hx rfl) fun ρ m p hp => by
     rw [hp.nilsl_eq]
     refine ⟨[.nilsl],.one (.fr (.base _ rfl)),fun ρ' m' cs' h => ?_⟩
     cases h with
     | cons a b => exact a
   ·exact zht pl l hK n0
theorem zhu (pl : List Nat) : ∀ (l : List Nat) {A : List KO} {ρ : Nat → PV},KS ρ A env penv σ → ∀ n0,∃ ρ',KS ρ' (zjy P pl l A) env penv σ ∧ Go2 n0 ρ A σ ρ' (zjy P pl l A) σ
 | [],A,ρ,hK,n0 => ⟨ρ,hK,Go2.refl _ _ _ _⟩
 | k :: l,A,ρ,hK,n0 => by
   unfold zjy
   split
   ·rename_i w t cs hj
    have hd : jj (A.getD k .dead) = false := by rw [hj]; rfl
    obtain ⟨id,pcs,ro,e,s1,s2,s3,s4⟩ := hK.get (qk hd) hj
    obtain ⟨ρ1,g1,g2,g3,g4⟩ := zb5 (ur (pl.contains (1000000 + t)) (wa P 8 t 0)) hK s2 n0
    have hkl := qk hd
    have hj' : (jh (ur (pl.contains (1000000 + t)) (wa P 8 t 0)) cs A).2.getD k .dead = .box w t cs := by rw [g4.a k hkl,hj]
    obtain ⟨h1,h2⟩ := g1.put (σ' := σ) (j := k) (o := .box w t (jh (ur (pl.contains (1000000 + t)) (wa P 8 t 0)) cs A).1) (by rw [hj']; rfl) (Nat.le_refl _) (fun _ _ _ => rfl) ⟨id,pcs,ro,by rw [g4.r k hkl]; exact e,s1,g2,s3,s4⟩ (fun _ => rfl) n0
    obtain ⟨ρ',g5,g6⟩ := zhu pl l h1 n0
    exact ⟨ρ',g5,(g3.trans h2).trans g6⟩
   ·exact zhu pl l hK n0
theorem zcn (pl : List Nat) : ∀ (l : List (Nat × TypeId)) (env : List PV) (A : List KO),(zat P pl l env A).1.length = env.length
 | [],_,_ => rfl
 | (i,t) :: l,env,A => by
   unfold zat
   split
   ·rw [zcn pl l]; simp
   ·rw [zcn pl l]; simp
   ·exact zcn pl l _ _
theorem zt4 : ∀ (l : List Nat) (A : List KO),WkA A (wkA l A)
 | [],A => ⟨rfl,fun j => ⟨fun _ _ _ _ h => h,fun h => h,fun h => h⟩⟩
 | i :: l,A => by
   unfold wkA
   split
   ·rename_i w sz es hj
    obtain ⟨h1,h2⟩ := zt4 l (A.set i (.made false sz es))
    have hil : i < A.length := qk (by rw [hj]; rfl)
    refine ⟨by rw [h1]; simp,fun j => ?_⟩
    obtain ⟨a,b,c⟩ := h2 j
    by_cases hji : j = i
    ·subst hji
     rw [zlq hil] at a b c
     rw [hj]
     refine ⟨fun ρ m σ u ⟨q0,q1,q2⟩ => a ρ m σ u ⟨q0,q1,q2.imp (fun x => x) fun ⟨id,cap,ro,ps,tl,e,s1,s2,s3,s4,s5,s6⟩ => ⟨id,cap,ro,ps,tl,e,s1,s2,s3,s4,(fun hwt => by cases hwt),s6⟩⟩,fun h => rfl,fun h => by cases h⟩
    ·rw [getD_set_ne hji] at a b c
     exact ⟨a,b,c⟩
   ·exact zt4 l A
theorem zvm : ∀ (l : List Nat) {env : List PV} {A : List KO} {ρ : Nat → PV},KS ρ A env penv σ → ∀ n0,∃ ρ',KS ρ' (mvA l env A).2 (mvA l env A).1 penv σ ∧ Go2 n0 ρ A σ ρ' (mvA l env A).2 σ
 | [],env,A,ρ,hK,n0 => ⟨ρ,hK,Go2.refl _ _ _ _⟩
 | j :: l,env,A,ρ,hK,n0 => by
   unfold mvA
   split
   ·rename_i w sz es hj
    have hd : jj (A.getD j .dead) = false := by rw [hj]; rfl
    obtain ⟨g1,g2⟩ := hK.renew (σ' := σ) (f := mvF j A.length) (j := j) (u := ρ j) (o := .made w sz es) hd (by rw [hj]; rfl) (fun k k' hk e => by
      unfold mvF at e
      split at e
      ·rename_i hkj
       cases e
       exact ⟨by omega,by rw [xw,hkj]⟩
      ·cases e
       exact ⟨by omega,va _ (by omega)⟩)
     (Nat.le_refl _) (fun _ _ _ => rfl) (fun i hi => .inl hi) (hK.get (qk hd) hj) n0
    obtain ⟨ρ',g3,g4⟩ := zvm l g1 n0
    exact ⟨ρ',g3,g2.trans g4⟩
   ·exact zvm l hK n0
theorem zpi : ∀ (l : List Nat) (env : List PV) (A : List KO),(mvA l env A).1.length = env.length
 | [],_,_ => rfl
 | j :: l,env,A => by
   unfold mvA
   split
   ·rw [zpi l,ww]
   ·exact zpi l _ _
theorem znp {n0 : Nat} {tys : List (Nat × TypeId)} {wk : List Nat × List Nat} {k : List PV → List KO → Option β} (h : zel P n0 tys wk env A k = some r) : ∃ env' A',k env' A' = some r ∧ env'.length = env.length ∧
  ∀ ρ penv σ,KS ρ A env penv σ → ∃ ρ',KS ρ' A' env' penv σ ∧ Go2 n0 ρ A σ ρ' A' σ := by
 unfold zel at h
 simp only [forceVs_eq,xl] at h
 obtain ⟨e,A',h1,hl,h2⟩ := zhx h
 refine ⟨e,_,h1,by rw [hl,zpi,zcn],fun ρ penv σ hK => ?_⟩
 obtain ⟨ρ1,g1,g2⟩ := zht (P := P) wk.2 tys hK n0
 obtain ⟨ρ2,g3,g4⟩ := zhu (P := P) wk.2 _ g1 n0
 obtain ⟨ρ2',g3',g4'⟩ := zvm wk.2 g3 n0
 obtain ⟨ρ3,g5,g6⟩ := h2 ρ2' penv σ g3'
 obtain ⟨g7,g8⟩ := g5.wk (zt4 wk.1 A') n0
 exact ⟨ρ3,g7,(((g2.trans g4).trans g4').trans g6).trans g8⟩
theorem zll (he : VKs ρ m env penv) (n : Nat) (l : List Nat) : VKs ρ m (zcz n l env) (zcz n l penv) := by
 refine .map _ fun i _ => ?_
 show VK ρ m (if l.contains i = true then env.getD i .undef else .undef) (if l.contains i = true then penv.getD i .undef else .undef)
 split
 ·exact he.getD i
 ·exact .undef _
theorem zmc {sk : List (Nat × Sk)} {ml : List Nat} {e : List PV} : ∀ (is : List Nat) {k : List PV → Option β},zgk sk ml e is k = some r → ∃ vs,k vs = some r ∧ vs.length = is.length ∧ ∀ ρ m pe,VKs ρ m e pe → VKs ρ m vs (is.map fun i => if ml.contains i = true then pe.getD i .undef else .undef)
 | [],k,h => ⟨[],h,rfl,fun _ _ _ _ => .nil⟩
 | i :: is,k,h => by
   unfold zgk at h
   split at h
   ·rename_i s hf
    obtain ⟨v',h1,h2,_⟩ := zi4 _ h
    obtain ⟨vs,h3,hl,h4⟩ := zmc is h1
    refine ⟨_,h3,by simp [hl],fun ρ m pe hp => .cons ?_ (h4 ρ m pe hp)⟩
    split at hf
    ·rename_i hc
     show VK ρ m v' (if ml.contains i = true then pe.getD i .undef else .undef)
     rw [if_pos hc]
     exact h2 _ _ _ (hp.getD i)
    ·cases hf
   ·obtain ⟨vs,h3,hl,h4⟩ := zmc is h
    exact ⟨_,h3,by simp [hl],fun ρ m pe hp => .cons (.undef _) (h4 ρ m pe hp)⟩
theorem zao {cd : Operand} {b : Bool} {k : List PV → Option β} (h : opd env cd = .bool b) : z2s env cd b k = k env := zmv h
theorem uz {c : Cfg} {kc : KCfg} {C : yu} {L : yx} {Cω : x6} {Lω : vq} (hC : zbt C Cω) (hL : zoi L Lω) (hO : OwnOk kc c.P Cω) {f : FuncId} {n0 : Nat} : ∀ (cd : Code) {env : List PV} {A : List KO} {k : Ex → List PV → List KO → Option β},xz c kc C L f n0 cd env A k = some r →
  ∃ x env' A',k x env' A' = some r ∧ env'.length = env.length ∧ ∀ ρ penv σ,KS ρ A env penv σ → ∃ penv' σ' ρ',y1 c Cω Lω f cd penv σ = some (x,penv',σ') ∧ KS ρ' A' env' penv' σ' ∧ Go2 n0 ρ A σ ρ' A' σ'
 | .skip,env,A,k,h | .label _,env,A,k,h | .exit _,env,A,k,h | .ret,env,A,k,h => ⟨_,_,_,h,rfl,fun ρ penv σ hK => ⟨penv,σ,ρ,rfl,hK,Go2.refl _ _ _ _⟩⟩
 | .region id ops draw,env,A,k,h => by
   simp only [xz] at h
   obtain ⟨b,e0,A0,h,hl0,h0⟩ := zy0 h
   simp only [y1]
   unfold vn
   split at h
   ·rename_i hd
    simp only [if_pos hd]
    split at h
    ·rename_i hk
     rw [Bool.and_eq_true] at hk
     have hk' : (za2 { c.at_ f with calm := b,calmA := zc8 c f id ops.toList } ops.toList && vd ops.toList) = true := by rw [zkd hk.1,hk.2]; rfl
     obtain ⟨e,A',h1,hl,h2⟩ := zgx (c := { c.at_ f with strict := true,calm := b,calmA := zc8 c f id ops.toList }) (Cω := Cω) hC hO _ h
     refine ⟨_,_,_,h1,by rw [hl,hl0],fun ρ penv σ hK => ?_⟩
     obtain ⟨penv0,σ0,ρ0,g1,g2,g3⟩ := h0 ρ penv σ n0 hK
     obtain ⟨penv',σ',ρ',g4,g5,g6⟩ := h2 ρ0 penv0 σ0 n0 g2
     refine ⟨penv',σ',ρ',?_,g5,g3.trans g6⟩
     rw [g1]
     simp only [Option.bind_some]
     rw [if_pos hk',g4]
     rfl
    ·cases h
   ·rename_i hd
    simp only [if_neg hd]
    obtain ⟨e,A',h1,hl,h2⟩ := zgx (c := c.at_ f) (Cω := Cω) hC hO _ h
    refine ⟨_,_,_,h1,by rw [hl,hl0],fun ρ penv σ hK => ?_⟩
    obtain ⟨penv0,σ0,ρ0,g1,g2,g3⟩ := h0 ρ penv σ n0 hK
    obtain ⟨penv',σ',ρ',g4,g5,g6⟩ := h2 ρ0 penv0 σ0 n0 g2
    refine ⟨penv',σ',ρ',?_,g5,g3.trans g6⟩
    rw [g1]
    simp only [Option.bind_some]
    rw [g4]
    rfl
 | .seq a b,env,A,k,h => by
   simp only [xz] at h
   obtain ⟨x,e,A1,h1,hl1,h2⟩ := uz hC hL hO a h
   simp only [y1]
   cases x with
   | normal =>
     obtain ⟨x',e',A2,h3,hl2,h4⟩ := uz hC hL hO b h1
     refine ⟨x',e',A2,h3,by rw [hl2,hl1],fun ρ penv σ hK => ?_⟩
     obtain ⟨penv1,σ1,ρ1,g1,g2,g3⟩ := h2 ρ penv σ hK
     obtain ⟨penv2,σ2,ρ2,g4,g5,g6⟩ := h4 ρ1 penv1 σ1 g2
     exact ⟨penv2,σ2,ρ2,by rw [g1]; exact g4,g5,g3.trans g6⟩
   | exit i =>
     refine ⟨_,e,A1,h1,hl1,fun ρ penv σ hK => ?_⟩
     obtain ⟨penv1,σ1,ρ1,g1,g2,g3⟩ := h2 ρ penv σ hK
     exact ⟨penv1,σ1,ρ1,by rw [g1]; rfl,g2,g3⟩
   | ret =>
     refine ⟨_,e,A1,h1,hl1,fun ρ penv σ hK => ?_⟩
     obtain ⟨penv1,σ1,ρ1,g1,g2,g3⟩ := h2 ρ penv σ hK
     exact ⟨penv1,σ1,ρ1,by rw [g1]; rfl,g2,g3⟩
 | .cond cd a b,env,A,k,h => by
   simp only [xz] at h
   simp only [y1]
   split at h
   ·rename_i t ht
    have hb : ∀ {ρ penv σ},KS ρ A env penv σ → opd penv cd = .bool t := fun hK => by
     have := jq hK.env cd
     rw [ht] at this
     exact this.bool_eq
    split at h
    ·rename_i htt
     subst htt
     rw [zao ht] at h
     obtain ⟨x,e,A1,h1,hl1,h2⟩ := uz hC hL hO a h
     refine ⟨x,e,A1,h1,hl1,fun ρ penv σ hK => ?_⟩
     obtain ⟨penv1,σ1,ρ1,g1,g2⟩ := h2 ρ penv σ hK
     exact ⟨penv1,σ1,ρ1,by rw [hb hK]; exact g1,g2⟩
    ·rename_i htt
     have htf : t = false := by simpa using htt
     subst htf
     rw [zao ht] at h
     obtain ⟨x,e,A1,h1,hl1,h2⟩ := uz hC hL hO b h
     refine ⟨x,e,A1,h1,hl1,fun ρ penv σ hK => ?_⟩
     obtain ⟨penv1,σ1,ρ1,g1,g2⟩ := h2 ρ penv σ hK
     exact ⟨penv1,σ1,ρ1,by rw [hb hK]; exact g1,g2⟩
   ·cases h
 | .block id cd,env,A,k,h => by
   simp only [xz] at h
   obtain ⟨x,e,A1,h1,hl1,h2⟩ := uz hC hL hO cd h
   simp only [y1]
   cases x with
   | normal =>
     refine ⟨_,e,A1,h1,hl1,fun ρ penv σ hK => ?_⟩
     obtain ⟨penv1,σ1,ρ1,g1,g2⟩ := h2 ρ penv σ hK
     exact ⟨penv1,σ1,ρ1,by rw [g1]; rfl,g2⟩
   | ret =>
     refine ⟨_,e,A1,h1,hl1,fun ρ penv σ hK => ?_⟩
     obtain ⟨penv1,σ1,ρ1,g1,g2⟩ := h2 ρ penv σ hK
     exact ⟨penv1,σ1,ρ1,by rw [g1]; rfl,g2⟩
   | exit i =>
     simp only at h1
     split at h1
     ·rename_i hi
      refine ⟨_,e,A1,h1,hl1,fun ρ penv σ hK => ?_⟩
      obtain ⟨penv1,σ1,ρ1,g1,g2⟩ := h2 ρ penv σ hK
      exact ⟨penv1,σ1,ρ1,by rw [g1]; simp only [Option.map_some]; rw [if_pos hi],g2⟩
     ·rename_i hi
      refine ⟨_,e,A1,h1,hl1,fun ρ penv σ hK => ?_⟩
      obtain ⟨penv1,σ1,ρ1,g1,g2⟩ := h2 ρ penv σ hK
      exact ⟨penv1,σ1,ρ1,by rw [g1]; simp only [Option.map_some]; rw [if_neg hi],g2⟩
 | .loop cd,env,A,k,h => by
   simp only [xz] at h
   simp only [y1]
   split at h
   ·rename_i hd l hm
    obtain ⟨e0,A0,h,hl0,h0⟩ := znp h
    rw [Option.bind_eq_some_iff] at h
    obtain ⟨⟨x,e,A1⟩,h1,h2⟩ := h
    have key : ∀ {sk : List (Nat × Sk)} {os : List OSk} {ml : List Nat} {kk : List PV → List KO → Option β},(zgk sk ml e (List.range env.length) fun e => zaj os A1 fun A => kk e A) = some r → (z21 l x).map (·.1) = ml →
      ∃ e' A',kk e' A' = some r ∧ e'.length = env.length ∧ ∀ ρ penv σ,KS ρ A env penv σ → ∃ penv' σ' ρ',(Lω f cd (zcd c f cd penv.length penv) σ).map (fun (x,e,s) => (x,zmg c f cd x penv.length e,s)) = some (x,penv',σ') ∧ KS ρ' A' e' penv' σ' ∧ Go2 n0 ρ A σ ρ' A' σ' := by
     intro sk os ml kk hh hml
     obtain ⟨vs,h3,hl3,h4⟩ := zmc _ hh
     obtain ⟨A',h5,h6⟩ := zi5 h3
     refine ⟨vs,A',h5,by rw [hl3]; simp,fun ρ penv σ hK => ?_⟩
     have hlen := hK.env.len
     obtain ⟨ρ0,g1,g2⟩ := h0 ρ (zcz env.length hd penv) σ (hK.withEnv (zll hK.env _ _))
     obtain ⟨penv1,σ1,ρ1,g3,g4,g5⟩ := hL f cd n0 e0 A0 x e A1 h1 ρ0 _ σ g1
     have hh' : zcd c f cd penv.length penv = zcz env.length hd penv := by unfold zcd; rw [hm,hlen]
     have ho : zmg c f cd x penv.length penv1 = zcz env.length ml penv1 := by unfold zmg; rw [hm,hlen]; simp only; rw [hml]
     obtain ⟨g6,g7⟩ := g4.wk h6 n0
     refine ⟨zcz env.length ml penv1,σ1,ρ1,?_,g6.withEnv ?_,(g2.trans g5).trans g7⟩
     ·rw [hh',g3]
      simp only [Option.map_some]
      rw [ho]
     ·rw [h6.1]
      exact h4 _ _ _ g4.env
    cases x with
    | normal => cases h2
    | exit i =>
      replace h2 : (if kc.noex f (xa cd) = false then zgk (kc.osk f (xa cd) _ _).1 (l.1.map (·.1)) e (List.range env.length) fun e => zaj (kc.osk f (xa cd) _ _).2 A1 fun A => k (.exit i) e A else none) = some r := h2
      split at h2
      ·obtain ⟨e',A',q1,q2,q3⟩ := key h2 rfl
       exact ⟨_,e',A',q1,q2,q3⟩
      ·cases h2
    | ret =>
      replace h2 : (match l.2 with | [] => none | _ :: _ => zgk (kc.rsk f (xa cd) _ _).1 (l.2.map (·.1)) e (List.range env.length) fun e => zaj (kc.rsk f (xa cd) _ _).2 A1 fun A => k .ret e A) = some r := h2
      split at h2
      ·cases h2
      ·rename_i hq
       obtain ⟨e',A',q1,q2,q3⟩ := key h2 rfl
       exact ⟨_,e',A',q1,q2,q3⟩
   ·cases h
 | .rangeFunc ..,_,_,_,h | .scope _,_,_,_,h | .goto _,_,_,_,h | .refuse _,_,_,_,h => by simp only [xz] at h; cases h
theorem zgq {e : List PV} : ∀ (rs : List ResultVar) {k : List PV → Option β},zu7 P A e rs k = some r → ∃ vs,k vs = some r ∧ ∀ ρ penv σ,KS ρ A e penv σ → ∃ ps,qc P σ penv rs = some ps ∧ VKs ρ A.length vs ps
 | [],k,h => ⟨[],h,fun ρ penv σ hK => ⟨[],rfl,.nil⟩⟩
 | .tmp t :: rs,k,h => by
   obtain ⟨vs,h1,h2⟩ := zgq rs h
   refine ⟨_,h1,fun ρ penv σ hK => ?_⟩
   obtain ⟨ps,g1,g2⟩ := h2 ρ penv σ hK
   exact ⟨_,by simp only [qc,zb4,Option.bind_some,g1]; rfl,.cons (hK.env.getD t) g2⟩
 | .cell a t :: rs,k,h => by
   simp only [zu7] at h
   obtain ⟨v,h0,hv⟩ := znc h
   rw [jx] at h0
   obtain ⟨vs,h1,h2⟩ := zgq rs h0
   refine ⟨_,h1,fun ρ penv σ hK => ?_⟩
   obtain ⟨q,e1,e2⟩ := hv ρ e penv σ _ hK (hK.env.getD a)
   obtain ⟨ps,g1,g2⟩ := h2 ρ penv σ hK
   exact ⟨_,by simp only [qc,zb4,e1,Option.bind_some,g1]; rfl,.cons e2 g2⟩
theorem VKs.split {a b ps : List PV} (h : VKs ρ m (a ++ b) ps) : ∃ p q,ps = p ++ q ∧ VKs ρ m a p ∧ VKs ρ m b q :=
 ⟨ps.take a.length,ps.drop a.length,(List.take_append_drop _ _).symm,by have := h.take a.length; rwa [List.take_left] at this,by have := h.drop a.length; rwa [List.drop_left] at this⟩
theorem zub (u : PV) (a n : Nat) : tops (zn2 u a n) = tops u := by
 cases u <;> rfl
theorem z02 {u : PV} {a n : Nat} (h : hdl u = true) : hdl (zn2 u a n) = true := by
 cases u <;> first | rfl | cases h
theorem KOR.cut {ρ' : Nat → PV} {m' : Nat} {u : PV} {w : Bool} {sz n : Nat} {es : List (List PV)} (h : KOR ρ m σ u (.made w sz es)) (hv : zt8 u 0 n) : KOR ρ' m' σ (zn2 u 0 n) (.made w sz (es.take n)) := by
 obtain ⟨q0,q1,⟨rfl,rfl⟩ | ⟨id,cap,ro,ps,tl,rfl,s1,s2,s3,s4,s5,s6⟩⟩ := h
 ·exact ⟨q0,by simp [y8],.inl ⟨rfl,by simp⟩⟩
 ·have hv : 0 + n ≤ es.length := hv
  have hl := s2.len
  refine ⟨q0,qb q1 n,.inr ⟨id,cap.map (· - 0),ro,ps.take n,ps.drop n ++ tl,?_,?_,s2.take n,?_,jg (vh (j3 s2 q1) n) s4,s5,s6⟩⟩
  ·show PV.lsl id sz 0 n _ = _
   rw [List.length_take]
   congr 1
   omega
  ·rw [← List.append_assoc,List.take_append_drop]; exact s1
  ·rcases s3 with rfl | rfl
   ·exact .inl rfl
   ·right
    simp only [Option.map_some]
    congr 1
    rw [List.length_take,List.length_append,List.length_drop]
    omega
theorem zcq (m0 : Nat) : ∀ (nr : List Nat) {dn vs : List PV} {A : List KO} {k : List PV → List KO → Option β},zgi m0 nr dn vs A k = some r → ∃ vs' A',k vs' A' = some r ∧
  ∀ ρ σ n0 ps,KS ρ A (dn ++ vs) ps σ → ∃ ρ',KS ρ' A' vs' ps σ ∧ Go2 n0 ρ A σ ρ' A' σ
 | [],dn,vs,A,k,h => ⟨_,A,h,fun ρ σ n0 ps hK => ⟨ρ,hK,Go2.refl _ _ _ _⟩⟩
 | _ :: _,dn,[],A,k,h => ⟨dn,A,h,fun ρ σ n0 ps hK => by rw [List.append_nil] at hK; exact ⟨ρ,hK,Go2.refl _ _ _ _⟩⟩
 | n :: nr,dn,v :: vs,A,k,h => by
   have rest : zgi m0 nr (dn ++ [v]) vs A k = some r → ∃ vs' A',k vs' A' = some r ∧
     ∀ ρ σ n0 ps,KS ρ A (dn ++ v :: vs) ps σ → ∃ ρ',KS ρ' A' vs' ps σ ∧ Go2 n0 ρ A σ ρ' A' σ := fun h => by
    obtain ⟨vs',A',h1,h2⟩ := zcq m0 nr h
    refine ⟨_,A',h1,fun ρ σ n0 ps hK => h2 ρ σ n0 ps ?_⟩
    rw [List.append_assoc]; exact hK
   cases n with
   | zero => exact rest h
   | succ sz =>
     unfold zgi at h
     split at h
     ·obtain ⟨vs',A',h1,h2⟩ := zcq m0 nr h
      refine ⟨_,A',h1,fun ρ σ n0 ps hK => ?_⟩
      obtain ⟨pd,p1,rfl,hd,hv⟩ := hK.env.split
      obtain ⟨p,pt,rfl,hv,ht⟩ := VKs.cons_inv hv
      rw [hv.nilsl_eq]
      obtain ⟨m1,m2⟩ := (hK.withEnv (hd.app ht)).more (σ' := σ) (u := .nilsl) (o := .made true (sz + 1) []) (Nat.le_refl _) (fun _ _ => rfl) (fun i hi => by cases hi) ⟨Nat.succ_ne_zero _,rfl,.inl ⟨rfl,rfl⟩⟩ n0
      have hl : A.length < (A ++ [KO.made true (sz + 1) []]).length := by simp
      have hw : VK (upd ρ A.length .nilsl) (A ++ [KO.made true (sz + 1) []]).length (.lsl A.length (sz + 1) 0 0 none) (upd ρ A.length .nilsl A.length) := .whole hl (by rw [xw]; rfl)
      rw [xw] at hw
      obtain ⟨q1,q2,e9,hd',ht'⟩ := m1.env.split
      have hle : q1.length = pd.length := by rw [← hd'.len,← hd.len]
      obtain ⟨rfl,rfl⟩ := List.append_inj e9.symm hle
      obtain ⟨ρ',g1,g2⟩ := h2 _ σ n0 _ (m1.withEnv (by rw [List.append_assoc]; exact hd'.app (.cons hw ht')))
      exact ⟨ρ',g1,m2.trans g2⟩
     ·rename_i j sz' a n
      split at h
      ·rename_i hc
       obtain ⟨hj0,rfl,rfl,rfl⟩ := hc
       split at h
       rotate_left
       ·cases h
       rename_i sz'' es hj
       split at h
       rotate_left
       ·cases h
       rename_i hsz
       subst hsz
       unfold uw at h
       rw [forceVs_eq,xl] at h
       obtain ⟨vs',A',h1,h2⟩ := zcq m0 nr h
       refine ⟨_,A',h1,fun ρ σ n0 ps hK => ?_⟩
       obtain ⟨pd,p1,rfl,hd,hv⟩ := hK.env.split
       obtain ⟨p,pt,rfl,hv,ht⟩ := VKs.cons_inv hv
       obtain ⟨hjl,hh,⟨_,_,_,rfl⟩ | ⟨e,_⟩⟩ := hv.lsl_inv
       rotate_left
       ·cases e
       have hko := hK.get hjl hj
       obtain ⟨ρ1,s1,s2,s3⟩ := (hK.withEnv (hd.app ht)).anew (u := ρ j) (σ' := σ) (new := es) hj n0 hh (Nat.le_refl _) (fun _ _ _ => rfl) (fun i hi => .inl hi) hko
       obtain ⟨q1,q2,e9,hd',ht'⟩ : ∃ q1 q2,pd ++ pt = q1 ++ q2 ∧ VKs ρ1 _ ((rnm.rnms (wo [j]) (dn ++ vs)).take dn.length) q1 ∧ VKs ρ1 _ ((rnm.rnms (wo [j]) (dn ++ vs)).drop dn.length) q2 :=
        ⟨(pd ++ pt).take dn.length,(pd ++ pt).drop dn.length,(List.take_append_drop _ _).symm,s1.env.take _,s1.env.drop _⟩
       have hle : q1.length = pd.length := by
        rw [← hd'.len,List.length_take,ww,List.length_append,← hd.len]; omega
       obtain ⟨rfl,rfl⟩ := List.append_inj e9.symm hle
       obtain ⟨ρ',g1,g2⟩ := h2 _ σ n0 _ (s1.withEnv (by rw [List.append_assoc]; exact hd'.app (.cons s2 ht')))
       exact ⟨ρ',g1,s3.trans g2⟩
      ·exact rest h
     ·rename_i j sz' a n c0
      split at h
      ·rename_i hc
       obtain ⟨rfl,rfl⟩ := hc
       split at h
       rotate_left
       ·cases h
       rename_i ha0
       subst ha0
       split at h
       rotate_left
       ·cases h
       rename_i sz'' es hj
       split at h
       rotate_left
       ·cases h
       rename_i hsz
       subst hsz
       unfold uw at h
       rw [forceVs_eq,xl] at h
       obtain ⟨vs',A',h1,h2⟩ := zcq m0 nr h
       refine ⟨_,A',h1,fun ρ σ n0 ps hK => ?_⟩
       obtain ⟨pd,p1,rfl,hd,hv⟩ := hK.env.split
       obtain ⟨p,pt,rfl,hv,ht⟩ := VKs.cons_inv hv
       obtain ⟨hjl,hh,⟨e,_⟩ | ⟨_,hvo,rfl⟩⟩ := hv.lsl_inv
       ·cases e
       have hko := hK.get hjl hj
       obtain ⟨ρ1,s1,s2,s3⟩ := (hK.withEnv (hd.app ht)).anew (u := zn2 (ρ j) 0 n) (σ' := σ) (new := es.take n) hj n0 (z02 hh) (Nat.le_refl _) (fun _ _ _ => rfl) (fun i hi => .inl (by rwa [zub] at hi)) (KOR.cut hko hvo)
       obtain ⟨q1,q2,e9,hd',ht'⟩ : ∃ q1 q2,pd ++ pt = q1 ++ q2 ∧ VKs ρ1 _ ((rnm.rnms (wo [j]) (dn ++ vs)).take dn.length) q1 ∧ VKs ρ1 _ ((rnm.rnms (wo [j]) (dn ++ vs)).drop dn.length) q2 :=
        ⟨(pd ++ pt).take dn.length,(pd ++ pt).drop dn.length,(List.take_append_drop _ _).symm,s1.env.take _,s1.env.drop _⟩
       have hle : q1.length = pd.length := by
        rw [← hd'.len,List.length_take,ww,List.length_append,← hd.len]; omega
       obtain ⟨rfl,rfl⟩ := List.append_inj e9.symm hle
       obtain ⟨ρ',g1,g2⟩ := h2 _ σ n0 _ (s1.withEnv (by rw [List.append_assoc]; exact hd'.app (.cons s2 ht')))
       exact ⟨ρ',g1,s3.trans g2⟩
      ·exact rest h
     ·exact rest h
theorem zy7 (m0 : Nat) (nr : List Nat) {vs : List PV} {A : List KO} {k : List PV → List KO → Option β} (h : zy8 m0 nr vs A k = some r) : ∃ vs' A',k vs' A' = some r ∧
  ∀ ρ σ n0 ps,KS ρ A vs ps σ → ∃ ρ',KS ρ' A' vs' ps σ ∧ Go2 n0 ρ A σ ρ' A' σ := by
 unfold zy8 at h
 split at h
 ·split at h
  ·rename_i cs vs'
   obtain ⟨ws,A',h1,h2⟩ := zcq m0 nr.tail h
   refine ⟨_,A',h1,fun ρ σ n0 ps hK => ?_⟩
   obtain ⟨p,pt,rfl,hv,ht⟩ := VKs.cons_inv hK.env
   obtain ⟨qs,rfl,hq⟩ := hv.agg_inv
   obtain ⟨ρ',g1,g2⟩ := h2 ρ σ n0 (qs ++ pt) (hK.withEnv (hq.app ht))
   refine ⟨ρ',g1.withEnv (.cons (.agg ?_) ?_),g2⟩
   ·have := g1.env.take cs.length
    rwa [hq.len,List.take_left,← hq.len] at this
   ·have := g1.env.drop cs.length
    rwa [hq.len,List.drop_left,← hq.len] at this
  ·cases h
 ·exact zcq m0 nr h
theorem zua {vs ps : List PV} (h : VKs ρ m vs ps) : VK ρ m (zbq vs) (zbq ps) := by
 match h with
 | .nil => exact .fr (.tuple .nil)
 | .cons h .nil => exact h
 | .cons h (.cons h' t) => exact .tuple (.cons h (.cons h' t))
end
theorem zuh {c : Cfg} {kc : KCfg} {C : yu} {L : yx} (hC : zbt C (jo c)) (hL : zoi L (zbw c)) (hO : OwnOk kc c.P (jo c)) : zbt (yw c kc C L) (jo c) := by
 intro g args A r A' h ρ pargs σ hK
 unfold yw at h
 split at h
 ·cases h
 rename_i htold
 have hT : c.told g = none := by
  cases hq : c.told g with
  | none => rfl
  | some u => rw [hq] at htold; exact absurd rfl htold
 split at h
 ·rename_i fn hf
  split at h
  ·rename_i cd hcd
   obtain ⟨x,e,A1,h1,_,h2⟩ := uz hC hL hO cd h
   have hent : VKs ρ A.length (zen fn args) (zen fn pargs) := by
    unfold zen
    rw [← hK.env.len]
    refine hK.env.app (.of (All2.replicate (.undef _) _))
   obtain ⟨penv',σ',ρ1,g1,g2,g3⟩ := h2 ρ _ σ (hK.withEnv hent)
   have fin : ∀ {vs : List PV},(zy8 A.length (kc.nret g) vs A1 fun vs A2 => zea (List.range A.length) [zbq vs] A2 fun e A => xe e fun v _ => some (v,A)) = some (r,A') → (∃ ps,qc c.P σ' penv' fn.results.toList = some ps ∧ VKs ρ1 A1.length vs ps) → (x = .normal ∨ x = .ret) → ∃ p σ'' ρ',jo c g pargs σ = some (p,σ'') ∧ KS ρ' A' [r] [p] σ'' ∧ Go2 A.length ρ A σ ρ' A' σ'' := by
    intro vs hp0 ⟨ps,hps,hvs⟩ hx
    obtain ⟨vs1,A3,hp,hnl⟩ := zy7 _ _ hp0
    obtain ⟨ρ3,n1,n2⟩ := hnl ρ1 σ' A.length ps (g2.withEnv hvs)
    obtain ⟨e2,A2,q1,q2,q3⟩ := zhx hp
    obtain ⟨ρ2,q4,q5⟩ := q3 ρ3 [zbq ps] σ' (n1.withEnv (.one (zua n1.env)))
    unfold xe at q1
    split at q1
    ·rename_i v0 e3
     cases q1
     have h30 : e3 = [] := by
      have : e3.length + 1 = 1 := q2
      exact List.eq_nil_of_length_eq_zero (by omega)
     subst h30
     refine ⟨zbq ps,σ',ρ2,?_,q4,(g3.trans n2).trans q5⟩
     refine zr2 hT ?_
     unfold zbv
     rw [hT]
     simp only [hf,hcd,g1,Option.bind_some,hps,Option.map_some]
     rcases hx with rfl | rfl <;> rfl
    ·cases q1
   cases x with
   | exit i => cases h1
   | normal =>
     obtain ⟨vs,h3,h4⟩ := zgq _ h1
     exact fin h3 (h4 ρ1 penv' σ' g2) (.inl rfl)
   | ret =>
     obtain ⟨vs,h3,h4⟩ := zgq _ h1
     exact fin h3 (h4 ρ1 penv' σ' g2) (.inr rfl)
  ·cases h
 ·cases h
theorem zsk {c : Cfg} {kc : KCfg} {C : yu} {L : yx} (hC : zbt C (jo c)) (hL : zoi L (zbw c)) (hO : OwnOk kc c.P (jo c)) : zoi (yy c kc C L) (zbw c) := by
 intro f cd n0 env A x env' A' h ρ penv σ hK
 unfold yy at h
 obtain ⟨x0,e,A1,h1,hl1,h2⟩ := uz hC hL hO cd h
 obtain ⟨penv1,σ1,ρ1,g1,g2,g3⟩ := h2 ρ penv σ hK
 have hlen := hK.env.len
 have hout : ∀ n y,VKs ρ1 A1.length (zmg c f cd y n e) (zmg c f cd y n penv1) := fun n y => by
  unfold zmg
  split
  ·exact zll g2.env _ _
  ·exact g2.env
 have hhead : ∀ n,VKs ρ1 A1.length (zcd c f cd n e) (zcd c f cd n penv1) := fun n => by
  unfold zcd
  split
  ·exact zll g2.env _ _
  ·exact g2.env
 unfold z3h at h1
 split at h1
 ·obtain ⟨e2,A2,q1,_,q2⟩ := znp h1
  obtain ⟨ρ2,q3,q4⟩ := q2 ρ1 _ σ1 (g2.withEnv (hhead env.length))
  obtain ⟨penv3,σ3,ρ3,q5,q6,q7⟩ := hL f cd n0 e2 A2 x env' A' q1 ρ2 _ σ1 q3
  refine ⟨penv3,σ3,ρ3,?_,q6,(g3.trans q4).trans q7⟩
  refine zri ?_
  unfold zbu
  simp only [g1,Option.bind_some,← hlen]
  exact q5
 ·rename_i y hy
  obtain ⟨e2,A2,q1,_,q2⟩ := zhx h1
  cases q1
  obtain ⟨ρ2,q3,q4⟩ := q2 ρ1 _ σ1 (g2.withEnv (hout env.length x))
  refine ⟨zmg c f cd x env.length penv1,σ1,ρ2,?_,q3,g3.trans q4⟩
  refine zri ?_
  unfold zbu
  simp only [g1,Option.bind_some,← hlen]
theorem zmt {c : Cfg} {kc : KCfg} (hO : OwnOk kc c.P (jo c)) : ∀ n,zbt (kb c kc n) (jo c) ∧ zoi (loopNK c kc n) (zbw c)
 | 0 => ⟨(fun g args A r A' h => by cases h),(fun f cd n0 env A x env' A' h => by cases h)⟩
 | n + 1 => ⟨by unfold kb; exact zuh (zmt hO n).1 (zmt hO n).2 hO,by unfold loopNK; exact zsk (zmt hO n).1 (zmt hO n).2 hO⟩
end Go.Pvm
namespace Go.Pvm
section
variable {β γ : Type} {κ : γ → Option β}
def s2 {X Y : Type} (x : X) (y : Y) : Option (X × Y) := some (x,y)
def s3 {X Y Z : Type} (x : X) (y : Y) (z : Z) : Option (X × Y × Z) := some (x,y,z)
theorem zqd (i : IntKind) (v : PV) {g : Int → Option β} {f : Int → Option γ} (h : ∀ n,g n = (f n).bind κ) : asInt i v g = (asInt i v f).bind κ := by
 unfold asInt; split
 ·split
  ·exact h _
  ·rfl
 ·rfl
theorem zr8 (v : PV) {g : Bool → Option β} {f : Bool → Option γ} (h : ∀ n,g n = (f n).bind κ) : asBool v g = (asBool v f).bind κ := by
 unfold asBool; split
 ·exact h _
 ·rfl
theorem zxx (v : PV) {g : ByteArray → Option β} {f : ByteArray → Option γ} (h : ∀ n,g n = (f n).bind κ) : zqb v g = (zqb v f).bind κ := by
 unfold zqb; split
 ·exact h _
 ·rfl
theorem z4c (i : FloatKind) (v : PV) {g : Nat → Option β} {f : Nat → Option γ} (h : ∀ n,g n = (f n).bind κ) : zev i v g = (zev i v f).bind κ := by
 unfold zev; split
 ·split
  ·exact h _
  ·rfl
 ·rfl
theorem z71 (v : PV) {g : List (List PV) → Option β} {f : List (List PV) → Option γ} (h : ∀ n,g n = (f n).bind κ) : qj v g = (qj v f).bind κ := by
 unfold qj; split <;> first | exact h _ | rfl
theorem zqc (d : Option TypeDesc) (v : PV) {g : PV → Option β} {f : PV → Option γ} (h : ∀ n,g n = (f n).bind κ) : asK d v g = (asK d v f).bind κ := by
 unfold asK
 split
 ·exact zqd _ _ fun _ => h _
 ·exact zr8 _ fun _ => h _
 ·exact zxx _ fun _ => h _
 ·exact h _
theorem ve {c : Prop} [Decidable c] {a b : Option β} {a' b' : Option γ} (h : a = a'.bind κ) (h' : b = b'.bind κ) : (if c then a else b) = (if c then a' else b').bind κ := by
 split <;> assumption
theorem jd {c : Prop} [Decidable c] {a : Option β} {a' : Option γ} (h : a = a'.bind κ) : (if c then a else none) = (if c then a' else none).bind κ := ve h rfl
theorem xb {X : Type} (o : Option X) {g : X → Option β} {f : X → Option γ} (h : ∀ x,g x = (f x).bind κ) : o.bind g = (o.bind f).bind κ := by
 cases o with
 | none => rfl
 | some x => exact h x
mutual
theorem zoc : ∀ (s : Sk) (v : PV) {g : PV → Option β} {f : PV → Option γ} (h : ∀ n,g n = (f n).bind κ),asSk s v g = (asSk s v f).bind κ
 | .any,v,_,_,h => h _
 | .drop,v,_,_,h => h _
 | .bool,v,_,_,h => zr8 _ fun _ => h _
 | .str,v,_,_,h => zxx _ fun _ => h _
 | .psl,v,_,_,h => z71 _ fun _ => h _
 | .int i,v,_,_,h => zqd _ _ fun _ => h _
 | .flt i,v,_,_,h => z4c _ _ fun _ => h _
 | .ref a b c,v,_,_,h => by
   unfold asSk xo; split
   ·exact jd (h _)
   ·rfl
 | .whole a b,v,_,_,h => by
   unfold asSk xq; split
   ·exact jd (h _)
   ·rfl
 | .agg l,v,_,_,h => by
   unfold asSk asAgg; split
   ·exact asSks_b l _ fun _ => h _
   ·rfl
 | .tup l,v,_,_,h => by
   unfold asSk x9; split
   ·exact asSks_b l _ fun _ => h _
   ·rfl
 | .view a b,v,_,_,h => by
   unfold asSk zkk; split
   ·exact jd (h _)
   ·rfl
 | .wv a b,v,_,_,h => by
   unfold asSk zx5; split
   ·exact jd (h _)
   ·exact jd (h _)
   ·rfl
 | .fn a l,v,_,_,h => by
   unfold asSk z1d; split
   ·exact jd (asSks_b l _ fun _ => h _)
   ·rfl
 | .pref l,v,_,_,h => by
   unfold asSk zr7; split
   ·exact asSks_b l _ fun _ => h _
   ·rfl
theorem asSks_b : ∀ (l : List Sk) (cs : List PV) {g : List PV → Option β} {f : List PV → Option γ} (h : ∀ n,g n = (f n).bind κ),asSk.asSks l cs g = (asSk.asSks l cs f).bind κ
 | [],cs,_,_,h => by
   unfold asSk.asSks yq; split
   ·exact h _
   ·rfl
 | s :: l,cs,_,_,h => by
   unfold asSk.asSks xe; split
   ·exact zoc s _ fun _ => asSks_b l _ fun _ => h _
   ·rfl
end
variable {P : Program} {A : List KO} {env : List PV}
theorem zo4 (A : List KO) (x : PV) {g : List (List PV) → Option β} {f : List (List PV) → Option γ} (h : ∀ n,g n = (f n).bind κ) : zmz A x g = (zmz A x f).bind κ := by
 unfold zmz
 split <;> first | exact h _ | rfl | skip
 split
 ·split <;> exact h _
 ·rfl
theorem z29 (A : List KO) (x : PV) {g : Nat → Option β} {f : Nat → Option γ} (h : ∀ n,g n = (f n).bind κ) : zs1 A x g = (zs1 A x f).bind κ := by
 unfold zs1
 split <;> first | exact h _ | rfl | skip
 split
 ·exact h _
 ·split
  ·exact h _
  ·rfl
theorem zzn (t : TypeId) (a : PV) {g : PV → Option β} {f : PV → Option γ} (h : ∀ n,g n = (f n).bind κ) : zih P A t a g = (zih P A t a f).bind κ := by
 unfold zih
 split
 ·exact xb _ h
 ·split
  ·exact jd (xb _ h)
  ·exact xb _ fun _ => xb _ fun _ => zoc _ _ h
  ·rfl
 ·rfl
theorem zuf (t : TypeId) (a v : PV) {g : List KO → Option β} {f : List KO → Option γ} (h : ∀ n,g n = (f n).bind κ) : ze1 P A t a v g = (ze1 P A t a v f).bind κ := by
 unfold ze1
 simp only [xl]
 split
 ·refine xb _ fun _ => ?_
  split
  ·exact jd (h _)
  ·exact jd (jd (h _))
  ·rfl
 ·rfl
theorem zzq (l : List Nat) (env : List PV) (A : List KO) {g : List PV → List KO → Option β} {f : List PV → List KO → Option γ} (h : ∀ n A,g n A = (f n A).bind κ) : uw l env A g = (uw l env A f).bind κ := by
 unfold uw
 simp only [forceVs_eq,xl]
 exact h _ _
theorem zx1 (el : TypeId) (s x : PV) {g : PV → List PV → List KO → Option β} {f : PV → List PV → List KO → Option γ} (h : ∀ n e A,g n e A = (f n e A).bind κ) : zog P el s x env A g = (zog P el s x env A f).bind κ := by
 unfold zog
 refine xb _ fun _ => xb _ fun _ => xb _ fun _ => zo4 _ _ fun _ => ?_
 refine ve rfl (ve rfl ?_)
 split
 ·exact jd (h _ _ _)
 ·split
  ·exact jd (jd (zzq _ _ _ fun _ _ => h _ _ _))
  ·rfl
 ·rfl
theorem z06 (s d : TypeId) (x : PV) {g : PV → Option β} {f : PV → Option γ} (h : ∀ n,g n = (f n).bind κ) : zke P A s d x g = (zke P A s d x f).bind κ := by
 unfold zke
 split
 ·split
  ·exact ve rfl (zo4 _ _ fun _ => xb _ fun _ => h _)
  ·rfl
 ·exact jd (xb _ h)
theorem z3x (t : TypeId) (x : PV) (lo hi mx : Option PV) {g : PV → Option β} {f : PV → Option γ} (h : ∀ n,g n = (f n).bind κ) : zto P A t x lo hi mx g = (zto P A t x lo hi mx f).bind κ := by
 unfold zto
 refine ve rfl ?_
 split
 ·exact xb _ h
 ·exact xb _ h
 ·exact xb _ fun _ => xb _ fun _ => xb _ fun _ => jd (jd (h _))
 ·refine xb _ fun _ => ve rfl ?_
  split
  ·refine ve rfl ?_
   split
   ·exact xb _ fun _ => xb _ fun _ => jd (h _)
   ·exact xb _ fun _ => xb _ fun _ => jd (h _)
  ·rfl
 ·exact xb _ fun _ => xb _ fun _ => xb _ fun _ => jd (h _)
 ·rfl
theorem zkr (i : Int) (n : Nat) {g : Nat → Option β} {f : Nat → Option γ} (h : ∀ m,g m = (f m).bind κ) : ∀ r,zfq i n g r = (zfq i n f r).bind κ
 | 0 => rfl
 | r + 1 => by unfold zfq; exact ve (h _) (zkr i n h r)
theorem zwo (t ty : TypeId) (x i : PV) {g : PV → Option β} {f : PV → Option γ} (h : ∀ n,g n = (f n).bind κ) : zfk P t ty x i g = (zfk P t ty x i f).bind κ := by
 unfold zfk
 split
 ·split
  ·exact xb _ fun _ => xb _ fun _ => zkr _ _ (fun _ => xb _ fun _ => zqc _ _ h) _
  ·rfl
 ·exact xb _ fun _ => zqc _ _ h
theorem z3e (t : TypeId) (x i : PV) {g : PV → Option β} {f : PV → Option γ} (h : ∀ n,g n = (f n).bind κ) : zs7 P A t x i g = (zs7 P A t x i f).bind κ := by
 unfold zs7
 refine xb _ fun _ => ?_
 split
 ·refine xb _ fun _ => ?_
  split
  ·exact jd (xb _ fun _ => asSks_b _ _ fun _ => jd (h _))
  ·refine ve rfl ?_
   split
   ·refine ve rfl ?_
    split
    ·exact jd (h _)
    ·exact jd (h _)
   ·rfl
  ·rfl
 ·refine xb _ fun _ => zkr _ _ (fun _ => ?_) _
  split <;> first | exact h _ | rfl
 ·rfl
theorem zy2 (l : List Nat) (env : List PV) (A : List KO) {g : List PV → List KO → Option β} {f : List PV → List KO → Option γ} (h : ∀ n A,g n A = (f n A).bind κ) : zea l env A g = (zea l env A f).bind κ := by
 unfold zea
 simp only [j9,forceVs_eq,xl]
 exact jd (h _ _)
theorem zrw (n0 : Nat) (tys : List (Nat × TypeId)) (wk : List Nat × List Nat) (env : List PV) (A : List KO) {g : List PV → List KO → Option β} {f : List PV → List KO → Option γ} (h : ∀ n A,g n A = (f n A).bind κ) : zel P n0 tys wk env A g = (zel P n0 tys wk env A f).bind κ := by
 unfold zel
 simp only [forceVs_eq,xl]
 exact zy2 _ _ _ fun _ _ => h _ _
theorem z4b (s : OSk) (o : KO) {g : KO → Option β} {f : KO → Option γ} (h : ∀ n,g n = (f n).bind κ) : ztx s o g = (ztx s o f).bind κ := by
 unfold ztx
 split
 ·unfold zkl; split
  ·rfl
  ·exact h _
 ·unfold zof; split
  ·exact jd (asSks_b _ _ fun _ => h _)
  ·rfl
 ·unfold zgd; split
  ·exact jd (h _)
  ·rfl
theorem zg7 : ∀ (s : List OSk) (l : List KO) {g : List KO → Option β} {f : List KO → Option γ} (h : ∀ n,g n = (f n).bind κ),zaj s l g = (zaj s l f).bind κ
 | [],l,_,_,h => by
   unfold zaj yt; split
   ·exact h _
   ·rfl
 | s :: sr,l,_,_,h => by
   unfold zaj zds; split
   ·exact z4b s _ fun _ => zg7 sr _ fun _ => h _
   ·rfl
theorem zmd (sk : List (Nat × Sk)) (m : List Nat) (e : List PV) : ∀ (is : List Nat) {g : List PV → Option β} {f : List PV → Option γ} (h : ∀ n,g n = (f n).bind κ),zgk sk m e is g = (zgk sk m e is f).bind κ
 | [],_,_,h => h _
 | i :: is,_,_,h => by
   unfold zgk
   split
   ·exact zoc _ _ fun _ => zmd sk m e is fun _ => h _
   ·exact zmd sk m e is fun _ => h _
theorem zzo (kc : KCfg) (C : yu) (n : FuncId) (args : List PV) {g : PV → List PV → List KO → Option β} {f : PV → List PV → List KO → Option γ} (h : ∀ n e A,g n e A = (f n e A).bind κ) : zf9 kc C n args env A g = (zf9 kc C n args env A f).bind κ := by
 unfold zf9
 simp only [j9,forceVs_eq,xl,jx]
 exact jd (xb _ fun _ => zoc _ _ fun _ => zg7 _ _ fun _ => jd (h _ _ _))
theorem zg8 (l : List PV) {g : PV → List PV → Option β} {f : PV → List PV → Option γ} (h : ∀ a b,g a b = (f a b).bind κ) : xe l g = (xe l f).bind κ := by
 unfold xe
 split
 ·exact h _ _
 ·rfl
theorem zxy (l : List PV) {g : Option β} {f : Option γ} (h : g = f.bind κ) : yq l g = (yq l f).bind κ := by
 unfold yq
 split
 ·exact h
 ·rfl
theorem zk6 (A : List KO) (d : PV) (sz : Nat) {g : Nat → List (List PV) → Nat → Nat → Option β} {f : Nat → List (List PV) → Nat → Nat → Option γ} (h : ∀ a b c d,g a b c d = (f a b c d).bind κ) : zc6 A d sz g = (zc6 A d sz f).bind κ := by
 unfold zc6
 split
 ·refine ve rfl ?_
  split
  ·refine ve rfl ?_
   split <;> exact h _ _ _ _
  ·rfl
 ·rfl
theorem zyc (u : Word) (args : List PV) {g : PV → List PV → List KO → Option β} {f : PV → List PV → List KO → Option γ} (h : ∀ n e A,g n e A = (f n e A).bind κ) : zqn P u args env A g = (zqn P u args env A f).bind κ := by
 cases u with
 | insert t =>
   show zs4 P t args env A g = (zs4 P t args env A f).bind κ
   unfold zs4
   refine zg8 _ fun s l => zg8 _ fun i l => zg8 _ fun x l => zxy _ (zqd _ _ fun i => ?_)
   split
   ·refine xb _ fun _ => xb _ fun _ => xb _ fun _ => ve rfl ?_
    split
    ·split
     ·refine jd ?_
      split
      ·exact jd (jd (h _ _ _))
      ·split
       ·refine jd ?_
        split
        ·refine jd (jd (jd ?_))
         unfold uw
         simp only [forceVs_eq,xl]
         exact h _ _ _
        ·rfl
       ·split
        ·refine jd (jd (jd ?_))
         unfold uw
         simp only [forceVs_eq,xl]
         exact h _ _ _
        ·rfl
      ·rfl
     ·rfl
    ·rfl
   ·rfl
 | sort =>
   show zsn args env A g = (zsn args env A f).bind κ
   unfold zsn
   refine zg8 _ fun s l => zxy _ ?_
   split
   ·exact h _ _ _
   ·exact zk6 _ _ _ fun _ _ _ _ => jd (xb _ fun _ => h _ _ _)
theorem z08 (c : Cfg) (kc : KCfg) (C : yu) (n : FuncId) (args : List PV) (ty : TypeId) {g : PV → List PV → List KO → Option β} {f : PV → List PV → List KO → Option γ} (h : ∀ n e A,g n e A = (f n e A).bind κ) : zbs c kc C n args ty env A g = (zbs c kc C n args ty env A f).bind κ := by
 unfold zbs
 simp only [forceVs_eq]
 refine ve ?_ (jd (xb _ fun _ => h _ _ _))
 split
 ·exact xb _ fun _ => zoc _ _ fun _ => ve (h _ _ _) (ve rfl (ve (jd (h _ _ _)) (xb _ fun _ => h _ _ _)))
 ·split
  ·exact xb _ fun _ => h _ _ _
  ·rfl
 ·split
  ·exact zyc _ _ h
  ·exact zzo _ _ _ _ h
 ·rfl
theorem z36 (b : Builtin) (ts : List TypeId) (args : List PV) (ty : TypeId) {g : PV → List PV → List KO → Option β} {f : PV → List PV → List KO → Option γ} (h : ∀ n e A,g n e A = (f n e A).bind κ) : ztw P b ts args ty env A g = (ztw P b ts args ty env A f).bind κ := by
 unfold ztw
 split
 ·split
  ·split
   ·exact h _ _ _
   ·rfl
  ·exact ve rfl (z29 _ _ fun _ => h _ _ _)
  ·rfl
 ·exact jd (xb _ fun _ => zqc _ _ fun _ => h _ _ _)
 ·exact jd (xb _ fun _ => zqc _ _ fun _ => h _ _ _)
 ·split
  ·exact ve rfl (zx1 _ _ _ h)
  ·exact jd (zx1 _ _ _ h)
  ·rfl
 ·split
  ·exact xb _ fun _ => zo4 _ _ fun _ => ve rfl (zk6 _ _ _ fun _ _ _ _ => h _ _ _)
  ·rfl
 ·split
  ·exact xb _ fun _ => xb _ fun _ => ve rfl (zk6 _ _ _ fun _ _ _ _ => h _ _ _)
  ·rfl
 ·rfl
theorem z1x (c : Cfg) (kc : KCfg) (C : yu) (o : Oper) {g : PV → List PV → List KO → Option β} {f : PV → List PV → List KO → Option γ} (h : ∀ n e A,g n e A = (f n e A).bind κ) : zh0 c kc C env A o g = (zh0 c kc C env A o f).bind κ := by
 obtain ⟨dst,op,type,pos,after,guard⟩ := o
 unfold zh0
 cases op <;> simp only [jx]
 case move x => exact h _ _ _
 case assign x => exact h _ _ _
 case pick cd a b =>
  split
  ·exact ve (h _ _ _) (h _ _ _)
  ·rfl
 case alloc el => exact xb _ fun _ => jd (h _ _ _)
 case box el x => exact jd (h _ _ _)
 case build t ps => exact xb _ fun _ => h _ _ _
 case buildSlice t n ps =>
  split
  ·exact xb _ fun _ => xb _ fun _ => jd (xb _ fun _ => jd (h _ _ _))
  ·rfl
 case load t a => exact ve (xb _ fun _ => h _ _ _) (zzn _ _ fun _ => h _ _ _)
 case store t a x => exact zuf _ _ _ fun _ => h _ _ _
 case nilCheck x => exact xb _ fun _ => h _ _ _
 case binOp op t x y ty => exact xb _ fun _ => zqc _ _ fun _ => h _ _ _
 case unOp op t x => exact xb _ fun _ => zqc _ _ fun _ => h _ _ _
 case convert s d x => exact z06 _ _ _ fun _ => zqc _ _ fun _ => h _ _ _
 case makeFunc fn fs cs =>
  cases fn <;> simp only
  case func f => exact jd (h _ _ _)
  all_goals rfl
 case makeSlice t l cp =>
  split
  ·exact xb _ fun _ => xb _ fun _ => xb _ fun _ => jd (jd (h _ _ _))
  ·rfl
 case slice t x lo hi mx => exact z3x _ _ _ _ _ fun _ => h _ _ _
 case fieldAddr s x f => exact xb _ fun _ => h _ _ _
 case field s x f => exact xb _ fun _ => h _ _ _
 case indexAddr t x i => exact z3e _ _ _ fun _ => h _ _ _
 case index t x i => exact zwo _ _ _ _ fun _ => h _ _ _
 case extract x i => exact xb _ fun _ => h _ _ _
 case call cl =>
  obtain ⟨callee,args,ts⟩ := cl
  cases callee <;> simp only
  case builtin b => exact z36 _ _ _ _ h
  case value x => exact xb _ fun _ => z08 _ _ _ _ _ _ h
  case invoke x m => rfl
 all_goals rfl
theorem zlb (c : Cfg) (kc : KCfg) (C : yu) (all : List Oper) : ∀ (l : List Oper) (env : List PV) (A : List KO) {g : List PV → List KO → Option β} {f : List PV → List KO → Option γ} (h : ∀ n A,g n A = (f n A).bind κ),kd c kc C all l env A g = (kd c kc C all l env A f).bind κ
 | [],_,_,_,_,h => h _ _
 | o :: l,env,A,g,f,h => by
   have go : ∀ (env : List PV),(zh0 c kc C env A o fun v env A => zfs env o.dst v fun e => kd c kc C all l e A g) = (zh0 c kc C env A o fun v env A => zfs env o.dst v fun e => kd c kc C all l e A f).bind κ := fun env => by
    simp only [wm]
    exact z1x _ _ _ _ fun _ _ _ => zlb c kc C all l _ _ h
   have no : ∀ (env : List PV),(zfs env o.dst (.tuple []) fun e => kd c kc C all l e A g) = (zfs env o.dst (.tuple []) fun e => kd c kc C all l e A f).bind κ := fun env => by
    simp only [wm]
    exact zlb c kc C all l _ _ h
   unfold kd
   split
   ·exact go env
   ·split
    ·rfl
    ·split
     ·simp only [uo]
      exact ve (ve (go _) (no _)) (ve (go _) (no _))
     ·exact no _
     ·rfl
theorem zn4 : ∀ (l : List Nat) (e : List PV) (A : List KO) {g : List PV → List KO → Option β} {f : List PV → List KO → Option γ} (h : ∀ n A,g n A = (f n A).bind κ),zdr l e A g = (zdr l e A f).bind κ
 | [],_,_,_,_,h => h _ _
 | t :: l,e,A,g,f,h => by
   unfold zdr
   simp only [jx,uo,xl]
   exact jd (xb _ fun _ => zn4 l _ _ h)
theorem zvc (c : Cfg) (n : FuncId) (id : Nat) (env : List PV) (A : List KO) {g : Bool → List PV → List KO → Option β} {f : Bool → List PV → List KO → Option γ} (h : ∀ b n A,g b n A = (f b n A).bind κ) : zm2 c n id env A g = (zm2 c n id env A f).bind κ := by
 unfold zm2
 split
 ·exact h _ _ _
 ·exact zn4 _ _ _ fun _ _ => h _ _ _
theorem z5q (x : Ex) {e : Nat → Option γ} {r : Option γ} {e' : Nat → Option β} {r' : Option β} (he : ∀ i,e' i = (e i).bind κ) (hr : r' = r.bind κ) : j8 x e' r' = (j8 x e r).bind κ := by
 cases x with
 | normal => rfl
 | exit i => exact he i
 | ret => exact hr
theorem zcw (c : Cfg) (kc : KCfg) (C : yu) (L : yx) (n : FuncId) (n0 : Nat) : ∀ (cd : Code) (env : List PV) (A : List KO) {g : Ex → List PV → List KO → Option β} {f : Ex → List PV → List KO → Option γ} (h : ∀ x e A,g x e A = (f x e A).bind κ),xz c kc C L n n0 cd env A g = (xz c kc C L n n0 cd env A f).bind κ
 | .skip,_,_,_,_,h | .label _,_,_,_,_,h | .exit _,_,_,_,_,h | .ret,_,_,_,_,h => h _ _ _
 | .region id ops draw,env,A,g,f,h => by
   simp only [xz]
   exact zvc _ _ _ _ _ fun _ _ _ => ve (jd (zlb _ _ _ _ _ _ _ fun _ _ => h _ _ _)) (zlb _ _ _ _ _ _ _ fun _ _ => h _ _ _)
 | .seq a b,env,A,g,f,h => by
   simp only [xz]
   refine zcw c kc C L n n0 a _ _ fun x e s => ?_
   cases x with
   | normal => exact zcw c kc C L n n0 b _ _ h
   | exit i => exact h _ _ _
   | ret => exact h _ _ _
 | .cond cd a b,env,A,g,f,h => by
   simp only [xz]
   split
   ·rename_i t ht
    split
    ·rename_i htt
     subst htt
     rw [zao ht,zao ht]
     exact zcw c kc C L n n0 a _ _ h
    ·rename_i htt
     have htf : t = false := by simpa using htt
     subst htf
     rw [zao ht,zao ht]
     exact zcw c kc C L n n0 b _ _ h
   ·rfl
 | .block id cd,env,A,g,f,h => by
   simp only [xz]
   refine zcw c kc C L n n0 cd _ _ fun x e s => ?_
   cases x with
   | normal => exact h _ _ _
   | exit i => exact ve (h _ _ _) (h _ _ _)
   | ret => exact h _ _ _
 | .loop cd,env,A,g,f,h => by
   simp only [xz]
   split
   ·refine zrw _ _ _ _ _ fun _ _ => xb _ fun _ => z5q _ (fun i => jd (zmd _ _ _ _ fun _ => zg7 _ _ fun _ => h _ _ _)) ?_
    split
    ·rfl
    ·exact zmd _ _ _ _ fun _ => zg7 _ _ fun _ => h _ _ _
   ·rfl
 | .rangeFunc ..,_,_,_,_,_ | .scope _,_,_,_,_,_ | .goto _,_,_,_,_,_ | .refuse _,_,_,_,_,_ => by simp only [xz]; rfl
theorem zgy (c : Cfg) (kc : KCfg) (C : yu) (o : Oper) (k : PV → List PV → List KO → Option β) : zh0 c kc C env A o k = (zh0 c kc C env A o s3).bind fun x => k x.1 x.2.1 x.2.2 := z1x c kc C o fun _ _ _ => rfl
theorem zb6 (c : Cfg) (n : FuncId) (id : Nat) (env : List PV) (A : List KO) (k : Bool → List PV → List KO → Option β) : zm2 c n id env A k = (zm2 c n id env A s3).bind fun x => k x.1 x.2.1 x.2.2 := zvc c n id env A fun _ _ _ => rfl
theorem k8 (n0 : Nat) (tys : List (Nat × TypeId)) (wk : List Nat × List Nat) (env : List PV) (A : List KO) (k : List PV → List KO → Option β) : zel P n0 tys wk env A k = (zel P n0 tys wk env A s2).bind fun x => k x.1 x.2 := zrw n0 tys wk env A fun _ _ => rfl
theorem x5 (c : Cfg) (kc : KCfg) (C : yu) (L : yx) (n : FuncId) (n0 : Nat) (cd : Code) (env : List PV) (A : List KO) (k : Ex → List PV → List KO → Option β) : xz c kc C L n n0 cd env A k = (xz c kc C L n n0 cd env A s3).bind fun x => k x.1 x.2.1 x.2.2 := zcw c kc C L n n0 cd env A fun _ _ _ => rfl
end
end Go.Pvm
namespace Go.Pvm
def zx4 (C C' : yu) : Prop := ∀ f a A r,C f a A = some r → C' f a A = some r
def z4l (L L' : yx) : Prop := ∀ f cd n e A r,L f cd n e A = some r → L' f cd n e A = some r
section
variable {β : Type} {r : β} {A : List KO} {env : List PV} {c : Cfg} {kc : KCfg} {C C' : yu} {L L' : yx} {f : FuncId} {n0 : Nat}
theorem zsw (hC : zx4 C C') {g : FuncId} {args : List PV} {v : PV} (h : yo C g args = some v) : yo C' g args = some v := by
 unfold yo at h ⊢
 rw [Option.map_eq_some_iff] at h
 obtain ⟨q,h1,h2⟩ := h
 rw [hC _ _ _ _ h1,Option.map_some,h2]
theorem zpb (hC : zx4 C C') {g : FuncId} {args : List PV} {v : PV} (h : zd8 kc C g args = some v) : zd8 kc C' g args = some v := by
 unfold zd8 at h ⊢
 split at h
 ·exact h
 ·exact zsw hC h
theorem zp6 (hC : zx4 C C') {g : FuncId} {args : List PV} {ty : TypeId} {k : PV → List PV → List KO → Option β} (h : zbs c kc C g args ty env A k = some r) : zbs c kc C' g args ty env A k = some r := by
 unfold zbs at h ⊢
 simp only [forceVs_eq] at h ⊢
 split at h
 ·rename_i he
  rw [if_pos he]
  split at h
  ·rename_i hm
   rw [Option.bind_eq_some_iff] at h
   obtain ⟨v,h1,h2⟩ := h
   rw [zpb hC h1]
   exact h2
  ·exact h
  ·rename_i hm
   split at h
   ·exact h
   unfold zf9 at h ⊢
   simp only [j9,forceVs_eq,xl,jx] at h ⊢
   split at h
   ·rename_i hq
    rw [if_pos hq]
    rw [Option.bind_eq_some_iff] at h
    obtain ⟨v,h1,h2⟩ := h
    rw [hC _ _ _ _ h1]
    exact h2
   ·cases h
  ·exact h
 ·rename_i he
  rw [if_neg he]
  exact h
theorem zm5 (hC : zx4 C C') {o : Oper} {k : PV → List PV → List KO → Option β} (h : zh0 c kc C env A o k = some r) : zh0 c kc C' env A o k = some r := by
 obtain ⟨dst,op,type,pos,after,guard⟩ := o
 cases op
 case call cl =>
  obtain ⟨callee,args,ts⟩ := cl
  cases callee
  case value x =>
   unfold zh0 at h ⊢
   simp only [Option.bind_eq_some_iff] at h ⊢
   obtain ⟨q,h1,h2⟩ := h
   exact ⟨q,h1,zp6 hC h2⟩
  all_goals exact h
 case makeFunc fn fs cs => cases fn <;> exact h
 all_goals exact h
theorem zav (hC : zx4 C C') {all : List Oper} : ∀ (l : List Oper) {env : List PV} {A : List KO} {k : List PV → List KO → Option β},kd c kc C all l env A k = some r → kd c kc C' all l env A k = some r
 | [],_,_,_,h => h
 | o :: l,env,A,k,h => by
   have go : ∀ {env : List PV},(zh0 c kc C env A o fun v env A => zfs env o.dst v fun e => kd c kc C all l e A k) = some r → (zh0 c kc C' env A o fun v env A => zfs env o.dst v fun e => kd c kc C' all l e A k) = some r := fun h => by
    rw [zgy,Option.bind_eq_some_iff] at h
    obtain ⟨x,h1,h2⟩ := h
    rw [zgy,zm5 hC h1]
    simp only [Option.bind_some]
    rw [wm] at h2 ⊢
    exact zav hC l h2
   have no : ∀ {env : List PV},(zfs env o.dst (.tuple []) fun e => kd c kc C all l e A k) = some r → (zfs env o.dst (.tuple []) fun e => kd c kc C' all l e A k) = some r := fun h => by
    rw [wm] at h ⊢
    exact zav hC l h
   unfold kd at h ⊢
   split at h
   ·rename_i hg
    (try rw [hg])
    exact go h
   ·rename_i g w hg
    (try rw [hg])
    simp only [uo] at h ⊢
    split at h
    ·cases h
    ·rename_i d hd
     (try rw [hd])
     (try simp only)
     split at h
     ·rename_i b hb
      (try simp only [hb])
      split at h
      ·rename_i hbt
       (try rw [if_pos hbt])
       split at h
       ·rename_i hw; (try rw [if_pos hw]); exact go h
       ·rename_i hw; (try rw [if_neg hw]); exact no h
      ·rename_i hbt
       (try rw [if_neg hbt])
       split at h
       ·rename_i hw; (try rw [if_pos hw]); exact go h
       ·rename_i hw; (try rw [if_neg hw]); exact no h
     ·rename_i vs hb
      (try simp only [hb])
      exact no h
     ·cases h
theorem jy (hC : zx4 C C') (hL : z4l L L') : ∀ (cd : Code) {β : Type} {r : β} {env : List PV} {A : List KO} {k : Ex → List PV → List KO → Option β},xz c kc C L f n0 cd env A k = some r → xz c kc C' L' f n0 cd env A k = some r
 | .skip,_,_,_,_,_,h | .label _,_,_,_,_,_,h | .exit _,_,_,_,_,_,h | .ret,_,_,_,_,_,h => h
 | .region id ops draw,β,r,env,A,k,h => by
   simp only [xz] at h ⊢
   rw [zb6,Option.bind_eq_some_iff] at h
   obtain ⟨x,h1,h2⟩ := h
   rw [zb6,h1]
   simp only [Option.bind_some]
   split at h2
   ·rename_i hd
    rw [if_pos hd]
    split at h2
    ·rename_i hk
     rw [if_pos hk]
     exact zav hC _ h2
    ·cases h2
   ·rename_i hd
    rw [if_neg hd]
    exact zav hC _ h2
 | .seq a b,β,r,env,A,k,h => by
   simp only [xz] at h ⊢
   rw [x5,Option.bind_eq_some_iff] at h
   obtain ⟨⟨x,e,A1⟩,h1,h2⟩ := h
   rw [x5,jy hC hL a h1]
   simp only [Option.bind_some]
   cases x with
   | normal => exact jy hC hL b h2
   | exit i => exact h2
   | ret => exact h2
 | .cond cd a b,β,r,env,A,k,h => by
   simp only [xz] at h ⊢
   split at h
   ·rename_i t ht
    split at h
    ·rename_i htt
     rw [if_pos htt]
     subst htt
     rw [zao ht] at h ⊢
     exact jy hC hL a h
    ·rename_i htt
     rw [if_neg htt]
     have htf : t = false := by simpa using htt
     subst htf
     rw [zao ht] at h ⊢
     exact jy hC hL b h
   ·cases h
 | .block id cd,β,r,env,A,k,h => by
   simp only [xz] at h ⊢
   rw [x5,Option.bind_eq_some_iff] at h
   obtain ⟨⟨x,e,A1⟩,h1,h2⟩ := h
   rw [x5,jy hC hL cd h1]
   exact h2
 | .loop cd,β,r,env,A,k,h => by
   simp only [xz] at h ⊢
   split at h
   ·rename_i hd l hm
    rw [k8,Option.bind_eq_some_iff] at h
    obtain ⟨x,h1,h2⟩ := h
    rw [Option.bind_eq_some_iff] at h2
    obtain ⟨y,h3,h4⟩ := h2
    rw [k8,h1]
    simp only [Option.bind_some]
    rw [hL _ _ _ _ _ _ h3]
    exact h4
   ·cases h
 | .rangeFunc ..,_,_,_,_,_,h | .scope _,_,_,_,_,_,h | .goto _,_,_,_,_,_,h | .refuse _,_,_,_,_,_,h => by simp only [xz] at h; cases h
theorem zot (hC : zx4 C C') (hL : z4l L L') : zx4 (yw c kc C L) (yw c kc C' L') := fun g a A r h => by
 unfold yw at h ⊢
 split at h
 ·cases h
 rename_i ht
 rw [if_neg ht]
 split at h
 ·rename_i fn hf
  split at h
  ·rename_i cd hcd
   exact jy hC hL cd h
  ·cases h
 ·cases h
theorem zmn (hC : zx4 C C') (hL : z4l L L') : z4l (yy c kc C L) (yy c kc C' L') := fun g cd n e A r h => by
 unfold yy at h ⊢
 rw [x5,Option.bind_eq_some_iff] at h
 obtain ⟨⟨x,e1,A1⟩,h1,h2⟩ := h
 rw [x5,jy hC hL cd h1]
 simp only [Option.bind_some]
 unfold z3h at h2 ⊢
 cases x with
 | normal =>
   simp only at h2 ⊢
   rw [k8,Option.bind_eq_some_iff] at h2
   obtain ⟨y,h3,h4⟩ := h2
   rw [k8,h3]
   exact hL _ _ _ _ _ _ h4
 | exit i => exact h2
 | ret => exact h2
end
theorem zob (c : Cfg) (kc : KCfg) : ∀ n,zx4 (kb c kc n) (kb c kc (n + 1)) ∧ z4l (loopNK c kc n) (loopNK c kc (n + 1))
 | 0 => ⟨(fun f a A r h => by cases h),(fun f cd n e A r h => by cases h)⟩
 | n + 1 => by
   obtain ⟨h1,h2⟩ := zob c kc n
   refine ⟨fun f a A r h => ?_,fun f cd n e A r h => ?_⟩
   ·unfold kb at h ⊢; exact zot h1 h2 _ _ _ _ h
   ·unfold loopNK at h ⊢; exact zmn h1 h2 _ _ _ _ _ _ h
theorem qx (c : Cfg) (kc : KCfg) {m : Nat} : ∀ n,m ≤ n → zx4 (kb c kc m) (kb c kc n) ∧ z4l (loopNK c kc m) (loopNK c kc n)
 | 0,h => by
   have : m = 0 := by omega
   subst this
   exact ⟨fun _ _ _ _ h => h,fun _ _ _ _ _ _ h => h⟩
 | n + 1,h => by
   by_cases he : m = n + 1
   ·subst he; exact ⟨fun _ _ _ _ h => h,fun _ _ _ _ _ _ h => h⟩
   ·obtain ⟨h1,h2⟩ := qx c kc (m := m) n (by omega)
    obtain ⟨h3,h4⟩ := zob c kc n
    exact ⟨fun _ _ _ _ h => h3 _ _ _ _ (h1 _ _ _ _ h),fun _ _ _ _ _ _ h => h4 _ _ _ _ _ _ (h2 _ _ _ _ _ _ h)⟩
open Classical in
noncomputable def vg (c : Cfg) (kc : KCfg) : yu := fun f a A => if h : ∃ n r,kb c kc n f a A = some r then kb c kc (Classical.choose h) f a A else none
open Classical in
noncomputable def zf8 (c : Cfg) (kc : KCfg) : yx := fun f cd n0 e A => if h : ∃ n r,loopNK c kc n f cd n0 e A = some r then loopNK c kc (Classical.choose h) f cd n0 e A else none
section
variable {c : Cfg} {kc : KCfg}
theorem callωK_iff {g : FuncId} {a : List PV} {A : List KO} {r : PV × List KO} : vg c kc g a A = some r ↔ ∃ n,kb c kc n g a A = some r := by
 unfold vg
 constructor
 ·intro h
  split at h
  ·exact ⟨_,h⟩
  ·cases h
 ·rintro ⟨n,h⟩
  have hx : ∃ n r,kb c kc n g a A = some r := ⟨n,r,h⟩
  rw [dif_pos hx]
  obtain ⟨r',hr'⟩ := Classical.choose_spec hx
  rw [hr']
  rcases Nat.le_total n (Classical.choose hx) with hle | hle
  ·rw [(qx c kc _ hle).1 _ _ _ _ h] at hr'; exact hr'.symm
  ·rw [(qx c kc _ hle).1 _ _ _ _ hr'] at h; exact h
theorem loopωK_iff {g : FuncId} {cd : Code} {n0 : Nat} {e : List PV} {A : List KO} {r : Ex × List PV × List KO} : zf8 c kc g cd n0 e A = some r ↔ ∃ n,loopNK c kc n g cd n0 e A = some r := by
 unfold zf8
 constructor
 ·intro h
  split at h
  ·exact ⟨_,h⟩
  ·cases h
 ·rintro ⟨n,h⟩
  have hx : ∃ n r,loopNK c kc n g cd n0 e A = some r := ⟨n,r,h⟩
  rw [dif_pos hx]
  obtain ⟨r',hr'⟩ := Classical.choose_spec hx
  rw [hr']
  rcases Nat.le_total n (Classical.choose hx) with hle | hle
  ·rw [(qx c kc _ hle).2 _ _ _ _ _ _ h] at hr'; exact hr'.symm
  ·rw [(qx c kc _ hle).2 _ _ _ _ _ _ hr'] at h; exact h
theorem z5d (hO : OwnOk kc c.P (jo c)) : zbt (vg c kc) (jo c) := fun g args A r A' h => by
 obtain ⟨n,h⟩ := callωK_iff.1 h
 exact (zmt hO n).1 g args A r A' h
section
variable {β : Type} {r : β} {A : List KO} {env : List PV} {c2 : Cfg} {f : FuncId} {n0 : Nat}
theorem zpc {g : FuncId} {args : List PV} {v : PV} (h : zd8 kc (vg c kc) g args = some v) : ∃ n,zd8 kc (kb c kc n) g args = some v := by
 unfold zd8 at h ⊢
 split at h
 ·exact ⟨0,h⟩
 ·unfold yo at h
  rw [Option.map_eq_some_iff] at h
  obtain ⟨q,h3,h4⟩ := h
  obtain ⟨n,h5⟩ := callωK_iff.1 h3
  refine ⟨n,?_⟩
  unfold yo
  rw [h5,Option.map_some,h4]
theorem zp7 {g : FuncId} {args : List PV} {ty : TypeId} {k : PV → List PV → List KO → Option β} (h : zbs c2 kc (vg c kc) g args ty env A k = some r) : ∃ n,zbs c2 kc (kb c kc n) g args ty env A k = some r := by
 unfold zbs at h ⊢
 simp only [forceVs_eq] at h ⊢
 split at h
 ·rename_i he
  simp only [if_pos he]
  split at h
  ·rename_i hm
   rw [Option.bind_eq_some_iff] at h
   obtain ⟨v,h1,h2⟩ := h
   obtain ⟨n,h3⟩ := zpc h1
   refine ⟨n,?_⟩
   rw [h3]
   exact h2
  ·exact ⟨0,h⟩
  ·rename_i hm
   split at h
   ·exact ⟨0,h⟩
   unfold zf9 at h ⊢
   simp only [j9,forceVs_eq,xl,jx] at h ⊢
   split at h
   ·rename_i hq
    simp only [if_pos hq]
    rw [Option.bind_eq_some_iff] at h
    obtain ⟨v,h1,h2⟩ := h
    obtain ⟨n,h5⟩ := callωK_iff.1 h1
    exact ⟨n,by rw [h5]; exact h2⟩
   ·cases h
  ·exact ⟨0,h⟩
 ·rename_i he
  simp only [if_neg he]
  exact ⟨0,h⟩
theorem zvg {o : Oper} {k : PV → List PV → List KO → Option β} (h : zh0 c2 kc (vg c kc) env A o k = some r) : ∃ n,zh0 c2 kc (kb c kc n) env A o k = some r := by
 obtain ⟨dst,op,type,pos,after,guard⟩ := o
 cases op
 case call cl =>
  obtain ⟨callee,args,ts⟩ := cl
  cases callee
  case value x =>
   unfold zh0 at h ⊢
   simp only [Option.bind_eq_some_iff] at h ⊢
   obtain ⟨q,h1,h2⟩ := h
   obtain ⟨n,h3⟩ := zp7 h2
   exact ⟨n,q,h1,h3⟩
  all_goals exact ⟨0,h⟩
 case makeFunc fn fs cs => cases fn <;> exact ⟨0,h⟩
 all_goals exact ⟨0,h⟩
theorem zcp {all : List Oper} : ∀ (l : List Oper) {env : List PV} {A : List KO} {k : List PV → List KO → Option β},kd c2 kc (vg c kc) all l env A k = some r → ∃ n,kd c2 kc (kb c kc n) all l env A k = some r
 | [],_,_,_,h => ⟨0,h⟩
 | o :: l,env,A,k,h => by
   have go : ∀ {env : List PV},(zh0 c2 kc (vg c kc) env A o fun v env A => zfs env o.dst v fun e => kd c2 kc (vg c kc) all l e A k) = some r → ∃ n,(zh0 c2 kc (kb c kc n) env A o fun v env A => zfs env o.dst v fun e => kd c2 kc (kb c kc n) all l e A k) = some r := fun h => by
    rw [zgy,Option.bind_eq_some_iff] at h
    obtain ⟨x,h1,h2⟩ := h
    rw [wm] at h2
    obtain ⟨n1,h3⟩ := zvg h1
    obtain ⟨n2,h4⟩ := zcp l h2
    refine ⟨max n1 n2,?_⟩
    rw [zgy,zm5 (qx c kc _ (Nat.le_max_left n1 n2)).1 h3]
    simp only [Option.bind_some]
    rw [wm]
    exact zav (qx c kc _ (Nat.le_max_right n1 n2)).1 l h4
   have no : ∀ {env : List PV},(zfs env o.dst (.tuple []) fun e => kd c2 kc (vg c kc) all l e A k) = some r → ∃ n,(zfs env o.dst (.tuple []) fun e => kd c2 kc (kb c kc n) all l e A k) = some r := fun h => by
    simp only [wm] at h ⊢
    exact zcp l h
   unfold kd at h ⊢
   split at h
   ·rename_i hg
    (try rw [hg])
    exact go h
   ·rename_i g w hg
    (try rw [hg])
    simp only [uo] at h ⊢
    split at h
    ·cases h
    ·rename_i d hd
     (try rw [hd])
     (try simp only)
     split at h
     ·rename_i b hb
      (try simp only [hb])
      split at h
      ·rename_i hbt
       (try simp only [if_pos hbt])
       split at h
       ·rename_i hw; (try simp only [if_pos hw]); exact go h
       ·rename_i hw; (try simp only [if_neg hw]); exact no h
      ·rename_i hbt
       (try simp only [if_neg hbt])
       split at h
       ·rename_i hw; (try simp only [if_pos hw]); exact go h
       ·rename_i hw; (try simp only [if_neg hw]); exact no h
     ·rename_i vs hb
      (try simp only [hb])
      exact no h
     ·cases h
theorem kq : ∀ (cd : Code) {β : Type} {r : β} {env : List PV} {A : List KO} {k : Ex → List PV → List KO → Option β},xz c kc (vg c kc) (zf8 c kc) f n0 cd env A k = some r → ∃ n,xz c kc (kb c kc n) (loopNK c kc n) f n0 cd env A k = some r
 | .skip,_,_,_,_,_,h | .label _,_,_,_,_,_,h | .exit _,_,_,_,_,_,h | .ret,_,_,_,_,_,h => ⟨0,h⟩
 | .region id ops draw,β,r,env,A,k,h => by
   simp only [xz] at h ⊢
   rw [zb6,Option.bind_eq_some_iff] at h
   obtain ⟨x,h1,h2⟩ := h
   split at h2
   ·rename_i hd
    split at h2
    ·rename_i hk
     obtain ⟨n,h3⟩ := zcp _ h2
     refine ⟨n,?_⟩
     rw [zb6,h1]
     simp only [Option.bind_some]
     rw [if_pos hd,if_pos hk]
     exact h3
    ·cases h2
   ·rename_i hd
    obtain ⟨n,h3⟩ := zcp _ h2
    refine ⟨n,?_⟩
    rw [zb6,h1]
    simp only [Option.bind_some]
    rw [if_neg hd]
    exact h3
 | .seq a b,β,r,env,A,k,h => by
   simp only [xz] at h ⊢
   rw [x5,Option.bind_eq_some_iff] at h
   obtain ⟨⟨x,e,A1⟩,h1,h2⟩ := h
   obtain ⟨n1,h3⟩ := kq a h1
   cases x with
   | normal =>
     obtain ⟨n2,h4⟩ := kq b h2
     refine ⟨max n1 n2,?_⟩
     obtain ⟨u1,u2⟩ := qx c kc _ (Nat.le_max_left n1 n2)
     obtain ⟨u3,u4⟩ := qx c kc _ (Nat.le_max_right n1 n2)
     rw [x5,jy u1 u2 a h3]
     exact jy u3 u4 b h4
   | exit i => exact ⟨n1,by rw [x5,h3]; exact h2⟩
   | ret => exact ⟨n1,by rw [x5,h3]; exact h2⟩
 | .cond cd a b,β,r,env,A,k,h => by
   simp only [xz] at h ⊢
   split at h
   ·rename_i t ht
    split at h
    ·rename_i htt
     simp only [if_pos htt]
     subst htt
     simp only [zao ht] at h ⊢
     exact kq a h
    ·rename_i htt
     simp only [if_neg htt]
     have htf : t = false := by simpa using htt
     subst htf
     simp only [zao ht] at h ⊢
     exact kq b h
   ·cases h
 | .block id cd,β,r,env,A,k,h => by
   simp only [xz] at h ⊢
   rw [x5,Option.bind_eq_some_iff] at h
   obtain ⟨⟨x,e,A1⟩,h1,h2⟩ := h
   obtain ⟨n1,h3⟩ := kq cd h1
   exact ⟨n1,by rw [x5,h3]; exact h2⟩
 | .loop cd,β,r,env,A,k,h => by
   simp only [xz] at h ⊢
   split at h
   ·rename_i hd l hm
    rw [k8,Option.bind_eq_some_iff] at h
    obtain ⟨x,h1,h2⟩ := h
    rw [Option.bind_eq_some_iff] at h2
    obtain ⟨y,h3,h4⟩ := h2
    obtain ⟨n,h5⟩ := loopωK_iff.1 h3
    refine ⟨n,?_⟩
    rw [k8,h1]
    simp only [Option.bind_some]
    rw [h5]
    exact h4
   ·cases h
 | .rangeFunc ..,_,_,_,_,_,h | .scope _,_,_,_,_,_,h | .goto _,_,_,_,_,_,h | .refuse _,_,_,_,_,_,h => by simp only [xz] at h; cases h
end
theorem zoa {g : FuncId} {a : List PV} {A : List KO} {r : PV × List KO} (h : yw c kc (vg c kc) (zf8 c kc) g a A = some r) : vg c kc g a A = some r := by
 refine callωK_iff.2 ?_
 unfold yw at h
 split at h
 ·cases h
 rename_i ht
 split at h
 ·rename_i fn hf
  split at h
  ·rename_i cd hcd
   obtain ⟨n,h1⟩ := kq cd h
   refine ⟨n + 1,?_⟩
   unfold kb yw
   rw [if_neg ht,hf]
   simp only [hcd]
   exact h1
  ·cases h
 ·cases h
theorem zwh {g : FuncId} {cd : Code} {n0 : Nat} {e : List PV} {A : List KO} {r : Ex × List PV × List KO} (h : yy c kc (vg c kc) (zf8 c kc) g cd n0 e A = some r) : zf8 c kc g cd n0 e A = some r := by
 refine loopωK_iff.2 ?_
 unfold yy at h
 rw [x5,Option.bind_eq_some_iff] at h
 obtain ⟨⟨x,e1,A1⟩,h1,h2⟩ := h
 obtain ⟨n1,h3⟩ := kq cd h1
 unfold z3h at h2
 cases x with
 | normal =>
   simp only at h2
   rw [k8,Option.bind_eq_some_iff] at h2
   obtain ⟨y,h4,h5⟩ := h2
   obtain ⟨n2,h6⟩ := loopωK_iff.1 h5
   obtain ⟨u1,u2⟩ := qx c kc _ (Nat.le_max_left n1 n2)
   obtain ⟨u3,u4⟩ := qx c kc _ (Nat.le_max_right n1 n2)
   refine ⟨max n1 n2 + 1,?_⟩
   unfold loopNK yy z3h
   rw [x5,jy u1 u2 cd h3]
   simp only [Option.bind_some]
   rw [k8,h4]
   exact u4 _ _ _ _ _ _ h6
 | exit i =>
   refine ⟨n1 + 1,?_⟩
   unfold loopNK yy z3h
   rw [x5,h3]
   exact h2
 | ret =>
   refine ⟨n1 + 1,?_⟩
   unfold loopNK yy z3h
   rw [x5,h3]
   exact h2
theorem zy1 {g : FuncId} {a : List PV} {v w : PV} {A : List KO} (h : yw c kc (vg c kc) (zf8 c kc) g a [] = some (v,A)) (hf : fzK xm A v = w) : yo (vg c kc) g a = some w := by
 unfold yo
 rw [zoa h,Option.map_some]
 exact congrArg some hf
theorem zpa (_hT : Tolds c) (hO : OwnOk kc c.P (jo c)) {g : FuncId} {a pa : List PV} {v : PV} (h : yo (vg c kc) g a = some v) (ha : VFs a pa) : ∃ p τ,jo c g pa .empty = some (p,τ) ∧ VF v (fz xm τ p) :=
 zq5 (z5d hO) h ha
end
end Go.Pvm
namespace Go.Pvm
def qw (sz by_ : Nat) (args : List PV) : Option (List (List PV)) := match args with
 | [.psl _ es] => if y8 sz es = true ∧ es.all PV.own.owns = true ∧ es.length * by_ ≤ 140737488355328 then some es else none
 | _ => none
theorem q9 {α : Type} {sz by_ : Nat} {b : Bool} {enc : α → List PV} (l : List α) (h : ∀ a,(enc a).length = sz ∧ (enc a).all PV.plain = true ∧ PV.own.owns (enc a) = true) (hb : l.length * by_ ≤ 140737488355328) : qw sz by_ [.psl b (l.map enc)] = some (l.map enc) := by
 have h1 : y8 sz (l.map enc) = true := by
  unfold y8
  rw [List.all_eq_true]
  intro e he
  obtain ⟨a,_,rfl⟩ := List.mem_map.1 he
  rw [(h a).2.1]
  simp [(h a).1]
 have h2 : (l.map enc).all PV.own.owns = true := by
  rw [List.all_eq_true]
  intro e he
  obtain ⟨a,_,rfl⟩ := List.mem_map.1 he
  exact (h a).2.2
 show (if y8 sz (l.map enc) = true ∧ (l.map enc).all PV.own.owns = true ∧ (l.map enc).length * by_ ≤ 140737488355328 then some (l.map enc) else none) = _
 rw [if_pos ⟨h1,h2,by rw [List.length_map]; exact hb⟩]
theorem VF.own1 {v p : PV} (h : VF v p) (hp : v.plain = true) (ho : v.own = true) : p.own = true := by
 cases h with
 | undef => cases hp
 | base _ hb => exact ho
 | psl b b' h =>
   rename_i es ps
   have : es.isEmpty = true := ho
   have : ps.isEmpty = true := by
    cases h with
    | nil => rfl
    | cons => cases this
   exact this
 | nl => rfl
 | pref => cases ho
 | agg => cases hp
 | tuple => cases hp
 | func => cases hp
theorem VFs.own1 : ∀ {v p : List PV},VFs v p → v.all PV.plain = true → PV.own.owns v = true → PV.own.owns p = true
 | _,_,.nil,_,_ => rfl
 | _,_,.cons h t,hp,ho => by
   rw [List.all_cons,Bool.and_eq_true] at hp
   unfold PV.own.owns at ho ⊢
   rw [Bool.and_eq_true] at ho
   rw [h.own1 hp.1 ho.1,t.own1 hp.2 ho.2]; rfl
theorem VFss.own1 {sz : Nat} : ∀ {v p : List (List PV)},VFss v p → y8 sz v = true → v.all PV.own.owns = true → p.all PV.own.owns = true
 | _,_,.nil,_,_ => rfl
 | e :: es,_,.cons h t,hp,ho => by
   have hp1 := ud hp (.head _)
   have hp2 : y8 sz es = true := by unfold y8 at hp ⊢; rw [List.all_cons,Bool.and_eq_true] at hp; exact hp.2
   rw [List.all_cons,Bool.and_eq_true] at ho ⊢
   exact ⟨h.own1 hp1.2 ho.1,t.own1 hp2 ho.2⟩
section
variable {β : Type}
theorem yk (b : Bool) (es : List (List PV)) (k : List (List PV) → Option β) : qj (.psl b es) k = k es := rfl
theorem yl (k : List (List PV) → Option β) : qj .nilsl k = k [] := rfl
theorem zu (cs : List PV) (k : List PV → Option β) : asAgg (.agg cs) k = k cs := rfl
theorem zt (cs : List PV) (k : List PV → Option β) : x9 (.tuple cs) k = k cs := rfl
theorem zf (c : PV) (cs : List PV) (k : PV → List PV → Option β) : xe (c :: cs) k = k c cs := rfl
theorem zq (k : Option β) : yq [] k = k := rfl
theorem zx (i : FloatKind) (n : Nat) (k : Nat → Option β) : zev i (.float i n) k = k n := by simp [zev]
theorem zy (a b c : Nat) (k : Option β) : xo a b c (.ref a b c) k = k := by simp [xo]
theorem za (a b : Nat) (k : Option β) : xq a b (whole a b) k = k := by simp [xq,whole]
theorem zl (a b : Nat) (k : Option β) (k' : Nat → Nat → Option β) : zx5 a b (whole a b) k k' = k := by simp [zx5,whole]
theorem z8 (a b x n : Nat) (k : Option β) (k' : Nat → Nat → Option β) : zx5 a b (wl a b x n) k k' = k' x n := by simp [zx5,wl]
theorem zh (a b x n : Nat) (k : Nat → Nat → Option β) : zkk a b (wl a b x n) k = k x n := by simp [zkk,wl]
theorem yn (f : FuncId) (cs : List PV) (k : List PV → Option β) : z1d f (.func f cs) k = k cs := by simp [z1d]
theorem zi (cs : List PV) (k : List PV → Option β) : zr7 (.pref cs) k = k cs := rfl
theorem zd (c : KO) (cs : List KO) (k : KO → List KO → Option β) : zds (c :: cs) k = k c cs := rfl
theorem zm (k : Option β) : yt [] k = k := rfl
theorem z6 (w : Bool) (t : TypeId) (cs : List PV) (k : List PV → Option β) : zof w t (.box w t cs) k = k cs := by simp [zof]
theorem zqe (w : Bool) (t : TypeId) (cs : List PV) (k : List PV → Option β) : zof false t (.box w t cs) k = k cs := by simp [zof]
theorem zg (w : Bool) (sz : Nat) (es : List (List PV)) (k : List (List PV) → Option β) : zgd w sz (.made w sz es) k = k es := by simp [zgd]
theorem zoe (w : Bool) (sz : Nat) (es : List (List PV)) (k : List (List PV) → Option β) : zgd false sz (.made w sz es) k = k es := by simp [zgd]
theorem zk (k : Option β) : zkl .dead k = k := rfl
theorem zj (w : Bool) (sz : Nat) (es : List (List PV)) (k : Option β) : zkl (.made w sz es) k = k := rfl
def yv (κ : IntKind) (l : List PV) (k : Int → List PV → Option β) : Option β := xe l fun v r => asInt κ v fun n => k n r
def zjl (l : List PV) (k : Bool → List PV → Option β) : Option β := xe l fun v r => asBool v fun n => k n r
def ke (κ : FloatKind) (l : List PV) (k : Nat → List PV → Option β) : Option β := xe l fun v r => zev κ v fun n => k n r
def y6 (l : List PV) (k : List (List PV) → List PV → Option β) : Option β := xe l fun v r => qj v fun n => k n r
def jv (a b : Nat) (l : List PV) (k : List PV → Option β) : Option β := xe l fun v r => xq a b v (k r)
def yaq (a b c : Nat) (l : List PV) (k : List PV → Option β) : Option β := xe l fun v r => xo a b c v (k r)
def xu (w : Bool) (sz : Nat) (l : List KO) (k : List (List PV) → List KO → Option β) : Option β := zds l fun o r => zgd w sz o fun es => k es r
def qy (w : Bool) (t : TypeId) (l : List KO) (k : List PV → List KO → Option β) : Option β := zds l fun o r => zof w t o fun cs => k cs r
def zc0 (l : List KO) (k : List KO → Option β) : Option β := zds l fun o r => zkl o (k r)
def gS (x : Ex × List PV × List KO) (i : Nat) : PV := List.getD x.2.1 i .undef
theorem zp (κ : IntKind) (n : Int) (r : List PV) (k : Int → List PV → Option β) : yv κ (.int κ n :: r) k = k n r := by simp [yv,zf,zw]
theorem yh (n : Bool) (r : List PV) (k : Bool → List PV → Option β) : zjl (.bool n :: r) k = k n r := by simp [zjl,zf,ze]
theorem zr (κ : FloatKind) (n : Nat) (r : List PV) (k : Nat → List PV → Option β) : ke κ (.float κ n :: r) k = k n r := by simp [ke,zf,zx]
theorem yi (b : Bool) (n : List (List PV)) (r : List PV) (k : List (List PV) → List PV → Option β) : y6 (.psl b n :: r) k = k n r := rfl
theorem ym (r : List PV) (k : List (List PV) → List PV → Option β) : y6 (.nilsl :: r) k = k [] r := rfl
theorem yf (a b : Nat) (r : List PV) (k : List PV → Option β) : jv a b (whole a b :: r) k = k r := by simp [jv,zf,za]
theorem yg (a b c : Nat) (r : List PV) (k : List PV → Option β) : yaq a b c (.ref a b c :: r) k = k r := by simp [yaq,zf,zy]
theorem yb (w : Bool) (sz : Nat) (n : List (List PV)) (r : List KO) (k : List (List PV) → List KO → Option β) : xu w sz (.made w sz n :: r) k = k n r := by simp [xu,zd,zg]
theorem zn (w : Bool) (sz : Nat) (n : List (List PV)) (r : List KO) (k : List (List PV) → List KO → Option β) : xu false sz (.made w sz n :: r) k = k n r := by simp [xu,zd,zoe]
theorem ye (w : Bool) (t : TypeId) (n : List PV) (r : List KO) (k : List PV → List KO → Option β) : qy w t (.box w t n :: r) k = k n r := by simp [qy,zd,z6]
theorem zo (w : Bool) (t : TypeId) (n : List PV) (r : List KO) (k : List PV → List KO → Option β) : qy false t (.box w t n :: r) k = k n r := by simp [qy,zd,zqe]
theorem yd (r : List KO) (k : List KO → Option β) : zc0 (.dead :: r) k = k r := rfl
theorem yc (w : Bool) (sz : Nat) (es : List (List PV)) (r : List KO) (k : List KO → Option β) : zc0 (.made w sz es :: r) k = k r := rfl
theorem yp (x : Ex) (e : List PV) (A : List KO) (i : Nat) : gS (x,e,A) i = List.getD e i .undef := rfl
theorem zlt {n i : Nat} (h : i < n) (l : List (Nat × PV)) : List.getD (mkS n l) i .undef = (l.lookup i).getD .undef := by
 unfold mkS
 rw [List.getD_eq_getElem?_getD,List.getElem?_map,List.getElem?_range h]
 rfl
end
abbrev Rws := List (List PV)
theorem ztv {n : Nat} {σ : Store} {p : PV} {b : Bool} (h : VF (.bool b) (fz n σ p)) : p = .bool b := by
 have e := h.base_eq rfl
 cases n with
 | zero => cases e
 | succ n =>
   cases p <;> first | exact e | (unfold fz at e; simp only at e; first | (cases e; done) | (split at e <;> first | (cases e; done) | (split at e <;> cases e)))
end Go.Pvm
namespace Go.Pvm
def ArgK {α : Type} (P : Program) (t : TypeId) (e : α → List PV) (Q : α → Prop) : Prop := ∀ top n c,WT P top n t c → ∃ a,VFs (e a) c ∧ Q a
theorem VFss.of_each {α : Type} {e : α → List PV} {Q : α → Prop} : ∀ (es : List (List PV)),(∀ c ∈ es,∃ a,VFs (e a) c ∧ Q a) → ∃ l : List α,l.length = es.length ∧ VFss (l.map e) es ∧ ∀ a ∈ l,Q a
 | [],_ => ⟨[],rfl,.nil,fun a ha => by cases ha⟩
 | c :: es,h => by
   obtain ⟨a,h1,h2⟩ := h c (List.mem_cons_self ..)
   obtain ⟨l,h3,h4,h5⟩ := VFss.of_each es fun c hc => h c (List.mem_cons_of_mem _ hc)
   refine ⟨a :: l,by simp [h3],.cons h1 h4,fun b hb => ?_⟩
   rcases List.mem_cons.1 hb with rfl | hb
   ·exact h2
   ·exact h5 b hb
theorem ArgK.int {P : Program} {t : TypeId} {k : IntKind} (h : P.underlying t = some (.int k)) : ArgK P t (fun n : Int => [.int k n]) (fun n => k.min ≤ n ∧ n ≤ k.max) := fun top n c hw => by
 obtain ⟨x,rfl,hx⟩ := z4m h hw
 exact ⟨x,.cons (.base _ rfl) .nil,hx⟩
theorem ArgK.slice {α : Type} {P : Program} {t el : TypeId} {e : α → List PV} {Q : α → Prop} (hu : P.underlying t = some (.slice el)) (h0 : P.cellsOf el ≠ 0) (he : ArgK P el e Q) :
  ArgK P t (fun l : List α => [.psl false (l.map e)]) (fun l => l.length * P.bytesOf el ≤ reachBytes ∧ ∀ a ∈ l,Q a) := fun top n c h => by
 cases n with
 | zero => exact h.elim
 | succ n =>
   unfold WT at h
   rw [hu] at h
   rcases h with h | ⟨es,h1,_,h2,h3⟩ | ⟨_,h1,_⟩
   ·exact ⟨[],by rw [h]; exact .cons (.nl false) .nil,by simp,fun a ha => by cases ha⟩
   ·obtain ⟨l,q1,q2,q3⟩ := VFss.of_each (e := e) (Q := Q) es fun c hc => he _ n c (h3 c hc).2
    exact ⟨l,by rw [h1]; exact .cons (.psl _ _ q2) .nil,by rw [q1]; exact h2,q3⟩
   ·exact absurd h1 h0
theorem ArgK.one {α : Type} {P : Program} {t : TypeId} {e : α → PV} {Q : α → Prop} (he : ArgK P t (fun a => [e a]) Q) (hs : z2b ((P.underlying t).getD .bool) = false) {v : PV} (h : WTV P t v) : ∃ a,VF (e a) v ∧ Q a := by
 obtain ⟨n,h⟩ := h
 rw [hs] at h
 obtain ⟨a,h1,h2⟩ := he _ _ _ h
 cases h1 with
 | cons h1 _ => exact ⟨a,h1,h2⟩
theorem VFs.append {a b c d : List PV} (h : VFs a b) (h' : VFs c d) : VFs (a ++ c) (b ++ d) := by
 cases h with
 | nil => exact h'
 | cons h t => exact .cons h (VFs.append t h')
end Go.Pvm
