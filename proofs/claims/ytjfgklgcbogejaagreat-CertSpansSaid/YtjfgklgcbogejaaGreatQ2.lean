import Derived.Test.YtjfgklgcbogejaaGreatQ1
import Derived.Test.YtjfgklgcbogejaaGreatP4
/- Part of the proof: calls, and all operations, of the evaluator over values alone. -/
set_option linter.unusedSimpArgs false
set_option linter.unusedVariables false
namespace Go.Pvm
def zbf (C : yt) (Cω : x5) : Prop := ∀ g args A r A',C g args A = some (r,A') → ∀ ρ pargs σ,KS ρ A args pargs σ → ∃ p σ' ρ',Cω g pargs σ = some (p,σ') ∧ KS ρ' A' [r] [p] σ' ∧ Go2 A.length ρ A σ ρ' A' σ'
def znj (L : yw) (Lω : vj) : Prop := ∀ f cd n0 env A x env' A',L f cd n0 env A = some (x,env',A') → ∀ ρ penv σ,KS ρ A env penv σ → ∃ penv' σ' ρ',Lω f cd penv σ = some (x,penv',σ') ∧ KS ρ' A' env' penv' σ' ∧ Go2 n0 ρ A σ ρ' A' σ'
structure OwnOk (kc : KCfg) (P : Program) (Cω : x5) : Prop where
 own : ∀ g sz h,kc.own g = some (sz,h) → ∀ args es,h args = some es → ∀ pargs,VFs args pargs → ∀ n,∃ p τ,Cω g pargs (.at_ n) = some (p,τ) ∧ p.own = true ∧ wd τ n = true ∧ n ≤ τ.next ∧ hdl p = true ∧ KOR (fun _ => .undef) 0 τ p (.made true sz es) ∧ ∀ i ∈ tops p,n ≤ i
 told : ∀ g u,kc.told g = some u → ∀ args σ,Cω g args σ = zii P u args σ
section
variable {P : Program} {ρ ρ' : Nat → PV} {m : Nat} {A A' : List KO} {env penv : List PV} {σ σ' : Store} {β : Type} {r : β}
theorem KS.empty {args pargs : List PV} (h : VFs args pargs) (ρ : Nat → PV) (σ : Store) : KS ρ [] args pargs σ :=
 ⟨h.k,fun k hk => absurd hk (Nat.not_lt_zero _),fun k k' i hi => by cases hi⟩
theorem zpt {C : yt} {Cω : x5} (hC : zbf C Cω) {g : FuncId} {args pargs : List PV} {v : PV} (h : yn C g args = some v) (ha : VFs args pargs) : ∃ p τ,Cω g pargs .empty = some (p,τ) ∧ VF v (fz xn τ p) := by
 unfold yn at h
 rw [Option.map_eq_some_iff] at h
 obtain ⟨⟨r,A'⟩,h1,h2⟩ := h
 obtain ⟨p,τ,ρ',q1,q2,_⟩ := hC g args [] r A' h1 (fun _ => .undef) pargs .empty (KS.empty ha _ _)
 refine ⟨p,τ,q1,?_⟩
 rw [← h2]
 have := q2.env.getD 0
 exact zbd q2 xn this
theorem zhb {kc : KCfg} {C : yt} {Cω : x5} (hC : zbf C Cω) (hO : OwnOk kc P Cω) {g : FuncId} {args pargs : List PV} {v : PV} (h : zdr kc C g args = some v) (ha : VFs args pargs) : ∃ p τ,Cω g pargs .empty = some (p,τ) ∧ VF v (fz xn τ p) := by
 unfold zdr at h
 split at h
 ·rename_i sz f hf
  rw [Option.map_eq_some_iff] at h
  obtain ⟨es,h1,rfl⟩ := h
  obtain ⟨p,τ,e1,e2,e3,e4,eh,e5,e6⟩ := hO.own g sz f hf _ es h1 pargs ha 0
  refine ⟨p,τ,e1,?_⟩
  have hor : KOR (fun _ => p) 1 τ p (.made true sz es) := e5
  have hK : KS (fun _ => p) [.made true sz es] [.lsl 0 sz 0 0 none] [p] τ := ⟨.cons (.whole (Nat.lt_succ_self 0) eh) .nil,fun k hk => by
   have : k = 0 := by simpa using hk
   subst this; exact hor,fun k k' i hi hi' => by
   have z : ∀ {k : Nat},i ∈ wa [KO.made true sz es] (fun _ => p) k → k = 0 := fun {k} hi => by
    cases k with
    | zero => rfl
    | succ k => cases hi
   rw [z hi,z hi']⟩
  have := zbd hK xn (hK.env.getD 0)
  exact this
 ·exact zpt hC h ha
def WkO (o o' : KO) : Prop := (∀ ρ m σ u,KOR ρ m σ u o → KOR ρ m σ u o') ∧ (je o' = false → je o = false) ∧ (zh1 o = true → zh1 o' = true)
def WkA (A A' : List KO) : Prop := A'.length = A.length ∧ ∀ j,WkO (A.getD j .dead) (A'.getD j .dead)
theorem KS.wk (h : KS ρ A env penv σ) (hw : WkA A A') (n0 : Nat) : KS ρ A' env penv σ ∧ Go2 n0 ρ A σ ρ A' σ := by
 have hids : ∀ k i,i ∈ wa A' ρ k → i ∈ wa A ρ k := fun k i hi => by
  unfold wa at hi ⊢
  split at hi
  ·cases hi
  ·rename_i hd
   rw [if_neg (by rw [(hw.2 k).2.1 (by simpa using hd)]; decide)]
   exact hi
 refine ⟨⟨by rw [hw.1]; exact h.env,fun k hk => ?_,fun k k' i hi hi' => h.dis k k' i (hids k i hi) (hids k' i hi')⟩,Nat.le_refl _,fun _ _ _ => rfl,fun k i hi => .inl ⟨k,hids k i hi⟩,fun hle => ⟨by rw [hw.1]; exact hle,fun k _ => ⟨(hw.2 k).2.2,fun hd => ⟨(hw.2 k).2.1 hd,rfl⟩⟩⟩⟩
 rw [hw.1] at hk ⊢
 exact (hw.2 k).1 _ _ _ _ (h.obj k hk)
theorem zzc {s : OSk} {o : KO} {k : KO → Option β} (h : zsh s o k = some r) : ∃ o',k o' = some r ∧ WkO o o' := by
 unfold zsh at h
 split at h
 ·unfold zjw at h
  split at h
  ·cases h
  ·rename_i hnb
   exact ⟨_,h,fun _ _ _ _ _ => trivial,(fun h => by cases h),fun hb => by cases o <;> first | (cases hb; done) | exact (hnb _ _ _ rfl).elim⟩
 ·unfold zng at h
  split at h
  ·split at h
   ·rename_i w t sk _ w' t' cs hc
    obtain ⟨hw,rfl⟩ := hc
    obtain ⟨cs',h1,h2,_⟩ := asSks_ok _ h
    refine ⟨_,h1,fun ρ m σ u ⟨id,pcs,ro,e,s1,s2,s3,s4⟩ => ⟨id,pcs,ro,e,s1,h2 _ _ _ s2,fun hwt => ?_,s4⟩,fun _ => rfl,fun _ => rfl⟩
    rcases hw with rfl | rfl
    ·cases hwt
    ·exact s3 hwt
   ·cases h
  ·cases h
 ·unfold zfw at h
  split at h
  ·split at h
   ·rename_i w sz _ w' sz' es hc
    obtain ⟨hw,rfl⟩ := hc
    refine ⟨_,h,fun ρ m σ u ⟨q0,q1,q2⟩ => ⟨q0,q1,q2.imp (fun x => x) fun ⟨id,cap,ro,ps,tl,e,s1,s2,s3,s4,s5,s6⟩ => ⟨id,cap,ro,ps,tl,e,s1,s2,s3,s4,fun hwt => ?_,s6⟩⟩,fun h => h,fun h => h⟩
    rcases hw with rfl | rfl
    ·cases hwt
    ·exact s5 hwt
   ·cases h
  ·cases h
theorem zif : ∀ {s : List OSk} {l : List KO} {k : List KO → Option β},u7 s l k = some r → ∃ l',k l' = some r ∧ WkA l l'
 | [],l,k,h => by
   unfold u7 yo at h
   split at h
   ·exact ⟨[],h,rfl,fun j => ⟨fun _ _ _ _ h => h,fun h => h,fun h => h⟩⟩
   ·cases h
 | s :: sr,l,k,h => by
   unfold u7 zdb at h
   split at h
   ·rename_i o lr
    obtain ⟨o',h1,h2⟩ := zzc h
    obtain ⟨l',h3,h4,h5⟩ := zif h1
    refine ⟨_,h3,by simp [h4],fun j => ?_⟩
    cases j with
    | zero => exact h2
    | succ j => exact h5 j
   ·cases h
theorem za6 : ∀ {l : List Nat} {k i : Nat},zbj l k = some i → l[i]? = some k
 | [],_,_,e => by cases e
 | j :: r,k,i,e => by
   unfold zbj at e
   split at e
   ·rename_i hjk; cases e; simp [hjk]
   ·rw [Option.map_eq_some_iff] at e
    obtain ⟨i',e1,rfl⟩ := e
    simpa using za6 e1
theorem zqi : ∀ {l : List Nat} {k : Nat},k ∈ l → ∃ i,zbj l k = some i
 | j :: r,k,h => by
   unfold zbj
   by_cases hjk : j = k
   ·exact ⟨0,by rw [if_pos hjk]⟩
   ·rw [if_neg hjk]
    obtain ⟨i,hi⟩ := zqi (l := r) (k := k) ((List.mem_cons.1 h).resolve_left (Ne.symm hjk))
    exact ⟨i + 1,by rw [hi]; rfl⟩
theorem zje : ∀ {l : List Nat},zdv l = true → ∀ {i i' k : Nat},l[i]? = some k → l[i']? = some k → i = i'
 | [],_,i,i',k,e,_ => by simp at e
 | j :: r,hb,i,i',k,e,e' => by
   unfold zdv at hb
   rw [Bool.and_eq_true] at hb
   have hj : j ∉ r := by
    intro hm
    have := hb.1
    simp [hm] at this
   cases i with
   | zero =>
     cases i' with
     | zero => rfl
     | succ i' => simp at e e'; subst e; exact absurd (List.mem_of_getElem? e') hj
   | succ i =>
     cases i' with
     | zero => simp at e e'; subst e'; exact absurd (List.mem_of_getElem? e) hj
     | succ i' => rw [zje hb.2 (i := i) (i' := i') (k := k) (by simpa using e) (by simpa using e')]
theorem zon {l : List Nat} (h : zdv l = true) {i k : Nat} (e : l[i]? = some k) : zbj l k = some i := by
 obtain ⟨i',hi⟩ := zqi (List.mem_of_getElem? e)
 rw [hi,zje h (za6 hi) e]
theorem zuu {kc : KCfg} {C : yt} {Cω : x5} (hC : zbf C Cω) {g : FuncId} {args : List PV} {k : PV → List PV → List KO → Option β} (h : zfs kc C g args env A k = some r) : ∃ v env' A',k v env' A' = some r ∧ env'.length = env.length ∧
  ∀ ρ penv σ n0 pargs,KS ρ A env penv σ → VKs ρ A.length args pargs → ∃ w σ',Cω g pargs σ = some (w,σ') ∧ Stp n0 ρ A σ v env' penv A' w σ' := by
 unfold zfs at h
 rw [j3] at h
 generalize zdp 64 A ((tops.topss args).foldl zwe []) 0 = l at h
 simp only at h
 split at h
 ·rename_i hc
  obtain ⟨hnd,hall⟩ := hc
  rw [forceVs_eq,xl,Option.bind_eq_some_iff] at h
  obtain ⟨⟨r0,A0'⟩,h1,h⟩ := h
  obtain ⟨v,h,hv1,_⟩ := zie _ h
  obtain ⟨A1,h,hw⟩ := zif h
  split at h
  ·rename_i hle
   rw [jp,forceVs_eq,xl] at h
   refine ⟨_,_,_,h,wl _ _,fun ρ penv σ n0 pargs hK ha => ?_⟩
   have hlt : ∀ j ∈ l,j < A.length := fun j hj => by
    rw [List.all_eq_true] at hall
    simpa using hall j hj
   have hsub := (hK.withEnv ha).pack hnd hlt
   obtain ⟨p,σ',ρ1,q1,q2,q3⟩ := hC g _ _ r0 A0' h1 _ pargs σ hsub
   have q2' : KS ρ1 A0' [v] [p] σ' := q2.withEnv (.one (hv1 _ _ _ (q2.env.getD 0)))
   obtain ⟨q4,q5⟩ := q2'.wk hw (l.map fun j => zas (zbj l) (A.getD j .dead)).length
   have q6 := q3.trans q5
   refine ⟨p,σ',q1,?_⟩
   clear q1 q2 q2' q3 q5 h1 h
   -- names
   generalize hA0 : (l.map fun j => zas (zbj l) (A.getD j .dead)) = A0 at q6
   have hA0l : A0.length = l.length := by rw [← hA0]; simp
   have hA0g : ∀ i k,l[i]? = some k → A0.getD i .dead = zas (zbj l) (A.getD k .dead) := fun i k e => by
    rw [← hA0,List.getD_eq_getElem?_getD,List.getElem?_map,e]; rfl
   have hA0n : ∀ i,l[i]? = none → A0.getD i .dead = .dead := fun i e => by
    rw [← hA0,List.getD_eq_getElem?_getD,List.getElem?_map,e]; rfl
   have hids0 : ∀ i x,x ∈ wa A0 (fun i => ρ (l.getD i 0)) i → ∃ k,l[i]? = some k ∧ x ∈ wa A ρ k := fun i x hx => by
    unfold wa at hx
    cases hq : l[i]? with
    | none => rw [hA0n i hq] at hx; cases hx
    | some k =>
      rw [hA0g i k hq,qa] at hx
      have : l.getD i 0 = k := by rw [List.getD_eq_getElem?_getD,hq]; rfl
      simp only [this] at hx
      exact ⟨k,rfl,hx⟩
   let b := z44 l A.length
   let gone := l.filter fun j => match zbj l j with | some i => je (A1.getD i .dead) | none => true
   let ρ2 : Nat → PV := fun k => match zbj l k with
    | some i => ρ1 i
    | none => if k < A.length then ρ k else ρ1 (l.length + (k - A.length))
   let A2 := (List.range A.length).map (fun j => match zbj l j with
    | some i => zas b (A1.getD i .dead)
    | none => zas (we gone) (A.getD j .dead)) ++ (A1.drop l.length).map (zas b)
   have hA2l : A2.length = A.length + (A1.length - l.length) := by simp [A2]
   have hA2a : ∀ k i,k < A.length → zbj l k = some i → A2.getD k .dead = zas b (A1.getD i .dead) := fun k i hk e => by
    rw [List.getD_eq_getElem?_getD,List.getElem?_append_left (by simpa using hk),List.getElem?_map,List.getElem?_range hk]
    simp [e]
   have hA2b : ∀ k,k < A.length → zbj l k = none → A2.getD k .dead = zas (we gone) (A.getD k .dead) := fun k hk e => by
    rw [List.getD_eq_getElem?_getD,List.getElem?_append_left (by simpa using hk),List.getElem?_map,List.getElem?_range hk]
    simp [e]
   have hA2c : ∀ k,A.length ≤ k → A2.getD k .dead = zas b (A1.getD (l.length + (k - A.length)) .dead) := fun k hk => by
    rw [List.getD_eq_getElem?_getD,List.getElem?_append_right (by simpa using hk),List.getElem?_map,List.getElem?_drop]
    simp only [List.length_map,List.length_range,List.getD_eq_getElem?_getD]
    cases A1[l.length + (k - A.length)]? <;> rfl
   have hnone : ∀ k,A.length ≤ k → zbj l k = none := fun k hk => by
    cases hq : zbj l k with
    | none => rfl
    | some i => have := hlt k (List.mem_of_getElem? (za6 hq)); omega
   have hb : ∀ i k,i < A1.length → b i = some k → k < A2.length ∧ ρ2 k = ρ1 i := fun i k hi e => by
    have e : (if i < l.length then l[i]? else some (A.length + (i - l.length))) = some k := e
    split at e
    ·rename_i hil
     have hk := hlt k (List.mem_of_getElem? e)
     exact ⟨by rw [hA2l]; omega,by simp only [ρ2,zon hnd e]⟩
    ·rename_i hil
     cases e
     refine ⟨by rw [hA2l]; omega,?_⟩
     simp only [ρ2,hnone _ (Nat.le_add_right _ _)]
     rw [if_neg (by omega)]
     congr 1
     omega
   have hkill : ∀ k k',k < A.length → we gone k = some k' → k' < A2.length ∧ ρ2 k' = ρ k := fun k k' hk e => by
    obtain ⟨rfl,hng⟩ := zkp e
    refine ⟨by rw [hA2l]; omega,?_⟩
    cases hq : zbj l k' with
    | none => simp only [ρ2,hq]; rw [if_pos hk]
    | some i =>
      have hli := za6 hq
      have hdd : je (A1.getD i .dead) = false := by
       cases hbq : je (A1.getD i .dead) with
       | false => rfl
       | true => exact absurd (List.mem_filter.2 ⟨List.mem_of_getElem? hli,by rw [hq]; exact hbq⟩) hng
      have hil : i < l.length := (List.getElem?_eq_some_iff.1 hli).1
      have := (((q6.bx (Nat.le_refl _)).2 i (by rw [hA0l]; exact hil)).2 hdd).2
      simp only [ρ2,hq]
      rw [this,List.getD_eq_getElem?_getD,hli]; rfl
   have hids : ∀ k x,x ∈ wa A2 ρ2 k → (∃ i,i < A1.length ∧ x ∈ wa A1 ρ1 i ∧ b i = some k) ∨ (zbj l k = none ∧ k < A.length ∧ x ∈ wa A ρ k) := fun k x hx => by
    unfold wa at hx
    by_cases hk : k < A.length
    ·cases hq : zbj l k with
     | some i =>
       have hli := za6 hq
       have hil : i < l.length := (List.getElem?_eq_some_iff.1 hli).1
       rw [hA2a k i hk hq,qa] at hx
       simp only [ρ2,hq] at hx
       refine .inl ⟨i,by omega,hx,?_⟩
       show (if i < l.length then l[i]? else some (A.length + (i - l.length))) = some k
       rw [if_pos hil,hli]
     | none =>
       rw [hA2b k hk hq,qa] at hx
       simp only [ρ2,hq] at hx
       rw [if_pos hk] at hx
       exact .inr ⟨rfl,hk,hx⟩
    ·rw [hA2c k (by omega),qa] at hx
     simp only [ρ2,hnone k (by omega)] at hx
     rw [if_neg hk] at hx
     have hx' : x ∈ wa A1 ρ1 (l.length + (k - A.length)) := hx
     have hi : l.length + (k - A.length) < A1.length := by
      refine Nat.lt_of_not_le fun hge => ?_
      unfold wa at hx'
      rw [zkv hge] at hx'
      cases hx'
     refine .inl ⟨_,hi,hx',?_⟩
     show (if l.length + (k - A.length) < l.length then _ else some (A.length + (l.length + (k - A.length) - l.length))) = some k
     rw [if_neg (by omega)]
     congr 1
     omega
   have hmix : ∀ x i k,x ∈ wa A1 ρ1 i → zbj l k = none → x ∈ wa A ρ k → False := fun x i k h1 h2 h3 => by
    rcases q6.own i x h1 with ⟨i',e⟩ | e
    ·obtain ⟨k',e1,e2⟩ := hids0 i' x e
     have := hK.dis k k' x h3 e2
     subst this
     rw [zon hnd e1] at h2
     cases h2
    ·have := hK.lt h3; omega
   refine ⟨ρ2,⟨?_,fun k hk => ?_,fun k k' x hx hx' => ?_⟩,?_,q6.nx,fun x hx hn => ?_,fun k x hx => ?_,fun hle => ⟨Nat.le_trans hle (Nat.le_trans (Nat.le_add_right _ _) (Nat.le_of_eq hA2l.symm)),fun k hk => ?_⟩⟩
   ·exact hK.env.rnms hkill
   ·show KOR ρ2 A2.length σ' (ρ2 k) (A2.getD k .dead)
    by_cases hkA : k < A.length
    ·cases hq : zbj l k with
     | some i =>
       have hil : i < l.length := (List.getElem?_eq_some_iff.1 (za6 hq)).1
       rw [hA2a k i hkA hq]
       have : ρ2 k = ρ1 i := by simp only [ρ2,hq]
       rw [this]
       exact (q4.obj i (by omega)).rnm hb (Nat.le_refl _) fun _ _ _ => rfl
     | none =>
       rw [hA2b k hkA hq]
       have : ρ2 k = ρ k := by simp only [ρ2,hq]; rw [if_pos hkA]
       rw [this]
       refine (hK.obj k hkA).rnm hkill q6.nx fun hd x hx => ?_
       have hxk : x ∈ wa A ρ k := by unfold wa; rw [if_neg (by rw [hd]; decide)]; exact hx
       refine q6.fr x (hK.lt hxk) fun i hi => ?_
       obtain ⟨k',e1,e2⟩ := hids0 i x hi
       have := hK.dis k k' x hxk e2
       subst this
       rw [zon hnd e1] at hq
       cases hq
    ·rw [hA2c k (by omega)]
     have : ρ2 k = ρ1 (l.length + (k - A.length)) := by simp only [ρ2,hnone k (by omega)]; rw [if_neg hkA]
     rw [this]
     have hk : k < A2.length := hk
     rw [hA2l] at hk
     exact (q4.obj _ (by omega)).rnm hb (Nat.le_refl _) fun _ _ _ => rfl
   ·rcases hids k x hx with ⟨i,h1,h2,h3⟩ | ⟨h1,h2,h3⟩
    ·rcases hids k' x hx' with ⟨i',h4,h5,h6⟩ | ⟨h4,h5,h6⟩
     ·have := q4.dis i i' x h2 h5
      subst this
      rw [h3] at h6
      exact Option.some.inj h6
     ·exact (hmix x i k' h2 h4 h6).elim
    ·rcases hids k' x hx' with ⟨i',h4,h5,h6⟩ | ⟨h4,h5,h6⟩
     ·exact (hmix x i' k h5 h1 h3).elim
     ·exact hK.dis k k' x h3 h6
   ·exact (q4.env.getD 0).rnm hb
   ·refine q6.fr x hx fun i hi => ?_
    obtain ⟨k',_,e2⟩ := hids0 i x hi
    exact hn k' e2
   ·rcases hids k x hx with ⟨i,h1,h2,h3⟩ | ⟨h1,h2,h3⟩
    ·rcases q6.own i x h2 with ⟨i',e⟩ | e
     ·obtain ⟨k',_,e2⟩ := hids0 i' x e
      exact .inl ⟨k',e2⟩
     ·exact .inr e
    ·exact .inl ⟨k,h3⟩
   ·have hkA : k < A.length := by omega
    show (zh1 (A.getD k .dead) = true → zh1 (A2.getD k .dead) = true) ∧ (je (A2.getD k .dead) = false → je (A.getD k .dead) = false ∧ ρ2 k = ρ k)
    cases hq : zbj l k with
    | some i =>
      have hli := za6 hq
      have hil : i < l.length := (List.getElem?_eq_some_iff.1 hli).1
      obtain ⟨g1,g2⟩ := (q6.bx (Nat.le_refl _)).2 i (by rw [hA0l]; exact hil)
      rw [hA0g i k hli,zdo] at g1
      rw [hA0g i k hli,qa] at g2
      rw [hA2a k i hkA hq,zdo,qa]
      refine ⟨g1,fun hd => ⟨(g2 hd).1,?_⟩⟩
      simp only [ρ2,hq]
      rw [(g2 hd).2,List.getD_eq_getElem?_getD,hli]; rfl
    | none =>
      rw [hA2b k hkA hq,zdo,qa]
      exact ⟨fun h => h,fun h => ⟨h,by simp only [ρ2,hq]; rw [if_pos hkA]⟩⟩
  ·cases h
 ·cases h
theorem zv0 {c : Cfg} {kc : KCfg} {C : yt} {Cω : x5} (hC : zbf C Cω) (hO : OwnOk kc c.P Cω) {g : FuncId} {args : List PV} {ty : TypeId} {k : PV → List PV → List KO → Option β} (h : zbe c kc C g args ty env A k = some r) : ∃ v env' A',k v env' A' = some r ∧ env'.length = env.length ∧
  ∀ ρ penv σ n0 pargs,KS ρ A env penv σ → VKs ρ A.length args pargs → ∃ w σ',wh c Cω g pargs σ = some (w,σ') ∧ Stp n0 ρ A σ v env' penv A' w σ' := by
 unfold zbe at h
 unfold wh
 split at h
 ·rename_i he
  simp only [if_pos he]
  split at h
  ·-- by itself
   rename_i hm
   rw [forceVs_eq,Option.bind_eq_some_iff] at h
   obtain ⟨v0,h1,h⟩ := h
   obtain ⟨v,h,_,hv,hs⟩ := zie _ h
   have hfz : ∀ {ρ penv σ pargs},KS ρ A env penv σ → VKs ρ A.length args pargs → VFs (args.map (fzK xn A)) (pargs.map (fz xn σ)) := fun hK ha => VFs.mapR ha fun _ _ q => zbd hK xn q
   have hcall : ∀ {pargs : List PV} {σ : Store} {p : PV} {τ : Store},Cω g (pargs.map (fz xn σ)) .empty = some (p,τ) → wg c Cω g pargs σ = (let r := fz xn τ p; if r.scalar = true then some (r,σ) else if c.strict = true then (if PV.lf.lfs pargs = true then some (r,σ) else none) else (zdn (tops.topss pargs) σ).map fun σ' => (r,σ')) := fun e => by
    unfold wg
    rw [hm]
    simp only [e,Option.bind_some]
   split at h
   ·rename_i hsc
    refine ⟨_,_,_,h,rfl,fun ρ penv σ n0 pargs hK ha => ?_⟩
    obtain ⟨p,τ,e1,e2⟩ := zhb hC hO h1 (hfz hK ha)
    have hvp := hv _ e2
    obtain ⟨e3,e4⟩ := hvp.scalar (hs hsc)
    refine ⟨_,σ,?_,ρ,hK,.fr hvp,Go2.refl _ _ _ _⟩
    rw [hcall e1]
    simp only
    rw [if_pos e4]
   ·split at h
    ·cases h
    rename_i hcl
    have hcl : PV.clean.cleans args = true := by simpa using hcl
    split at h
    ·rename_i hst
     split at h
     ·rename_i hlf
      refine ⟨_,_,_,h,rfl,fun ρ penv σ n0 pargs hK ha => ?_⟩
      obtain ⟨p,τ,e1,e2⟩ := zhb hC hO h1 (hfz hK ha)
      refine ⟨fz xn τ p,σ,?_,ρ,hK,.fr (hv _ e2),Go2.refl _ _ _ _⟩
      rw [hcall e1]
      simp only
      rw [if_pos hst,if_pos (ha.lf_eq hcl hlf)]
      split <;> rfl
     ·cases h
    ·rename_i hst
     rw [Option.bind_eq_some_iff] at h
     obtain ⟨A',h2,h⟩ := h
     refine ⟨_,_,_,h,rfl,fun ρ penv σ n0 pargs hK ha => ?_⟩
     obtain ⟨p,τ,e1,e2⟩ := zhb hC hO h1 (hfz hK ha)
     by_cases hps : (fz xn τ p).scalar = true
     ·obtain ⟨g1,g2⟩ := zkc _ h2 hK n0
      refine ⟨fz xn τ p,σ,?_,ρ,g1,.fr (hv _ e2),g2⟩
      rw [hcall e1]
      simp only
      rw [if_pos hps]
     ·obtain ⟨σ',g0,g1,g2⟩ := zl3 _ h2 hK n0
      refine ⟨fz xn τ p,σ',?_,ρ,g1,.fr (hv _ e2),g2⟩
      rw [hcall e1]
      simp only
      rw [if_neg hps,if_neg hst,ha.tops_eq hcl,g0]
      rfl
  ·-- its answer its own
   rename_i hm
   split at h
   ·rename_i sz f hf
    rw [forceVs_eq,Option.bind_eq_some_iff] at h
    obtain ⟨es,h1,h⟩ := h
    refine ⟨_,_,_,h,rfl,fun ρ penv σ n0 pargs hK ha => ?_⟩
    obtain ⟨p,τ,e1,e2,e3,e4,eh,e5,e6⟩ := hO.own g sz f hf _ es h1 (pargs.map (fz xn σ)) (VFs.mapR ha fun _ _ q => zbd hK xn q) σ.next
    have hor : KOR (upd ρ A.length p) (A.length + 1) (σ.join τ) p (.made true sz es) := by
     obtain ⟨q0,q1,⟨rfl,rfl⟩ | ⟨id,cap,ro,ps,tl,rfl,s1,s2,s3,s4,s5,s6⟩⟩ := e5
     ·exact ⟨q0,q1,.inl ⟨rfl,rfl⟩⟩
     ·exact ⟨q0,q1,.inr ⟨id,cap,ro,ps,tl,rfl,(zxx (e6 id (.head _))).trans s1,s2,s3,s4,s5,s6⟩⟩
    obtain ⟨g1,g2⟩ := hK.more (σ' := σ.join τ) (u := p) (o := .made true sz es) e4 (fun i hi => zxw hi) e6 hor n0
    refine ⟨p,σ.join τ,?_,_,g1,?_,g2⟩
    ·unfold wg
     rw [hm]
     simp only [e1,Option.bind_some,e2,e3,Bool.and_self,if_true]
    ·have : VK (upd ρ A.length p) (A ++ [KO.made true sz es]).length (.lsl A.length sz 0 0 none) (upd ρ A.length p A.length) := .whole (by simp) (by rw [xu]; exact eh)
     rw [xu] at this
     exact this
   ·cases h
  ·rename_i hm
   split at h
   ·rename_i u hu
    obtain ⟨v,env',A',h1,h2,h3⟩ := zsw h
    refine ⟨v,env',A',h1,h2,fun ρ penv σ n0 pargs hK ha => ?_⟩
    obtain ⟨w,σ',e1,e2⟩ := h3 ρ penv σ n0 pargs hK ha
    exact ⟨w,σ',by unfold wg; rw [hm]; exact (hO.told g u hu _ _).trans e1,e2⟩
   ·obtain ⟨v,env',A',h1,h2,h3⟩ := zuu hC h
    refine ⟨v,env',A',h1,h2,fun ρ penv σ n0 pargs hK ha => ?_⟩
    obtain ⟨w,σ',e1,e2⟩ := h3 ρ penv σ n0 pargs hK ha
    exact ⟨w,σ',by unfold wg; rw [hm]; exact e1,e2⟩
  ·cases h
 ·rename_i he
  split at h
  rotate_left
  ·cases h
  rename_i hm
  rw [Option.bind_eq_some_iff] at h
  obtain ⟨v,hv,h⟩ := h
  refine ⟨v,_,_,h,rfl,fun ρ penv σ n0 pargs hK ha => ?_⟩
  have hv2 : z1f c.P g pargs = some v ∧ v.base = true := by
   unfold z1f at hv
   split at hv
   ·rename_i n hx
    cases hv
    have : pargs = [.float .f64 n] := by
     cases ha with
     | cons h t => cases t; rw [h.base_eq rfl]
    subst this
    exact ⟨by simp only [z1f,hx],rfl⟩
   ·rename_i n hx
    cases hv
    have : pargs = [.int .u64 n] := by
     cases ha with
     | cons h t => cases t; rw [h.base_eq rfl]
    subst this
    exact ⟨by simp only [z1f,hx],rfl⟩
   ·cases hv
  refine ⟨v,σ,?_,ρ,hK,.fr ?_,Go2.refl _ _ _ _⟩
  ·rw [if_neg he]
   unfold zyk
   rw [hm,hv2.1]
   rfl
  ·exact .base _ hv2.2
end
end Go.Pvm
namespace Go.Pvm
section
variable {P : Program} {ρ ρ' : Nat → PV} {m : Nat} {A A' : List KO} {env penv : List PV} {σ σ' : Store} {β : Type} {r : β}
theorem zsi {op : BinOp} {κ : IntKind} {x y : Int} {v : PV} (h : zv6 op κ x y = some v) : v.base = true := by
 cases op <;> simp only [zv6] at h <;> first | (cases h; done) | (cases h; rfl) | (split at h <;> first | (cases h; done) | (cases h; rfl))
theorem zic {op : BinOp} {t : TypeId} {x y v : PV} (h : zed P op t x y = some v) : v.base = true := by
 unfold zed at h
 split at h
 ·split at h
  ·unfold zlx at h
   split at h
   ·cases h
   ·split at h <;> first | (cases h; done) | (cases h; rfl)
  ·unfold zlx at h
   split at h
   ·cases h
   ·split at h <;> first | (cases h; done) | (cases h; rfl)
  ·split at h
   ·exact zsi h
   ·cases h
 ·unfold z5b at h
  split at h
  ·split at h <;> first | (cases h; done) | (cases h; rfl)
  ·cases h; rfl
  ·cases h; rfl
  ·cases h
 ·split at h
  ·split at h <;> first | (cases h; done) | (cases h; rfl)
  ·cases h
 ·split at h
  ·cases h
  ·split at h
   ·rw [Option.map_eq_some_iff] at h; obtain ⟨b,_,rfl⟩ := h; rfl
   ·rw [Option.map_eq_some_iff] at h; obtain ⟨b,_,rfl⟩ := h; rfl
   ·cases h
theorem z1g (n : Nat) (t : TypeId) (a b c a' b' c' : Nat) : eqv P n t (.ref a b c) .nilptr = eqv P n t (.ref a' b' c') .nilptr := by
 cases n with
 | zero => rfl
 | succ n =>
   unfold eqv
   cases P.underlying t with
   | none => rfl
   | some d => cases d <;> rfl
theorem zyl (n : Nat) (t : TypeId) (a b : List PV) : eqv P n t (.pref a) .nilptr = eqv P n t (.pref b) .nilptr := by
 cases n with
 | zero => rfl
 | succ n =>
   unfold eqv
   cases P.underlying t with
   | none => rfl
   | some d => cases d <;> rfl
theorem z11 {op : BinOp} {t : TypeId} {x y v : PV} (h : z7c P op t x y = some v) : v.base = true ∧ ∀ ρ m p q,VK ρ m x p → VK ρ m y q → zed P op t p q = some v := by
 unfold z7c at h
 split at h
 ·rename_i hf
  exact ⟨zic h,fun ρ m p q hp hq => by rw [hp.flat_eq hf.1,hq.flat_eq hf.2]; exact h⟩
 ·split at h
  ·refine ⟨zic h,fun ρ m p q hp hq => ?_⟩
   obtain ⟨_,hr⟩ := hp.ref_inv
   rw [hq.base_eq rfl]
   have key : ∃ a b c,p = .ref a b c := by
    unfold zf0 at hr
    split at hr <;> first | (cases hr; exact ⟨_,_,_,rfl⟩) | cases hr
   obtain ⟨a',b',c',rfl⟩ := key
   unfold zed zmq at h ⊢
   simp only [Bool.false_eq_true,if_false] at h ⊢
   rw [z1g 10000 t a' b' c' _ _ _]
   exact h
  ·refine ⟨zic h,fun ρ m p q hp hq => ?_⟩
   obtain ⟨ps,rfl,_⟩ := hp.pref_inv
   rw [hq.base_eq rfl]
   unfold zed zmq at h ⊢
   simp only [Bool.false_eq_true,if_false] at h ⊢
   rw [zyl 10000 t ps _]
   exact h
  ·cases h
theorem z2h {op : UnOp} {x v : PV} (h : unv op x = some v) : v.base = true ∧ ∀ ρ m p,VK ρ m x p → unv op p = some v := by
 unfold unv at h
 split at h
 ·cases h; exact ⟨rfl,fun ρ m p hp => by rw [hp.int_eq]; rfl⟩
 ·cases h; exact ⟨rfl,fun ρ m p hp => by rw [hp.int_eq]; rfl⟩
 ·cases h; exact ⟨rfl,fun ρ m p hp => by rw [hp.bool_eq]; rfl⟩
 ·cases h
theorem zh4 {f : PV → PV → Option PV} (hf : ∀ a b c,f a b = some c → c.base = true) : ∀ (l : List PV) {x v : PV},VF x x → zip f x l = some v → VF v v
 | [],x,v,hx,h => by cases h; exact hx
 | y :: l,x,v,hx,h => by
   unfold zip at h
   rw [Option.bind_eq_some_iff] at h
   obtain ⟨z,h1,h2⟩ := h
   exact zh4 hf l (.base _ (hf _ _ _ h1)) h2
theorem VFs.baseR : ∀ {cs : List PV},cs.all PV.base = true → VFs cs cs
 | [],_ => .nil
 | c :: cs,h => by
   rw [List.all_cons,Bool.and_eq_true] at h
   exact .cons (.base _ h.1) (VFs.baseR h.2)
theorem VF.flatR {v : PV} (h : v.flat = true) : VF v v := by
 rcases zjm h with hb | ⟨cs,rfl,hb⟩
 ·exact .base _ hb
 ·exact .agg (VFs.baseR hb)
theorem zkz {place : Nat → Option (Nat × Nat)} : ∀ (ps : List (Nat × Operand)) {cs pcs out : List PV},VKs ρ m env penv → VKs ρ m cs pcs → zk0 place cs (ps.map fun (i,x) => (i,opd env x)) = some out → ∃ pout,zk0 place pcs (ps.map fun (i,x) => (i,opd penv x)) = some pout ∧ VKs ρ m out pout
 | [],cs,pcs,out,he,hc,h => by cases h; exact ⟨_,rfl,hc⟩
 | (i,x) :: ps,cs,pcs,out,he,hc,h => by
   simp only [List.map_cons,zk0,Option.bind_eq_some_iff] at h ⊢
   obtain ⟨⟨off,size⟩,h1,h⟩ := h
   simp only at h
   split at h
   ·rename_i hq
    have hx := ji he x
    have hcs := hx.cells hq.2.2
    obtain ⟨pout,h2,h3⟩ := zkz ps he (hc.over hcs off) h
    refine ⟨pout,⟨(off,size),h1,?_⟩,h3⟩
    simp only
    rw [if_pos ⟨by rw [← hcs.len]; exact hq.1,by rw [← hc.len]; exact hq.2.1,hx.known hq.2.2⟩]
    exact h2
   ·cases h
theorem zdg {t : TypeId} {z : PV} (h : j9 P t = some z) : VF z z := by
 unfold j9 at h
 rw [Option.map_eq_some_iff] at h
 obtain ⟨v,_,rfl⟩ := h
 exact .ofValue v
theorem zv1 {t : TypeId} {ps : List (Nat × Operand)} {v : PV} (he : VKs ρ m env penv) (h : zeb P t (ps.map fun (i,x) => (i,opd env x)) = some v) : ∃ p,zeb P t (ps.map fun (i,x) => (i,opd penv x)) = some p ∧ VK ρ m v p := by
 unfold zeb at h ⊢
 rw [Option.bind_eq_some_iff] at h
 obtain ⟨z,hz,h⟩ := h
 rw [hz]
 simp only [Option.bind_some]
 split at h
 ·cases h
 rename_i hk
 rw [if_neg hk]
 have hzc : VKs ρ m z.cells z.cells := (VK.fr (zdg hz)).cells (by simpa using hk)
 split at h
 ·rename_i fs hu
  rw [Option.bind_eq_some_iff] at h
  obtain ⟨pl,hpl,h⟩ := h
  rw [Option.map_eq_some_iff] at h
  obtain ⟨out,h1,rfl⟩ := h
  obtain ⟨pout,h2,h3⟩ := zkz ps he hzc h1
  rw [hpl]
  simp only [Option.bind_some,h2,Option.map_some]
  exact ⟨_,rfl,.agg h3⟩
 ·rename_i n el hu
  rw [Option.bind_eq_some_iff] at h
  obtain ⟨pl,hpl,h⟩ := h
  rw [Option.map_eq_some_iff] at h
  obtain ⟨out,h1,rfl⟩ := h
  obtain ⟨pout,h2,h3⟩ := zkz ps he hzc h1
  rw [hpl]
  simp only [Option.bind_some,h2,Option.map_some]
  exact ⟨_,rfl,.agg h3⟩
 ·cases h
theorem zlz {sz : Nat} : ∀ (ps : List (Nat × Operand)) {es pes out : List (List PV)},VKs ρ m env penv → All2 (VKs ρ m) es pes → zbq es sz (ps.map fun (i,x) => (i,opd env x)) = some out → ∃ pout,zbq pes sz (ps.map fun (i,x) => (i,opd penv x)) = some pout ∧ All2 (VKs ρ m) out pout
 | [],es,pes,out,he,hc,h => by cases h; exact ⟨_,rfl,hc⟩
 | (i,x) :: ps,es,pes,out,he,hc,h => by
   simp only [List.map_cons,zbq] at h ⊢
   split at h
   ·rename_i hq
    have hx := ji he x
    have hcs := hx.cells hq.2.2
    obtain ⟨pout,h2,h3⟩ := zlz ps he (hc.set hcs i) h
    refine ⟨pout,?_,h3⟩
    rw [if_pos ⟨by rw [← hcs.len]; exact hq.1,by rw [← hc.len]; exact hq.2.1,hx.known hq.2.2⟩]
    exact h2
   ·cases h
theorem ztn {sz : Nat} {es pes : List (List PV)} (h : All2 (VKs ρ m) es pes) (hr : y5 sz es = true) : VFss es pes := by
 induction h with
 | nil => exact .nil
 | cons h _ ih =>
   unfold y5 at hr
   rw [List.all_cons,Bool.and_eq_true,Bool.and_eq_true] at hr
   exact .cons (h.plain hr.1.2).1 (ih hr.2)
theorem KS.fresh (hK : KS ρ A env penv σ) {sz n : Nat} {es ps : List (List PV)} (h0 : sz ≠ 0) (hr : y5 sz es = true) (hv : VFss es ps) (hn : n = es.length) (n0 : Nat) : Stp n0 ρ A σ (whole A.length sz) env penv (A ++ [.made true sz es]) (.lsl σ.next sz 0 n (some n)) (σ.push (.cells 0 ps)) := by
 subst hn
 obtain ⟨h1,h2⟩ := hK.more (σ' := σ.push (.cells 0 ps)) (u := .lsl σ.next sz 0 es.length (some es.length)) (o := .made true sz es) (Nat.le_succ _) (fun i hi => q9 hi) (fun i hi => by rw [List.mem_singleton.1 hi]; exact Nat.le_refl _)
  (KOR.mk0 (ρ := fun _ => .undef) (m := 0) h0 hr (id := σ.next) rfl (xv _ _) hv (.inr rfl) (fun _ => rfl) (Nat.lt_succ_self _)) n0
 refine ⟨_,h1,?_,h2⟩
 have : VK (upd ρ A.length (.lsl σ.next sz 0 es.length (some es.length))) (A ++ [KO.made true sz es]).length (.lsl A.length sz 0 0 none) (upd ρ A.length (.lsl σ.next sz 0 es.length (some es.length)) A.length) := .whole (by simp) (by rw [xu]; rfl)
 rw [xu] at this
 exact this
theorem KS.laid (hK : KS ρ A env penv σ) {cs ps : List PV} (t : TypeId) (hv : VKs ρ A.length cs ps) (n0 : Nat) : Stp n0 ρ A σ (.ref A.length 0 0) env penv (A ++ [.box true t cs]) (.ref σ.next 0 0) (σ.push (.cells 0 [ps])) := by
 obtain ⟨h1,h2⟩ := hK.more (σ' := σ.push (.cells 0 [ps])) (u := .ref σ.next 0 0) (o := .box true t cs) (Nat.le_succ _) (fun i hi => q9 hi) (fun i hi => by rw [List.mem_singleton.1 hi]; exact Nat.le_refl _)
  ⟨σ.next,ps,0,rfl,xv _ _,hv.mono (Nat.le_succ _) fun k hk => kx _ (by omega),fun _ => rfl,Nat.lt_succ_self _⟩ n0
 exact ⟨_,h1,.ref (by simp) (by rw [xu]; rfl),h2⟩
theorem Stp.id (hK : KS ρ A env penv σ) {v p : PV} (hv : VK ρ A.length v p) (n0 : Nat) : Stp n0 ρ A σ v env penv A p σ := ⟨ρ,hK,hv,Go2.refl _ _ _ _⟩
theorem zvq {el : TypeId} {d s : PV} {t u e2 : TypeId} {k : Nat → List KO → Option β} (ht : P.underlying t = some (.slice el)) (hu : P.underlying u = some (.slice e2)) (h : zvr P A el d s k = some r) : ∃ n A',k n A' = some r ∧
  ∀ ρ env penv σ n0 p q,KS ρ A env penv σ → VK ρ A.length d p → VK ρ A.length s q → ∃ σ',jh P σ .copy [t,u] [p,q] = some (.int .i64 (n : Nat),σ') ∧ KS ρ A' env penv σ' ∧ Go2 n0 ρ A σ ρ A' σ' := by
 unfold zvr at h
 rw [Option.bind_eq_some_iff] at h
 obtain ⟨sz,hsz,h⟩ := h
 obtain ⟨src,h,hx⟩ := zkb h
 split at h
 ·cases h
 rename_i hro
 have hro : y5 sz src = true := by simpa using hro
 obtain ⟨j,es,a,n,h,hj,hd⟩ := zds h
 refine ⟨_,_,h,fun ρ env penv σ n0 p q hK hp hq => ?_⟩
 have hdd : je (A.getD j .dead) = false := by rw [hj]; rfl
 obtain ⟨q0,q1,_⟩ := hK.get (qc hdd) hj
 obtain ⟨ps,e1,e2⟩ := hx ρ env penv σ q hK hq
 have hall := (rowsPl_els.1 (ju e2 hro)).all1
 rcases hd ρ env penv σ p hK hp with ⟨rfl,e3,rfl,rfl,rfl⟩ | ⟨id,cap,cap',pes,tl,rfl,e3,e4,e5,e6,e7,e9,e8⟩
 ·obtain ⟨g1,g2⟩ := hK.put (σ' := σ) (o := .made true sz (([] : List (List PV)).take 0 ++ src.take 0 ++ ([] : List (List PV)).drop (0 + (src.take 0).length))) hdd (Nat.le_refl _) (fun _ _ _ => rfl) ⟨q0,by simpa using q1,.inl ⟨e3,by simp⟩⟩ (fun hb => by rw [hj] at hb; cases hb) n0
  refine ⟨σ,?_,g1,g2⟩
  simp only [jh,ht,hu,zir,hsz,e1,Option.bind_some]
  rw [if_neg q0,if_pos hall]
  show some (PV.int .i64 0,σ) = some (PV.int .i64 ((Nat.min src.length 0 : Nat) : Int),σ)
  rw [show Nat.min src.length 0 = 0 from Nat.min_zero _]
  rfl
 ·have hlen : (es.take a ++ src.take n ++ es.drop (a + (src.take n).length)).length = es.length := by
   simp only [List.length_append,List.length_take,List.length_drop]
   omega
  obtain ⟨g1,g2⟩ := hK.put (σ' := σ.put id (.cells 0 ((pes.take a ++ ps.take n ++ pes.drop (a + (ps.take n).length)) ++ tl))) (o := .made true sz (es.take a ++ src.take n ++ es.drop (a + (src.take n).length))) hdd (Nat.le_refl _) (fun x _ hx => qy fun ex => hx (by rw [e3,ex]; exact .head _))
   ⟨q0,jc (jc (j5 q1 _) (j5 hro _)) (va q1 _),.inr ⟨id,cap',0,_,tl,by rw [hlen]; exact e3,zad _ _ _,by
    have hl2 : (ps.take n).length = (src.take n).length := by rw [List.length_take,List.length_take,e2.len]
    rw [hl2]
    exact ((e6.take a).app (e2.take n)).app (e6.drop _),by rw [hlen]; exact e4,e9,fun _ => rfl,e8⟩⟩ (fun hb => by rw [hj] at hb; cases hb) n0
  refine ⟨_,?_,g1,g2⟩
  have hle6 : a + n ≤ pes.length := by rw [← e6.len]; exact e7
  have hle7 : a + (ps.take n).length ≤ pes.length := by rw [List.length_take]; omega
  simp only [jh,ht,hu,zir,hsz,e1,Option.bind_some,e5]
  rw [if_neg q0,if_neg (by simp),if_pos ⟨by rw [List.length_append]; omega,Nat.zero_le _⟩,if_pos (zwa hall _),e2.len,List.take_append_of_le_length (show a ≤ pes.length by omega),List.drop_append_of_le_length hle7]
  simp only [List.append_assoc]
theorem zsc {el : TypeId} {d : PV} {t : TypeId} {k : List KO → Option β} (ht : P.underlying t = some (.slice el)) (h : zox P A el d k = some r) : ∃ A',k A' = some r ∧
  ∀ ρ env penv σ n0 p,KS ρ A env penv σ → VK ρ A.length d p → ∃ σ',jh P σ .clear [t] [p] = some (.tuple [],σ') ∧ KS ρ A' env penv σ' ∧ Go2 n0 ρ A σ ρ A' σ' := by
 unfold zox at h
 simp only [Option.bind_eq_some_iff] at h
 obtain ⟨sz,hsz,z,hz,h⟩ := h
 split at h
 ·cases h
 rename_i hne
 have hk : z.known = true := by
  cases hq : z.known with
  | true => rfl
  | false => exact absurd (.inl hq) hne
 have hl : z.cells.length = sz := by
  by_cases hq : z.cells.length = sz
  ·exact hq
  ·exact absurd (.inr (.inl hq)) hne
 have hpl : z.cells.all PV.plain = true := by
  cases hq : z.cells.all PV.plain with
  | true => rfl
  | false => exact absurd (.inr (.inr hq)) hne
 have hone : z.cells.all PV.one = true := by
  rw [List.all_eq_true] at hpl ⊢
  exact fun x hx => zhg (hpl x hx)
 obtain ⟨j,es,a,n,h,hj,hd⟩ := zds h
 refine ⟨_,h,fun ρ env penv σ n0 p hK hp => ?_⟩
 have hdd : je (A.getD j .dead) = false := by rw [hj]; rfl
 obtain ⟨q0,q1,_⟩ := hK.get (qc hdd) hj
 have hcond : ¬ (sz = 0 ∨ z.known = false ∨ z.cells.length ≠ sz ∨ z.cells.all PV.one = false) := by simp [q0,hk,hl,hone]
 have hzc : VFs z.cells z.cells := ((VK.fr (ρ := ρ) (m := 0) (zdg hz)).cells hk).plain hpl |>.1
 rcases hd ρ env penv σ p hK hp with ⟨rfl,e3,rfl,rfl,rfl⟩ | ⟨id,cap,cap',pes,tl,rfl,e3,e4,e5,e6,e7,e9,e8⟩
 ·obtain ⟨g1,g2⟩ := hK.put (σ' := σ) (o := .made true sz (([] : List (List PV)).take 0 ++ List.replicate 0 z.cells ++ ([] : List (List PV)).drop (0 + 0))) hdd (Nat.le_refl _) (fun _ _ _ => rfl) ⟨q0,by simpa using q1,.inl ⟨e3,by simp⟩⟩ (fun hb => by rw [hj] at hb; cases hb) n0
  refine ⟨σ,?_,g1,g2⟩
  simp only [jh,ht,zd8,hsz,hz,Option.bind_some]
  rw [if_neg hcond]
 ·have hlen : (es.take a ++ List.replicate n z.cells ++ es.drop (a + n)).length = es.length := by
   simp only [List.length_append,List.length_take,List.length_drop,List.length_replicate]
   omega
  have hrep : y5 sz (List.replicate n z.cells) = true := by
   unfold y5
   rw [List.all_eq_true]
   intro e he
   rw [List.eq_of_mem_replicate he,hpl]
   simp [hl]
  obtain ⟨g1,g2⟩ := hK.put (σ' := σ.put id (.cells 0 ((pes.take a ++ List.replicate n z.cells ++ pes.drop (a + n)) ++ tl))) (o := .made true sz (es.take a ++ List.replicate n z.cells ++ es.drop (a + n))) hdd (Nat.le_refl _) (fun x _ hx => qy fun ex => hx (by rw [e3,ex]; exact .head _))
   ⟨q0,jc (jc (j5 q1 _) hrep) (va q1 _),.inr ⟨id,cap',0,_,tl,by rw [hlen]; exact e3,zad _ _ _,((e6.take a).app (VFss.of (All2.replicate hzc n))).app (e6.drop _),by rw [hlen]; exact e4,e9,fun _ => rfl,e8⟩⟩ (fun hb => by rw [hj] at hb; cases hb) n0
  refine ⟨_,?_,g1,g2⟩
  simp only [jh,ht,zd8,hsz,hz,Option.bind_some,e5]
  have hle6 : a + n ≤ pes.length := by rw [← e6.len]; exact e7
  rw [if_neg hcond,if_neg (by simp),if_pos ⟨by rw [List.length_append]; omega,Nat.zero_le _⟩,List.take_append_of_le_length (show a ≤ pes.length by omega),List.drop_append_of_le_length hle6]
  simp only [List.append_assoc]
theorem zza {b : Builtin} {ts : List TypeId} {args : List PV} {ty : TypeId} {k : PV → List PV → List KO → Option β} (h : zsg P b ts args ty env A k = some r) : ∃ v env' A',k v env' A' = some r ∧ env'.length = env.length ∧
  ∀ ρ penv σ n0 pargs,KS ρ A env penv σ → VKs ρ A.length args pargs → ∃ w σ',qf P σ b ts pargs = some (w,σ') ∧ Stp n0 ρ A σ v env' penv A' w σ' := by
 unfold zsg at h
 split at h
 ·rename_i t tr x xr
  split at h
  ·rename_i hu
   split at h
   ·rename_i s
    refine ⟨_,_,_,h,rfl,fun ρ penv σ n0 pargs hK ha => ?_⟩
    cases ha with
    | cons hp ht =>
      rw [hp.str_eq]
      exact ⟨.int .i64 (s.size : Nat),σ,by show (uq P .len (t :: tr) (.str s :: _)).map _ = _; simp only [uq,hu,Option.map_some],.id hK (.fr (.base _ rfl)) n0⟩
   ·cases h
  ·rename_i el hu
   split at h
   ·cases h
   rename_i hns
   have h0 := h
   obtain ⟨n,h,hn⟩ := zxs h
   refine ⟨_,_,_,h,rfl,fun ρ penv σ n0 pargs hK ha => ?_⟩
   cases ha with
   | cons hp ht =>
     rename_i p ps
     have hl := hn ρ env penv σ p hK hp
     have hsl : zh0 p = false := hp.nostr (by cases x <;> first | (exact absurd rfl hns) | rfl | cases h0)
     refine ⟨.int .i64 (n : Nat),σ,?_,.id hK (.fr (.base _ rfl)) n0⟩
     show (uq P .len (t :: tr) (p :: ps)).map _ = _
     cases p <;> first | (cases hl; done) | (cases hsl; done) | skip
     all_goals (cases hl; simp only [uq,hu,Option.map_some])
     all_goals rfl
  ·cases h
 ·rename_i x xr
  split at h
  ·rename_i hf
   rw [Option.bind_eq_some_iff] at h
   obtain ⟨v,h1,h2⟩ := h
   refine ⟨_,_,_,js h2,rfl,fun ρ penv σ n0 pargs hK ha => ?_⟩
   cases ha with
   | cons hp ht =>
     rw [hp.flat_eq hf.1,ht.flat_eq hf.2]
     refine ⟨v,σ,?_,.id hK (.fr (zh4 (fun a b c e => ?_) _ (VF.flatR hf.1) h1)) n0⟩
     ·have e : uq P .max ts (x :: xr) = some v := by unfold uq; exact h1
      unfold qf
      rw [if_pos (show zna .max = true from rfl),e]; rfl
     ·unfold zxj at e; split at e <;> first | (cases e; rfl) | cases e
  ·cases h
 ·rename_i x xr
  split at h
  ·rename_i hf
   rw [Option.bind_eq_some_iff] at h
   obtain ⟨v,h1,h2⟩ := h
   refine ⟨_,_,_,js h2,rfl,fun ρ penv σ n0 pargs hK ha => ?_⟩
   cases ha with
   | cons hp ht =>
     rw [hp.flat_eq hf.1,ht.flat_eq hf.2]
     refine ⟨v,σ,?_,.id hK (.fr (zh4 (fun a b c e => ?_) _ (VF.flatR hf.1) h1)) n0⟩
     ·have e : uq P .min ts (x :: xr) = some v := by unfold uq; exact h1
      unfold qf
      rw [if_pos (show zna .min = true from rfl),e]; rfl
     ·unfold zxf at e; split at e <;> first | (cases e; rfl) | cases e
  ·cases h
 ·rename_i t u s x
  split at h
  ·rename_i el e2 hu1 hu2
   split at h
   ·cases h
   rename_i hns
   have h0 := h
   obtain ⟨v,env',A',h,hl,hx⟩ := zqv h
   refine ⟨v,env',A',h,hl,fun ρ penv σ n0 pargs hK ha => ?_⟩
   cases ha with
   | cons hp ha =>
     cases ha with
     | cons hq ha =>
       cases ha
       rename_i p q
       obtain ⟨w,σ',e1,e3⟩ := hx ρ penv σ n0 p q hK hp hq
       refine ⟨w,σ',?_,e3⟩
       have hqs : zh0 q = false := hq.nostr (by
        cases x <;> first | (exact absurd rfl hns) | rfl | skip
        all_goals (exfalso; unfold znh at h0; simp only [Option.bind_eq_some_iff] at h0; obtain ⟨_,_,_,_,_,_,h0⟩ := h0; cases h0))
       show jh P σ .append [t,u] [p,q] = _
       rw [jo hu1 hu2 hqs]
       exact e1
  ·rename_i el hu1 hu2
   split at h
   ·rename_i hs
    obtain ⟨v,env',A',h,hl,hx⟩ := zqv h
    refine ⟨v,env',A',h,hl,fun ρ penv σ n0 pargs hK ha => ?_⟩
    cases ha with
    | cons hp ha =>
      cases ha with
      | cons hq ha =>
        cases ha
        rename_i p q
        obtain ⟨w,σ',e1,e3⟩ := hx ρ penv σ n0 p q hK hp hq
        refine ⟨w,σ',?_,e3⟩
        cases x <;> first | (cases hs; done) | skip
        rw [hq.str_eq] at e1 ⊢
        show jh P σ .append [t,u] [p,.str _] = _
        simp only [jh,hu1,hu2]
        exact e1
   ·cases h
  ·cases h
 ·rename_i t u d s
  split at h
  ·rename_i el e2 hu1 hu2
   obtain ⟨n,A',h,hx⟩ := zvq hu1 hu2 h
   refine ⟨_,_,_,h,rfl,fun ρ penv σ n0 pargs hK ha => ?_⟩
   cases ha with
   | cons hp ha =>
     cases ha with
     | cons hq ha =>
       cases ha
       obtain ⟨σ',g1,g2,g3⟩ := hx ρ env penv σ n0 _ _ hK hp hq
       exact ⟨_,σ',g1,ρ,g2,.fr (.base _ rfl),g3⟩
  ·cases h
 ·rename_i t d
  split at h
  ·rename_i el hu1
   obtain ⟨A',h,hx⟩ := zsc hu1 h
   refine ⟨_,_,_,h,rfl,fun ρ penv σ n0 pargs hK ha => ?_⟩
   cases ha with
   | cons hp ha =>
     cases ha
     obtain ⟨σ',g1,g2,g3⟩ := hx ρ env penv σ n0 _ hK hp
     exact ⟨_,σ',g1,ρ,g2,.fr (.tuple .nil),g3⟩
  ·cases h
 ·cases h
theorem zl4 {u p : PV} {i o : Nat} (h : zf0 u i o = some p) (n : Nat) : ∃ id,p = .ref id i o ∧ zf0 u i (o + n) = some (.ref id i (o + n)) := by
 unfold zf0 at h
 split at h <;> first | (cases h; exact ⟨_,rfl,rfl⟩) | cases h
theorem zro {t ty : TypeId} {x i : PV} {k : PV → Option β} (h : ze4 P t ty x i k = some r) : ∃ v,k v = some r ∧ ∀ ρ m p pi,VK ρ m x p → VK ρ m i pi → ∃ q,zd2 P t p pi = some q ∧ VK ρ m v q := by
 have hint : ∀ {n : Int},zd1 i = some n → ∀ {ρ : Nat → PV} {m : Nat} {pi : PV},VK ρ m i pi → zd1 pi = some n := fun {n} hn {ρ m pi} hi => by
  cases i <;> first | (cases hn; done) | skip
  rw [hi.int_eq]
  exact hn
 unfold ze4 at h
 split at h
 ·rename_i cs
  split at h
  ·rename_i nn el hu
   simp only [Option.bind_eq_some_iff] at h
   obtain ⟨n,hn,sz,hsz,h⟩ := h
   obtain ⟨m,hm,hnm,h⟩ := zcz (Nat.le_refl _) h
   rw [Option.bind_eq_some_iff] at h
   obtain ⟨v,h1,h2⟩ := h
   refine ⟨_,js h2,fun ρ m' p pi hx hi => ?_⟩
   obtain ⟨ps,rfl,hc⟩ := hx.agg_inv
   obtain ⟨p,e1,e2⟩ := zah h1 hc
   refine ⟨p,?_,e2⟩
   simp only [zd2,hint hn hi,hu,hsz,Option.bind_some]
   rw [if_pos (by omega),show n.toNat = m by omega,e1]
  ·cases h
 ·rename_i hna
  simp only [Option.bind_eq_some_iff] at h
  obtain ⟨v,h1,h2⟩ := h
  refine ⟨_,js h2,fun ρ m' p pi hx hi => ?_⟩
  unfold zd2 at h1 ⊢
  rw [Option.bind_eq_some_iff] at h1
  obtain ⟨n,hn,h1⟩ := h1
  rw [hint hn hi]
  simp only [Option.bind_some]
  split at h1
  ·exact absurd rfl (hna _)
  ·rename_i s hu
   rw [hx.str_eq]
   split at h1
   ·rename_i hb
    refine ⟨v,?_,?_⟩
    ·simp only [hu]
     rw [if_pos hb,h1]
    ·rw [Option.map_eq_some_iff] at h1
     obtain ⟨b,_,rfl⟩ := h1
     exact .fr (.base _ rfl)
   ·cases h1
  ·cases h1
theorem z0z {c : Cfg} {kc : KCfg} {C : yt} {Cω : x5} (hC : zbf C Cω) (hO : OwnOk kc c.P Cω) {o : Oper} {k : PV → List PV → List KO → Option β} (h : zhf c kc C env A o k = some r) : ∃ v env' A',k v env' A' = some r ∧ env'.length = env.length ∧
  ∀ ρ penv σ n0,KS ρ A env penv σ → ∃ p σ',xo c Cω penv σ o = some (p,σ') ∧ Stp n0 ρ A σ v env' penv A' p σ' := by
 obtain ⟨dst,op,type,pos,after,guard⟩ := o
 unfold zhf at h
 unfold xo
 cases op <;> simp only at h ⊢
 case move x => exact ⟨_,_,_,h,rfl,fun ρ penv σ n0 hK => ⟨_,_,rfl,.id hK (ji hK.env x) n0⟩⟩
 case assign x => exact ⟨_,_,_,h,rfl,fun ρ penv σ n0 hK => ⟨_,_,rfl,.id hK (ji hK.env x) n0⟩⟩
 case pick cd a b =>
  split at h
  ·rename_i t ht
   have hb : ∀ {ρ penv σ},KS ρ A env penv σ → opd penv cd = .bool t := fun hK => by
    have := ji hK.env cd
    rw [ht] at this
    exact this.bool_eq
   split at h
   ·rename_i htt
    exact ⟨_,_,_,h,rfl,fun ρ penv σ n0 hK => ⟨opd penv a,σ,by simp only [hb hK]; rw [if_pos htt],.id hK (ji hK.env a) n0⟩⟩
   ·rename_i htt
    exact ⟨_,_,_,h,rfl,fun ρ penv σ n0 hK => ⟨opd penv b,σ,by simp only [hb hK]; rw [if_neg htt],.id hK (ji hK.env b) n0⟩⟩
  ·cases h
 case alloc el =>
  simp only [Option.bind_eq_some_iff] at h
  obtain ⟨z,h1,h2⟩ := h
  split at h2
  ·rename_i hk
   refine ⟨_,_,_,h2,rfl,fun ρ penv σ n0 hK => ⟨_,_,?_,hK.laid el ((VK.fr (zdg h1)).cells hk.1) n0⟩⟩
   rw [h1]
   simp only [Option.bind_some]
   rw [if_pos hk]
  ·cases h2
 case box el x =>
  split at h
  ·rename_i hk
   refine ⟨_,_,_,h,rfl,fun ρ penv σ n0 hK => ?_⟩
   have hx := ji hK.env x
   have hc := hx.cells hk.1
   refine ⟨_,_,?_,hK.laid el hc n0⟩
   rw [if_pos ⟨hx.known hk.1,by rw [← hc.len]; exact hk.2⟩]
  ·cases h
 case build t ps =>
  simp only [Option.bind_eq_some_iff] at h
  obtain ⟨z,h1,h2⟩ := h
  rw [jp] at h2
  refine ⟨_,_,_,h2,rfl,fun ρ penv σ n0 hK => ?_⟩
  obtain ⟨p,e1,e2⟩ := zv1 hK.env h1
  exact ⟨p,σ,by rw [e1]; rfl,.id hK e2 n0⟩
 case buildSlice t n ps =>
  split at h
  ·rename_i el hu
   simp only [Option.bind_eq_some_iff] at h
   obtain ⟨sz,hsz,z,hz,h⟩ := h
   split at h
   ·rename_i hc
    rw [Option.bind_eq_some_iff] at h
    obtain ⟨es,h1,h⟩ := h
    split at h
    ·rename_i hr
     refine ⟨_,_,_,h,rfl,fun ρ penv σ n0 hK => ?_⟩
     have hzc : VKs ρ A.length z.cells z.cells := (VK.fr (zdg hz)).cells hc.2.1
     obtain ⟨pes,e1,e2⟩ := zlz ps.toList hK.env (All2.replicate hzc n) h1
     have hlen : es.length = n := by
      have : ∀ (l : List (Nat × PV)) (a b : List (List PV)),zbq a sz l = some b → b.length = a.length := by
       intro l
       induction l with
       | nil => intro a b h; cases h; rfl
       | cons x l ih =>
         intro a b h
         unfold zbq at h
         split at h
         ·rw [ih _ _ h]; simp
         ·cases h
      rw [this _ _ _ h1]; simp
     refine ⟨_,_,?_,hK.fresh hc.1 hr (ztn e2 hr) hlen.symm n0⟩
     simp only [jw,hu,hsz,hz,Option.bind_some]
     rw [if_pos hc,e1]
     rfl
    ·cases h
   ·cases h
  ·cases h
 case load t a =>
  split at h
  ·rename_i hc
   simp only [Option.bind_eq_some_iff] at h
   obtain ⟨v,h1,h2⟩ := h
   rw [jp] at h2
   refine ⟨_,_,_,h2,rfl,fun ρ penv σ n0 hK => ?_⟩
   rw [if_pos hc]
   have ha := ji hK.env a
   unfold zht at h1
   split at h1
   ·rename_i cs hq
    rw [hq] at ha
    obtain ⟨ps,e,hcs⟩ := ha.pref_inv
    obtain ⟨p,e1,e2⟩ := zah h1 hcs.k
    exact ⟨p,σ,by rw [e]; simp only [zht,e1,Option.map_some],.id hK e2 n0⟩
   ·cases h1
  ·rename_i hc
   obtain ⟨v,h1,h2⟩ := zmc h
   rw [jp] at h1
   refine ⟨_,_,_,h1,rfl,fun ρ penv σ n0 hK => ?_⟩
   rw [if_neg hc]
   obtain ⟨q,e1,e2⟩ := h2 ρ env penv σ _ hK (ji hK.env a)
   exact ⟨q,σ,by rw [e1]; rfl,.id hK e2 n0⟩
 case store t a x =>
  obtain ⟨A',h1,h2⟩ := zq0 h
  refine ⟨_,_,_,h1,rfl,fun ρ penv σ n0 hK => ?_⟩
  obtain ⟨σ',e1,e2,e3,_⟩ := h2 ρ env penv σ n0 _ _ hK (ji hK.env a) (ji hK.env x)
  exact ⟨.tuple [],σ',by rw [e1]; rfl,ρ,e2,.fr (.tuple .nil),e3⟩
 case nilCheck x =>
  simp only [Option.bind_eq_some_iff] at h
  obtain ⟨v,h1,h2⟩ := h
  refine ⟨_,_,_,h2,rfl,fun ρ penv σ n0 hK => ?_⟩
  have hx := ji hK.env x
  have hv : v = opd env x := by
   generalize opd env x = z at h1
   unfold z3b at h1
   split at h1 <;> first | (cases h1; rfl) | cases h1
  rw [← hv] at h1 hx
  refine ⟨opd penv x,σ,?_,.id hK hx n0⟩
  generalize opd penv x = p at hx
  unfold z3b at h1
  split at h1
  ·obtain ⟨_,hr⟩ := hx.ref_inv
   obtain ⟨id,rfl,_⟩ := zl4 hr 0
   rfl
  ·obtain ⟨ps,rfl,_⟩ := hx.pref_inv
   rfl
  ·obtain ⟨ps,rfl,_⟩ := hx.func_inv
   rfl
  ·cases h1
 case binOp op t x y ty =>
  simp only [Option.bind_eq_some_iff] at h
  obtain ⟨v,h1,h2⟩ := h
  obtain ⟨hb,h3⟩ := z11 h1
  refine ⟨_,_,_,js h2,rfl,fun ρ penv σ n0 hK => ?_⟩
  exact ⟨v,σ,by rw [h3 _ _ _ _ (ji hK.env x) (ji hK.env y)]; rfl,.id hK (.fr (.base _ hb)) n0⟩
 case unOp op t x =>
  simp only [Option.bind_eq_some_iff] at h
  obtain ⟨v,h1,h2⟩ := h
  obtain ⟨hb,h3⟩ := z2h h1
  refine ⟨_,_,_,js h2,rfl,fun ρ penv σ n0 hK => ?_⟩
  exact ⟨v,σ,by rw [h3 _ _ _ (ji hK.env x)]; rfl,.id hK (.fr (.base _ hb)) n0⟩
 case convert s d x =>
  obtain ⟨v,h1,h2⟩ := zvs h
  refine ⟨_,_,_,js h1,rfl,fun ρ penv σ n0 hK => ?_⟩
  obtain ⟨q,e1,e2⟩ := h2 ρ env penv σ _ hK (ji hK.env x)
  exact ⟨q,σ,by rw [e1]; rfl,.id hK e2 n0⟩
 case makeFunc fn fs cs =>
  cases fn <;> simp only at h ⊢
  case func f =>
   split at h
   ·rename_i hk
    exact ⟨_,_,_,h,rfl,fun ρ penv σ n0 hK => ⟨_,_,by rw [if_pos hk],.id hK (.func f (zoe hK.env _)) n0⟩⟩
   ·cases h
  all_goals cases h
 case makeSlice t l cp =>
  split at h
  ·rename_i el l' cp' hu hl hcp
   simp only [Option.bind_eq_some_iff] at h
   obtain ⟨sz,hsz,by_,hby,z,hz,h⟩ := h
   split at h
   ·rename_i hc
    split at h
    ·rename_i hd
     obtain ⟨d1,rfl,d3,d4⟩ := hd
     refine ⟨_,_,_,h,rfl,fun ρ penv σ n0 hK => ?_⟩
     have e1 : opd penv l = .int .i64 l' := by have := ji hK.env l; rw [hl] at this; exact this.int_eq
     have e2 : opd penv cp = .int .i64 l' := by have := ji hK.env cp; rw [hcp] at this; exact this.int_eq
     have hzc : VFs z.cells z.cells := ((VK.fr (ρ := ρ) (m := 0) (zdg hz)).cells hc.2.1).plain hc.2.2.2 |>.1
     have hr : y5 sz (List.replicate l'.toNat z.cells) = true := by
      unfold y5
      rw [List.all_eq_true]
      intro e he
      rw [List.eq_of_mem_replicate he,hc.2.2.2]
      simp [hc.2.2.1]
     have hv : VFss (List.replicate l'.toNat z.cells) (List.replicate l'.toNat z.cells) := VFss.of (All2.replicate hzc _)
     refine ⟨_,_,?_,hK.fresh (n := l'.toNat) hc.1 hr hv (by simp) n0⟩
     simp only [zbw,hu,e1,e2,hsz,hby,hz,Option.bind_some]
     rw [if_pos ⟨hc.1,hc.2.1,hc.2.2.1,d1,Int.le_refl _,d3,d4⟩]
    ·cases h
   ·cases h
  ·cases h
 case slice t x lo hi mx =>
  obtain ⟨v,h1,h2⟩ := zy4 h
  refine ⟨_,_,_,h1,rfl,fun ρ penv σ n0 hK => ?_⟩
  obtain ⟨q,e1,e2⟩ := h2 ρ env penv σ _ _ _ _ hK (ji hK.env x) (OpR.map hK.env lo) (OpR.map hK.env hi) (OpR.map hK.env mx)
  exact ⟨q,σ,by rw [e1]; rfl,.id hK e2 n0⟩
 case fieldAddr s x f =>
  simp only [Option.bind_eq_some_iff] at h
  obtain ⟨v,h1,h2⟩ := h
  refine ⟨_,_,_,h2,rfl,fun ρ penv σ n0 hK => ?_⟩
  have hx := ji hK.env x
  unfold ve at h1 ⊢
  split at h1
  ·rename_i fs hu
   simp only [Option.bind_eq_some_iff] at h1
   obtain ⟨fd,hfd,n,hn,h1⟩ := h1
   simp only [hfd,hn,Option.bind_some]
   split at h1
   ·cases h1
   rename_i hn0
   simp only [if_neg hn0]
   split at h1
   ·rename_i j i off hq
    cases h1
    rw [hq] at hx
    obtain ⟨hl,hr⟩ := hx.ref_inv
    obtain ⟨id,e1,e2⟩ := zl4 hr fd.offset
    rw [e1]
    exact ⟨_,σ,rfl,.id hK (.ref hl e2) n0⟩
   ·rename_i cs hq
    cases h1
    rw [hq] at hx
    obtain ⟨ps,e,hc⟩ := hx.pref_inv
    rw [e]
    exact ⟨_,σ,rfl,.id hK (.fr (.pref (hc.drop _))) n0⟩
   ·cases h1
  ·cases h1
 case field s x f =>
  simp only [Option.bind_eq_some_iff] at h
  obtain ⟨v,h1,h2⟩ := h
  rw [jp] at h2
  refine ⟨_,_,_,h2,rfl,fun ρ penv σ n0 hK => ?_⟩
  have hx := ji hK.env x
  unfold zft at h1
  split at h1
  ·rename_i fs cs hu hq
   rw [Option.bind_eq_some_iff] at h1
   obtain ⟨fd,hfd,h1⟩ := h1
   rw [hq] at hx
   obtain ⟨ps,e,hc⟩ := hx.agg_inv
   obtain ⟨p,e1,e2⟩ := zah h1 hc
   refine ⟨p,σ,?_,.id hK e2 n0⟩
   rw [e]
   simp only [zft,hu,hfd,Option.bind_some,e1,Option.map_some]
  ·cases h1
 case indexAddr t x i =>
  obtain ⟨v,h1,h2⟩ := zxz h
  refine ⟨_,_,_,h1,rfl,fun ρ penv σ n0 hK => ?_⟩
  obtain ⟨q,e1,e2⟩ := h2 ρ env penv σ _ _ hK (ji hK.env x) (ji hK.env i)
  exact ⟨q,σ,by rw [e1]; rfl,.id hK e2 n0⟩
 case index t x i =>
  obtain ⟨v,h2,hv⟩ := zro h
  refine ⟨_,_,_,h2,rfl,fun ρ penv σ n0 hK => ?_⟩
  obtain ⟨q,e1,e2⟩ := hv ρ A.length _ _ (ji hK.env x) (ji hK.env i)
  exact ⟨q,σ,by rw [e1]; rfl,.id hK e2 n0⟩
 case extract x i =>
  simp only [Option.bind_eq_some_iff] at h
  obtain ⟨v,h1,h2⟩ := h
  rw [jp] at h2
  refine ⟨_,_,_,h2,rfl,fun ρ penv σ n0 hK => ?_⟩
  have hx := ji hK.env x
  generalize opd env x = z at h1 hx
  unfold z5a at h1
  split at h1
  ·obtain ⟨ps,e,hc⟩ := hx.tuple_inv
   rw [e]
   obtain ⟨p,e1,e2⟩ := hc.get h1
   exact ⟨p,σ,by simp only [e1,Option.map_some],.id hK e2 n0⟩
  ·cases h1
 case call cl =>
  obtain ⟨callee,args,ts⟩ := cl
  cases callee <;> simp only at h ⊢
  case builtin b =>
   obtain ⟨v,env',A',h1,hl,h2⟩ := zza h
   exact ⟨v,env',A',h1,hl,fun ρ penv σ n0 hK => h2 ρ penv σ n0 _ hK (zoe hK.env _)⟩
  case value x =>
   simp only [Option.bind_eq_some_iff] at h
   obtain ⟨⟨g,cs⟩,h0,h⟩ := h
   obtain ⟨v,env',A',h1,hl,h2⟩ := zv0 hC hO h
   refine ⟨v,env',A',h1,hl,fun ρ penv σ n0 hK => ?_⟩
   have hx := ji hK.env x
   generalize opd env x = z at h0 hx
   unfold fnv at h0
   split at h0
   ·cases h0
    obtain ⟨ps,e,hc⟩ := hx.func_inv
    rw [e]
    exact h2 ρ penv σ n0 _ hK ((zoe hK.env _).app hc)
   ·cases h0
  case invoke x m => cases h
 all_goals cases h
theorem zts (he : VKs ρ m env penv) {d : Option Nat} {v p : PV} (hv : VK ρ m v p) : VKs ρ m (zi6 env d v) (zi6 penv d p) := by
 cases d with
 | none => exact he
 | some t => exact he.set hv t
theorem zpq (env : List PV) (d : Option Nat) (v : PV) : (zi6 env d v).length = env.length := by
 cases d with
 | none => rfl
 | some t => exact List.length_set
theorem zgi {c : Cfg} {kc : KCfg} {C : yt} {Cω : x5} (hC : zbf C Cω) (hO : OwnOk kc c.P Cω) {all : List Oper} : ∀ (l : List Oper) {env : List PV} {A : List KO} {k : List PV → List KO → Option β},qx c kc C all l env A k = some r →
  ∃ env' A',k env' A' = some r ∧ env'.length = env.length ∧ ∀ ρ penv σ n0,KS ρ A env penv σ → ∃ penv' σ' ρ',xj c Cω all l penv σ = some (penv',σ') ∧ KS ρ' A' env' penv' σ' ∧ Go2 n0 ρ A σ ρ' A' σ'
 | [],env,A,k,h => ⟨_,_,h,rfl,fun ρ penv σ n0 hK => ⟨penv,σ,ρ,rfl,hK,Go2.refl _ _ _ _⟩⟩
 | o :: l,env,A,k,h => by
   have go : (zhf c kc C env A o fun v env A => zfb env o.dst v fun e => qx c kc C all l e A k) = some r → ∃ env' A',k env' A' = some r ∧ env'.length = env.length ∧ ∀ ρ penv σ n0,zat all penv o = some true → KS ρ A env penv σ → ∃ penv' σ' ρ',xj c Cω all (o :: l) penv σ = some (penv',σ') ∧ KS ρ' A' env' penv' σ' ∧ Go2 n0 ρ A σ ρ' A' σ' := by
    intro h
    obtain ⟨v,e1,A1,h1,hl1,h2⟩ := z0z hC hO h
    rw [wc] at h1
    obtain ⟨e2,A2,h3,hl2,h4⟩ := zgi hC hO l h1
    refine ⟨e2,A2,h3,by rw [hl2,zpq,hl1],fun ρ penv σ n0 hw hK => ?_⟩
    obtain ⟨p,σ1,g1,ρ1,g2,g3,g4⟩ := h2 ρ penv σ n0 hK
    obtain ⟨penv',σ',ρ',g5,g6,g7⟩ := h4 ρ1 (zi6 penv o.dst p) σ1 n0 (g2.withEnv (zts g2.env g3))
    refine ⟨penv',σ',ρ',?_,g6,g4.trans g7⟩
    simp only [xj,hw,Option.bind_some,if_true,g1]
    exact g5
   have no : qx c kc C all l (zi6 env o.dst (.tuple [])) A k = some r → ∃ env' A',k env' A' = some r ∧ env'.length = env.length ∧ ∀ ρ penv σ n0,zat all penv o = some false → KS ρ A env penv σ → ∃ penv' σ' ρ',xj c Cω all (o :: l) penv σ = some (penv',σ') ∧ KS ρ' A' env' penv' σ' ∧ Go2 n0 ρ A σ ρ' A' σ' := by
    intro h
    obtain ⟨e2,A2,h3,hl2,h4⟩ := zgi hC hO l h
    refine ⟨e2,A2,h3,by rw [hl2,zpq],fun ρ penv σ n0 hw hK => ?_⟩
    obtain ⟨penv',σ',ρ',g5,g6,g7⟩ := h4 ρ (zi6 penv o.dst (.tuple [])) σ n0 (hK.withEnv (zts hK.env (.fr (.tuple .nil))))
    refine ⟨penv',σ',ρ',?_,g6,g7⟩
    simp only [xj,hw,Option.bind_some,Bool.false_eq_true,if_false]
    exact g5
   unfold qx at h
   simp only [ue] at h
   split at h
   ·rename_i hg
    obtain ⟨e,A',h1,h2,h3⟩ := go h
    exact ⟨e,A',h1,h2,fun ρ penv σ n0 hK => h3 ρ penv σ n0 (by unfold zat; rw [hg]) hK⟩
   ·rename_i g w hg
    split at h
    ·cases h
    ·rename_i d hd
     have hwb : ∀ {b : Bool} {ρ penv σ},env.getD d .undef = .bool b → KS ρ A env penv σ → zat all penv o = some (b == w) := fun hb hK => by
      have := hK.env.getD d
      rw [hb] at this
      unfold zat
      rw [hg]
      simp only [hd]
      rw [this.bool_eq]
     split at h
     ·rename_i b hb
      split at h
      ·rename_i hbt
       subst hbt
       rw [zdl hb] at h
       cases w with
       | true =>
         rw [if_pos rfl] at h
         obtain ⟨e,A',h1,h2,h3⟩ := go h
         exact ⟨e,A',h1,h2,fun ρ penv σ n0 hK => h3 ρ penv σ n0 (hwb hb hK) hK⟩
       | false =>
         rw [if_neg (by decide),wc] at h
         obtain ⟨e,A',h1,h2,h3⟩ := no h
         exact ⟨e,A',h1,h2,fun ρ penv σ n0 hK => h3 ρ penv σ n0 (hwb hb hK) hK⟩
      ·rename_i hbt
       have hbf : b = false := by simpa using hbt
       subst hbf
       rw [zdl hb] at h
       cases w with
       | false =>
         rw [if_pos rfl] at h
         obtain ⟨e,A',h1,h2,h3⟩ := go h
         exact ⟨e,A',h1,h2,fun ρ penv σ n0 hK => h3 ρ penv σ n0 (hwb hb hK) hK⟩
       | true =>
         rw [if_neg (by decide),wc] at h
         obtain ⟨e,A',h1,h2,h3⟩ := no h
         exact ⟨e,A',h1,h2,fun ρ penv σ n0 hK => h3 ρ penv σ n0 (hwb hb hK) hK⟩
     ·rename_i vs hb
      rw [wc] at h
      obtain ⟨e,A',h1,h2,h3⟩ := no h
      refine ⟨e,A',h1,h2,fun ρ penv σ n0 hK => h3 ρ penv σ n0 ?_ hK⟩
      have := hK.env.getD d
      rw [hb] at this
      obtain ⟨ps,e,_⟩ := this.tuple_inv
      unfold zat
      rw [hg]
      simp only [hd]
      rw [e]
     ·cases h
end
end Go.Pvm
namespace Go.Pvm
section
variable {P : Program} {ρ ρ' : Nat → PV} {m : Nat} {A A' : List KO} {env penv : List PV} {σ σ' : Store} {β : Type} {r : β}
theorem zjr : ∀ (l : List Nat) {env : List PV} {A : List KO} {k : List PV → List KO → Option β},zc9 l env A k = some r → ∃ env' A',k env' A' = some r ∧ env'.length = env.length ∧
  ∀ ρ penv σ n0,KS ρ A env penv σ → ∃ penv' σ' ρ',vk l penv σ = some (penv',σ') ∧ KS ρ' A' env' penv' σ' ∧ Go2 n0 ρ A σ ρ' A' σ'
 | [],env,A,k,h => ⟨_,_,h,rfl,fun ρ penv σ n0 hK => ⟨penv,σ,ρ,rfl,hK,Go2.refl _ _ _ _⟩⟩
 | t :: l,env,A,k,h => by
   unfold zc9 at h
   split at h
   ·rename_i hcl
    rw [Option.bind_eq_some_iff] at h
    obtain ⟨A1,h1,h⟩ := h
    rw [jp,ue,xl] at h
    obtain ⟨e2,A2,h2,hl,h3⟩ := zjr l h
    refine ⟨e2,A2,h2,by rw [hl]; simp,fun ρ penv σ n0 hK => ?_⟩
    have ht := hK.env.getD t
    obtain ⟨σ1,g0,g1,g2⟩ := zl3 _ h1 hK n0
    have hfz := zbd hK xn ht
    obtain ⟨penv',σ',ρ',g3,g4,g5⟩ := h3 ρ (penv.set t (fz xn σ (penv.getD t .undef))) σ1 n0 (g1.withEnv (g1.env.set (.fr hfz) t))
    refine ⟨penv',σ',ρ',?_,g4,g2.trans g5⟩
    unfold vk zia
    rw [ht.tops_eq hcl,g0]
    exact g3
   ·cases h
theorem zw4 {c : Cfg} {f : FuncId} {id : Nat} {k : Bool → List PV → List KO → Option β} (h : zl5 c f id env A k = some r) : ∃ b env' A',k b env' A' = some r ∧ env'.length = env.length ∧
  ∀ ρ penv σ n0,KS ρ A env penv σ → ∃ penv' σ' ρ',pre c f id penv σ = some (b,penv',σ') ∧ KS ρ' A' env' penv' σ' ∧ Go2 n0 ρ A σ ρ' A' σ' := by
 unfold zl5 at h
 unfold pre
 split at h
 ·rename_i hc
  exact ⟨_,_,_,h,rfl,fun ρ penv σ n0 hK => ⟨penv,σ,ρ,by rw [hc],hK,Go2.refl _ _ _ _⟩⟩
 ·rename_i b zs hc
  obtain ⟨e,A',h1,hl,h2⟩ := zjr zs h
  refine ⟨b,e,A',h1,hl,fun ρ penv σ n0 hK => ?_⟩
  obtain ⟨penv',σ',ρ',g1,g2,g3⟩ := h2 ρ penv σ n0 hK
  exact ⟨penv',σ',ρ',by rw [hc]; simp only [g1,Option.map_some],g2,g3⟩
theorem zhd {n : Nat} {k : List PV → List KO → Option β} (h : zdt (List.range n) env A k = some r) : ∃ env' A',k env' A' = some r ∧ env'.length = env.length ∧
  ∀ ρ penv σ,KS ρ A env penv σ → ∃ ρ',KS ρ' A' env' penv σ ∧ Go2 n ρ A σ ρ' A' σ := by
 unfold zdt at h
 rw [j3] at h
 have hpre : ∀ (l0 l : List Nat) (i : Nat) (k : Nat),l0[i]? = some k → (∃ t,l = l0 ++ t) → l[i]? = some k := fun l0 l i k e ⟨t,ht⟩ => by
  rw [ht,List.getElem?_append_left (List.getElem?_eq_some_iff.1 e).1]; exact e
 have hadd : ∀ (x : List Nat) (l0 : List Nat),∃ t,x.foldl zwe l0 = l0 ++ t := by
  intro x
  induction x with
  | nil => intro l0; exact ⟨[],by simp⟩
  | cons a x ih =>
    intro l0
    obtain ⟨t,ht⟩ := ih (zwe l0 a)
    rw [List.foldl_cons,ht]
    unfold zwe
    split
    ·exact ⟨t,rfl⟩
    ·exact ⟨[a] ++ t,by rw [List.append_assoc]⟩
 have hreach : ∀ (n : Nat) (l0 : List Nat) (i : Nat),∃ t,zdp n A l0 i = l0 ++ t := by
  intro n
  induction n with
  | zero => intro l0 i; exact ⟨[],by simp [zdp]⟩
  | succ n ih =>
    intro l0 i
    unfold zdp
    split
    ·exact ⟨[],by simp⟩
    ·split
     ·rename_i cs _
      obtain ⟨t,ht⟩ := hadd (tops.topss cs) l0
      obtain ⟨t',ht'⟩ := ih ((tops.topss cs).foldl zwe l0) (i + 1)
      exact ⟨t ++ t',by rw [ht',ht,List.append_assoc]⟩
     ·exact ih l0 (i + 1)
 obtain ⟨t,ht⟩ : ∃ t,zdp 64 A ((tops.topss env).foldl zwe (List.range n)) 0 = List.range n ++ t := by
  obtain ⟨t,ht⟩ := hadd (tops.topss env) (List.range n)
  obtain ⟨t',ht'⟩ := hreach 64 ((tops.topss env).foldl zwe (List.range n)) 0
  exact ⟨t ++ t',by rw [ht',ht,List.append_assoc]⟩
 rw [ht] at h
 split at h
 ·rename_i hc
  rw [forceVs_eq,xl] at h
  refine ⟨_,_,h,wl _ _,fun ρ penv σ hK => ?_⟩
  have hlt : ∀ j ∈ List.range n ++ t,j < A.length := fun j hj => by
   have := hc.2
   rw [List.all_eq_true] at this
   simpa using this j hj
  have hp := hK.pack hc.1 hlt
  refine ⟨_,hp,Nat.le_refl _,fun _ _ _ => rfl,fun k x hx => ?_,fun hle => ⟨by simp,fun k hk => ?_⟩⟩
  ·unfold wa at hx
   rw [List.getD_eq_getElem?_getD,List.getElem?_map] at hx
   cases hq : (List.range n ++ t)[k]? with
   | none => rw [hq] at hx; cases hx
   | some j =>
     rw [hq] at hx
     simp only [Option.map_some,Option.getD_some,qa] at hx
     have e : (List.range n ++ t).getD k 0 = j := by rw [List.getD_eq_getElem?_getD,hq]; rfl
     simp only [e] at hx
     exact .inl ⟨j,hx⟩
  ·have hq : (List.range n ++ t)[k]? = some k := hpre (List.range n) _ k k (List.getElem?_range hk) ⟨t,rfl⟩
   have e : (List.range n ++ t).getD k 0 = k := by rw [List.getD_eq_getElem?_getD,hq]; rfl
   rw [List.getD_eq_getElem?_getD (l := List.map _ _),List.getElem?_map,hq]
   simp only [Option.map_some,Option.getD_some,zdo,qa,e]
   exact ⟨fun h => h,fun h => ⟨h,trivial⟩⟩
 ·cases h
structure More (ρ : Nat → PV) (A : List KO) (ρ' : Nat → PV) (A' : List KO) : Prop where
 len : A.length ≤ A'.length
 r : ∀ k,k < A.length → ρ' k = ρ k
 a : ∀ k,k < A.length → A'.getD k .dead = A.getD k .dead
theorem More.refl (ρ : Nat → PV) (A : List KO) : More ρ A ρ A := ⟨Nat.le_refl _,fun _ _ => rfl,fun _ _ => rfl⟩
theorem More.trans {ρ'' : Nat → PV} {A'' : List KO} (h : More ρ A ρ' A') (h' : More ρ' A' ρ'' A'') : More ρ A ρ'' A'' :=
 ⟨Nat.le_trans h.len h'.len,fun k hk => (h'.r k (Nat.lt_of_lt_of_le hk h.len)).trans (h.r k hk),fun k hk => (h'.a k (Nat.lt_of_lt_of_le hk h.len)).trans (h.a k hk)⟩
theorem zbs : ∀ (offs : List (Nat × Nat)) {cs pcs : List PV} {A : List KO} {ρ : Nat → PV},KS ρ A env penv σ → VKs ρ A.length cs pcs → ∀ n0,
  ∃ ρ',KS ρ' (jd offs cs A).2 env penv σ ∧ VKs ρ' (jd offs cs A).2.length (jd offs cs A).1 pcs ∧ Go2 n0 ρ A σ ρ' (jd offs cs A).2 σ ∧ More ρ A ρ' (jd offs cs A).2
 | [],cs,pcs,A,ρ,hK,hc,n0 => ⟨ρ,hK,hc,Go2.refl _ _ _ _,More.refl _ _⟩
 | (o,sz) :: offs,cs,pcs,A,ρ,hK,hc,n0 => by
   show ∃ ρ',KS ρ' (jd offs (uu cs A o sz).1 (uu cs A o sz).2).2 env penv σ ∧ VKs ρ' (jd offs (uu cs A o sz).1 (uu cs A o sz).2).2.length (jd offs (uu cs A o sz).1 (uu cs A o sz).2).1 pcs ∧ Go2 n0 ρ A σ ρ' (jd offs (uu cs A o sz).1 (uu cs A o sz).2).2 σ ∧ More ρ A ρ' (jd offs (uu cs A o sz).1 (uu cs A o sz).2).2
   have same : ∀ x : List PV × List KO,x = (cs,A) → ∃ ρ',KS ρ' (jd offs x.1 x.2).2 env penv σ ∧ VKs ρ' (jd offs x.1 x.2).2.length (jd offs x.1 x.2).1 pcs ∧ Go2 n0 ρ A σ ρ' (jd offs x.1 x.2).2 σ ∧ More ρ A ρ' (jd offs x.1 x.2).2 := fun x hx => by
    rw [hx]; exact zbs offs hK hc n0
   have fin : ∀ x : List PV × List KO,uu cs A o sz = x → ∃ ρ',KS ρ' (jd offs x.1 x.2).2 env penv σ ∧ VKs ρ' (jd offs x.1 x.2).2.length (jd offs x.1 x.2).1 pcs ∧ Go2 n0 ρ A σ ρ' (jd offs x.1 x.2).2 σ ∧ More ρ A ρ' (jd offs x.1 x.2).2 := fun x hx => by
    unfold uu at hx
    split at hx
    ·rename_i hq
     have stay : ∀ {m : Nat} {ρ : Nat → PV} {u : PV} {p : PV},pcs[o]? = some p → VKs ρ m cs pcs → VK ρ m u p → VKs ρ m (cs.set o u) pcs := fun {m ρ u p} hp hc hu => by
      have q := hc.set hu o
      have e : pcs.set o p = pcs := by
       refine List.ext_getElem? fun i => ?_
       by_cases hi : o = i
       ·subst hi; rw [hp,List.getElem?_set_self (List.getElem?_eq_some_iff.1 hp).1]
       ·rw [List.getElem?_set_ne hi]
      rw [e] at q
      exact q
     split at hx
     ·subst hx
      obtain ⟨p,hp,hv⟩ := hc.get hq
      have hpn := hv.nilsl_eq
      subst hpn
      exact zbs offs hK (stay hp hc (.fr (.nl false))) n0
     ·rename_i hsz
      subst hx
      obtain ⟨h1,h2⟩ := hK.more (σ' := σ) (u := .nilsl) (o := .made true sz []) (Nat.le_refl _) (fun _ _ => rfl) (fun i hi => by cases hi) ⟨hsz,rfl,.inl ⟨rfl,rfl⟩⟩ n0
      obtain ⟨p,hp,hv⟩ := hc.get hq
      have hpn := hv.nilsl_eq
      subst hpn
      have hw : VK (upd ρ A.length .nilsl) (A ++ [KO.made true sz []]).length (whole A.length sz) .nilsl := by
       have : VK (upd ρ A.length .nilsl) (A ++ [KO.made true sz []]).length (.lsl A.length sz 0 0 none) (upd ρ A.length .nilsl A.length) := .whole (by simp) (by rw [xu]; rfl)
       rw [xu] at this
       exact this
      have hm : More ρ A (upd ρ A.length .nilsl) (A ++ [KO.made true sz []]) := ⟨by simp,fun k hk => kx _ (by omega),fun k hk => zcg hk⟩
      have hc' : VKs (upd ρ A.length .nilsl) (A ++ [KO.made true sz []]).length (cs.set o (whole A.length sz)) pcs := by
       have q := (hc.mono hm.len hm.r).set hw o
       have e : pcs.set o .nilsl = pcs := by
        refine List.ext_getElem? fun i => ?_
        by_cases hi : o = i
        ·subst hi; rw [hp,List.getElem?_set_self (List.getElem?_eq_some_iff.1 hp).1]
        ·rw [List.getElem?_set_ne hi]
       rw [e] at q
       exact q
      obtain ⟨ρ',g1,g2,g3,g4⟩ := zbs offs h1 hc' n0
      exact ⟨ρ',g1,g2,h2.trans g3,hm.trans g4⟩
    ·exact same x hx.symm
   exact fin _ rfl
theorem zg8 (pl : List Nat) : ∀ (l : List (Nat × TypeId)) {env : List PV} {A : List KO} {ρ : Nat → PV},KS ρ A env penv σ → ∀ n0,∃ ρ',KS ρ' (zag P pl l env A).2 (zag P pl l env A).1 penv σ ∧ Go2 n0 ρ A σ ρ' (zag P pl l env A).2 σ
 | [],env,A,ρ,hK,n0 => ⟨ρ,hK,Go2.refl _ _ _ _⟩
 | (i,t) :: l,env,A,ρ,hK,n0 => by
   have fin : ∀ {x : PV} (cs : List PV) (mk : List PV → PV),env.getD i .undef = x → i < env.length → (∀ ρ m p,VK ρ m x p → ∃ pcs,VKs ρ m cs pcs ∧ ∀ ρ' m' cs',VKs ρ' m' cs' pcs → VK ρ' m' (mk cs') p) →
     ∃ ρ',KS ρ' (zag P pl l (env.set i (mk (jd (uh (pl.contains (2000000 + i)) (vu P 8 t 0)) cs A).1)) (jd (uh (pl.contains (2000000 + i)) (vu P 8 t 0)) cs A).2).2 (zag P pl l (env.set i (mk (jd (uh (pl.contains (2000000 + i)) (vu P 8 t 0)) cs A).1)) (jd (uh (pl.contains (2000000 + i)) (vu P 8 t 0)) cs A).2).1 penv σ ∧ Go2 n0 ρ A σ ρ' (zag P pl l (env.set i (mk (jd (uh (pl.contains (2000000 + i)) (vu P 8 t 0)) cs A).1)) (jd (uh (pl.contains (2000000 + i)) (vu P 8 t 0)) cs A).2).2 σ := by
    intro x cs mk hx hi hcs
    have hxi := hK.env.getD i
    rw [hx] at hxi
    obtain ⟨pcs,h1,h2⟩ := hcs _ _ _ hxi
    obtain ⟨ρ1,g1,g2,g3,_⟩ := zbs (uh (pl.contains (2000000 + i)) (vu P 8 t 0)) hK h1 n0
    have hset : VKs ρ1 (jd (uh (pl.contains (2000000 + i)) (vu P 8 t 0)) cs A).2.length (env.set i (mk (jd (uh (pl.contains (2000000 + i)) (vu P 8 t 0)) cs A).1)) penv := by
     have q := g1.env.set (h2 _ _ _ g2) i
     have e : penv.set i (penv.getD i .undef) = penv := by
      refine List.ext_getElem? fun j => ?_
      by_cases hj : i = j
      ·subst hj
       have hil : i < penv.length := by rw [← hK.env.len]; exact hi
       rw [List.getElem?_set_self hil,List.getD_eq_getElem?_getD,List.getElem?_eq_getElem hil]; rfl
      ·rw [List.getElem?_set_ne hj]
     rw [e] at q
     exact q
    obtain ⟨ρ',g4,g5⟩ := zg8 pl l (g1.withEnv hset) n0
    exact ⟨ρ',g4,g3.trans g5⟩
   have hil : ∀ {x : PV},env.getD i .undef = x → x.known = true → i < env.length := fun hx hk => by
    refine Nat.lt_of_not_le fun hge => ?_
    rw [List.getD_eq_getElem?_getD,List.getElem?_eq_none hge] at hx
    subst hx
    cases hk
   unfold zag
   split
   ·rename_i cs hx
    exact fin cs .agg hx (hil hx rfl) fun ρ m p hp => by
     obtain ⟨ps,rfl,hq⟩ := hp.agg_inv
     exact ⟨ps,hq,fun _ _ _ h => .agg h⟩
   ·rename_i hx
    exact fin [.nilsl] (fun cs => cs.headD .nilsl) hx (hil hx rfl) fun ρ m p hp => by
     rw [hp.nilsl_eq]
     refine ⟨[.nilsl],.one (.fr (.base _ rfl)),fun ρ' m' cs' h => ?_⟩
     cases h with
     | cons a b => exact a
   ·exact zg8 pl l hK n0
theorem zg9 (pl : List Nat) : ∀ (l : List Nat) {A : List KO} {ρ : Nat → PV},KS ρ A env penv σ → ∀ n0,∃ ρ',KS ρ' (zi8 P pl l A) env penv σ ∧ Go2 n0 ρ A σ ρ' (zi8 P pl l A) σ
 | [],A,ρ,hK,n0 => ⟨ρ,hK,Go2.refl _ _ _ _⟩
 | k :: l,A,ρ,hK,n0 => by
   unfold zi8
   split
   ·rename_i w t cs hj
    have hd : je (A.getD k .dead) = false := by rw [hj]; rfl
    obtain ⟨id,pcs,ro,e,s1,s2,s3,s4⟩ := hK.get (qc hd) hj
    obtain ⟨ρ1,g1,g2,g3,g4⟩ := zbs (uh (pl.contains (1000000 + t)) (vu P 8 t 0)) hK s2 n0
    have hkl := qc hd
    have hj' : (jd (uh (pl.contains (1000000 + t)) (vu P 8 t 0)) cs A).2.getD k .dead = .box w t cs := by rw [g4.a k hkl,hj]
    obtain ⟨h1,h2⟩ := g1.put (σ' := σ) (j := k) (o := .box w t (jd (uh (pl.contains (1000000 + t)) (vu P 8 t 0)) cs A).1) (by rw [hj']; rfl) (Nat.le_refl _) (fun _ _ _ => rfl) ⟨id,pcs,ro,by rw [g4.r k hkl]; exact e,s1,g2,s3,s4⟩ (fun _ => rfl) n0
    obtain ⟨ρ',g5,g6⟩ := zg9 pl l h1 n0
    exact ⟨ρ',g5,(g3.trans h2).trans g6⟩
   ·exact zg9 pl l hK n0
theorem zb9 (pl : List Nat) : ∀ (l : List (Nat × TypeId)) (env : List PV) (A : List KO),(zag P pl l env A).1.length = env.length
 | [],_,_ => rfl
 | (i,t) :: l,env,A => by
   unfold zag
   split
   ·rw [zb9 pl l]; simp
   ·rw [zb9 pl l]; simp
   ·exact zb9 pl l _ _
theorem zsp : ∀ (l : List Nat) (A : List KO),WkA A (wkA l A)
 | [],A => ⟨rfl,fun j => ⟨fun _ _ _ _ h => h,fun h => h,fun h => h⟩⟩
 | i :: l,A => by
   unfold wkA
   split
   ·rename_i w sz es hj
    obtain ⟨h1,h2⟩ := zsp l (A.set i (.made false sz es))
    have hil : i < A.length := qc (by rw [hj]; rfl)
    refine ⟨by rw [h1]; simp,fun j => ?_⟩
    obtain ⟨a,b,c⟩ := h2 j
    by_cases hji : j = i
    ·subst hji
     rw [zku hil] at a b c
     rw [hj]
     refine ⟨fun ρ m σ u ⟨q0,q1,q2⟩ => a ρ m σ u ⟨q0,q1,q2.imp (fun x => x) fun ⟨id,cap,ro,ps,tl,e,s1,s2,s3,s4,s5,s6⟩ => ⟨id,cap,ro,ps,tl,e,s1,s2,s3,s4,(fun hwt => by cases hwt),s6⟩⟩,fun h => rfl,fun h => by cases h⟩
    ·rw [getD_set_ne hji] at a b c
     exact ⟨a,b,c⟩
   ·exact zsp l A
theorem zt4 : ∀ (l : List Nat) {env : List PV} {A : List KO} {ρ : Nat → PV},KS ρ A env penv σ → ∀ n0,∃ ρ',KS ρ' (mvA l env A).2 (mvA l env A).1 penv σ ∧ Go2 n0 ρ A σ ρ' (mvA l env A).2 σ
 | [],env,A,ρ,hK,n0 => ⟨ρ,hK,Go2.refl _ _ _ _⟩
 | j :: l,env,A,ρ,hK,n0 => by
   unfold mvA
   split
   ·rename_i w sz es hj
    have hd : je (A.getD j .dead) = false := by rw [hj]; rfl
    obtain ⟨g1,g2⟩ := hK.renew (σ' := σ) (f := mvF j A.length) (j := j) (u := ρ j) (o := .made w sz es) hd (by rw [hj]; rfl) (fun k k' hk e => by
      unfold mvF at e
      split at e
      ·rename_i hkj
       cases e
       exact ⟨by omega,by rw [xu,hkj]⟩
      ·cases e
       exact ⟨by omega,kx _ (by omega)⟩)
     (Nat.le_refl _) (fun _ _ _ => rfl) (fun i hi => .inl hi) (hK.get (qc hd) hj) n0
    obtain ⟨ρ',g3,g4⟩ := zt4 l g1 n0
    exact ⟨ρ',g3,g2.trans g4⟩
   ·exact zt4 l hK n0
theorem zog : ∀ (l : List Nat) (env : List PV) (A : List KO),(mvA l env A).1.length = env.length
 | [],_,_ => rfl
 | j :: l,env,A => by
   unfold mvA
   split
   ·rw [zog l,wl]
   ·exact zog l _ _
theorem zmp {n0 : Nat} {tys : List (Nat × TypeId)} {wk : List Nat × List Nat} {k : List PV → List KO → Option β} (h : zd3 P n0 tys wk env A k = some r) : ∃ env' A',k env' A' = some r ∧ env'.length = env.length ∧
  ∀ ρ penv σ,KS ρ A env penv σ → ∃ ρ',KS ρ' A' env' penv σ ∧ Go2 n0 ρ A σ ρ' A' σ := by
 unfold zd3 at h
 simp only [forceVs_eq,xl] at h
 obtain ⟨e,A',h1,hl,h2⟩ := zhd h
 refine ⟨e,_,h1,by rw [hl,zog,zb9],fun ρ penv σ hK => ?_⟩
 obtain ⟨ρ1,g1,g2⟩ := zg8 (P := P) wk.2 tys hK n0
 obtain ⟨ρ2,g3,g4⟩ := zg9 (P := P) wk.2 _ g1 n0
 obtain ⟨ρ2',g3',g4'⟩ := zt4 wk.2 g3 n0
 obtain ⟨ρ3,g5,g6⟩ := h2 ρ2' penv σ g3'
 obtain ⟨g7,g8⟩ := g5.wk (zsp wk.1 A') n0
 exact ⟨ρ3,g7,(((g2.trans g4).trans g4').trans g6).trans g8⟩
theorem zkr (he : VKs ρ m env penv) (n : Nat) (l : List Nat) : VKs ρ m (zck n l env) (zck n l penv) := by
 refine .map _ fun i _ => ?_
 show VK ρ m (if l.contains i = true then env.getD i .undef else .undef) (if l.contains i = true then penv.getD i .undef else .undef)
 split
 ·exact he.getD i
 ·exact .undef _
theorem zlh {sk : List (Nat × Sk)} {ml : List Nat} {e : List PV} : ∀ (is : List Nat) {k : List PV → Option β},zf5 sk ml e is k = some r → ∃ vs,k vs = some r ∧ vs.length = is.length ∧ ∀ ρ m pe,VKs ρ m e pe → VKs ρ m vs (is.map fun i => if ml.contains i = true then pe.getD i .undef else .undef)
 | [],k,h => ⟨[],h,rfl,fun _ _ _ _ => .nil⟩
 | i :: is,k,h => by
   unfold zf5 at h
   split at h
   ·rename_i s hf
    obtain ⟨v',h1,h2,_⟩ := zie _ h
    obtain ⟨vs,h3,hl,h4⟩ := zlh is h1
    refine ⟨_,h3,by simp [hl],fun ρ m pe hp => .cons ?_ (h4 ρ m pe hp)⟩
    split at hf
    ·rename_i hc
     show VK ρ m v' (if ml.contains i = true then pe.getD i .undef else .undef)
     rw [if_pos hc]
     exact h2 _ _ _ (hp.getD i)
    ·cases hf
   ·obtain ⟨vs,h3,hl,h4⟩ := zlh is h
    exact ⟨_,h3,by simp [hl],fun ρ m pe hp => .cons (.undef _) (h4 ρ m pe hp)⟩
theorem zac {cd : Operand} {b : Bool} {k : List PV → Option β} (h : opd env cd = .bool b) : z0o env cd b k = k env := zly h
theorem um {c : Cfg} {kc : KCfg} {C : yt} {L : yw} {Cω : x5} {Lω : vj} (hC : zbf C Cω) (hL : znj L Lω) (hO : OwnOk kc c.P Cω) {f : FuncId} {n0 : Nat} : ∀ (cd : Code) {env : List PV} {A : List KO} {k : Ex → List PV → List KO → Option β},xz c kc C L f n0 cd env A k = some r →
  ∃ x env' A',k x env' A' = some r ∧ env'.length = env.length ∧ ∀ ρ penv σ,KS ρ A env penv σ → ∃ penv' σ' ρ',yv c Cω Lω f cd penv σ = some (x,penv',σ') ∧ KS ρ' A' env' penv' σ' ∧ Go2 n0 ρ A σ ρ' A' σ'
 | .skip,env,A,k,h | .label _,env,A,k,h | .exit _,env,A,k,h | .ret,env,A,k,h => ⟨_,_,_,h,rfl,fun ρ penv σ hK => ⟨penv,σ,ρ,rfl,hK,Go2.refl _ _ _ _⟩⟩
 | .region id ops draw,env,A,k,h => by
   simp only [xz] at h
   obtain ⟨b,e0,A0,h,hl0,h0⟩ := zw4 h
   simp only [yv]
   unfold vg
   split at h
   ·rename_i hd
    simp only [if_pos hd]
    split at h
    ·rename_i hk
     rw [Bool.and_eq_true] at hk
     have hk' : (zap { c.at_ f with calm := b,calmA := zcr c f id ops.toList } ops.toList && kz ops.toList) = true := by rw [zjo hk.1,hk.2]; rfl
     obtain ⟨e,A',h1,hl,h2⟩ := zgi (c := { c.at_ f with strict := true,calm := b,calmA := zcr c f id ops.toList }) (Cω := Cω) hC hO _ h
     refine ⟨_,_,_,h1,by rw [hl,hl0],fun ρ penv σ hK => ?_⟩
     obtain ⟨penv0,σ0,ρ0,g1,g2,g3⟩ := h0 ρ penv σ n0 hK
     obtain ⟨penv',σ',ρ',g4,g5,g6⟩ := h2 ρ0 penv0 σ0 n0 g2
     refine ⟨penv',σ',ρ',?_,g5,g3.trans g6⟩
     rw [g1]
     simp only [Option.bind_some]
     rw [if_pos hk',g4]
     rfl
    ·cases h
   ·rename_i hd
    simp only [if_neg hd]
    obtain ⟨e,A',h1,hl,h2⟩ := zgi (c := c.at_ f) (Cω := Cω) hC hO _ h
    refine ⟨_,_,_,h1,by rw [hl,hl0],fun ρ penv σ hK => ?_⟩
    obtain ⟨penv0,σ0,ρ0,g1,g2,g3⟩ := h0 ρ penv σ n0 hK
    obtain ⟨penv',σ',ρ',g4,g5,g6⟩ := h2 ρ0 penv0 σ0 n0 g2
    refine ⟨penv',σ',ρ',?_,g5,g3.trans g6⟩
    rw [g1]
    simp only [Option.bind_some]
    rw [g4]
    rfl
 | .seq a b,env,A,k,h => by
   simp only [xz] at h
   obtain ⟨x,e,A1,h1,hl1,h2⟩ := um hC hL hO a h
   simp only [yv]
   cases x with
   | normal =>
     obtain ⟨x',e',A2,h3,hl2,h4⟩ := um hC hL hO b h1
     refine ⟨x',e',A2,h3,by rw [hl2,hl1],fun ρ penv σ hK => ?_⟩
     obtain ⟨penv1,σ1,ρ1,g1,g2,g3⟩ := h2 ρ penv σ hK
     obtain ⟨penv2,σ2,ρ2,g4,g5,g6⟩ := h4 ρ1 penv1 σ1 g2
     exact ⟨penv2,σ2,ρ2,by rw [g1]; exact g4,g5,g3.trans g6⟩
   | exit i =>
     refine ⟨_,e,A1,h1,hl1,fun ρ penv σ hK => ?_⟩
     obtain ⟨penv1,σ1,ρ1,g1,g2,g3⟩ := h2 ρ penv σ hK
     exact ⟨penv1,σ1,ρ1,by rw [g1]; rfl,g2,g3⟩
   | ret =>
     refine ⟨_,e,A1,h1,hl1,fun ρ penv σ hK => ?_⟩
     obtain ⟨penv1,σ1,ρ1,g1,g2,g3⟩ := h2 ρ penv σ hK
     exact ⟨penv1,σ1,ρ1,by rw [g1]; rfl,g2,g3⟩
 | .cond cd a b,env,A,k,h => by
   simp only [xz] at h
   simp only [yv]
   split at h
   ·rename_i t ht
    have hb : ∀ {ρ penv σ},KS ρ A env penv σ → opd penv cd = .bool t := fun hK => by
     have := ji hK.env cd
     rw [ht] at this
     exact this.bool_eq
    split at h
    ·rename_i htt
     subst htt
     rw [zac ht] at h
     obtain ⟨x,e,A1,h1,hl1,h2⟩ := um hC hL hO a h
     refine ⟨x,e,A1,h1,hl1,fun ρ penv σ hK => ?_⟩
     obtain ⟨penv1,σ1,ρ1,g1,g2⟩ := h2 ρ penv σ hK
     exact ⟨penv1,σ1,ρ1,by rw [hb hK]; exact g1,g2⟩
    ·rename_i htt
     have htf : t = false := by simpa using htt
     subst htf
     rw [zac ht] at h
     obtain ⟨x,e,A1,h1,hl1,h2⟩ := um hC hL hO b h
     refine ⟨x,e,A1,h1,hl1,fun ρ penv σ hK => ?_⟩
     obtain ⟨penv1,σ1,ρ1,g1,g2⟩ := h2 ρ penv σ hK
     exact ⟨penv1,σ1,ρ1,by rw [hb hK]; exact g1,g2⟩
   ·cases h
 | .block id cd,env,A,k,h => by
   simp only [xz] at h
   obtain ⟨x,e,A1,h1,hl1,h2⟩ := um hC hL hO cd h
   simp only [yv]
   cases x with
   | normal =>
     refine ⟨_,e,A1,h1,hl1,fun ρ penv σ hK => ?_⟩
     obtain ⟨penv1,σ1,ρ1,g1,g2⟩ := h2 ρ penv σ hK
     exact ⟨penv1,σ1,ρ1,by rw [g1]; rfl,g2⟩
   | ret =>
     refine ⟨_,e,A1,h1,hl1,fun ρ penv σ hK => ?_⟩
     obtain ⟨penv1,σ1,ρ1,g1,g2⟩ := h2 ρ penv σ hK
     exact ⟨penv1,σ1,ρ1,by rw [g1]; rfl,g2⟩
   | exit i =>
     simp only at h1
     split at h1
     ·rename_i hi
      refine ⟨_,e,A1,h1,hl1,fun ρ penv σ hK => ?_⟩
      obtain ⟨penv1,σ1,ρ1,g1,g2⟩ := h2 ρ penv σ hK
      exact ⟨penv1,σ1,ρ1,by rw [g1]; simp only [Option.map_some]; rw [if_pos hi],g2⟩
     ·rename_i hi
      refine ⟨_,e,A1,h1,hl1,fun ρ penv σ hK => ?_⟩
      obtain ⟨penv1,σ1,ρ1,g1,g2⟩ := h2 ρ penv σ hK
      exact ⟨penv1,σ1,ρ1,by rw [g1]; simp only [Option.map_some]; rw [if_neg hi],g2⟩
 | .loop cd,env,A,k,h => by
   simp only [xz] at h
   simp only [yv]
   split at h
   ·rename_i hd l hm
    obtain ⟨e0,A0,h,hl0,h0⟩ := zmp h
    rw [Option.bind_eq_some_iff] at h
    obtain ⟨⟨x,e,A1⟩,h1,h2⟩ := h
    have key : ∀ {sk : List (Nat × Sk)} {os : List OSk} {ml : List Nat} {kk : List PV → List KO → Option β},(zf5 sk ml e (List.range env.length) fun e => u7 os A1 fun A => kk e A) = some r → (z0v l x).map (·.1) = ml →
      ∃ e' A',kk e' A' = some r ∧ e'.length = env.length ∧ ∀ ρ penv σ,KS ρ A env penv σ → ∃ penv' σ' ρ',(Lω f cd (zb0 c f cd penv.length penv) σ).map (fun (x,e,s) => (x,zlm c f cd x penv.length e,s)) = some (x,penv',σ') ∧ KS ρ' A' e' penv' σ' ∧ Go2 n0 ρ A σ ρ' A' σ' := by
     intro sk os ml kk hh hml
     obtain ⟨vs,h3,hl3,h4⟩ := zlh _ hh
     obtain ⟨A',h5,h6⟩ := zif h3
     refine ⟨vs,A',h5,by rw [hl3]; simp,fun ρ penv σ hK => ?_⟩
     have hlen := hK.env.len
     obtain ⟨ρ0,g1,g2⟩ := h0 ρ (zck env.length hd penv) σ (hK.withEnv (zkr hK.env _ _))
     obtain ⟨penv1,σ1,ρ1,g3,g4,g5⟩ := hL f cd n0 e0 A0 x e A1 h1 ρ0 _ σ g1
     have hh' : zb0 c f cd penv.length penv = zck env.length hd penv := by unfold zb0; rw [hm,hlen]
     have ho : zlm c f cd x penv.length penv1 = zck env.length ml penv1 := by unfold zlm; rw [hm,hlen]; simp only; rw [hml]
     obtain ⟨g6,g7⟩ := g4.wk h6 n0
     refine ⟨zck env.length ml penv1,σ1,ρ1,?_,g6.withEnv ?_,(g2.trans g5).trans g7⟩
     ·rw [hh',g3]
      simp only [Option.map_some]
      rw [ho]
     ·rw [h6.1]
      exact h4 _ _ _ g4.env
    cases x with
    | normal => cases h2
    | exit i =>
      replace h2 : (if kc.noex f (y6 cd) = false then zf5 (kc.osk f (y6 cd) _ _).1 (l.1.map (·.1)) e (List.range env.length) fun e => u7 (kc.osk f (y6 cd) _ _).2 A1 fun A => k (.exit i) e A else none) = some r := h2
      split at h2
      ·obtain ⟨e',A',q1,q2,q3⟩ := key h2 rfl
       exact ⟨_,e',A',q1,q2,q3⟩
      ·cases h2
    | ret =>
      replace h2 : (match l.2 with | [] => none | _ :: _ => zf5 (kc.rsk f (y6 cd) _ _).1 (l.2.map (·.1)) e (List.range env.length) fun e => u7 (kc.rsk f (y6 cd) _ _).2 A1 fun A => k .ret e A) = some r := h2
      split at h2
      ·cases h2
      ·rename_i hq
       obtain ⟨e',A',q1,q2,q3⟩ := key h2 rfl
       exact ⟨_,e',A',q1,q2,q3⟩
   ·cases h
 | .rangeFunc ..,_,_,_,h | .scope _,_,_,_,h | .goto _,_,_,_,h | .refuse _,_,_,_,h => by simp only [xz] at h; cases h
theorem zgb {e : List PV} : ∀ (rs : List ResultVar) {k : List PV → Option β},ztq P A e rs k = some r → ∃ vs,k vs = some r ∧ ∀ ρ penv σ,KS ρ A e penv σ → ∃ ps,j6 P σ penv rs = some ps ∧ VKs ρ A.length vs ps
 | [],k,h => ⟨[],h,fun ρ penv σ hK => ⟨[],rfl,.nil⟩⟩
 | .tmp t :: rs,k,h => by
   obtain ⟨vs,h1,h2⟩ := zgb rs h
   refine ⟨_,h1,fun ρ penv σ hK => ?_⟩
   obtain ⟨ps,g1,g2⟩ := h2 ρ penv σ hK
   exact ⟨_,by simp only [j6,zbr,Option.bind_some,g1]; rfl,.cons (hK.env.getD t) g2⟩
 | .cell a t :: rs,k,h => by
   simp only [ztq] at h
   obtain ⟨v,h0,hv⟩ := zmc h
   rw [jp] at h0
   obtain ⟨vs,h1,h2⟩ := zgb rs h0
   refine ⟨_,h1,fun ρ penv σ hK => ?_⟩
   obtain ⟨q,e1,e2⟩ := hv ρ e penv σ _ hK (hK.env.getD a)
   obtain ⟨ps,g1,g2⟩ := h2 ρ penv σ hK
   exact ⟨_,by simp only [j6,zbr,e1,Option.bind_some,g1]; rfl,.cons e2 g2⟩
theorem VKs.split {a b ps : List PV} (h : VKs ρ m (a ++ b) ps) : ∃ p q,ps = p ++ q ∧ VKs ρ m a p ∧ VKs ρ m b q :=
 ⟨ps.take a.length,ps.drop a.length,(List.take_append_drop _ _).symm,by have := h.take a.length; rwa [List.take_left] at this,by have := h.drop a.length; rwa [List.drop_left] at this⟩
theorem zsv (u : PV) (a n : Nat) : tops (zm2 u a n) = tops u := by
 cases u <;> rfl
theorem zy3 {u : PV} {a n : Nat} (h : hdl u = true) : hdl (zm2 u a n) = true := by
 cases u <;> first | rfl | cases h
theorem KOR.cut {ρ' : Nat → PV} {m' : Nat} {u : PV} {w : Bool} {sz n : Nat} {es : List (List PV)} (h : KOR ρ m σ u (.made w sz es)) (hv : zsr u 0 n) : KOR ρ' m' σ (zm2 u 0 n) (.made w sz (es.take n)) := by
 obtain ⟨q0,q1,⟨rfl,rfl⟩ | ⟨id,cap,ro,ps,tl,rfl,s1,s2,s3,s4,s5,s6⟩⟩ := h
 ·exact ⟨q0,by simp [y5],.inl ⟨rfl,by simp⟩⟩
 ·have hv : 0 + n ≤ es.length := hv
  have hl := s2.len
  refine ⟨q0,j5 q1 n,.inr ⟨id,cap.map (· - 0),ro,ps.take n,ps.drop n ++ tl,?_,?_,s2.take n,?_,jc (va (ju s2 q1) n) s4,s5,s6⟩⟩
  ·show PV.lsl id sz 0 n _ = _
   rw [List.length_take]
   congr 1
   omega
  ·rw [← List.append_assoc,List.take_append_drop]; exact s1
  ·rcases s3 with rfl | rfl
   ·exact .inl rfl
   ·right
    simp only [Option.map_some]
    congr 1
    rw [List.length_take,List.length_append,List.length_drop]
    omega
theorem zcc (m0 : Nat) : ∀ (nr : List Nat) {dn vs : List PV} {A : List KO} {k : List PV → List KO → Option β},zf1 m0 nr dn vs A k = some r → ∃ vs' A',k vs' A' = some r ∧
  ∀ ρ σ n0 ps,KS ρ A (dn ++ vs) ps σ → ∃ ρ',KS ρ' A' vs' ps σ ∧ Go2 n0 ρ A σ ρ' A' σ
 | [],dn,vs,A,k,h => ⟨_,A,h,fun ρ σ n0 ps hK => ⟨ρ,hK,Go2.refl _ _ _ _⟩⟩
 | _ :: _,dn,[],A,k,h => ⟨dn,A,h,fun ρ σ n0 ps hK => by rw [List.append_nil] at hK; exact ⟨ρ,hK,Go2.refl _ _ _ _⟩⟩
 | n :: nr,dn,v :: vs,A,k,h => by
   have rest : zf1 m0 nr (dn ++ [v]) vs A k = some r → ∃ vs' A',k vs' A' = some r ∧
     ∀ ρ σ n0 ps,KS ρ A (dn ++ v :: vs) ps σ → ∃ ρ',KS ρ' A' vs' ps σ ∧ Go2 n0 ρ A σ ρ' A' σ := fun h => by
    obtain ⟨vs',A',h1,h2⟩ := zcc m0 nr h
    refine ⟨_,A',h1,fun ρ σ n0 ps hK => h2 ρ σ n0 ps ?_⟩
    rw [List.append_assoc]; exact hK
   cases n with
   | zero => exact rest h
   | succ sz =>
     unfold zf1 at h
     split at h
     ·obtain ⟨vs',A',h1,h2⟩ := zcc m0 nr h
      refine ⟨_,A',h1,fun ρ σ n0 ps hK => ?_⟩
      obtain ⟨pd,p1,rfl,hd,hv⟩ := hK.env.split
      obtain ⟨p,pt,rfl,hv,ht⟩ := VKs.cons_inv hv
      rw [hv.nilsl_eq]
      obtain ⟨m1,m2⟩ := (hK.withEnv (hd.app ht)).more (σ' := σ) (u := .nilsl) (o := .made true (sz + 1) []) (Nat.le_refl _) (fun _ _ => rfl) (fun i hi => by cases hi) ⟨Nat.succ_ne_zero _,rfl,.inl ⟨rfl,rfl⟩⟩ n0
      have hl : A.length < (A ++ [KO.made true (sz + 1) []]).length := by simp
      have hw : VK (upd ρ A.length .nilsl) (A ++ [KO.made true (sz + 1) []]).length (.lsl A.length (sz + 1) 0 0 none) (upd ρ A.length .nilsl A.length) := .whole hl (by rw [xu]; rfl)
      rw [xu] at hw
      obtain ⟨q1,q2,e9,hd',ht'⟩ := m1.env.split
      have hle : q1.length = pd.length := by rw [← hd'.len,← hd.len]
      obtain ⟨rfl,rfl⟩ := List.append_inj e9.symm hle
      obtain ⟨ρ',g1,g2⟩ := h2 _ σ n0 _ (m1.withEnv (by rw [List.append_assoc]; exact hd'.app (.cons hw ht')))
      exact ⟨ρ',g1,m2.trans g2⟩
     ·rename_i j sz' a n
      split at h
      ·rename_i hc
       obtain ⟨hj0,rfl,rfl,rfl⟩ := hc
       split at h
       rotate_left
       ·cases h
       rename_i sz'' es hj
       split at h
       rotate_left
       ·cases h
       rename_i hsz
       subst hsz
       unfold uk at h
       rw [forceVs_eq,xl] at h
       obtain ⟨vs',A',h1,h2⟩ := zcc m0 nr h
       refine ⟨_,A',h1,fun ρ σ n0 ps hK => ?_⟩
       obtain ⟨pd,p1,rfl,hd,hv⟩ := hK.env.split
       obtain ⟨p,pt,rfl,hv,ht⟩ := VKs.cons_inv hv
       obtain ⟨hjl,hh,⟨_,_,_,rfl⟩ | ⟨e,_⟩⟩ := hv.lsl_inv
       rotate_left
       ·cases e
       have hko := hK.get hjl hj
       obtain ⟨ρ1,s1,s2,s3⟩ := (hK.withEnv (hd.app ht)).anew (u := ρ j) (σ' := σ) (new := es) hj n0 hh (Nat.le_refl _) (fun _ _ _ => rfl) (fun i hi => .inl hi) hko
       obtain ⟨q1,q2,e9,hd',ht'⟩ : ∃ q1 q2,pd ++ pt = q1 ++ q2 ∧ VKs ρ1 _ ((rnm.rnms (we [j]) (dn ++ vs)).take dn.length) q1 ∧ VKs ρ1 _ ((rnm.rnms (we [j]) (dn ++ vs)).drop dn.length) q2 :=
        ⟨(pd ++ pt).take dn.length,(pd ++ pt).drop dn.length,(List.take_append_drop _ _).symm,s1.env.take _,s1.env.drop _⟩
       have hle : q1.length = pd.length := by
        rw [← hd'.len,List.length_take,wl,List.length_append,← hd.len]; omega
       obtain ⟨rfl,rfl⟩ := List.append_inj e9.symm hle
       obtain ⟨ρ',g1,g2⟩ := h2 _ σ n0 _ (s1.withEnv (by rw [List.append_assoc]; exact hd'.app (.cons s2 ht')))
       exact ⟨ρ',g1,s3.trans g2⟩
      ·exact rest h
     ·rename_i j sz' a n c0
      split at h
      ·rename_i hc
       obtain ⟨rfl,rfl⟩ := hc
       split at h
       rotate_left
       ·cases h
       rename_i ha0
       subst ha0
       split at h
       rotate_left
       ·cases h
       rename_i sz'' es hj
       split at h
       rotate_left
       ·cases h
       rename_i hsz
       subst hsz
       unfold uk at h
       rw [forceVs_eq,xl] at h
       obtain ⟨vs',A',h1,h2⟩ := zcc m0 nr h
       refine ⟨_,A',h1,fun ρ σ n0 ps hK => ?_⟩
       obtain ⟨pd,p1,rfl,hd,hv⟩ := hK.env.split
       obtain ⟨p,pt,rfl,hv,ht⟩ := VKs.cons_inv hv
       obtain ⟨hjl,hh,⟨e,_⟩ | ⟨_,hvo,rfl⟩⟩ := hv.lsl_inv
       ·cases e
       have hko := hK.get hjl hj
       obtain ⟨ρ1,s1,s2,s3⟩ := (hK.withEnv (hd.app ht)).anew (u := zm2 (ρ j) 0 n) (σ' := σ) (new := es.take n) hj n0 (zy3 hh) (Nat.le_refl _) (fun _ _ _ => rfl) (fun i hi => .inl (by rwa [zsv] at hi)) (KOR.cut hko hvo)
       obtain ⟨q1,q2,e9,hd',ht'⟩ : ∃ q1 q2,pd ++ pt = q1 ++ q2 ∧ VKs ρ1 _ ((rnm.rnms (we [j]) (dn ++ vs)).take dn.length) q1 ∧ VKs ρ1 _ ((rnm.rnms (we [j]) (dn ++ vs)).drop dn.length) q2 :=
        ⟨(pd ++ pt).take dn.length,(pd ++ pt).drop dn.length,(List.take_append_drop _ _).symm,s1.env.take _,s1.env.drop _⟩
       have hle : q1.length = pd.length := by
        rw [← hd'.len,List.length_take,wl,List.length_append,← hd.len]; omega
       obtain ⟨rfl,rfl⟩ := List.append_inj e9.symm hle
       obtain ⟨ρ',g1,g2⟩ := h2 _ σ n0 _ (s1.withEnv (by rw [List.append_assoc]; exact hd'.app (.cons s2 ht')))
       exact ⟨ρ',g1,s3.trans g2⟩
      ·exact rest h
     ·exact rest h
theorem zxb (m0 : Nat) (nr : List Nat) {vs : List PV} {A : List KO} {k : List PV → List KO → Option β} (h : zxc m0 nr vs A k = some r) : ∃ vs' A',k vs' A' = some r ∧
  ∀ ρ σ n0 ps,KS ρ A vs ps σ → ∃ ρ',KS ρ' A' vs' ps σ ∧ Go2 n0 ρ A σ ρ' A' σ := by
 unfold zxc at h
 split at h
 ·split at h
  ·rename_i cs vs'
   obtain ⟨ws,A',h1,h2⟩ := zcc m0 nr.tail h
   refine ⟨_,A',h1,fun ρ σ n0 ps hK => ?_⟩
   obtain ⟨p,pt,rfl,hv,ht⟩ := VKs.cons_inv hK.env
   obtain ⟨qs,rfl,hq⟩ := hv.agg_inv
   obtain ⟨ρ',g1,g2⟩ := h2 ρ σ n0 (qs ++ pt) (hK.withEnv (hq.app ht))
   refine ⟨ρ',g1.withEnv (.cons (.agg ?_) ?_),g2⟩
   ·have := g1.env.take cs.length
    rwa [hq.len,List.take_left,← hq.len] at this
   ·have := g1.env.drop cs.length
    rwa [hq.len,List.drop_left,← hq.len] at this
  ·cases h
 ·exact zcc m0 nr h
theorem zst {vs ps : List PV} (h : VKs ρ m vs ps) : VK ρ m (zbc vs) (zbc ps) := by
 match h with
 | .nil => exact .fr (.tuple .nil)
 | .cons h .nil => exact h
 | .cons h (.cons h' t) => exact .tuple (.cons h (.cons h' t))
end
theorem zs1 {c : Cfg} {kc : KCfg} {C : yt} {L : yw} (hC : zbf C (jg c)) (hL : znj L (zbi c)) (hO : OwnOk kc c.P (jg c)) : zbf (yu c kc C L) (jg c) := by
 intro g args A r A' h ρ pargs σ hK
 unfold yu at h
 split at h
 ·cases h
 rename_i htold
 have hT : c.told g = none := by
  cases hq : c.told g with
  | none => rfl
  | some u => rw [hq] at htold; exact absurd rfl htold
 split at h
 ·rename_i fn hf
  split at h
  ·rename_i cd hcd
   obtain ⟨x,e,A1,h1,_,h2⟩ := um hC hL hO cd h
   have hent : VKs ρ A.length (zd6 fn args) (zd6 fn pargs) := by
    unfold zd6
    rw [← hK.env.len]
    refine hK.env.app (.of (All2.replicate (.undef _) _))
   obtain ⟨penv',σ',ρ1,g1,g2,g3⟩ := h2 ρ _ σ (hK.withEnv hent)
   have fin : ∀ {vs : List PV},(zxc A.length (kc.nret g) vs A1 fun vs A2 => zdt (List.range A.length) [zbc vs] A2 fun e A => xi e fun v _ => some (v,A)) = some (r,A') → (∃ ps,j6 c.P σ' penv' fn.results.toList = some ps ∧ VKs ρ1 A1.length vs ps) → (x = .normal ∨ x = .ret) → ∃ p σ'' ρ',jg c g pargs σ = some (p,σ'') ∧ KS ρ' A' [r] [p] σ'' ∧ Go2 A.length ρ A σ ρ' A' σ'' := by
    intro vs hp0 ⟨ps,hps,hvs⟩ hx
    obtain ⟨vs1,A3,hp,hnl⟩ := zxb _ _ hp0
    obtain ⟨ρ3,n1,n2⟩ := hnl ρ1 σ' A.length ps (g2.withEnv hvs)
    obtain ⟨e2,A2,q1,q2,q3⟩ := zhd hp
    obtain ⟨ρ2,q4,q5⟩ := q3 ρ3 [zbc ps] σ' (n1.withEnv (.one (zst n1.env)))
    unfold xi at q1
    split at q1
    ·rename_i v0 e3
     cases q1
     have h30 : e3 = [] := by
      have : e3.length + 1 = 1 := q2
      exact List.eq_nil_of_length_eq_zero (by omega)
     subst h30
     refine ⟨zbc ps,σ',ρ2,?_,q4,(g3.trans n2).trans q5⟩
     refine zqq hT ?_
     unfold zbh
     rw [hT]
     simp only [hf,hcd,g1,Option.bind_some,hps,Option.map_some]
     rcases hx with rfl | rfl <;> rfl
    ·cases q1
   cases x with
   | exit i => cases h1
   | normal =>
     obtain ⟨vs,h3,h4⟩ := zgb _ h1
     exact fin h3 (h4 ρ1 penv' σ' g2) (.inl rfl)
   | ret =>
     obtain ⟨vs,h3,h4⟩ := zgb _ h1
     exact fin h3 (h4 ρ1 penv' σ' g2) (.inr rfl)
  ·cases h
 ·cases h
theorem zq3 {c : Cfg} {kc : KCfg} {C : yt} {L : yw} (hC : zbf C (jg c)) (hL : znj L (zbi c)) (hO : OwnOk kc c.P (jg c)) : znj (yx c kc C L) (zbi c) := by
 intro f cd n0 env A x env' A' h ρ penv σ hK
 unfold yx at h
 obtain ⟨x0,e,A1,h1,hl1,h2⟩ := um hC hL hO cd h
 obtain ⟨penv1,σ1,ρ1,g1,g2,g3⟩ := h2 ρ penv σ hK
 have hlen := hK.env.len
 have hout : ∀ n y,VKs ρ1 A1.length (zlm c f cd y n e) (zlm c f cd y n penv1) := fun n y => by
  unfold zlm
  split
  ·exact zkr g2.env _ _
  ·exact g2.env
 have hhead : ∀ n,VKs ρ1 A1.length (zb0 c f cd n e) (zb0 c f cd n penv1) := fun n => by
  unfold zb0
  split
  ·exact zkr g2.env _ _
  ·exact g2.env
 unfold z1e at h1
 split at h1
 ·obtain ⟨e2,A2,q1,_,q2⟩ := zmp h1
  obtain ⟨ρ2,q3,q4⟩ := q2 ρ1 _ σ1 (g2.withEnv (hhead env.length))
  obtain ⟨penv3,σ3,ρ3,q5,q6,q7⟩ := hL f cd n0 e2 A2 x env' A' q1 ρ2 _ σ1 q3
  refine ⟨penv3,σ3,ρ3,?_,q6,(g3.trans q4).trans q7⟩
  refine zp6 ?_
  unfold zbg
  simp only [g1,Option.bind_some,← hlen]
  exact q5
 ·rename_i y hy
  obtain ⟨e2,A2,q1,_,q2⟩ := zhd h1
  cases q1
  obtain ⟨ρ2,q3,q4⟩ := q2 ρ1 _ σ1 (g2.withEnv (hout env.length x))
  refine ⟨zlm c f cd x env.length penv1,σ1,ρ2,?_,q3,g3.trans q4⟩
  refine zp6 ?_
  unfold zbg
  simp only [g1,Option.bind_some,← hlen]
theorem zlw {c : Cfg} {kc : KCfg} (hO : OwnOk kc c.P (jg c)) : ∀ n,zbf (qw c kc n) (jg c) ∧ znj (loopNK c kc n) (zbi c)
 | 0 => ⟨(fun g args A r A' h => by cases h),(fun f cd n0 env A x env' A' h => by cases h)⟩
 | n + 1 => ⟨by unfold qw; exact zs1 (zlw hO n).1 (zlw hO n).2 hO,by unfold loopNK; exact zq3 (zlw hO n).1 (zlw hO n).2 hO⟩
end Go.Pvm
namespace Go.Pvm
section
variable {β γ : Type} {κ : γ → Option β}
def s2 {X Y : Type} (x : X) (y : Y) : Option (X × Y) := some (x,y)
def s3 {X Y Z : Type} (x : X) (y : Y) (z : Z) : Option (X × Y × Z) := some (x,y,z)
theorem zo8 (i : IntKind) (v : PV) {g : Int → Option β} {f : Int → Option γ} (h : ∀ n,g n = (f n).bind κ) : asInt i v g = (asInt i v f).bind κ := by
 unfold asInt; split
 ·split
  ·exact h _
  ·rfl
 ·rfl
theorem zqu (v : PV) {g : Bool → Option β} {f : Bool → Option γ} (h : ∀ n,g n = (f n).bind κ) : asBool v g = (asBool v f).bind κ := by
 unfold asBool; split
 ·exact h _
 ·rfl
theorem zv4 (v : PV) {g : ByteArray → Option β} {f : ByteArray → Option γ} (h : ∀ n,g n = (f n).bind κ) : zo6 v g = (zo6 v f).bind κ := by
 unfold zo6; split
 ·exact h _
 ·rfl
theorem z15 (i : FloatKind) (v : PV) {g : Nat → Option β} {f : Nat → Option γ} (h : ∀ n,g n = (f n).bind κ) : zeg i v g = (zeg i v f).bind κ := by
 unfold zeg; split
 ·split
  ·exact h _
  ·rfl
 ·rfl
theorem z47 (v : PV) {g : List (List PV) → Option β} {f : List (List PV) → Option γ} (h : ∀ n,g n = (f n).bind κ) : k7 v g = (k7 v f).bind κ := by
 unfold k7; split <;> first | exact h _ | rfl
theorem zo7 (d : Option TypeDesc) (v : PV) {g : PV → Option β} {f : PV → Option γ} (h : ∀ n,g n = (f n).bind κ) : asK d v g = (asK d v f).bind κ := by
 unfold asK
 split
 ·exact zo8 _ _ fun _ => h _
 ·exact zqu _ fun _ => h _
 ·exact zv4 _ fun _ => h _
 ·exact h _
theorem k8 {c : Prop} [Decidable c] {a b : Option β} {a' b' : Option γ} (h : a = a'.bind κ) (h' : b = b'.bind κ) : (if c then a else b) = (if c then a' else b').bind κ := by
 split <;> assumption
theorem x9 {c : Prop} [Decidable c] {a : Option β} {a' : Option γ} (h : a = a'.bind κ) : (if c then a else none) = (if c then a' else none).bind κ := k8 h rfl
theorem y7 {X : Type} (o : Option X) {g : X → Option β} {f : X → Option γ} (h : ∀ x,g x = (f x).bind κ) : o.bind g = (o.bind f).bind κ := by
 cases o with
 | none => rfl
 | some x => exact h x
mutual
theorem znd : ∀ (s : Sk) (v : PV) {g : PV → Option β} {f : PV → Option γ} (h : ∀ n,g n = (f n).bind κ),asSk s v g = (asSk s v f).bind κ
 | .any,v,_,_,h => h _
 | .drop,v,_,_,h => h _
 | .bool,v,_,_,h => zqu _ fun _ => h _
 | .str,v,_,_,h => zv4 _ fun _ => h _
 | .psl,v,_,_,h => z47 _ fun _ => h _
 | .int i,v,_,_,h => zo8 _ _ fun _ => h _
 | .flt i,v,_,_,h => z15 _ _ fun _ => h _
 | .ref a b c,v,_,_,h => by
   unfold asSk xm; split
   ·exact x9 (h _)
   ·rfl
 | .whole a b,v,_,_,h => by
   unfold asSk y2; split
   ·exact x9 (h _)
   ·rfl
 | .agg l,v,_,_,h => by
   unfold asSk asAgg; split
   ·exact asSks_b l _ fun _ => h _
   ·rfl
 | .tup l,v,_,_,h => by
   unfold asSk jm; split
   ·exact asSks_b l _ fun _ => h _
   ·rfl
 | .view a b,v,_,_,h => by
   unfold asSk zjv; split
   ·exact x9 (h _)
   ·rfl
 | .wv a b,v,_,_,h => by
   unfold asSk zwc; split
   ·exact x9 (h _)
   ·exact x9 (h _)
   ·rfl
 | .fn a l,v,_,_,h => by
   unfold asSk zzd; split
   ·exact x9 (asSks_b l _ fun _ => h _)
   ·rfl
 | .pref l,v,_,_,h => by
   unfold asSk zqt; split
   ·exact asSks_b l _ fun _ => h _
   ·rfl
theorem asSks_b : ∀ (l : List Sk) (cs : List PV) {g : List PV → Option β} {f : List PV → Option γ} (h : ∀ n,g n = (f n).bind κ),asSk.asSks l cs g = (asSk.asSks l cs f).bind κ
 | [],cs,_,_,h => by
   unfold asSk.asSks yq; split
   ·exact h _
   ·rfl
 | s :: l,cs,_,_,h => by
   unfold asSk.asSks xi; split
   ·exact znd s _ fun _ => asSks_b l _ fun _ => h _
   ·rfl
end
variable {P : Program} {A : List KO} {env : List PV}
theorem zn2 (A : List KO) (x : PV) {g : List (List PV) → Option β} {f : List (List PV) → Option γ} (h : ∀ n,g n = (f n).bind κ) : zl2 A x g = (zl2 A x f).bind κ := by
 unfold zl2
 split <;> first | exact h _ | rfl | skip
 split
 ·split <;> exact h _
 ·rfl
theorem z04 (A : List KO) (x : PV) {g : Nat → Option β} {f : Nat → Option γ} (h : ∀ n,g n = (f n).bind κ) : zrj A x g = (zrj A x f).bind κ := by
 unfold zrj
 split <;> first | exact h _ | rfl | skip
 split
 ·exact h _
 ·split
  ·exact h _
  ·rfl
theorem zxq (t : TypeId) (a : PV) {g : PV → Option β} {f : PV → Option γ} (h : ∀ n,g n = (f n).bind κ) : zhu P A t a g = (zhu P A t a f).bind κ := by
 unfold zhu
 split
 ·exact y7 _ h
 ·split
  ·exact x9 (y7 _ h)
  ·exact y7 _ fun _ => y7 _ fun _ => znd _ _ h
  ·rfl
 ·rfl
theorem zsz (t : TypeId) (a v : PV) {g : List KO → Option β} {f : List KO → Option γ} (h : ∀ n,g n = (f n).bind κ) : zen P A t a v g = (zen P A t a v f).bind κ := by
 unfold zen
 simp only [xl]
 split
 ·refine y7 _ fun _ => ?_
  split
  ·exact x9 (h _)
  ·exact x9 (x9 (h _))
  ·rfl
 ·rfl
theorem zxt (l : List Nat) (env : List PV) (A : List KO) {g : List PV → List KO → Option β} {f : List PV → List KO → Option γ} (h : ∀ n A,g n A = (f n A).bind κ) : uk l env A g = (uk l env A f).bind κ := by
 unfold uk
 simp only [forceVs_eq,xl]
 exact h _ _
theorem zv8 (el : TypeId) (s x : PV) {g : PV → List PV → List KO → Option β} {f : PV → List PV → List KO → Option γ} (h : ∀ n e A,g n e A = (f n e A).bind κ) : znh P el s x env A g = (znh P el s x env A f).bind κ := by
 unfold znh
 refine y7 _ fun _ => y7 _ fun _ => y7 _ fun _ => zn2 _ _ fun _ => ?_
 refine k8 rfl (k8 rfl ?_)
 split
 ·exact x9 (h _ _ _)
 ·split
  ·exact x9 (x9 (zxt _ _ _ fun _ _ => h _ _ _))
  ·rfl
 ·rfl
theorem zy7 (s d : TypeId) (x : PV) {g : PV → Option β} {f : PV → Option γ} (h : ∀ n,g n = (f n).bind κ) : zjp P A s d x g = (zjp P A s d x f).bind κ := by
 unfold zjp
 split
 ·split
  ·exact k8 rfl (zn2 _ _ fun _ => y7 _ fun _ => h _)
  ·rfl
 ·exact x9 (y7 _ h)
theorem z1r (t : TypeId) (x : PV) (lo hi mx : Option PV) {g : PV → Option β} {f : PV → Option γ} (h : ∀ n,g n = (f n).bind κ) : zr6 P A t x lo hi mx g = (zr6 P A t x lo hi mx f).bind κ := by
 unfold zr6
 refine k8 rfl ?_
 split
 ·exact y7 _ h
 ·exact y7 _ h
 ·exact y7 _ fun _ => y7 _ fun _ => y7 _ fun _ => x9 (x9 (h _))
 ·refine y7 _ fun _ => k8 rfl ?_
  split
  ·refine k8 rfl ?_
   split
   ·exact y7 _ fun _ => y7 _ fun _ => x9 (h _)
   ·exact y7 _ fun _ => y7 _ fun _ => x9 (h _)
  ·rfl
 ·exact y7 _ fun _ => y7 _ fun _ => y7 _ fun _ => x9 (h _)
 ·rfl
theorem zj0 (i : Int) (n : Nat) {g : Nat → Option β} {f : Nat → Option γ} (h : ∀ m,g m = (f m).bind κ) : ∀ r,ze9 i n g r = (ze9 i n f r).bind κ
 | 0 => rfl
 | r + 1 => by unfold ze9; exact k8 (h _) (zj0 i n h r)
theorem zu0 (t ty : TypeId) (x i : PV) {g : PV → Option β} {f : PV → Option γ} (h : ∀ n,g n = (f n).bind κ) : ze4 P t ty x i g = (ze4 P t ty x i f).bind κ := by
 unfold ze4
 split
 ·split
  ·exact y7 _ fun _ => y7 _ fun _ => zj0 _ _ (fun _ => y7 _ fun _ => zo7 _ _ h) _
  ·rfl
 ·exact y7 _ fun _ => zo7 _ _ h
theorem z09 (t : TypeId) (x i : PV) {g : PV → Option β} {f : PV → Option γ} (h : ∀ n,g n = (f n).bind κ) : zrp P A t x i g = (zrp P A t x i f).bind κ := by
 unfold zrp
 refine y7 _ fun _ => ?_
 split
 ·refine y7 _ fun _ => ?_
  split
  ·exact x9 (y7 _ fun _ => asSks_b _ _ fun _ => x9 (h _))
  ·refine k8 rfl ?_
   split
   ·refine k8 rfl ?_
    split
    ·exact x9 (h _)
    ·exact x9 (h _)
   ·rfl
  ·rfl
 ·refine y7 _ fun _ => zj0 _ _ (fun _ => ?_) _
  split <;> first | exact h _ | rfl
 ·rfl
theorem zw6 (l : List Nat) (env : List PV) (A : List KO) {g : List PV → List KO → Option β} {f : List PV → List KO → Option γ} (h : ∀ n A,g n A = (f n A).bind κ) : zdt l env A g = (zdt l env A f).bind κ := by
 unfold zdt
 simp only [j3,forceVs_eq,xl]
 exact x9 (h _ _)
theorem zql (n0 : Nat) (tys : List (Nat × TypeId)) (wk : List Nat × List Nat) (env : List PV) (A : List KO) {g : List PV → List KO → Option β} {f : List PV → List KO → Option γ} (h : ∀ n A,g n A = (f n A).bind κ) : zd3 P n0 tys wk env A g = (zd3 P n0 tys wk env A f).bind κ := by
 unfold zd3
 simp only [forceVs_eq,xl]
 exact zw6 _ _ _ fun _ _ => h _ _
theorem z14 (s : OSk) (o : KO) {g : KO → Option β} {f : KO → Option γ} (h : ∀ n,g n = (f n).bind κ) : zsh s o g = (zsh s o f).bind κ := by
 unfold zsh
 split
 ·unfold zjw; split
  ·rfl
  ·exact h _
 ·unfold zng; split
  ·exact x9 (asSks_b _ _ fun _ => h _)
  ·rfl
 ·unfold zfw; split
  ·exact x9 (h _)
  ·rfl
theorem zgt : ∀ (s : List OSk) (l : List KO) {g : List KO → Option β} {f : List KO → Option γ} (h : ∀ n,g n = (f n).bind κ),u7 s l g = (u7 s l f).bind κ
 | [],l,_,_,h => by
   unfold u7 yo; split
   ·exact h _
   ·rfl
 | s :: sr,l,_,_,h => by
   unfold u7 zdb; split
   ·exact z14 s _ fun _ => zgt sr _ fun _ => h _
   ·rfl
theorem zli (sk : List (Nat × Sk)) (m : List Nat) (e : List PV) : ∀ (is : List Nat) {g : List PV → Option β} {f : List PV → Option γ} (h : ∀ n,g n = (f n).bind κ),zf5 sk m e is g = (zf5 sk m e is f).bind κ
 | [],_,_,h => h _
 | i :: is,_,_,h => by
   unfold zf5
   split
   ·exact znd _ _ fun _ => zli sk m e is fun _ => h _
   ·exact zli sk m e is fun _ => h _
theorem zxr (kc : KCfg) (C : yt) (n : FuncId) (args : List PV) {g : PV → List PV → List KO → Option β} {f : PV → List PV → List KO → Option γ} (h : ∀ n e A,g n e A = (f n e A).bind κ) : zfs kc C n args env A g = (zfs kc C n args env A f).bind κ := by
 unfold zfs
 simp only [j3,forceVs_eq,xl,jp]
 exact x9 (y7 _ fun _ => znd _ _ fun _ => zgt _ _ fun _ => x9 (h _ _ _))
theorem zgu (l : List PV) {g : PV → List PV → Option β} {f : PV → List PV → Option γ} (h : ∀ a b,g a b = (f a b).bind κ) : xi l g = (xi l f).bind κ := by
 unfold xi
 split
 ·exact h _ _
 ·rfl
theorem zv5 (l : List PV) {g : Option β} {f : Option γ} (h : g = f.bind κ) : yq l g = (yq l f).bind κ := by
 unfold yq
 split
 ·exact h
 ·rfl
theorem zkg (A : List KO) (d : PV) (sz : Nat) {g : Nat → List (List PV) → Nat → Nat → Option β} {f : Nat → List (List PV) → Nat → Nat → Option γ} (h : ∀ a b c d,g a b c d = (f a b c d).bind κ) : zcp A d sz g = (zcp A d sz f).bind κ := by
 unfold zcp
 split
 ·refine k8 rfl ?_
  split
  ·refine k8 rfl ?_
   split <;> exact h _ _ _ _
  ·rfl
 ·rfl
theorem zwi (u : Word) (args : List PV) {g : PV → List PV → List KO → Option β} {f : PV → List PV → List KO → Option γ} (h : ∀ n e A,g n e A = (f n e A).bind κ) : zpf P u args env A g = (zpf P u args env A f).bind κ := by
 cases u with
 | insert t =>
   show zrm P t args env A g = (zrm P t args env A f).bind κ
   unfold zrm
   refine zgu _ fun s l => zgu _ fun i l => zgu _ fun x l => zv5 _ (zo8 _ _ fun i => ?_)
   split
   ·refine y7 _ fun _ => y7 _ fun _ => y7 _ fun _ => k8 rfl ?_
    split
    ·split
     ·refine x9 ?_
      split
      ·exact x9 (x9 (h _ _ _))
      ·split
       ·refine x9 ?_
        split
        ·refine x9 (x9 (x9 ?_))
         unfold uk
         simp only [forceVs_eq,xl]
         exact h _ _ _
        ·rfl
       ·split
        ·refine x9 (x9 (x9 ?_))
         unfold uk
         simp only [forceVs_eq,xl]
         exact h _ _ _
        ·rfl
      ·rfl
     ·rfl
    ·rfl
   ·rfl
 | sort =>
   show zq6 args env A g = (zq6 args env A f).bind κ
   unfold zq6
   refine zgu _ fun s l => zv5 _ ?_
   split
   ·exact h _ _ _
   ·exact zkg _ _ _ fun _ _ _ _ => x9 (y7 _ fun _ => h _ _ _)
theorem zy8 (c : Cfg) (kc : KCfg) (C : yt) (n : FuncId) (args : List PV) (ty : TypeId) {g : PV → List PV → List KO → Option β} {f : PV → List PV → List KO → Option γ} (h : ∀ n e A,g n e A = (f n e A).bind κ) : zbe c kc C n args ty env A g = (zbe c kc C n args ty env A f).bind κ := by
 unfold zbe
 simp only [forceVs_eq]
 refine k8 ?_ (x9 (y7 _ fun _ => h _ _ _))
 split
 ·exact y7 _ fun _ => znd _ _ fun _ => k8 (h _ _ _) (k8 rfl (k8 (x9 (h _ _ _)) (y7 _ fun _ => h _ _ _)))
 ·split
  ·exact y7 _ fun _ => h _ _ _
  ·rfl
 ·split
  ·exact zwi _ _ h
  ·exact zxr _ _ _ _ h
 ·rfl
theorem z1z (b : Builtin) (ts : List TypeId) (args : List PV) (ty : TypeId) {g : PV → List PV → List KO → Option β} {f : PV → List PV → List KO → Option γ} (h : ∀ n e A,g n e A = (f n e A).bind κ) : zsg P b ts args ty env A g = (zsg P b ts args ty env A f).bind κ := by
 unfold zsg
 split
 ·split
  ·split
   ·exact h _ _ _
   ·rfl
  ·exact k8 rfl (z04 _ _ fun _ => h _ _ _)
  ·rfl
 ·exact x9 (y7 _ fun _ => zo7 _ _ fun _ => h _ _ _)
 ·exact x9 (y7 _ fun _ => zo7 _ _ fun _ => h _ _ _)
 ·split
  ·exact k8 rfl (zv8 _ _ _ h)
  ·exact x9 (zv8 _ _ _ h)
  ·rfl
 ·split
  ·exact y7 _ fun _ => zn2 _ _ fun _ => k8 rfl (zkg _ _ _ fun _ _ _ _ => h _ _ _)
  ·rfl
 ·split
  ·exact y7 _ fun _ => y7 _ fun _ => k8 rfl (zkg _ _ _ fun _ _ _ _ => h _ _ _)
  ·rfl
 ·rfl
theorem zzv (c : Cfg) (kc : KCfg) (C : yt) (o : Oper) {g : PV → List PV → List KO → Option β} {f : PV → List PV → List KO → Option γ} (h : ∀ n e A,g n e A = (f n e A).bind κ) : zhf c kc C env A o g = (zhf c kc C env A o f).bind κ := by
 obtain ⟨dst,op,type,pos,after,guard⟩ := o
 unfold zhf
 cases op <;> simp only [jp]
 case move x => exact h _ _ _
 case assign x => exact h _ _ _
 case pick cd a b =>
  split
  ·exact k8 (h _ _ _) (h _ _ _)
  ·rfl
 case alloc el => exact y7 _ fun _ => x9 (h _ _ _)
 case box el x => exact x9 (h _ _ _)
 case build t ps => exact y7 _ fun _ => h _ _ _
 case buildSlice t n ps =>
  split
  ·exact y7 _ fun _ => y7 _ fun _ => x9 (y7 _ fun _ => x9 (h _ _ _))
  ·rfl
 case load t a => exact k8 (y7 _ fun _ => h _ _ _) (zxq _ _ fun _ => h _ _ _)
 case store t a x => exact zsz _ _ _ fun _ => h _ _ _
 case nilCheck x => exact y7 _ fun _ => h _ _ _
 case binOp op t x y ty => exact y7 _ fun _ => zo7 _ _ fun _ => h _ _ _
 case unOp op t x => exact y7 _ fun _ => zo7 _ _ fun _ => h _ _ _
 case convert s d x => exact zy7 _ _ _ fun _ => zo7 _ _ fun _ => h _ _ _
 case makeFunc fn fs cs =>
  cases fn <;> simp only
  case func f => exact x9 (h _ _ _)
  all_goals rfl
 case makeSlice t l cp =>
  split
  ·exact y7 _ fun _ => y7 _ fun _ => y7 _ fun _ => x9 (x9 (h _ _ _))
  ·rfl
 case slice t x lo hi mx => exact z1r _ _ _ _ _ fun _ => h _ _ _
 case fieldAddr s x f => exact y7 _ fun _ => h _ _ _
 case field s x f => exact y7 _ fun _ => h _ _ _
 case indexAddr t x i => exact z09 _ _ _ fun _ => h _ _ _
 case index t x i => exact zu0 _ _ _ _ fun _ => h _ _ _
 case extract x i => exact y7 _ fun _ => h _ _ _
 case call cl =>
  obtain ⟨callee,args,ts⟩ := cl
  cases callee <;> simp only
  case builtin b => exact z1z _ _ _ _ h
  case value x => exact y7 _ fun _ => zy8 _ _ _ _ _ _ h
  case invoke x m => rfl
 all_goals rfl
theorem zkl (c : Cfg) (kc : KCfg) (C : yt) (all : List Oper) : ∀ (l : List Oper) (env : List PV) (A : List KO) {g : List PV → List KO → Option β} {f : List PV → List KO → Option γ} (h : ∀ n A,g n A = (f n A).bind κ),qx c kc C all l env A g = (qx c kc C all l env A f).bind κ
 | [],_,_,_,_,h => h _ _
 | o :: l,env,A,g,f,h => by
   have go : ∀ (env : List PV),(zhf c kc C env A o fun v env A => zfb env o.dst v fun e => qx c kc C all l e A g) = (zhf c kc C env A o fun v env A => zfb env o.dst v fun e => qx c kc C all l e A f).bind κ := fun env => by
    simp only [wc]
    exact zzv _ _ _ _ fun _ _ _ => zkl c kc C all l _ _ h
   have no : ∀ (env : List PV),(zfb env o.dst (.tuple []) fun e => qx c kc C all l e A g) = (zfb env o.dst (.tuple []) fun e => qx c kc C all l e A f).bind κ := fun env => by
    simp only [wc]
    exact zkl c kc C all l _ _ h
   unfold qx
   split
   ·exact go env
   ·split
    ·rfl
    ·split
     ·simp only [ue]
      exact k8 (k8 (go _) (no _)) (k8 (go _) (no _))
     ·exact no _
     ·rfl
theorem zm4 : ∀ (l : List Nat) (e : List PV) (A : List KO) {g : List PV → List KO → Option β} {f : List PV → List KO → Option γ} (h : ∀ n A,g n A = (f n A).bind κ),zc9 l e A g = (zc9 l e A f).bind κ
 | [],_,_,_,_,h => h _ _
 | t :: l,e,A,g,f,h => by
   unfold zc9
   simp only [jp,ue,xl]
   exact x9 (y7 _ fun _ => zm4 l _ _ h)
theorem ztw (c : Cfg) (n : FuncId) (id : Nat) (env : List PV) (A : List KO) {g : Bool → List PV → List KO → Option β} {f : Bool → List PV → List KO → Option γ} (h : ∀ b n A,g b n A = (f b n A).bind κ) : zl5 c n id env A g = (zl5 c n id env A f).bind κ := by
 unfold zl5
 split
 ·exact h _ _ _
 ·exact zm4 _ _ _ fun _ _ => h _ _ _
theorem z27 (x : Ex) {e : Nat → Option γ} {r : Option γ} {e' : Nat → Option β} {r' : Option β} (he : ∀ i,e' i = (e i).bind κ) (hr : r' = r.bind κ) : jq x e' r' = (jq x e r).bind κ := by
 cases x with
 | normal => rfl
 | exit i => exact he i
 | ret => exact hr
theorem zch (c : Cfg) (kc : KCfg) (C : yt) (L : yw) (n : FuncId) (n0 : Nat) : ∀ (cd : Code) (env : List PV) (A : List KO) {g : Ex → List PV → List KO → Option β} {f : Ex → List PV → List KO → Option γ} (h : ∀ x e A,g x e A = (f x e A).bind κ),xz c kc C L n n0 cd env A g = (xz c kc C L n n0 cd env A f).bind κ
 | .skip,_,_,_,_,h | .label _,_,_,_,_,h | .exit _,_,_,_,_,h | .ret,_,_,_,_,h => h _ _ _
 | .region id ops draw,env,A,g,f,h => by
   simp only [xz]
   exact ztw _ _ _ _ _ fun _ _ _ => k8 (x9 (zkl _ _ _ _ _ _ _ fun _ _ => h _ _ _)) (zkl _ _ _ _ _ _ _ fun _ _ => h _ _ _)
 | .seq a b,env,A,g,f,h => by
   simp only [xz]
   refine zch c kc C L n n0 a _ _ fun x e s => ?_
   cases x with
   | normal => exact zch c kc C L n n0 b _ _ h
   | exit i => exact h _ _ _
   | ret => exact h _ _ _
 | .cond cd a b,env,A,g,f,h => by
   simp only [xz]
   split
   ·rename_i t ht
    split
    ·rename_i htt
     subst htt
     rw [zac ht,zac ht]
     exact zch c kc C L n n0 a _ _ h
    ·rename_i htt
     have htf : t = false := by simpa using htt
     subst htf
     rw [zac ht,zac ht]
     exact zch c kc C L n n0 b _ _ h
   ·rfl
 | .block id cd,env,A,g,f,h => by
   simp only [xz]
   refine zch c kc C L n n0 cd _ _ fun x e s => ?_
   cases x with
   | normal => exact h _ _ _
   | exit i => exact k8 (h _ _ _) (h _ _ _)
   | ret => exact h _ _ _
 | .loop cd,env,A,g,f,h => by
   simp only [xz]
   split
   ·refine zql _ _ _ _ _ fun _ _ => y7 _ fun _ => z27 _ (fun i => x9 (zli _ _ _ _ fun _ => zgt _ _ fun _ => h _ _ _)) ?_
    split
    ·rfl
    ·exact zli _ _ _ _ fun _ => zgt _ _ fun _ => h _ _ _
   ·rfl
 | .rangeFunc ..,_,_,_,_,_ | .scope _,_,_,_,_,_ | .goto _,_,_,_,_,_ | .refuse _,_,_,_,_,_ => by simp only [xz]; rfl
theorem zgj (c : Cfg) (kc : KCfg) (C : yt) (o : Oper) (k : PV → List PV → List KO → Option β) : zhf c kc C env A o k = (zhf c kc C env A o s3).bind fun x => k x.1 x.2.1 x.2.2 := zzv c kc C o fun _ _ _ => rfl
theorem zbt (c : Cfg) (n : FuncId) (id : Nat) (env : List PV) (A : List KO) (k : Bool → List PV → List KO → Option β) : zl5 c n id env A k = (zl5 c n id env A s3).bind fun x => k x.1 x.2.1 x.2.2 := ztw c n id env A fun _ _ _ => rfl
theorem kv (n0 : Nat) (tys : List (Nat × TypeId)) (wk : List Nat × List Nat) (env : List PV) (A : List KO) (k : List PV → List KO → Option β) : zd3 P n0 tys wk env A k = (zd3 P n0 tys wk env A s2).bind fun x => k x.1 x.2 := zql n0 tys wk env A fun _ _ => rfl
theorem x4 (c : Cfg) (kc : KCfg) (C : yt) (L : yw) (n : FuncId) (n0 : Nat) (cd : Code) (env : List PV) (A : List KO) (k : Ex → List PV → List KO → Option β) : xz c kc C L n n0 cd env A k = (xz c kc C L n n0 cd env A s3).bind fun x => k x.1 x.2.1 x.2.2 := zch c kc C L n n0 cd env A fun _ _ _ => rfl
end
end Go.Pvm
namespace Go.Pvm
def zwb (C C' : yt) : Prop := ∀ f a A r,C f a A = some r → C' f a A = some r
def z2d (L L' : yw) : Prop := ∀ f cd n e A r,L f cd n e A = some r → L' f cd n e A = some r
section
variable {β : Type} {r : β} {A : List KO} {env : List PV} {c : Cfg} {kc : KCfg} {C C' : yt} {L L' : yw} {f : FuncId} {n0 : Nat}
theorem zre (hC : zwb C C') {g : FuncId} {args : List PV} {v : PV} (h : yn C g args = some v) : yn C' g args = some v := by
 unfold yn at h ⊢
 rw [Option.map_eq_some_iff] at h
 obtain ⟨q,h1,h2⟩ := h
 rw [hC _ _ _ _ h1,Option.map_some,h2]
theorem zn9 (hC : zwb C C') {g : FuncId} {args : List PV} {v : PV} (h : zdr kc C g args = some v) : zdr kc C' g args = some v := by
 unfold zdr at h ⊢
 split at h
 ·exact h
 ·exact zre hC h
theorem zo1 (hC : zwb C C') {g : FuncId} {args : List PV} {ty : TypeId} {k : PV → List PV → List KO → Option β} (h : zbe c kc C g args ty env A k = some r) : zbe c kc C' g args ty env A k = some r := by
 unfold zbe at h ⊢
 simp only [forceVs_eq] at h ⊢
 split at h
 ·rename_i he
  rw [if_pos he]
  split at h
  ·rename_i hm
   rw [Option.bind_eq_some_iff] at h
   obtain ⟨v,h1,h2⟩ := h
   rw [zn9 hC h1]
   exact h2
  ·exact h
  ·rename_i hm
   split at h
   ·exact h
   unfold zfs at h ⊢
   simp only [j3,forceVs_eq,xl,jp] at h ⊢
   split at h
   ·rename_i hq
    rw [if_pos hq]
    rw [Option.bind_eq_some_iff] at h
    obtain ⟨v,h1,h2⟩ := h
    rw [hC _ _ _ _ h1]
    exact h2
   ·cases h
  ·exact h
 ·rename_i he
  rw [if_neg he]
  exact h
theorem zl7 (hC : zwb C C') {o : Oper} {k : PV → List PV → List KO → Option β} (h : zhf c kc C env A o k = some r) : zhf c kc C' env A o k = some r := by
 obtain ⟨dst,op,type,pos,after,guard⟩ := o
 cases op
 case call cl =>
  obtain ⟨callee,args,ts⟩ := cl
  cases callee
  case value x =>
   unfold zhf at h ⊢
   simp only [Option.bind_eq_some_iff] at h ⊢
   obtain ⟨q,h1,h2⟩ := h
   exact ⟨q,h1,zo1 hC h2⟩
  all_goals exact h
 case makeFunc fn fs cs => cases fn <;> exact h
 all_goals exact h
theorem zai (hC : zwb C C') {all : List Oper} : ∀ (l : List Oper) {env : List PV} {A : List KO} {k : List PV → List KO → Option β},qx c kc C all l env A k = some r → qx c kc C' all l env A k = some r
 | [],_,_,_,h => h
 | o :: l,env,A,k,h => by
   have go : ∀ {env : List PV},(zhf c kc C env A o fun v env A => zfb env o.dst v fun e => qx c kc C all l e A k) = some r → (zhf c kc C' env A o fun v env A => zfb env o.dst v fun e => qx c kc C' all l e A k) = some r := fun h => by
    rw [zgj,Option.bind_eq_some_iff] at h
    obtain ⟨x,h1,h2⟩ := h
    rw [zgj,zl7 hC h1]
    simp only [Option.bind_some]
    rw [wc] at h2 ⊢
    exact zai hC l h2
   have no : ∀ {env : List PV},(zfb env o.dst (.tuple []) fun e => qx c kc C all l e A k) = some r → (zfb env o.dst (.tuple []) fun e => qx c kc C' all l e A k) = some r := fun h => by
    rw [wc] at h ⊢
    exact zai hC l h
   unfold qx at h ⊢
   split at h
   ·rename_i hg
    (try rw [hg])
    exact go h
   ·rename_i g w hg
    (try rw [hg])
    simp only [ue] at h ⊢
    split at h
    ·cases h
    ·rename_i d hd
     (try rw [hd])
     (try simp only)
     split at h
     ·rename_i b hb
      (try simp only [hb])
      split at h
      ·rename_i hbt
       (try rw [if_pos hbt])
       split at h
       ·rename_i hw; (try rw [if_pos hw]); exact go h
       ·rename_i hw; (try rw [if_neg hw]); exact no h
      ·rename_i hbt
       (try rw [if_neg hbt])
       split at h
       ·rename_i hw; (try rw [if_pos hw]); exact go h
       ·rename_i hw; (try rw [if_neg hw]); exact no h
     ·rename_i vs hb
      (try simp only [hb])
      exact no h
     ·cases h
theorem jr (hC : zwb C C') (hL : z2d L L') : ∀ (cd : Code) {β : Type} {r : β} {env : List PV} {A : List KO} {k : Ex → List PV → List KO → Option β},xz c kc C L f n0 cd env A k = some r → xz c kc C' L' f n0 cd env A k = some r
 | .skip,_,_,_,_,_,h | .label _,_,_,_,_,_,h | .exit _,_,_,_,_,_,h | .ret,_,_,_,_,_,h => h
 | .region id ops draw,β,r,env,A,k,h => by
   simp only [xz] at h ⊢
   rw [zbt,Option.bind_eq_some_iff] at h
   obtain ⟨x,h1,h2⟩ := h
   rw [zbt,h1]
   simp only [Option.bind_some]
   split at h2
   ·rename_i hd
    rw [if_pos hd]
    split at h2
    ·rename_i hk
     rw [if_pos hk]
     exact zai hC _ h2
    ·cases h2
   ·rename_i hd
    rw [if_neg hd]
    exact zai hC _ h2
 | .seq a b,β,r,env,A,k,h => by
   simp only [xz] at h ⊢
   rw [x4,Option.bind_eq_some_iff] at h
   obtain ⟨⟨x,e,A1⟩,h1,h2⟩ := h
   rw [x4,jr hC hL a h1]
   simp only [Option.bind_some]
   cases x with
   | normal => exact jr hC hL b h2
   | exit i => exact h2
   | ret => exact h2
 | .cond cd a b,β,r,env,A,k,h => by
   simp only [xz] at h ⊢
   split at h
   ·rename_i t ht
    split at h
    ·rename_i htt
     rw [if_pos htt]
     subst htt
     rw [zac ht] at h ⊢
     exact jr hC hL a h
    ·rename_i htt
     rw [if_neg htt]
     have htf : t = false := by simpa using htt
     subst htf
     rw [zac ht] at h ⊢
     exact jr hC hL b h
   ·cases h
 | .block id cd,β,r,env,A,k,h => by
   simp only [xz] at h ⊢
   rw [x4,Option.bind_eq_some_iff] at h
   obtain ⟨⟨x,e,A1⟩,h1,h2⟩ := h
   rw [x4,jr hC hL cd h1]
   exact h2
 | .loop cd,β,r,env,A,k,h => by
   simp only [xz] at h ⊢
   split at h
   ·rename_i hd l hm
    rw [kv,Option.bind_eq_some_iff] at h
    obtain ⟨x,h1,h2⟩ := h
    rw [Option.bind_eq_some_iff] at h2
    obtain ⟨y,h3,h4⟩ := h2
    rw [kv,h1]
    simp only [Option.bind_some]
    rw [hL _ _ _ _ _ _ h3]
    exact h4
   ·cases h
 | .rangeFunc ..,_,_,_,_,_,h | .scope _,_,_,_,_,_,h | .goto _,_,_,_,_,_,h | .refuse _,_,_,_,_,_,h => by simp only [xz] at h; cases h
theorem znt (hC : zwb C C') (hL : z2d L L') : zwb (yu c kc C L) (yu c kc C' L') := fun g a A r h => by
 unfold yu at h ⊢
 split at h
 ·cases h
 rename_i ht
 rw [if_neg ht]
 split at h
 ·rename_i fn hf
  split at h
  ·rename_i cd hcd
   exact jr hC hL cd h
  ·cases h
 ·cases h
theorem zlt (hC : zwb C C') (hL : z2d L L') : z2d (yx c kc C L) (yx c kc C' L') := fun g cd n e A r h => by
 unfold yx at h ⊢
 rw [x4,Option.bind_eq_some_iff] at h
 obtain ⟨⟨x,e1,A1⟩,h1,h2⟩ := h
 rw [x4,jr hC hL cd h1]
 simp only [Option.bind_some]
 unfold z1e at h2 ⊢
 cases x with
 | normal =>
   simp only at h2 ⊢
   rw [kv,Option.bind_eq_some_iff] at h2
   obtain ⟨y,h3,h4⟩ := h2
   rw [kv,h3]
   exact hL _ _ _ _ _ _ h4
 | exit i => exact h2
 | ret => exact h2
end
theorem znc (c : Cfg) (kc : KCfg) : ∀ n,zwb (qw c kc n) (qw c kc (n + 1)) ∧ z2d (loopNK c kc n) (loopNK c kc (n + 1))
 | 0 => ⟨(fun f a A r h => by cases h),(fun f cd n e A r h => by cases h)⟩
 | n + 1 => by
   obtain ⟨h1,h2⟩ := znc c kc n
   refine ⟨fun f a A r h => ?_,fun f cd n e A r h => ?_⟩
   ·unfold qw at h ⊢; exact znt h1 h2 _ _ _ _ h
   ·unfold loopNK at h ⊢; exact zlt h1 h2 _ _ _ _ _ _ h
theorem qp (c : Cfg) (kc : KCfg) {m : Nat} : ∀ n,m ≤ n → zwb (qw c kc m) (qw c kc n) ∧ z2d (loopNK c kc m) (loopNK c kc n)
 | 0,h => by
   have : m = 0 := by omega
   subst this
   exact ⟨fun _ _ _ _ h => h,fun _ _ _ _ _ _ h => h⟩
 | n + 1,h => by
   by_cases he : m = n + 1
   ·subst he; exact ⟨fun _ _ _ _ h => h,fun _ _ _ _ _ _ h => h⟩
   ·obtain ⟨h1,h2⟩ := qp c kc (m := m) n (by omega)
    obtain ⟨h3,h4⟩ := znc c kc n
    exact ⟨fun _ _ _ _ h => h3 _ _ _ _ (h1 _ _ _ _ h),fun _ _ _ _ _ _ h => h4 _ _ _ _ _ _ (h2 _ _ _ _ _ _ h)⟩
open Classical in
noncomputable def k9 (c : Cfg) (kc : KCfg) : yt := fun f a A => if h : ∃ n r,qw c kc n f a A = some r then qw c kc (Classical.choose h) f a A else none
open Classical in
noncomputable def zfr (c : Cfg) (kc : KCfg) : yw := fun f cd n0 e A => if h : ∃ n r,loopNK c kc n f cd n0 e A = some r then loopNK c kc (Classical.choose h) f cd n0 e A else none
section
variable {c : Cfg} {kc : KCfg}
theorem callωK_iff {g : FuncId} {a : List PV} {A : List KO} {r : PV × List KO} : k9 c kc g a A = some r ↔ ∃ n,qw c kc n g a A = some r := by
 unfold k9
 constructor
 ·intro h
  split at h
  ·exact ⟨_,h⟩
  ·cases h
 ·rintro ⟨n,h⟩
  have hx : ∃ n r,qw c kc n g a A = some r := ⟨n,r,h⟩
  rw [dif_pos hx]
  obtain ⟨r',hr'⟩ := Classical.choose_spec hx
  rw [hr']
  rcases Nat.le_total n (Classical.choose hx) with hle | hle
  ·rw [(qp c kc _ hle).1 _ _ _ _ h] at hr'; exact hr'.symm
  ·rw [(qp c kc _ hle).1 _ _ _ _ hr'] at h; exact h
theorem loopωK_iff {g : FuncId} {cd : Code} {n0 : Nat} {e : List PV} {A : List KO} {r : Ex × List PV × List KO} : zfr c kc g cd n0 e A = some r ↔ ∃ n,loopNK c kc n g cd n0 e A = some r := by
 unfold zfr
 constructor
 ·intro h
  split at h
  ·exact ⟨_,h⟩
  ·cases h
 ·rintro ⟨n,h⟩
  have hx : ∃ n r,loopNK c kc n g cd n0 e A = some r := ⟨n,r,h⟩
  rw [dif_pos hx]
  obtain ⟨r',hr'⟩ := Classical.choose_spec hx
  rw [hr']
  rcases Nat.le_total n (Classical.choose hx) with hle | hle
  ·rw [(qp c kc _ hle).2 _ _ _ _ _ _ h] at hr'; exact hr'.symm
  ·rw [(qp c kc _ hle).2 _ _ _ _ _ _ hr'] at h; exact h
theorem z2w (hO : OwnOk kc c.P (jg c)) : zbf (k9 c kc) (jg c) := fun g args A r A' h => by
 obtain ⟨n,h⟩ := callωK_iff.1 h
 exact (zlw hO n).1 g args A r A' h
section
variable {β : Type} {r : β} {A : List KO} {env : List PV} {c2 : Cfg} {f : FuncId} {n0 : Nat}
theorem zoa {g : FuncId} {args : List PV} {v : PV} (h : zdr kc (k9 c kc) g args = some v) : ∃ n,zdr kc (qw c kc n) g args = some v := by
 unfold zdr at h ⊢
 split at h
 ·exact ⟨0,h⟩
 ·unfold yn at h
  rw [Option.map_eq_some_iff] at h
  obtain ⟨q,h3,h4⟩ := h
  obtain ⟨n,h5⟩ := callωK_iff.1 h3
  refine ⟨n,?_⟩
  unfold yn
  rw [h5,Option.map_some,h4]
theorem zo2 {g : FuncId} {args : List PV} {ty : TypeId} {k : PV → List PV → List KO → Option β} (h : zbe c2 kc (k9 c kc) g args ty env A k = some r) : ∃ n,zbe c2 kc (qw c kc n) g args ty env A k = some r := by
 unfold zbe at h ⊢
 simp only [forceVs_eq] at h ⊢
 split at h
 ·rename_i he
  simp only [if_pos he]
  split at h
  ·rename_i hm
   rw [Option.bind_eq_some_iff] at h
   obtain ⟨v,h1,h2⟩ := h
   obtain ⟨n,h3⟩ := zoa h1
   refine ⟨n,?_⟩
   rw [h3]
   exact h2
  ·exact ⟨0,h⟩
  ·rename_i hm
   split at h
   ·exact ⟨0,h⟩
   unfold zfs at h ⊢
   simp only [j3,forceVs_eq,xl,jp] at h ⊢
   split at h
   ·rename_i hq
    simp only [if_pos hq]
    rw [Option.bind_eq_some_iff] at h
    obtain ⟨v,h1,h2⟩ := h
    obtain ⟨n,h5⟩ := callωK_iff.1 h1
    exact ⟨n,by rw [h5]; exact h2⟩
   ·cases h
  ·exact ⟨0,h⟩
 ·rename_i he
  simp only [if_neg he]
  exact ⟨0,h⟩
theorem zty {o : Oper} {k : PV → List PV → List KO → Option β} (h : zhf c2 kc (k9 c kc) env A o k = some r) : ∃ n,zhf c2 kc (qw c kc n) env A o k = some r := by
 obtain ⟨dst,op,type,pos,after,guard⟩ := o
 cases op
 case call cl =>
  obtain ⟨callee,args,ts⟩ := cl
  cases callee
  case value x =>
   unfold zhf at h ⊢
   simp only [Option.bind_eq_some_iff] at h ⊢
   obtain ⟨q,h1,h2⟩ := h
   obtain ⟨n,h3⟩ := zo2 h2
   exact ⟨n,q,h1,h3⟩
  all_goals exact ⟨0,h⟩
 case makeFunc fn fs cs => cases fn <;> exact ⟨0,h⟩
 all_goals exact ⟨0,h⟩
theorem zcb {all : List Oper} : ∀ (l : List Oper) {env : List PV} {A : List KO} {k : List PV → List KO → Option β},qx c2 kc (k9 c kc) all l env A k = some r → ∃ n,qx c2 kc (qw c kc n) all l env A k = some r
 | [],_,_,_,h => ⟨0,h⟩
 | o :: l,env,A,k,h => by
   have go : ∀ {env : List PV},(zhf c2 kc (k9 c kc) env A o fun v env A => zfb env o.dst v fun e => qx c2 kc (k9 c kc) all l e A k) = some r → ∃ n,(zhf c2 kc (qw c kc n) env A o fun v env A => zfb env o.dst v fun e => qx c2 kc (qw c kc n) all l e A k) = some r := fun h => by
    rw [zgj,Option.bind_eq_some_iff] at h
    obtain ⟨x,h1,h2⟩ := h
    rw [wc] at h2
    obtain ⟨n1,h3⟩ := zty h1
    obtain ⟨n2,h4⟩ := zcb l h2
    refine ⟨max n1 n2,?_⟩
    rw [zgj,zl7 (qp c kc _ (Nat.le_max_left n1 n2)).1 h3]
    simp only [Option.bind_some]
    rw [wc]
    exact zai (qp c kc _ (Nat.le_max_right n1 n2)).1 l h4
   have no : ∀ {env : List PV},(zfb env o.dst (.tuple []) fun e => qx c2 kc (k9 c kc) all l e A k) = some r → ∃ n,(zfb env o.dst (.tuple []) fun e => qx c2 kc (qw c kc n) all l e A k) = some r := fun h => by
    simp only [wc] at h ⊢
    exact zcb l h
   unfold qx at h ⊢
   split at h
   ·rename_i hg
    (try rw [hg])
    exact go h
   ·rename_i g w hg
    (try rw [hg])
    simp only [ue] at h ⊢
    split at h
    ·cases h
    ·rename_i d hd
     (try rw [hd])
     (try simp only)
     split at h
     ·rename_i b hb
      (try simp only [hb])
      split at h
      ·rename_i hbt
       (try simp only [if_pos hbt])
       split at h
       ·rename_i hw; (try simp only [if_pos hw]); exact go h
       ·rename_i hw; (try simp only [if_neg hw]); exact no h
      ·rename_i hbt
       (try simp only [if_neg hbt])
       split at h
       ·rename_i hw; (try simp only [if_pos hw]); exact go h
       ·rename_i hw; (try simp only [if_neg hw]); exact no h
     ·rename_i vs hb
      (try simp only [hb])
      exact no h
     ·cases h
theorem kg : ∀ (cd : Code) {β : Type} {r : β} {env : List PV} {A : List KO} {k : Ex → List PV → List KO → Option β},xz c kc (k9 c kc) (zfr c kc) f n0 cd env A k = some r → ∃ n,xz c kc (qw c kc n) (loopNK c kc n) f n0 cd env A k = some r
 | .skip,_,_,_,_,_,h | .label _,_,_,_,_,_,h | .exit _,_,_,_,_,_,h | .ret,_,_,_,_,_,h => ⟨0,h⟩
 | .region id ops draw,β,r,env,A,k,h => by
   simp only [xz] at h ⊢
   rw [zbt,Option.bind_eq_some_iff] at h
   obtain ⟨x,h1,h2⟩ := h
   split at h2
   ·rename_i hd
    split at h2
    ·rename_i hk
     obtain ⟨n,h3⟩ := zcb _ h2
     refine ⟨n,?_⟩
     rw [zbt,h1]
     simp only [Option.bind_some]
     rw [if_pos hd,if_pos hk]
     exact h3
    ·cases h2
   ·rename_i hd
    obtain ⟨n,h3⟩ := zcb _ h2
    refine ⟨n,?_⟩
    rw [zbt,h1]
    simp only [Option.bind_some]
    rw [if_neg hd]
    exact h3
 | .seq a b,β,r,env,A,k,h => by
   simp only [xz] at h ⊢
   rw [x4,Option.bind_eq_some_iff] at h
   obtain ⟨⟨x,e,A1⟩,h1,h2⟩ := h
   obtain ⟨n1,h3⟩ := kg a h1
   cases x with
   | normal =>
     obtain ⟨n2,h4⟩ := kg b h2
     refine ⟨max n1 n2,?_⟩
     obtain ⟨u1,u2⟩ := qp c kc _ (Nat.le_max_left n1 n2)
     obtain ⟨u3,u4⟩ := qp c kc _ (Nat.le_max_right n1 n2)
     rw [x4,jr u1 u2 a h3]
     exact jr u3 u4 b h4
   | exit i => exact ⟨n1,by rw [x4,h3]; exact h2⟩
   | ret => exact ⟨n1,by rw [x4,h3]; exact h2⟩
 | .cond cd a b,β,r,env,A,k,h => by
   simp only [xz] at h ⊢
   split at h
   ·rename_i t ht
    split at h
    ·rename_i htt
     simp only [if_pos htt]
     subst htt
     simp only [zac ht] at h ⊢
     exact kg a h
    ·rename_i htt
     simp only [if_neg htt]
     have htf : t = false := by simpa using htt
     subst htf
     simp only [zac ht] at h ⊢
     exact kg b h
   ·cases h
 | .block id cd,β,r,env,A,k,h => by
   simp only [xz] at h ⊢
   rw [x4,Option.bind_eq_some_iff] at h
   obtain ⟨⟨x,e,A1⟩,h1,h2⟩ := h
   obtain ⟨n1,h3⟩ := kg cd h1
   exact ⟨n1,by rw [x4,h3]; exact h2⟩
 | .loop cd,β,r,env,A,k,h => by
   simp only [xz] at h ⊢
   split at h
   ·rename_i hd l hm
    rw [kv,Option.bind_eq_some_iff] at h
    obtain ⟨x,h1,h2⟩ := h
    rw [Option.bind_eq_some_iff] at h2
    obtain ⟨y,h3,h4⟩ := h2
    obtain ⟨n,h5⟩ := loopωK_iff.1 h3
    refine ⟨n,?_⟩
    rw [kv,h1]
    simp only [Option.bind_some]
    rw [h5]
    exact h4
   ·cases h
 | .rangeFunc ..,_,_,_,_,_,h | .scope _,_,_,_,_,_,h | .goto _,_,_,_,_,_,h | .refuse _,_,_,_,_,_,h => by simp only [xz] at h; cases h
end
theorem znb {g : FuncId} {a : List PV} {A : List KO} {r : PV × List KO} (h : yu c kc (k9 c kc) (zfr c kc) g a A = some r) : k9 c kc g a A = some r := by
 refine callωK_iff.2 ?_
 unfold yu at h
 split at h
 ·cases h
 rename_i ht
 split at h
 ·rename_i fn hf
  split at h
  ·rename_i cd hcd
   obtain ⟨n,h1⟩ := kg cd h
   refine ⟨n + 1,?_⟩
   unfold qw yu
   rw [if_neg ht,hf]
   simp only [hcd]
   exact h1
  ·cases h
 ·cases h
theorem zur {g : FuncId} {cd : Code} {n0 : Nat} {e : List PV} {A : List KO} {r : Ex × List PV × List KO} (h : yx c kc (k9 c kc) (zfr c kc) g cd n0 e A = some r) : zfr c kc g cd n0 e A = some r := by
 refine loopωK_iff.2 ?_
 unfold yx at h
 rw [x4,Option.bind_eq_some_iff] at h
 obtain ⟨⟨x,e1,A1⟩,h1,h2⟩ := h
 obtain ⟨n1,h3⟩ := kg cd h1
 unfold z1e at h2
 cases x with
 | normal =>
   simp only at h2
   rw [kv,Option.bind_eq_some_iff] at h2
   obtain ⟨y,h4,h5⟩ := h2
   obtain ⟨n2,h6⟩ := loopωK_iff.1 h5
   obtain ⟨u1,u2⟩ := qp c kc _ (Nat.le_max_left n1 n2)
   obtain ⟨u3,u4⟩ := qp c kc _ (Nat.le_max_right n1 n2)
   refine ⟨max n1 n2 + 1,?_⟩
   unfold loopNK yx z1e
   rw [x4,jr u1 u2 cd h3]
   simp only [Option.bind_some]
   rw [kv,h4]
   exact u4 _ _ _ _ _ _ h6
 | exit i =>
   refine ⟨n1 + 1,?_⟩
   unfold loopNK yx z1e
   rw [x4,h3]
   exact h2
 | ret =>
   refine ⟨n1 + 1,?_⟩
   unfold loopNK yx z1e
   rw [x4,h3]
   exact h2
theorem zw5 {g : FuncId} {a : List PV} {v w : PV} {A : List KO} (h : yu c kc (k9 c kc) (zfr c kc) g a [] = some (v,A)) (hf : fzK xn A v = w) : yn (k9 c kc) g a = some w := by
 unfold yn
 rw [znb h,Option.map_some]
 exact congrArg some hf
theorem zn8 (_hT : Tolds c) (hO : OwnOk kc c.P (jg c)) {g : FuncId} {a pa : List PV} {v : PV} (h : yn (k9 c kc) g a = some v) (ha : VFs a pa) : ∃ p τ,jg c g pa .empty = some (p,τ) ∧ VF v (fz xn τ p) :=
 zpt (z2w hO) h ha
end
end Go.Pvm
namespace Go.Pvm
def qn (sz by_ : Nat) (args : List PV) : Option (List (List PV)) := match args with
 | [.psl _ es] => if y5 sz es = true ∧ es.all PV.own.owns = true ∧ es.length * by_ ≤ 140737488355328 then some es else none
 | _ => none
theorem qt {α : Type} {sz by_ : Nat} {b : Bool} {enc : α → List PV} (l : List α) (h : ∀ a,(enc a).length = sz ∧ (enc a).all PV.plain = true ∧ PV.own.owns (enc a) = true) (hb : l.length * by_ ≤ 140737488355328) : qn sz by_ [.psl b (l.map enc)] = some (l.map enc) := by
 have h1 : y5 sz (l.map enc) = true := by
  unfold y5
  rw [List.all_eq_true]
  intro e he
  obtain ⟨a,_,rfl⟩ := List.mem_map.1 he
  rw [(h a).2.1]
  simp [(h a).1]
 have h2 : (l.map enc).all PV.own.owns = true := by
  rw [List.all_eq_true]
  intro e he
  obtain ⟨a,_,rfl⟩ := List.mem_map.1 he
  exact (h a).2.2
 show (if y5 sz (l.map enc) = true ∧ (l.map enc).all PV.own.owns = true ∧ (l.map enc).length * by_ ≤ 140737488355328 then some (l.map enc) else none) = _
 rw [if_pos ⟨h1,h2,by rw [List.length_map]; exact hb⟩]
theorem VF.own1 {v p : PV} (h : VF v p) (hp : v.plain = true) (ho : v.own = true) : p.own = true := by
 cases h with
 | undef => cases hp
 | base _ hb => exact ho
 | psl b b' h =>
   rename_i es ps
   have : es.isEmpty = true := ho
   have : ps.isEmpty = true := by
    cases h with
    | nil => rfl
    | cons => cases this
   exact this
 | nl => rfl
 | pref => cases ho
 | agg => cases hp
 | tuple => cases hp
 | func => cases hp
theorem VFs.own1 : ∀ {v p : List PV},VFs v p → v.all PV.plain = true → PV.own.owns v = true → PV.own.owns p = true
 | _,_,.nil,_,_ => rfl
 | _,_,.cons h t,hp,ho => by
   rw [List.all_cons,Bool.and_eq_true] at hp
   unfold PV.own.owns at ho ⊢
   rw [Bool.and_eq_true] at ho
   rw [h.own1 hp.1 ho.1,t.own1 hp.2 ho.2]; rfl
theorem VFss.own1 {sz : Nat} : ∀ {v p : List (List PV)},VFss v p → y5 sz v = true → v.all PV.own.owns = true → p.all PV.own.owns = true
 | _,_,.nil,_,_ => rfl
 | e :: es,_,.cons h t,hp,ho => by
   have hp1 := wt hp (.head _)
   have hp2 : y5 sz es = true := by unfold y5 at hp ⊢; rw [List.all_cons,Bool.and_eq_true] at hp; exact hp.2
   rw [List.all_cons,Bool.and_eq_true] at ho ⊢
   exact ⟨h.own1 hp1.2 ho.1,t.own1 hp2 ho.2⟩
section
variable {β : Type}
theorem yj (b : Bool) (es : List (List PV)) (k : List (List PV) → Option β) : k7 (.psl b es) k = k es := rfl
theorem yk (k : List (List PV) → Option β) : k7 .nilsl k = k [] := rfl
theorem zu (cs : List PV) (k : List PV → Option β) : asAgg (.agg cs) k = k cs := rfl
theorem zt (cs : List PV) (k : List PV → Option β) : jm (.tuple cs) k = k cs := rfl
theorem zf (c : PV) (cs : List PV) (k : PV → List PV → Option β) : xi (c :: cs) k = k c cs := rfl
theorem zq (k : Option β) : yq [] k = k := rfl
theorem zx (i : FloatKind) (n : Nat) (k : Nat → Option β) : zeg i (.float i n) k = k n := by simp [zeg]
theorem zy (a b c : Nat) (k : Option β) : xm a b c (.ref a b c) k = k := by simp [xm]
theorem za (a b : Nat) (k : Option β) : y2 a b (whole a b) k = k := by simp [y2,whole]
theorem zl (a b : Nat) (k : Option β) (k' : Nat → Nat → Option β) : zwc a b (whole a b) k k' = k := by simp [zwc,whole]
theorem z7 (a b x n : Nat) (k : Option β) (k' : Nat → Nat → Option β) : zwc a b (wb a b x n) k k' = k' x n := by simp [zwc,wb]
theorem zh (a b x n : Nat) (k : Nat → Nat → Option β) : zjv a b (wb a b x n) k = k x n := by simp [zjv,wb]
theorem ym (f : FuncId) (cs : List PV) (k : List PV → Option β) : zzd f (.func f cs) k = k cs := by simp [zzd]
theorem zi (cs : List PV) (k : List PV → Option β) : zqt (.pref cs) k = k cs := rfl
theorem zd (c : KO) (cs : List KO) (k : KO → List KO → Option β) : zdb (c :: cs) k = k c cs := rfl
theorem zm (k : Option β) : yo [] k = k := rfl
theorem zz (w : Bool) (t : TypeId) (cs : List PV) (k : List PV → Option β) : zng w t (.box w t cs) k = k cs := by simp [zng]
theorem zo9 (w : Bool) (t : TypeId) (cs : List PV) (k : List PV → Option β) : zng false t (.box w t cs) k = k cs := by simp [zng]
theorem zg (w : Bool) (sz : Nat) (es : List (List PV)) (k : List (List PV) → Option β) : zfw w sz (.made w sz es) k = k es := by simp [zfw]
theorem znf (w : Bool) (sz : Nat) (es : List (List PV)) (k : List (List PV) → Option β) : zfw false sz (.made w sz es) k = k es := by simp [zfw]
theorem zk (k : Option β) : zjw .dead k = k := rfl
theorem zj (w : Bool) (sz : Nat) (es : List (List PV)) (k : Option β) : zjw (.made w sz es) k = k := rfl
def yy (κ : IntKind) (l : List PV) (k : Int → List PV → Option β) : Option β := xi l fun v r => asInt κ v fun n => k n r
def zlp (l : List PV) (k : Bool → List PV → Option β) : Option β := xi l fun v r => asBool v fun n => k n r
def zjx (κ : FloatKind) (l : List PV) (k : Nat → List PV → Option β) : Option β := xi l fun v r => zeg κ v fun n => k n r
def y1 (l : List PV) (k : List (List PV) → List PV → Option β) : Option β := xi l fun v r => k7 v fun n => k n r
def qb (a b : Nat) (l : List PV) (k : List PV → Option β) : Option β := xi l fun v r => y2 a b v (k r)
def z7s (a b c : Nat) (l : List PV) (k : List PV → Option β) : Option β := xi l fun v r => xm a b c v (k r)
def xg (w : Bool) (sz : Nat) (l : List KO) (k : List (List PV) → List KO → Option β) : Option β := zdb l fun o r => zfw w sz o fun es => k es r
def qq (w : Bool) (t : TypeId) (l : List KO) (k : List PV → List KO → Option β) : Option β := zdb l fun o r => zng w t o fun cs => k cs r
def zda (l : List KO) (k : List KO → Option β) : Option β := zdb l fun o r => zjw o (k r)
def gS (x : Ex × List PV × List KO) (i : Nat) : PV := List.getD x.2.1 i .undef
theorem zp (κ : IntKind) (n : Int) (r : List PV) (k : Int → List PV → Option β) : yy κ (.int κ n :: r) k = k n r := by simp [yy,zf,zw]
theorem yg (n : Bool) (r : List PV) (k : Bool → List PV → Option β) : zlp (.bool n :: r) k = k n r := by simp [zlp,zf,ze]
theorem zr (κ : FloatKind) (n : Nat) (r : List PV) (k : Nat → List PV → Option β) : zjx κ (.float κ n :: r) k = k n r := by simp [zjx,zf,zx]
theorem yh (b : Bool) (n : List (List PV)) (r : List PV) (k : List (List PV) → List PV → Option β) : y1 (.psl b n :: r) k = k n r := rfl
theorem yl (r : List PV) (k : List (List PV) → List PV → Option β) : y1 (.nilsl :: r) k = k [] r := rfl
theorem ye (a b : Nat) (r : List PV) (k : List PV → Option β) : qb a b (whole a b :: r) k = k r := by simp [qb,zf,za]
theorem yf (a b c : Nat) (r : List PV) (k : List PV → Option β) : z7s a b c (.ref a b c :: r) k = k r := by simp [z7s,zf,zy]
theorem ya (w : Bool) (sz : Nat) (n : List (List PV)) (r : List KO) (k : List (List PV) → List KO → Option β) : xg w sz (.made w sz n :: r) k = k n r := by simp [xg,zd,zg]
theorem zn (w : Bool) (sz : Nat) (n : List (List PV)) (r : List KO) (k : List (List PV) → List KO → Option β) : xg false sz (.made w sz n :: r) k = k n r := by simp [xg,zd,znf]
theorem yd (w : Bool) (t : TypeId) (n : List PV) (r : List KO) (k : List PV → List KO → Option β) : qq w t (.box w t n :: r) k = k n r := by simp [qq,zd,zz]
theorem zo (w : Bool) (t : TypeId) (n : List PV) (r : List KO) (k : List PV → List KO → Option β) : qq false t (.box w t n :: r) k = k n r := by simp [qq,zd,zo9]
theorem yc (r : List KO) (k : List KO → Option β) : zda (.dead :: r) k = k r := rfl
theorem yb (w : Bool) (sz : Nat) (es : List (List PV)) (r : List KO) (k : List KO → Option β) : zda (.made w sz es :: r) k = k r := rfl
theorem yp (x : Ex) (e : List PV) (A : List KO) (i : Nat) : gS (x,e,A) i = List.getD e i .undef := rfl
theorem zkx {n i : Nat} (h : i < n) (l : List (Nat × PV)) : List.getD (mkS n l) i .undef = (l.lookup i).getD .undef := by
 unfold mkS
 rw [List.getD_eq_getElem?_getD,List.getElem?_map,List.getElem?_range h]
 rfl
end
abbrev Rws := List (List PV)
theorem zsf {n : Nat} {σ : Store} {p : PV} {b : Bool} (h : VF (.bool b) (fz n σ p)) : p = .bool b := by
 have e := h.base_eq rfl
 cases n with
 | zero => cases e
 | succ n =>
   cases p <;> first | exact e | (unfold fz at e; simp only at e; first | (cases e; done) | (split at e <;> first | (cases e; done) | (split at e <;> cases e)))
end Go.Pvm
namespace Go.Pvm
def ArgK {α : Type} (P : Program) (t : TypeId) (e : α → List PV) (Q : α → Prop) : Prop := ∀ top n c,WT P top n t c → ∃ a,VFs (e a) c ∧ Q a
theorem VFss.of_each {α : Type} {e : α → List PV} {Q : α → Prop} : ∀ (es : List (List PV)),(∀ c ∈ es,∃ a,VFs (e a) c ∧ Q a) → ∃ l : List α,l.length = es.length ∧ VFss (l.map e) es ∧ ∀ a ∈ l,Q a
 | [],_ => ⟨[],rfl,.nil,fun a ha => by cases ha⟩
 | c :: es,h => by
   obtain ⟨a,h1,h2⟩ := h c (List.mem_cons_self ..)
   obtain ⟨l,h3,h4,h5⟩ := VFss.of_each es fun c hc => h c (List.mem_cons_of_mem _ hc)
   refine ⟨a :: l,by simp [h3],.cons h1 h4,fun b hb => ?_⟩
   rcases List.mem_cons.1 hb with rfl | hb
   ·exact h2
   ·exact h5 b hb
theorem ArgK.int {P : Program} {t : TypeId} {k : IntKind} (h : P.underlying t = some (.int k)) : ArgK P t (fun n : Int => [.int k n]) (fun n => k.min ≤ n ∧ n ≤ k.max) := fun top n c hw => by
 obtain ⟨x,rfl,hx⟩ := z2e h hw
 exact ⟨x,.cons (.base _ rfl) .nil,hx⟩
theorem ArgK.slice {α : Type} {P : Program} {t el : TypeId} {e : α → List PV} {Q : α → Prop} (hu : P.underlying t = some (.slice el)) (h0 : P.cellsOf el ≠ 0) (he : ArgK P el e Q) :
  ArgK P t (fun l : List α => [.psl false (l.map e)]) (fun l => l.length * P.bytesOf el ≤ reachBytes ∧ ∀ a ∈ l,Q a) := fun top n c h => by
 cases n with
 | zero => exact h.elim
 | succ n =>
   unfold WT at h
   rw [hu] at h
   rcases h with h | ⟨es,h1,_,h2,h3⟩ | ⟨_,h1,_⟩
   ·exact ⟨[],by rw [h]; exact .cons (.nl false) .nil,by simp,fun a ha => by cases ha⟩
   ·obtain ⟨l,q1,q2,q3⟩ := VFss.of_each (e := e) (Q := Q) es fun c hc => he _ n c (h3 c hc).2
    exact ⟨l,by rw [h1]; exact .cons (.psl _ _ q2) .nil,by rw [q1]; exact h2,q3⟩
   ·exact absurd h1 h0
theorem ArgK.one {α : Type} {P : Program} {t : TypeId} {e : α → PV} {Q : α → Prop} (he : ArgK P t (fun a => [e a]) Q) (hs : z0a ((P.underlying t).getD .bool) = false) {v : PV} (h : WTV P t v) : ∃ a,VF (e a) v ∧ Q a := by
 obtain ⟨n,h⟩ := h
 rw [hs] at h
 obtain ⟨a,h1,h2⟩ := he _ _ _ h
 cases h1 with
 | cons h1 _ => exact ⟨a,h1,h2⟩
theorem VFs.append {a b c d : List PV} (h : VFs a b) (h' : VFs c d) : VFs (a ++ c) (b ++ d) := by
 cases h with
 | nil => exact h'
 | cons h t => exact .cons h (VFs.append t h')
end Go.Pvm
