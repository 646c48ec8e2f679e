import Derived.Test.YtpilgmnhkgcgkaaQ1
import Derived.Test.YtpilgmnhkgcgkaaP4
/- Part of the proof: calls, and all operations, of the evaluator over values alone. -/
set_option linter.unusedSimpArgs false
set_option linter.unusedVariables false
namespace Go.Pvm

def SoundC (C : CallK) (Cω : CallO) : Prop := ∀ g args A r A', C g args A = some (r, A') → ∀ ρ pargs σ, KS ρ A args pargs σ → ∃ p σ' ρ', Cω g pargs σ = some (p, σ') ∧ KS ρ' A' [r] [p] σ' ∧ Go2 A.length ρ A σ ρ' A' σ'
def SoundL (L : LoopK) (Lω : LoopO) : Prop := ∀ f cd n0 env A x env' A', L f cd n0 env A = some (x, env', A') → ∀ ρ penv σ, KS ρ A env penv σ → ∃ penv' σ' ρ', Lω f cd penv σ = some (x, penv', σ') ∧ KS ρ' A' env' penv' σ' ∧ Go2 n0 ρ A σ ρ' A' σ'
structure OwnOk (kc : KCfg) (P : Program) (Cω : CallO) : Prop where
  own : ∀ g sz h, kc.own g = some (sz, h) → ∀ args es, h args = some es → ∀ pargs, VFs args pargs → ∀ n, ∃ p τ, Cω g pargs (.at_ n) = some (p, τ) ∧ p.own = true ∧ ownObjs τ n = true ∧ n ≤ τ.next ∧ hdl p = true ∧ KOR (fun _ => .undef) 0 τ p (.made true sz es) ∧ ∀ i ∈ tops p, n ≤ i
  told : ∀ g u, kc.told g = some u → ∀ args σ, Cω g args σ = wordv P u args σ
  pur : ∀ g h, kc.pur g = some h → ∀ args es, h args = some es → ∀ pargs, VFs args pargs → ∃ p τ, Cω g pargs .empty = some (p, τ) ∧ VF (.psl false es) (fz fuelFz τ p) := by intro g h hg; cases hg

section
variable {P : Program} {ρ ρ' : Nat → PV} {m : Nat} {A A' : List KO} {env penv : List PV} {σ σ' : Store} {β : Type} {r : β}

theorem KS.empty {args pargs : List PV} (h : VFs args pargs) (ρ : Nat → PV) (σ : Store) : KS ρ [] args pargs σ :=
  ⟨h.k, fun k hk => absurd hk (Nat.not_lt_zero _), fun k k' i hi => by cases hi⟩
theorem pcall_ok {C : CallK} {Cω : CallO} (hC : SoundC C Cω) {g : FuncId} {args pargs : List PV} {v : PV} (h : pcall C g args = some v) (ha : VFs args pargs) : ∃ p τ, Cω g pargs .empty = some (p, τ) ∧ VF v (fz fuelFz τ p) := by
  unfold pcall at h
  rw [Option.map_eq_some_iff] at h
  obtain ⟨⟨r, A'⟩, h1, h2⟩ := h
  obtain ⟨p, τ, ρ', q1, q2, _⟩ := hC g args [] r A' h1 (fun _ => .undef) pargs .empty (KS.empty ha _ _)
  refine ⟨p, τ, q1, ?_⟩
  rw [← h2]
  have := q2.env.getD 0
  exact fzK_ok q2 fuelFz this

theorem pcallW_ok {kc : KCfg} {C : CallK} {Cω : CallO} (hC : SoundC C Cω) (hO : OwnOk kc P Cω) {g : FuncId} {args pargs : List PV} {v : PV} (h : pcallW kc C g args = some v) (ha : VFs args pargs) : ∃ p τ, Cω g pargs .empty = some (p, τ) ∧ VF v (fz fuelFz τ p) := by
  unfold pcallW at h
  split at h
  · rename_i sz f hf
    rw [Option.map_eq_some_iff] at h
    obtain ⟨es, h1, rfl⟩ := h
    obtain ⟨p, τ, e1, e2, e3, e4, eh, e5, e6⟩ := hO.own g sz f hf _ es h1 pargs ha 0
    refine ⟨p, τ, e1, ?_⟩
    have hor : KOR (fun _ => p) 1 τ p (.made true sz es) := e5
    have hK : KS (fun _ => p) [.made true sz es] [.lsl 0 sz 0 0 none] [p] τ := ⟨.cons (.whole (Nat.lt_succ_self 0) eh) .nil, fun k hk => by
      have : k = 0 := by simpa using hk
      subst this; exact hor, fun k k' i hi hi' => by
      have z : ∀ {k : Nat}, i ∈ idsO [KO.made true sz es] (fun _ => p) k → k = 0 := fun {k} hi => by
        cases k with
        | zero => rfl
        | succ k => cases hi
      rw [z hi, z hi']⟩
    have := fzK_ok hK fuelFz (hK.env.getD 0)
    exact this
  · split at h
    · rename_i f hf
      rw [Option.map_eq_some_iff] at h
      obtain ⟨es, h1, rfl⟩ := h
      exact hO.pur g f hf _ es h1 pargs ha
    · exact pcall_ok hC h ha
/-! ### Objects known less -/
def WkO (o o' : KO) : Prop := (∀ ρ m σ u, KOR ρ m σ u o → KOR ρ m σ u o') ∧ (isDead o' = false → isDead o = false) ∧ (isBox o = true → isBox o' = true)
def WkA (A A' : List KO) : Prop := A'.length = A.length ∧ ∀ j, WkO (A.getD j .dead) (A'.getD j .dead)
theorem KS.wk (h : KS ρ A env penv σ) (hw : WkA A A') (n0 : Nat) : KS ρ A' env penv σ ∧ Go2 n0 ρ A σ ρ A' σ := by
  have hids : ∀ k i, i ∈ idsO A' ρ k → i ∈ idsO A ρ k := fun k i hi => by
    unfold idsO at hi ⊢
    split at hi
    · cases hi
    · rename_i hd
      rw [if_neg (by rw [(hw.2 k).2.1 (by simpa using hd)]; decide)]
      exact hi
  refine ⟨⟨by rw [hw.1]; exact h.env, fun k hk => ?_, fun k k' i hi hi' => h.dis k k' i (hids k i hi) (hids k' i hi')⟩, Nat.le_refl _, fun _ _ _ => rfl, fun k i hi => .inl ⟨k, hids k i hi⟩, fun hle => ⟨by rw [hw.1]; exact hle, fun k _ => ⟨(hw.2 k).2.2, fun hd => ⟨(hw.2 k).2.1 hd, rfl⟩⟩⟩⟩
  rw [hw.1] at hk ⊢
  exact (hw.2 k).1 _ _ _ _ (h.obj k hk)
theorem asObj_ok {s : OSk} {o : KO} {k : KO → Option β} (h : asObj s o k = some r) : ∃ o', k o' = some r ∧ WkO o o' := by
  unfold asObj at h
  split at h
  · unfold asGone at h
    split at h
    · cases h
    · rename_i hnb
      exact ⟨_, h, fun _ _ _ _ _ => trivial, (fun h => by cases h), fun hb => by cases o <;> first | (cases hb; done) | exact (hnb _ _ _ rfl).elim⟩
  · unfold asBox at h
    split at h
    · split at h
      · rename_i w t sk _ w' t' cs hc
        obtain ⟨hw, rfl⟩ := hc
        obtain ⟨cs', h1, h2, _⟩ := asSks_ok _ h
        refine ⟨_, h1, fun ρ m σ u ⟨id, pcs, ro, e, s1, s2, s3, s4⟩ => ⟨id, pcs, ro, e, s1, h2 _ _ _ s2, fun hwt => ?_, s4⟩, fun _ => rfl, fun _ => rfl⟩
        rcases hw with rfl | rfl
        · cases hwt
        · exact s3 hwt
      · cases h
    · cases h
  · unfold asMade at h
    split at h
    · split at h
      · rename_i w sz _ w' sz' es hc
        obtain ⟨hw, rfl⟩ := hc
        refine ⟨_, h, fun ρ m σ u ⟨q0, q1, q2⟩ => ⟨q0, q1, q2.imp (fun x => x) fun ⟨id, cap, ro, ps, tl, e, s1, s2, s3, s4, s5, s6⟩ => ⟨id, cap, ro, ps, tl, e, s1, s2, s3, s4, fun hwt => ?_, s6⟩⟩, fun h => h, fun h => h⟩
        rcases hw with rfl | rfl
        · cases hwt
        · exact s5 hwt
      · cases h
    · cases h
theorem asObjs_ok : ∀ {s : List OSk} {l : List KO} {k : List KO → Option β}, asObjs s l k = some r → ∃ l', k l' = some r ∧ WkA l l'
  | [], l, k, h => by
    unfold asObjs asONil at h
    split at h
    · exact ⟨[], h, rfl, fun j => ⟨fun _ _ _ _ h => h, fun h => h, fun h => h⟩⟩
    · cases h
  | s :: sr, l, k, h => by
    unfold asObjs asOCons at h
    split at h
    · rename_i o lr
      obtain ⟨o', h1, h2⟩ := asObj_ok h
      obtain ⟨l', h3, h4, h5⟩ := asObjs_ok h1
      refine ⟨_, h3, by simp [h4], fun j => ?_⟩
      cases j with
      | zero => exact h2
      | succ j => exact h5 j
    · cases h

/-! ### Numbers -/
theorem idxN_get : ∀ {l : List Nat} {k i : Nat}, idxN l k = some i → l[i]? = some k
  | [], _, _, e => by cases e
  | j :: r, k, i, e => by
    unfold idxN at e
    split at e
    · rename_i hjk; cases e; simp [hjk]
    · rw [Option.map_eq_some_iff] at e
      obtain ⟨i', e1, rfl⟩ := e
      simpa using idxN_get e1
theorem idxN_mem : ∀ {l : List Nat} {k : Nat}, k ∈ l → ∃ i, idxN l k = some i
  | j :: r, k, h => by
    unfold idxN
    by_cases hjk : j = k
    · exact ⟨0, by rw [if_pos hjk]⟩
    · rw [if_neg hjk]
      obtain ⟨i, hi⟩ := idxN_mem (l := r) (k := k) ((List.mem_cons.1 h).resolve_left (Ne.symm hjk))
      exact ⟨i + 1, by rw [hi]; rfl⟩
theorem nodupB_inj : ∀ {l : List Nat}, nodupB l = true → ∀ {i i' k : Nat}, l[i]? = some k → l[i']? = some k → i = i'
  | [], _, i, i', k, e, _ => by simp at e
  | j :: r, hb, i, i', k, e, e' => by
    unfold nodupB at hb
    rw [Bool.and_eq_true] at hb
    have hj : j ∉ r := by
      intro hm
      have := hb.1
      simp [hm] at this
    cases i with
    | zero =>
      cases i' with
      | zero => rfl
      | succ i' => simp at e e'; subst e; exact absurd (List.mem_of_getElem? e') hj
    | succ i =>
      cases i' with
      | zero => simp at e e'; subst e'; exact absurd (List.mem_of_getElem? e) hj
      | succ i' => rw [nodupB_inj hb.2 (i := i) (i' := i') (k := k) (by simpa using e) (by simpa using e')]
theorem idxN_of {l : List Nat} (h : nodupB l = true) {i k : Nat} (e : l[i]? = some k) : idxN l k = some i := by
  obtain ⟨i', hi⟩ := idxN_mem (List.mem_of_getElem? e)
  rw [hi, nodupB_inj h (idxN_get hi) e]

/-! ### A call in the store that there is -/
theorem liveKK_ok {kc : KCfg} {C : CallK} {Cω : CallO} (hC : SoundC C Cω) {g : FuncId} {args : List PV} {k : PV → List PV → List KO → Option β} (h : liveKK kc C g args env A k = some r) : ∃ v env' A', k v env' A' = some r ∧ env'.length = env.length ∧
    ∀ ρ penv σ n0 pargs, KS ρ A env penv σ → VKs ρ A.length args pargs → ∃ w σ', Cω g pargs σ = some (w, σ') ∧ Stp n0 ρ A σ v env' penv A' w σ' := by
  unfold liveKK at h
  rw [forceNats_eq] at h
  generalize reachK 64 A ((tops.topss args).foldl addN []) 0 = l at h
  simp only at h
  split at h
  · rename_i hc
    obtain ⟨hnd, hall⟩ := hc
    rw [forceVs_eq, forceA_eq, Option.bind_eq_some_iff] at h
    obtain ⟨⟨r0, A0'⟩, h1, h⟩ := h
    obtain ⟨v, h, hv1, _⟩ := asSk_ok _ h
    obtain ⟨A1, h, hw⟩ := asObjs_ok h
    split at h
    · rename_i hle
      rw [forceV_eq, forceVs_eq, forceA_eq] at h
      refine ⟨_, _, _, h, rnms_len _ _, fun ρ penv σ n0 pargs hK ha => ?_⟩
      have hlt : ∀ j ∈ l, j < A.length := fun j hj => by
        rw [List.all_eq_true] at hall
        simpa using hall j hj
      have hsub := (hK.withEnv ha).pack hnd hlt
      obtain ⟨p, σ', ρ1, q1, q2, q3⟩ := hC g _ _ r0 A0' h1 _ pargs σ hsub
      have q2' : KS ρ1 A0' [v] [p] σ' := q2.withEnv (.one (hv1 _ _ _ (q2.env.getD 0)))
      obtain ⟨q4, q5⟩ := q2'.wk hw (l.map fun j => rnmO (idxN l) (A.getD j .dead)).length
      have q6 := q3.trans q5
      refine ⟨p, σ', q1, ?_⟩
      clear q1 q2 q2' q3 q5 h1 h
      -- names
      generalize hA0 : (l.map fun j => rnmO (idxN l) (A.getD j .dead)) = A0 at q6
      have hA0l : A0.length = l.length := by rw [← hA0]; simp
      have hA0g : ∀ i k, l[i]? = some k → A0.getD i .dead = rnmO (idxN l) (A.getD k .dead) := fun i k e => by
        rw [← hA0, List.getD_eq_getElem?_getD, List.getElem?_map, e]; rfl
      have hA0n : ∀ i, l[i]? = none → A0.getD i .dead = .dead := fun i e => by
        rw [← hA0, List.getD_eq_getElem?_getD, List.getElem?_map, e]; rfl
      have hids0 : ∀ i x, x ∈ idsO A0 (fun i => ρ (l.getD i 0)) i → ∃ k, l[i]? = some k ∧ x ∈ idsO A ρ k := fun i x hx => by
        unfold idsO at hx
        cases hq : l[i]? with
        | none => rw [hA0n i hq] at hx; cases hx
        | some k =>
          rw [hA0g i k hq, rnmO_dead] at hx
          have : l.getD i 0 = k := by rw [List.getD_eq_getElem?_getD, hq]; rfl
          simp only [this] at hx
          exact ⟨k, rfl, hx⟩
      let b := backN l A.length
      let gone := l.filter fun j => match idxN l j with | some i => isDead (A1.getD i .dead) | none => true
      let ρ2 : Nat → PV := fun k => match idxN l k with
        | some i => ρ1 i
        | none => if k < A.length then ρ k else ρ1 (l.length + (k - A.length))
      let A2 := (List.range A.length).map (fun j => match idxN l j with
        | some i => rnmO b (A1.getD i .dead)
        | none => rnmO (killL gone) (A.getD j .dead)) ++ (A1.drop l.length).map (rnmO b)
      have hA2l : A2.length = A.length + (A1.length - l.length) := by simp [A2]
      have hA2a : ∀ k i, k < A.length → idxN l k = some i → A2.getD k .dead = rnmO b (A1.getD i .dead) := fun k i hk e => by
        rw [List.getD_eq_getElem?_getD, List.getElem?_append_left (by simpa using hk), List.getElem?_map, List.getElem?_range hk]
        simp [e]
      have hA2b : ∀ k, k < A.length → idxN l k = none → A2.getD k .dead = rnmO (killL gone) (A.getD k .dead) := fun k hk e => by
        rw [List.getD_eq_getElem?_getD, List.getElem?_append_left (by simpa using hk), List.getElem?_map, List.getElem?_range hk]
        simp [e]
      have hA2c : ∀ k, A.length ≤ k → A2.getD k .dead = rnmO b (A1.getD (l.length + (k - A.length)) .dead) := fun k hk => by
        rw [List.getD_eq_getElem?_getD, List.getElem?_append_right (by simpa using hk), List.getElem?_map, List.getElem?_drop]
        simp only [List.length_map, List.length_range, List.getD_eq_getElem?_getD]
        cases A1[l.length + (k - A.length)]? <;> rfl
      have hnone : ∀ k, A.length ≤ k → idxN l k = none := fun k hk => by
        cases hq : idxN l k with
        | none => rfl
        | some i => have := hlt k (List.mem_of_getElem? (idxN_get hq)); omega
      have hb : ∀ i k, i < A1.length → b i = some k → k < A2.length ∧ ρ2 k = ρ1 i := fun i k hi e => by
        have e : (if i < l.length then l[i]? else some (A.length + (i - l.length))) = some k := e
        split at e
        · rename_i hil
          have hk := hlt k (List.mem_of_getElem? e)
          exact ⟨by rw [hA2l]; omega, by simp only [ρ2, idxN_of hnd e]⟩
        · rename_i hil
          cases e
          refine ⟨by rw [hA2l]; omega, ?_⟩
          simp only [ρ2, hnone _ (Nat.le_add_right _ _)]
          rw [if_neg (by omega)]
          congr 1
          omega
      have hkill : ∀ k k', k < A.length → killL gone k = some k' → k' < A2.length ∧ ρ2 k' = ρ k := fun k k' hk e => by
        obtain ⟨rfl, hng⟩ := killF_ok e
        refine ⟨by rw [hA2l]; omega, ?_⟩
        cases hq : idxN l k' with
        | none => simp only [ρ2, hq]; rw [if_pos hk]
        | some i =>
          have hli := idxN_get hq
          have hdd : isDead (A1.getD i .dead) = false := by
            cases hbq : isDead (A1.getD i .dead) with
            | false => rfl
            | true => exact absurd (List.mem_filter.2 ⟨List.mem_of_getElem? hli, by rw [hq]; exact hbq⟩) hng
          have hil : i < l.length := (List.getElem?_eq_some_iff.1 hli).1
          have := (((q6.bx (Nat.le_refl _)).2 i (by rw [hA0l]; exact hil)).2 hdd).2
          simp only [ρ2, hq]
          rw [this, List.getD_eq_getElem?_getD, hli]; rfl
      have hids : ∀ k x, x ∈ idsO A2 ρ2 k → (∃ i, i < A1.length ∧ x ∈ idsO A1 ρ1 i ∧ b i = some k) ∨ (idxN l k = none ∧ k < A.length ∧ x ∈ idsO A ρ k) := fun k x hx => by
        unfold idsO at hx
        by_cases hk : k < A.length
        · cases hq : idxN l k with
          | some i =>
            have hli := idxN_get hq
            have hil : i < l.length := (List.getElem?_eq_some_iff.1 hli).1
            rw [hA2a k i hk hq, rnmO_dead] at hx
            simp only [ρ2, hq] at hx
            refine .inl ⟨i, by omega, hx, ?_⟩
            show (if i < l.length then l[i]? else some (A.length + (i - l.length))) = some k
            rw [if_pos hil, hli]
          | none =>
            rw [hA2b k hk hq, rnmO_dead] at hx
            simp only [ρ2, hq] at hx
            rw [if_pos hk] at hx
            exact .inr ⟨rfl, hk, hx⟩
        · rw [hA2c k (by omega), rnmO_dead] at hx
          simp only [ρ2, hnone k (by omega)] at hx
          rw [if_neg hk] at hx
          have hx' : x ∈ idsO A1 ρ1 (l.length + (k - A.length)) := hx
          have hi : l.length + (k - A.length) < A1.length := by
            refine Nat.lt_of_not_le fun hge => ?_
            unfold idsO at hx'
            rw [getD_out hge] at hx'
            cases hx'
          refine .inl ⟨_, hi, hx', ?_⟩
          show (if l.length + (k - A.length) < l.length then _ else some (A.length + (l.length + (k - A.length) - l.length))) = some k
          rw [if_neg (by omega)]
          congr 1
          omega
      have hmix : ∀ x i k, x ∈ idsO A1 ρ1 i → idxN l k = none → x ∈ idsO A ρ k → False := fun x i k h1 h2 h3 => by
        rcases q6.own i x h1 with ⟨i', e⟩ | e
        · obtain ⟨k', e1, e2⟩ := hids0 i' x e
          have := hK.dis k k' x h3 e2
          subst this
          rw [idxN_of hnd e1] at h2
          cases h2
        · have := hK.lt h3; omega
      refine ⟨ρ2, ⟨?_, fun k hk => ?_, fun k k' x hx hx' => ?_⟩, ?_, q6.nx, fun x hx hn => ?_, fun k x hx => ?_, fun hle => ⟨Nat.le_trans hle (Nat.le_trans (Nat.le_add_right _ _) (Nat.le_of_eq hA2l.symm)), fun k hk => ?_⟩⟩
      · exact hK.env.rnms hkill
      · show KOR ρ2 A2.length σ' (ρ2 k) (A2.getD k .dead)
        by_cases hkA : k < A.length
        · cases hq : idxN l k with
          | some i =>
            have hil : i < l.length := (List.getElem?_eq_some_iff.1 (idxN_get hq)).1
            rw [hA2a k i hkA hq]
            have : ρ2 k = ρ1 i := by simp only [ρ2, hq]
            rw [this]
            exact (q4.obj i (by omega)).rnm hb (Nat.le_refl _) fun _ _ _ => rfl
          | none =>
            rw [hA2b k hkA hq]
            have : ρ2 k = ρ k := by simp only [ρ2, hq]; rw [if_pos hkA]
            rw [this]
            refine (hK.obj k hkA).rnm hkill q6.nx fun hd x hx => ?_
            have hxk : x ∈ idsO A ρ k := by unfold idsO; rw [if_neg (by rw [hd]; decide)]; exact hx
            refine q6.fr x (hK.lt hxk) fun i hi => ?_
            obtain ⟨k', e1, e2⟩ := hids0 i x hi
            have := hK.dis k k' x hxk e2
            subst this
            rw [idxN_of hnd e1] at hq
            cases hq
        · rw [hA2c k (by omega)]
          have : ρ2 k = ρ1 (l.length + (k - A.length)) := by simp only [ρ2, hnone k (by omega)]; rw [if_neg hkA]
          rw [this]
          have hk : k < A2.length := hk
          rw [hA2l] at hk
          exact (q4.obj _ (by omega)).rnm hb (Nat.le_refl _) fun _ _ _ => rfl
      · rcases hids k x hx with ⟨i, h1, h2, h3⟩ | ⟨h1, h2, h3⟩
        · rcases hids k' x hx' with ⟨i', h4, h5, h6⟩ | ⟨h4, h5, h6⟩
          · have := q4.dis i i' x h2 h5
            subst this
            rw [h3] at h6
            exact Option.some.inj h6
          · exact (hmix x i k' h2 h4 h6).elim
        · rcases hids k' x hx' with ⟨i', h4, h5, h6⟩ | ⟨h4, h5, h6⟩
          · exact (hmix x i' k h5 h1 h3).elim
          · exact hK.dis k k' x h3 h6
      · exact (q4.env.getD 0).rnm hb
      · refine q6.fr x hx fun i hi => ?_
        obtain ⟨k', _, e2⟩ := hids0 i x hi
        exact hn k' e2
      · rcases hids k x hx with ⟨i, h1, h2, h3⟩ | ⟨h1, h2, h3⟩
        · rcases q6.own i x h2 with ⟨i', e⟩ | e
          · obtain ⟨k', _, e2⟩ := hids0 i' x e
            exact .inl ⟨k', e2⟩
          · exact .inr e
        · exact .inl ⟨k, h3⟩
      · have hkA : k < A.length := by omega
        show (isBox (A.getD k .dead) = true → isBox (A2.getD k .dead) = true) ∧ (isDead (A2.getD k .dead) = false → isDead (A.getD k .dead) = false ∧ ρ2 k = ρ k)
        cases hq : idxN l k with
        | some i =>
          have hli := idxN_get hq
          have hil : i < l.length := (List.getElem?_eq_some_iff.1 hli).1
          obtain ⟨g1, g2⟩ := (q6.bx (Nat.le_refl _)).2 i (by rw [hA0l]; exact hil)
          rw [hA0g i k hli, rnmO_box] at g1
          rw [hA0g i k hli, rnmO_dead] at g2
          rw [hA2a k i hkA hq, rnmO_box, rnmO_dead]
          refine ⟨g1, fun hd => ⟨(g2 hd).1, ?_⟩⟩
          simp only [ρ2, hq]
          rw [(g2 hd).2, List.getD_eq_getElem?_getD, hli]; rfl
        | none =>
          rw [hA2b k hkA hq, rnmO_box, rnmO_dead]
          exact ⟨fun h => h, fun h => ⟨h, by simp only [ρ2, hq]; rw [if_pos hkA]⟩⟩
    · cases h
  · cases h

/-! ### Calls -/
theorem callKK_ok {c : Cfg} {kc : KCfg} {C : CallK} {Cω : CallO} (hC : SoundC C Cω) (hO : OwnOk kc c.P Cω) {g : FuncId} {args : List PV} {ty : TypeId} {k : PV → List PV → List KO → Option β} (h : callKK c kc C g args ty env A k = some r) : ∃ v env' A', k v env' A' = some r ∧ env'.length = env.length ∧
    ∀ ρ penv σ n0 pargs, KS ρ A env penv σ → VKs ρ A.length args pargs → ∃ w σ', callE c Cω g pargs σ = some (w, σ') ∧ Stp n0 ρ A σ v env' penv A' w σ' := by
  unfold callKK at h
  unfold callE
  split at h
  · rename_i he
    simp only [if_pos he]
    split at h
    · -- by itself
      rename_i hm
      rw [forceVs_eq, Option.bind_eq_some_iff] at h
      obtain ⟨v0, h1, h⟩ := h
      obtain ⟨v, h, _, hv, hs⟩ := asSk_ok _ h
      have hfz : ∀ {ρ penv σ pargs}, KS ρ A env penv σ → VKs ρ A.length args pargs → VFs (args.map (fzK fuelFz A)) (pargs.map (fz fuelFz σ)) := fun hK ha => VFs.mapR ha fun _ _ q => fzK_ok hK fuelFz q
      have hcall : ∀ {pargs : List PV} {σ : Store} {p : PV} {τ : Store}, Cω g (pargs.map (fz fuelFz σ)) .empty = some (p, τ) → callv c Cω g pargs σ = (let r := fz fuelFz τ p; if r.scalar = true then some (r, σ) else if c.strict = true then (if PV.lf.lfs pargs = true then some (r, σ) else none) else (roAll (tops.topss pargs) σ).map fun σ' => (r, σ')) := fun e => by
        unfold callv
        rw [hm]
        simp only [e, Option.bind_some]
      split at h
      · rename_i hsc
        refine ⟨_, _, _, h, rfl, fun ρ penv σ n0 pargs hK ha => ?_⟩
        obtain ⟨p, τ, e1, e2⟩ := pcallW_ok hC hO h1 (hfz hK ha)
        have hvp := hv _ e2
        obtain ⟨e3, e4⟩ := hvp.scalar (hs hsc)
        refine ⟨_, σ, ?_, ρ, hK, .fr hvp, Go2.refl _ _ _ _⟩
        rw [hcall e1]
        simp only
        rw [if_pos e4]
      · split at h
        · cases h
        rename_i hcl
        have hcl : PV.clean.cleans args = true := by simpa using hcl
        split at h
        · rename_i hst
          split at h
          · rename_i hlf
            refine ⟨_, _, _, h, rfl, fun ρ penv σ n0 pargs hK ha => ?_⟩
            obtain ⟨p, τ, e1, e2⟩ := pcallW_ok hC hO h1 (hfz hK ha)
            refine ⟨fz fuelFz τ p, σ, ?_, ρ, hK, .fr (hv _ e2), Go2.refl _ _ _ _⟩
            rw [hcall e1]
            simp only
            rw [if_pos hst, if_pos (ha.lf_eq hcl hlf)]
            split <;> rfl
          · cases h
        · rename_i hst
          rw [Option.bind_eq_some_iff] at h
          obtain ⟨A', h2, h⟩ := h
          refine ⟨_, _, _, h, rfl, fun ρ penv σ n0 pargs hK ha => ?_⟩
          obtain ⟨p, τ, e1, e2⟩ := pcallW_ok hC hO h1 (hfz hK ha)
          by_cases hps : (fz fuelFz τ p).scalar = true
          · obtain ⟨g1, g2⟩ := roK_weak _ h2 hK n0
            refine ⟨fz fuelFz τ p, σ, ?_, ρ, g1, .fr (hv _ e2), g2⟩
            rw [hcall e1]
            simp only
            rw [if_pos hps]
          · obtain ⟨σ', g0, g1, g2⟩ := roK_ok _ h2 hK n0
            refine ⟨fz fuelFz τ p, σ', ?_, ρ, g1, .fr (hv _ e2), g2⟩
            rw [hcall e1]
            simp only
            rw [if_neg hps, if_neg hst, ha.tops_eq hcl, g0]
            rfl
    · -- its answer its own
      rename_i hm
      split at h
      · rename_i sz f hf
        rw [forceVs_eq, Option.bind_eq_some_iff] at h
        obtain ⟨es, h1, h⟩ := h
        refine ⟨_, _, _, h, rfl, fun ρ penv σ n0 pargs hK ha => ?_⟩
        obtain ⟨p, τ, e1, e2, e3, e4, eh, e5, e6⟩ := hO.own g sz f hf _ es h1 (pargs.map (fz fuelFz σ)) (VFs.mapR ha fun _ _ q => fzK_ok hK fuelFz q) σ.next
        have hor : KOR (upd ρ A.length p) (A.length + 1) (σ.join τ) p (.made true sz es) := by
          obtain ⟨q0, q1, ⟨rfl, rfl⟩ | ⟨id, cap, ro, ps, tl, rfl, s1, s2, s3, s4, s5, s6⟩⟩ := e5
          · exact ⟨q0, q1, .inl ⟨rfl, rfl⟩⟩
          · exact ⟨q0, q1, .inr ⟨id, cap, ro, ps, tl, rfl, (join_new (e6 id (.head _))).trans s1, s2, s3, s4, s5, s6⟩⟩
        obtain ⟨g1, g2⟩ := hK.more (σ' := σ.join τ) (u := p) (o := .made true sz es) e4 (fun i hi => join_old hi) e6 hor n0
        refine ⟨p, σ.join τ, ?_, _, g1, ?_, g2⟩
        · unfold callv
          rw [hm]
          simp only [e1, Option.bind_some, e2, e3, Bool.and_self, if_true]
        · have : VK (upd ρ A.length p) (A ++ [KO.made true sz es]).length (.lsl A.length sz 0 0 none) (upd ρ A.length p A.length) := .whole (by simp) (by rw [upd_same]; exact eh)
          rw [upd_same] at this
          exact this
      · cases h
    · rename_i hm
      split at h
      · rename_i u hu
        obtain ⟨v, env', A', h1, h2, h3⟩ := toldKK_ok h
        refine ⟨v, env', A', h1, h2, fun ρ penv σ n0 pargs hK ha => ?_⟩
        obtain ⟨w, σ', e1, e2⟩ := h3 ρ penv σ n0 pargs hK ha
        exact ⟨w, σ', by unfold callv; rw [hm]; exact (hO.told g u hu _ _).trans e1, e2⟩
      · obtain ⟨v, env', A', h1, h2, h3⟩ := liveKK_ok hC h
        refine ⟨v, env', A', h1, h2, fun ρ penv σ n0 pargs hK ha => ?_⟩
        obtain ⟨w, σ', e1, e2⟩ := h3 ρ penv σ n0 pargs hK ha
        exact ⟨w, σ', by unfold callv; rw [hm]; exact e1, e2⟩
    · cases h
  · rename_i he
    split at h
    rotate_left
    · cases h
    rename_i hm
    rw [Option.bind_eq_some_iff] at h
    obtain ⟨v, hv, h⟩ := h
    refine ⟨v, _, _, h, rfl, fun ρ penv σ n0 pargs hK ha => ?_⟩
    have hv2 : ext0 c.P g pargs = some v ∧ v.base = true := by
      unfold ext0 at hv
      split at hv
      · rename_i n hx
        cases hv
        have : pargs = [.float .f64 n] := by
          cases ha with
          | cons h t => cases t; rw [h.base_eq rfl]
        subst this
        exact ⟨by simp only [ext0, hx], rfl⟩
      · rename_i n hx
        cases hv
        have : pargs = [.int .u64 n] := by
          cases ha with
          | cons h t => cases t; rw [h.base_eq rfl]
        subst this
        exact ⟨by simp only [ext0, hx], rfl⟩
      · cases hv
    refine ⟨v, σ, ?_, ρ, hK, .fr ?_, Go2.refl _ _ _ _⟩
    · rw [if_neg he]
      unfold extC
      rw [hm, hv2.1]
      rfl
    · exact .base _ hv2.2
end
end Go.Pvm

/- Part of the proof: code of the evaluator over values alone is that of the one with a store. -/
set_option linter.unusedSimpArgs false
set_option linter.unusedVariables false
namespace Go.Pvm
section
variable {P : Program} {ρ ρ' : Nat → PV} {m : Nat} {A A' : List KO} {env penv : List PV} {σ σ' : Store} {β : Type} {r : β}

/-! ### Numbers, texts -/
theorem arith_base {op : BinOp} {κ : IntKind} {x y : Int} {v : PV} (h : arith op κ x y = some v) : v.base = true := by
  cases op <;> simp only [arith] at h <;> first | (cases h; done) | (cases h; rfl) | (split at h <;> first | (cases h; done) | (cases h; rfl))
theorem binv_base {op : BinOp} {t : TypeId} {x y v : PV} (h : binv P op t x y = some v) : v.base = true := by
  unfold binv at h
  split at h
  · split at h
    · unfold shiftv at h
      split at h
      · cases h
      · split at h <;> first | (cases h; done) | (cases h; rfl)
    · unfold shiftv at h
      split at h
      · cases h
      · split at h <;> first | (cases h; done) | (cases h; rfl)
    · split at h
      · exact arith_base h
      · cases h
  · unfold strv at h
    split at h
    · split at h <;> first | (cases h; done) | (cases h; rfl)
    · cases h; rfl
    · cases h; rfl
    · cases h
  · split at h
    · split at h <;> first | (cases h; done) | (cases h; rfl)
    · cases h
  · split at h
    · cases h
    · split at h
      · rw [Option.map_eq_some_iff] at h; obtain ⟨b, _, rfl⟩ := h; rfl
      · rw [Option.map_eq_some_iff] at h; obtain ⟨b, _, rfl⟩ := h; rfl
      · cases h
theorem eqv_ref (n : Nat) (t : TypeId) (a b c a' b' c' : Nat) : eqv P n t (.ref a b c) .nilptr = eqv P n t (.ref a' b' c') .nilptr := by
  cases n with
  | zero => rfl
  | succ n =>
    unfold eqv
    cases P.underlying t with
    | none => rfl
    | some d => cases d <;> rfl
theorem eqv_pref (n : Nat) (t : TypeId) (a b : List PV) : eqv P n t (.pref a) .nilptr = eqv P n t (.pref b) .nilptr := by
  cases n with
  | zero => rfl
  | succ n =>
    unfold eqv
    cases P.underlying t with
    | none => rfl
    | some d => cases d <;> rfl
theorem binK_ok {op : BinOp} {t : TypeId} {x y v : PV} (h : binK P op t x y = some v) : v.base = true ∧ ∀ ρ m p q, VK ρ m x p → VK ρ m y q → binv P op t p q = some v := by
  unfold binK at h
  split at h
  · rename_i hf
    exact ⟨binv_base h, fun ρ m p q hp hq => by rw [hp.flat_eq hf.1, hq.flat_eq hf.2]; exact h⟩
  · split at h
    · refine ⟨binv_base h, fun ρ m p q hp hq => ?_⟩
      obtain ⟨_, hr⟩ := hp.ref_inv
      rw [hq.base_eq rfl]
      have key : ∃ a b c, p = .ref a b c := by
        unfold refAt at hr
        split at hr <;> first | (cases hr; exact ⟨_, _, _, rfl⟩) | cases hr
      obtain ⟨a', b', c', rfl⟩ := key
      unfold binv guardT at h ⊢
      simp only [Bool.false_eq_true, if_false] at h ⊢
      rw [eqv_ref 10000 t a' b' c' _ _ _]
      exact h
    · refine ⟨binv_base h, fun ρ m p q hp hq => ?_⟩
      obtain ⟨ps, rfl, _⟩ := hp.pref_inv
      rw [hq.base_eq rfl]
      unfold binv guardT at h ⊢
      simp only [Bool.false_eq_true, if_false] at h ⊢
      rw [eqv_pref 10000 t ps _]
      exact h
    · cases h
theorem unv_ok {op : UnOp} {x v : PV} (h : unv op x = some v) : v.base = true ∧ ∀ ρ m p, VK ρ m x p → unv op p = some v := by
  unfold unv at h
  split at h
  · cases h; exact ⟨rfl, fun ρ m p hp => by rw [hp.int_eq]; rfl⟩
  · cases h; exact ⟨rfl, fun ρ m p hp => by rw [hp.int_eq]; rfl⟩
  · cases h; exact ⟨rfl, fun ρ m p hp => by rw [hp.bool_eq]; rfl⟩
  · cases h
theorem fold_base {f : PV → PV → Option PV} (hf : ∀ a b c, f a b = some c → c.base = true) : ∀ (l : List PV) {x v : PV}, x.base = true → foldv f x l = some v → v.base = true
  | [], x, v, hx, h => by cases h; exact hx
  | y :: l, x, v, hx, h => by
    unfold foldv at h
    rw [Option.bind_eq_some_iff] at h
    obtain ⟨z, h1, h2⟩ := h
    exact fold_base hf l (hf _ _ _ h1) h2
theorem fold_flat {f : PV → PV → Option PV} (hf : ∀ a b c, f a b = some c → c.base = true) : ∀ (l : List PV) {x v : PV}, VF x x → foldv f x l = some v → VF v v
  | [], x, v, hx, h => by cases h; exact hx
  | y :: l, x, v, hx, h => by
    unfold foldv at h
    rw [Option.bind_eq_some_iff] at h
    obtain ⟨z, h1, h2⟩ := h
    exact fold_flat hf l (.base _ (hf _ _ _ h1)) h2
theorem VFs.baseR : ∀ {cs : List PV}, cs.all PV.base = true → VFs cs cs
  | [], _ => .nil
  | c :: cs, h => by
    rw [List.all_cons, Bool.and_eq_true] at h
    exact .cons (.base _ h.1) (VFs.baseR h.2)
theorem VF.flatR {v : PV} (h : v.flat = true) : VF v v := by
  rcases flat_cases h with hb | ⟨cs, rfl, hb⟩
  · exact .base _ hb
  · exact .agg (VFs.baseR hb)

/-! ### Made of parts -/
theorem fillv_ok {place : Nat → Option (Nat × Nat)} : ∀ (ps : List (Nat × Operand)) {cs pcs out : List PV}, VKs ρ m env penv → VKs ρ m cs pcs → fillv place cs (ps.map fun (i, x) => (i, opd env x)) = some out → ∃ pout, fillv place pcs (ps.map fun (i, x) => (i, opd penv x)) = some pout ∧ VKs ρ m out pout
  | [], cs, pcs, out, he, hc, h => by cases h; exact ⟨_, rfl, hc⟩
  | (i, x) :: ps, cs, pcs, out, he, hc, h => by
    simp only [List.map_cons, fillv, Option.bind_eq_some_iff] at h ⊢
    obtain ⟨⟨off, size⟩, h1, h⟩ := h
    simp only at h
    split at h
    · rename_i hq
      have hx := opd_ok he x
      have hcs := hx.cells hq.2.2
      obtain ⟨pout, h2, h3⟩ := fillv_ok ps he (hc.over hcs off) h
      refine ⟨pout, ⟨(off, size), h1, ?_⟩, h3⟩
      simp only
      rw [if_pos ⟨by rw [← hcs.len]; exact hq.1, by rw [← hc.len]; exact hq.2.1, hx.known hq.2.2⟩]
      exact h2
    · cases h
theorem zeroOf_R {t : TypeId} {z : PV} (h : zeroOf P t = some z) : VF z z := by
  unfold zeroOf at h
  rw [Option.map_eq_some_iff] at h
  obtain ⟨v, _, rfl⟩ := h
  exact .ofValue v
theorem buildv_ok {t : TypeId} {ps : List (Nat × Operand)} {v : PV} (he : VKs ρ m env penv) (h : buildv P t (ps.map fun (i, x) => (i, opd env x)) = some v) : ∃ p, buildv P t (ps.map fun (i, x) => (i, opd penv x)) = some p ∧ VK ρ m v p := by
  unfold buildv at h ⊢
  rw [Option.bind_eq_some_iff] at h
  obtain ⟨z, hz, h⟩ := h
  rw [hz]
  simp only [Option.bind_some]
  split at h
  · cases h
  rename_i hk
  rw [if_neg hk]
  have hzc : VKs ρ m z.cells z.cells := (VK.fr (zeroOf_R hz)).cells (by simpa using hk)
  split at h
  · rename_i fs hu
    rw [Option.bind_eq_some_iff] at h
    obtain ⟨pl, hpl, h⟩ := h
    rw [Option.map_eq_some_iff] at h
    obtain ⟨out, h1, rfl⟩ := h
    obtain ⟨pout, h2, h3⟩ := fillv_ok ps he hzc h1
    rw [hpl]
    simp only [Option.bind_some, h2, Option.map_some]
    exact ⟨_, rfl, .agg h3⟩
  · rename_i n el hu
    rw [Option.bind_eq_some_iff] at h
    obtain ⟨pl, hpl, h⟩ := h
    rw [Option.map_eq_some_iff] at h
    obtain ⟨out, h1, rfl⟩ := h
    obtain ⟨pout, h2, h3⟩ := fillv_ok ps he hzc h1
    rw [hpl]
    simp only [Option.bind_some, h2, Option.map_some]
    exact ⟨_, rfl, .agg h3⟩
  · cases h
theorem setAll_ok {sz : Nat} : ∀ (ps : List (Nat × Operand)) {es pes out : List (List PV)}, VKs ρ m env penv → All2 (VKs ρ m) es pes → setAll es sz (ps.map fun (i, x) => (i, opd env x)) = some out → ∃ pout, setAll pes sz (ps.map fun (i, x) => (i, opd penv x)) = some pout ∧ All2 (VKs ρ m) out pout
  | [], es, pes, out, he, hc, h => by cases h; exact ⟨_, rfl, hc⟩
  | (i, x) :: ps, es, pes, out, he, hc, h => by
    simp only [List.map_cons, setAll] at h ⊢
    split at h
    · rename_i hq
      have hx := opd_ok he x
      have hcs := hx.cells hq.2.2
      obtain ⟨pout, h2, h3⟩ := setAll_ok ps he (hc.set hcs i) h
      refine ⟨pout, ?_, h3⟩
      rw [if_pos ⟨by rw [← hcs.len]; exact hq.1, by rw [← hc.len]; exact hq.2.1, hx.known hq.2.2⟩]
      exact h2
    · cases h
theorem rowsPl_ss {sz : Nat} {es pes : List (List PV)} (h : All2 (VKs ρ m) es pes) (hr : rowsPl sz es = true) : VFss es pes := by
  induction h with
  | nil => exact .nil
  | cons h _ ih =>
    unfold rowsPl at hr
    rw [List.all_cons, Bool.and_eq_true, Bool.and_eq_true] at hr
    exact .cons (h.plain hr.1.2).1 (ih hr.2)
/-- A slice just made. -/
theorem KS.fresh (hK : KS ρ A env penv σ) {sz n : Nat} {es ps : List (List PV)} (h0 : sz ≠ 0) (hr : rowsPl sz es = true) (hv : VFss es ps) (hn : n = es.length) (n0 : Nat) : Stp n0 ρ A σ (whole A.length sz) env penv (A ++ [.made true sz es]) (.lsl σ.next sz 0 n (some n)) (σ.push (.cells 0 ps)) := by
  subst hn
  obtain ⟨h1, h2⟩ := hK.more (σ' := σ.push (.cells 0 ps)) (u := .lsl σ.next sz 0 es.length (some es.length)) (o := .made true sz es) (Nat.le_succ _) (fun i hi => push_old hi) (fun i hi => by rw [List.mem_singleton.1 hi]; exact Nat.le_refl _)
    (KOR.mk0 (ρ := fun _ => .undef) (m := 0) h0 hr (id := σ.next) rfl (push_obj _ _) hv (.inr rfl) (fun _ => rfl) (Nat.lt_succ_self _)) n0
  refine ⟨_, h1, ?_, h2⟩
  have : VK (upd ρ A.length (.lsl σ.next sz 0 es.length (some es.length))) (A ++ [KO.made true sz es]).length (.lsl A.length sz 0 0 none) (upd ρ A.length (.lsl σ.next sz 0 es.length (some es.length)) A.length) := .whole (by simp) (by rw [upd_same]; rfl)
  rw [upd_same] at this
  exact this
/-- A variable just laid. -/
theorem KS.laid (hK : KS ρ A env penv σ) {cs ps : List PV} (t : TypeId) (hv : VKs ρ A.length cs ps) (n0 : Nat) : Stp n0 ρ A σ (.ref A.length 0 0) env penv (A ++ [.box true t cs]) (.ref σ.next 0 0) (σ.push (.cells 0 [ps])) := by
  obtain ⟨h1, h2⟩ := hK.more (σ' := σ.push (.cells 0 [ps])) (u := .ref σ.next 0 0) (o := .box true t cs) (Nat.le_succ _) (fun i hi => push_old hi) (fun i hi => by rw [List.mem_singleton.1 hi]; exact Nat.le_refl _)
    ⟨σ.next, ps, 0, rfl, push_obj _ _, hv.mono (Nat.le_succ _) fun k hk => upd_other _ (by omega), fun _ => rfl, Nat.lt_succ_self _⟩ n0
  exact ⟨_, h1, .ref (by simp) (by rw [upd_same]; rfl), h2⟩
theorem Stp.id (hK : KS ρ A env penv σ) {v p : PV} (hv : VK ρ A.length v p) (n0 : Nat) : Stp n0 ρ A σ v env penv A p σ := ⟨ρ, hK, hv, Go2.refl _ _ _ _⟩

theorem copyKK_ok {el : TypeId} {d s : PV} {t u e2 : TypeId} {k : Nat → List KO → Option β} (ht : P.underlying t = some (.slice el)) (hu : P.underlying u = some (.slice e2)) (h : copyKK P A el d s k = some r) : ∃ n A', k n A' = some r ∧
    ∀ ρ env penv σ n0 p q, KS ρ A env penv σ → VK ρ A.length d p → VK ρ A.length s q → ∃ σ', writeB P σ .copy [t, u] [p, q] = some (.int .i64 (n : Nat), σ') ∧ KS ρ A' env penv σ' ∧ Go2 n0 ρ A σ ρ A' σ' := by
  unfold copyKK at h
  rw [Option.bind_eq_some_iff] at h
  obtain ⟨sz, hsz, h⟩ := h
  obtain ⟨src, h, hx⟩ := rowsK_ok h
  split at h
  · cases h
  rename_i hro
  have hro : rowsPl sz src = true := by simpa using hro
  obtain ⟨j, es, a, n, h, hj, hd⟩ := partKK_ok h
  refine ⟨_, _, h, fun ρ env penv σ n0 p q hK hp hq => ?_⟩
  have hdd : isDead (A.getD j .dead) = false := by rw [hj]; rfl
  obtain ⟨q0, q1, _⟩ := hK.get (getD_lt hdd) hj
  obtain ⟨ps, e1, e2⟩ := hx ρ env penv σ q hK hq
  have hall := (rowsPl_els.1 (rowsPl_p e2 hro)).all1
  rcases hd ρ env penv σ p hK hp with ⟨rfl, e3, rfl, rfl, rfl⟩ | ⟨id, cap, cap', pes, tl, rfl, e3, e4, e5, e6, e7, e9, e8⟩
  · obtain ⟨g1, g2⟩ := hK.put (σ' := σ) (o := .made true sz (([] : List (List PV)).take 0 ++ src.take 0 ++ ([] : List (List PV)).drop (0 + (src.take 0).length))) hdd (Nat.le_refl _) (fun _ _ _ => rfl) ⟨q0, by simpa using q1, .inl ⟨e3, by simp⟩⟩ (fun hb => by rw [hj] at hb; cases hb) n0
    refine ⟨σ, ?_, g1, g2⟩
    simp only [writeB, ht, hu, copyv, hsz, e1, Option.bind_some]
    rw [if_neg q0, if_pos hall]
    show some (PV.int .i64 0, σ) = some (PV.int .i64 ((Nat.min src.length 0 : Nat) : Int), σ)
    rw [show Nat.min src.length 0 = 0 from Nat.min_zero _]
    rfl
  · have hlen : (es.take a ++ src.take n ++ es.drop (a + (src.take n).length)).length = es.length := by
      simp only [List.length_append, List.length_take, List.length_drop]
      omega
    obtain ⟨g1, g2⟩ := hK.put (σ' := σ.put id (.cells 0 ((pes.take a ++ ps.take n ++ pes.drop (a + (ps.take n).length)) ++ tl))) (o := .made true sz (es.take a ++ src.take n ++ es.drop (a + (src.take n).length))) hdd (Nat.le_refl _) (fun x _ hx => put_other fun ex => hx (by rw [e3, ex]; exact .head _))
      ⟨q0, rowsPl_app (rowsPl_app (rowsPl_take q1 _) (rowsPl_take hro _)) (rowsPl_drop q1 _), .inr ⟨id, cap', 0, _, tl, by rw [hlen]; exact e3, put_obj _ _ _, by
        have hl2 : (ps.take n).length = (src.take n).length := by rw [List.length_take, List.length_take, e2.len]
        rw [hl2]
        exact ((e6.take a).app (e2.take n)).app (e6.drop _), by rw [hlen]; exact e4, e9, fun _ => rfl, e8⟩⟩ (fun hb => by rw [hj] at hb; cases hb) n0
    refine ⟨_, ?_, g1, g2⟩
    have hle6 : a + n ≤ pes.length := by rw [← e6.len]; exact e7
    have hle7 : a + (ps.take n).length ≤ pes.length := by rw [List.length_take]; omega
    simp only [writeB, ht, hu, copyv, hsz, e1, Option.bind_some, e5]
    rw [if_neg q0, if_neg (by simp), if_pos ⟨by rw [List.length_append]; omega, Nat.zero_le _⟩, if_pos (all1_part hall _), e2.len, List.take_append_of_le_length (show a ≤ pes.length by omega), List.drop_append_of_le_length hle7]
    simp only [List.append_assoc]
theorem clearKK_ok {el : TypeId} {d : PV} {t : TypeId} {k : List KO → Option β} (ht : P.underlying t = some (.slice el)) (h : clearKK P A el d k = some r) : ∃ A', k A' = some r ∧
    ∀ ρ env penv σ n0 p, KS ρ A env penv σ → VK ρ A.length d p → ∃ σ', writeB P σ .clear [t] [p] = some (.tuple [], σ') ∧ KS ρ A' env penv σ' ∧ Go2 n0 ρ A σ ρ A' σ' := by
  unfold clearKK at h
  simp only [Option.bind_eq_some_iff] at h
  obtain ⟨sz, hsz, z, hz, h⟩ := h
  split at h
  · cases h
  rename_i hne
  have hk : z.known = true := by
    cases hq : z.known with
    | true => rfl
    | false => exact absurd (.inl hq) hne
  have hl : z.cells.length = sz := by
    by_cases hq : z.cells.length = sz
    · exact hq
    · exact absurd (.inr (.inl hq)) hne
  have hpl : z.cells.all PV.plain = true := by
    cases hq : z.cells.all PV.plain with
    | true => rfl
    | false => exact absurd (.inr (.inr hq)) hne
  have hone : z.cells.all PV.one = true := by
    rw [List.all_eq_true] at hpl ⊢
    exact fun x hx => one_plain (hpl x hx)
  obtain ⟨j, es, a, n, h, hj, hd⟩ := partKK_ok h
  refine ⟨_, h, fun ρ env penv σ n0 p hK hp => ?_⟩
  have hdd : isDead (A.getD j .dead) = false := by rw [hj]; rfl
  obtain ⟨q0, q1, _⟩ := hK.get (getD_lt hdd) hj
  have hcond : ¬ (sz = 0 ∨ z.known = false ∨ z.cells.length ≠ sz ∨ z.cells.all PV.one = false) := by simp [q0, hk, hl, hone]
  have hzc : VFs z.cells z.cells := ((VK.fr (ρ := ρ) (m := 0) (zeroOf_R hz)).cells hk).plain hpl |>.1
  rcases hd ρ env penv σ p hK hp with ⟨rfl, e3, rfl, rfl, rfl⟩ | ⟨id, cap, cap', pes, tl, rfl, e3, e4, e5, e6, e7, e9, e8⟩
  · obtain ⟨g1, g2⟩ := hK.put (σ' := σ) (o := .made true sz (([] : List (List PV)).take 0 ++ List.replicate 0 z.cells ++ ([] : List (List PV)).drop (0 + 0))) hdd (Nat.le_refl _) (fun _ _ _ => rfl) ⟨q0, by simpa using q1, .inl ⟨e3, by simp⟩⟩ (fun hb => by rw [hj] at hb; cases hb) n0
    refine ⟨σ, ?_, g1, g2⟩
    simp only [writeB, ht, clearv, hsz, hz, Option.bind_some]
    rw [if_neg hcond]
  · have hlen : (es.take a ++ List.replicate n z.cells ++ es.drop (a + n)).length = es.length := by
      simp only [List.length_append, List.length_take, List.length_drop, List.length_replicate]
      omega
    have hrep : rowsPl sz (List.replicate n z.cells) = true := by
      unfold rowsPl
      rw [List.all_eq_true]
      intro e he
      rw [List.eq_of_mem_replicate he, hpl]
      simp [hl]
    obtain ⟨g1, g2⟩ := hK.put (σ' := σ.put id (.cells 0 ((pes.take a ++ List.replicate n z.cells ++ pes.drop (a + n)) ++ tl))) (o := .made true sz (es.take a ++ List.replicate n z.cells ++ es.drop (a + n))) hdd (Nat.le_refl _) (fun x _ hx => put_other fun ex => hx (by rw [e3, ex]; exact .head _))
      ⟨q0, rowsPl_app (rowsPl_app (rowsPl_take q1 _) hrep) (rowsPl_drop q1 _), .inr ⟨id, cap', 0, _, tl, by rw [hlen]; exact e3, put_obj _ _ _, ((e6.take a).app (VFss.of (All2.replicate hzc n))).app (e6.drop _), by rw [hlen]; exact e4, e9, fun _ => rfl, e8⟩⟩ (fun hb => by rw [hj] at hb; cases hb) n0
    refine ⟨_, ?_, g1, g2⟩
    simp only [writeB, ht, clearv, hsz, hz, Option.bind_some, e5]
    have hle6 : a + n ≤ pes.length := by rw [← e6.len]; exact e7
    rw [if_neg hcond, if_neg (by simp), if_pos ⟨by rw [List.length_append]; omega, Nat.zero_le _⟩, List.take_append_of_le_length (show a ≤ pes.length by omega), List.drop_append_of_le_length hle6]
    simp only [List.append_assoc]
theorem bltKK_ok {b : Builtin} {ts : List TypeId} {args : List PV} {ty : TypeId} {k : PV → List PV → List KO → Option β} (h : bltKK P b ts args ty env A k = some r) : ∃ v env' A', k v env' A' = some r ∧ env'.length = env.length ∧
    ∀ ρ penv σ n0 pargs, KS ρ A env penv σ → VKs ρ A.length args pargs → ∃ w σ', builtinv P σ b ts pargs = some (w, σ') ∧ Stp n0 ρ A σ v env' penv A' w σ' := by
  unfold bltKK at h
  split at h
  · rename_i t tr x xr
    split at h
    · rename_i hu
      split at h
      · rename_i s
        refine ⟨_, _, _, h, rfl, fun ρ penv σ n0 pargs hK ha => ?_⟩
        cases ha with
        | cons hp ht =>
          rw [hp.str_eq]
          exact ⟨.int .i64 (s.size : Nat), σ, by show (pureB P .len (t :: tr) (.str s :: _)).map _ = _; simp only [pureB, hu, Option.map_some], .id hK (.fr (.base _ rfl)) n0⟩
      · cases h
    · rename_i el hu
      split at h
      · cases h
      rename_i hns
      have h0 := h
      obtain ⟨n, h, hn⟩ := lenKK_ok h
      refine ⟨_, _, _, h, rfl, fun ρ penv σ n0 pargs hK ha => ?_⟩
      cases ha with
      | cons hp ht =>
        rename_i p ps
        have hl := hn ρ env penv σ p hK hp
        have hsl : isStr p = false := hp.nostr (by cases x <;> first | (exact absurd rfl hns) | rfl | cases h0)
        refine ⟨.int .i64 (n : Nat), σ, ?_, .id hK (.fr (.base _ rfl)) n0⟩
        show (pureB P .len (t :: tr) (p :: ps)).map _ = _
        cases p <;> first | (cases hl; done) | (cases hsl; done) | skip
        all_goals (cases hl; simp only [pureB, hu, Option.map_some])
        all_goals rfl
    · cases h
  · rename_i x xr
    split at h
    · rename_i hf
      rw [Option.bind_eq_some_iff] at h
      obtain ⟨v, h1, h2⟩ := h
      refine ⟨_, _, _, asK_ref h2, rfl, fun ρ penv σ n0 pargs hK ha => ?_⟩
      cases ha with
      | cons hp ht =>
        rw [hp.flat_eq hf.1, ht.flat_eq hf.2]
        refine ⟨v, σ, ?_, .id hK (.fr (fold_flat (fun a b c e => ?_) _ (VF.flatR hf.1) h1)) n0⟩
        · have e : pureB P .max ts (x :: xr) = some v := by unfold pureB; exact h1
          unfold builtinv
          rw [if_pos (show calmB .max = true from rfl), e]; rfl
        · unfold max2v at e; split at e <;> first | (cases e; rfl) | cases e
    · cases h
  · rename_i x xr
    split at h
    · rename_i hf
      rw [Option.bind_eq_some_iff] at h
      obtain ⟨v, h1, h2⟩ := h
      refine ⟨_, _, _, asK_ref h2, rfl, fun ρ penv σ n0 pargs hK ha => ?_⟩
      cases ha with
      | cons hp ht =>
        rw [hp.flat_eq hf.1, ht.flat_eq hf.2]
        refine ⟨v, σ, ?_, .id hK (.fr (fold_flat (fun a b c e => ?_) _ (VF.flatR hf.1) h1)) n0⟩
        · have e : pureB P .min ts (x :: xr) = some v := by unfold pureB; exact h1
          unfold builtinv
          rw [if_pos (show calmB .min = true from rfl), e]; rfl
        · unfold min2v at e; split at e <;> first | (cases e; rfl) | cases e
    · cases h
  · rename_i t u s x
    split at h
    · rename_i el e2 hu1 hu2
      split at h
      · cases h
      rename_i hns
      have h0 := h
      obtain ⟨v, env', A', h, hl, hx⟩ := appKK_ok h
      refine ⟨v, env', A', h, hl, fun ρ penv σ n0 pargs hK ha => ?_⟩
      cases ha with
      | cons hp ha =>
        cases ha with
        | cons hq ha =>
          cases ha
          rename_i p q
          obtain ⟨w, σ', e1, e3⟩ := hx ρ penv σ n0 p q hK hp hq
          refine ⟨w, σ', ?_, e3⟩
          have hqs : isStr q = false := hq.nostr (by
            cases x <;> first | (exact absurd rfl hns) | rfl | skip
            all_goals (exfalso; unfold appKK at h0; simp only [Option.bind_eq_some_iff] at h0; obtain ⟨_, _, _, _, _, _, h0⟩ := h0; cases h0))
          show writeB P σ .append [t, u] [p, q] = _
          rw [writeB_append hu1 hu2 hqs]
          exact e1
    · rename_i el hu1 hu2
      split at h
      · rename_i hs
        obtain ⟨v, env', A', h, hl, hx⟩ := appKK_ok h
        refine ⟨v, env', A', h, hl, fun ρ penv σ n0 pargs hK ha => ?_⟩
        cases ha with
        | cons hp ha =>
          cases ha with
          | cons hq ha =>
            cases ha
            rename_i p q
            obtain ⟨w, σ', e1, e3⟩ := hx ρ penv σ n0 p q hK hp hq
            refine ⟨w, σ', ?_, e3⟩
            cases x <;> first | (cases hs; done) | skip
            rw [hq.str_eq] at e1 ⊢
            show writeB P σ .append [t, u] [p, .str _] = _
            simp only [writeB, hu1, hu2]
            exact e1
      · cases h
    · cases h
  · rename_i t u d s
    split at h
    · rename_i el e2 hu1 hu2
      obtain ⟨n, A', h, hx⟩ := copyKK_ok hu1 hu2 h
      refine ⟨_, _, _, h, rfl, fun ρ penv σ n0 pargs hK ha => ?_⟩
      cases ha with
      | cons hp ha =>
        cases ha with
        | cons hq ha =>
          cases ha
          obtain ⟨σ', g1, g2, g3⟩ := hx ρ env penv σ n0 _ _ hK hp hq
          exact ⟨_, σ', g1, ρ, g2, .fr (.base _ rfl), g3⟩
    · cases h
  · rename_i t d
    split at h
    · rename_i el hu1
      obtain ⟨A', h, hx⟩ := clearKK_ok hu1 h
      refine ⟨_, _, _, h, rfl, fun ρ penv σ n0 pargs hK ha => ?_⟩
      cases ha with
      | cons hp ha =>
        cases ha
        obtain ⟨σ', g1, g2, g3⟩ := hx ρ env penv σ n0 _ hK hp
        exact ⟨_, σ', g1, ρ, g2, .fr (.tuple .nil), g3⟩
    · cases h
  · cases h

/-! ### One operation -/
theorem refAt_add {u p : PV} {i o : Nat} (h : refAt u i o = some p) (n : Nat) : ∃ id, p = .ref id i o ∧ refAt u i (o + n) = some (.ref id i (o + n)) := by
  unfold refAt at h
  split at h <;> first | (cases h; exact ⟨_, rfl, rfl⟩) | cases h
theorem indexKK_ok {t ty : TypeId} {x i : PV} {k : PV → Option β} (h : indexKK P t ty x i k = some r) : ∃ v, k v = some r ∧ ∀ ρ m p pi, VK ρ m x p → VK ρ m i pi → ∃ q, indexv P t p pi = some q ∧ VK ρ m v q := by
  have hint : ∀ {n : Int}, intOf? i = some n → ∀ {ρ : Nat → PV} {m : Nat} {pi : PV}, VK ρ m i pi → intOf? pi = some n := fun {n} hn {ρ m pi} hi => by
    cases i <;> first | (cases hn; done) | skip
    rw [hi.int_eq]
    exact hn
  unfold indexKK at h
  split at h
  · rename_i cs
    split at h
    · rename_i nn el hu
      simp only [Option.bind_eq_some_iff] at h
      obtain ⟨n, hn, sz, hsz, h⟩ := h
      obtain ⟨m, hm, hnm, h⟩ := splitN_some (Nat.le_refl _) h
      rw [Option.bind_eq_some_iff] at h
      obtain ⟨v, h1, h2⟩ := h
      refine ⟨_, asK_ref h2, fun ρ m' p pi hx hi => ?_⟩
      obtain ⟨ps, rfl, hc⟩ := hx.agg_inv
      obtain ⟨p, e1, e2⟩ := partOf_ok h1 hc
      refine ⟨p, ?_, e2⟩
      simp only [indexv, hint hn hi, hu, hsz, Option.bind_some]
      rw [if_pos (by omega), show n.toNat = m by omega, e1]
    · cases h
  · rename_i hna
    simp only [Option.bind_eq_some_iff] at h
    obtain ⟨v, h1, h2⟩ := h
    refine ⟨_, asK_ref h2, fun ρ m' p pi hx hi => ?_⟩
    unfold indexv at h1 ⊢
    rw [Option.bind_eq_some_iff] at h1
    obtain ⟨n, hn, h1⟩ := h1
    rw [hint hn hi]
    simp only [Option.bind_some]
    split at h1
    · exact absurd rfl (hna _)
    · rename_i s hu
      rw [hx.str_eq]
      split at h1
      · rename_i hb
        refine ⟨v, ?_, ?_⟩
        · simp only [hu]
          rw [if_pos hb, h1]
        · rw [Option.map_eq_some_iff] at h1
          obtain ⟨b, _, rfl⟩ := h1
          exact .fr (.base _ rfl)
      · cases h1
    · cases h1
theorem opKK_ok {c : Cfg} {kc : KCfg} {C : CallK} {Cω : CallO} (hC : SoundC C Cω) (hO : OwnOk kc c.P Cω) {o : Oper} {k : PV → List PV → List KO → Option β} (h : opKK c kc C env A o k = some r) : ∃ v env' A', k v env' A' = some r ∧ env'.length = env.length ∧
    ∀ ρ penv σ n0, KS ρ A env penv σ → ∃ p σ', evalOp c Cω penv σ o = some (p, σ') ∧ Stp n0 ρ A σ v env' penv A' p σ' := by
  obtain ⟨dst, op, type, pos, after, guard⟩ := o
  unfold opKK at h
  unfold evalOp
  cases op <;> simp only at h ⊢
  case move x => exact ⟨_, _, _, h, rfl, fun ρ penv σ n0 hK => ⟨_, _, rfl, .id hK (opd_ok hK.env x) n0⟩⟩
  case assign x => exact ⟨_, _, _, h, rfl, fun ρ penv σ n0 hK => ⟨_, _, rfl, .id hK (opd_ok hK.env x) n0⟩⟩
  case pick cd a b =>
    split at h
    · rename_i t ht
      have hb : ∀ {ρ penv σ}, KS ρ A env penv σ → opd penv cd = .bool t := fun hK => by
        have := opd_ok hK.env cd
        rw [ht] at this
        exact this.bool_eq
      split at h
      · rename_i htt
        exact ⟨_, _, _, h, rfl, fun ρ penv σ n0 hK => ⟨opd penv a, σ, by simp only [hb hK]; rw [if_pos htt], .id hK (opd_ok hK.env a) n0⟩⟩
      · rename_i htt
        exact ⟨_, _, _, h, rfl, fun ρ penv σ n0 hK => ⟨opd penv b, σ, by simp only [hb hK]; rw [if_neg htt], .id hK (opd_ok hK.env b) n0⟩⟩
    · cases h
  case alloc el =>
    simp only [Option.bind_eq_some_iff] at h
    obtain ⟨z, h1, h2⟩ := h
    split at h2
    · rename_i hk
      refine ⟨_, _, _, h2, rfl, fun ρ penv σ n0 hK => ⟨_, _, ?_, hK.laid el ((VK.fr (zeroOf_R h1)).cells hk.1) n0⟩⟩
      rw [h1]
      simp only [Option.bind_some]
      rw [if_pos hk]
    · cases h2
  case box el x =>
    split at h
    · rename_i hk
      refine ⟨_, _, _, h, rfl, fun ρ penv σ n0 hK => ?_⟩
      have hx := opd_ok hK.env x
      have hc := hx.cells hk.1
      refine ⟨_, _, ?_, hK.laid el hc n0⟩
      rw [if_pos ⟨hx.known hk.1, by rw [← hc.len]; exact hk.2⟩]
    · cases h
  case build t ps =>
    simp only [Option.bind_eq_some_iff] at h
    obtain ⟨z, h1, h2⟩ := h
    rw [forceV_eq] at h2
    refine ⟨_, _, _, h2, rfl, fun ρ penv σ n0 hK => ?_⟩
    obtain ⟨p, e1, e2⟩ := buildv_ok hK.env h1
    exact ⟨p, σ, by rw [e1]; rfl, .id hK e2 n0⟩
  case buildSlice t n ps =>
    split at h
    · rename_i el hu
      simp only [Option.bind_eq_some_iff] at h
      obtain ⟨sz, hsz, z, hz, h⟩ := h
      split at h
      · rename_i hc
        rw [Option.bind_eq_some_iff] at h
        obtain ⟨es, h1, h⟩ := h
        split at h
        · rename_i hr
          refine ⟨_, _, _, h, rfl, fun ρ penv σ n0 hK => ?_⟩
          have hzc : VKs ρ A.length z.cells z.cells := (VK.fr (zeroOf_R hz)).cells hc.2.1
          obtain ⟨pes, e1, e2⟩ := setAll_ok ps.toList hK.env (All2.replicate hzc n) h1
          have hlen : es.length = n := by
            have : ∀ (l : List (Nat × PV)) (a b : List (List PV)), setAll a sz l = some b → b.length = a.length := by
              intro l
              induction l with
              | nil => intro a b h; cases h; rfl
              | cons x l ih =>
                intro a b h
                unfold setAll at h
                split at h
                · rw [ih _ _ h]; simp
                · cases h
            rw [this _ _ _ h1]; simp
          refine ⟨_, _, ?_, hK.fresh hc.1 hr (rowsPl_ss e2 hr) hlen.symm n0⟩
          simp only [buildSlv, hu, hsz, hz, Option.bind_some]
          rw [if_pos hc, e1]
          rfl
        · cases h
      · cases h
    · cases h
  case load t a =>
    split at h
    · rename_i hc
      simp only [Option.bind_eq_some_iff] at h
      obtain ⟨v, h1, h2⟩ := h
      rw [forceV_eq] at h2
      refine ⟨_, _, _, h2, rfl, fun ρ penv σ n0 hK => ?_⟩
      rw [if_pos hc]
      have ha := opd_ok hK.env a
      unfold loadcv at h1
      split at h1
      · rename_i cs hq
        rw [hq] at ha
        obtain ⟨ps, e, hcs⟩ := ha.pref_inv
        obtain ⟨p, e1, e2⟩ := partOf_ok h1 hcs.k
        exact ⟨p, σ, by rw [e]; simp only [loadcv, e1, Option.map_some], .id hK e2 n0⟩
      · cases h1
    · rename_i hc
      obtain ⟨v, h1, h2⟩ := loadKK_ok h
      rw [forceV_eq] at h1
      refine ⟨_, _, _, h1, rfl, fun ρ penv σ n0 hK => ?_⟩
      rw [if_neg hc]
      obtain ⟨q, e1, e2⟩ := h2 ρ env penv σ _ hK (opd_ok hK.env a)
      exact ⟨q, σ, by rw [e1]; rfl, .id hK e2 n0⟩
  case store t a x =>
    obtain ⟨A', h1, h2⟩ := storeKK_ok h
    refine ⟨_, _, _, h1, rfl, fun ρ penv σ n0 hK => ?_⟩
    obtain ⟨σ', e1, e2, e3, _⟩ := h2 ρ env penv σ n0 _ _ hK (opd_ok hK.env a) (opd_ok hK.env x)
    exact ⟨.tuple [], σ', by rw [e1]; rfl, ρ, e2, .fr (.tuple .nil), e3⟩
  case nilCheck x =>
    simp only [Option.bind_eq_some_iff] at h
    obtain ⟨v, h1, h2⟩ := h
    refine ⟨_, _, _, h2, rfl, fun ρ penv σ n0 hK => ?_⟩
    have hx := opd_ok hK.env x
    have hv : v = opd env x := by
      generalize opd env x = z at h1
      unfold nilv at h1
      split at h1 <;> first | (cases h1; rfl) | cases h1
    rw [← hv] at h1 hx
    refine ⟨opd penv x, σ, ?_, .id hK hx n0⟩
    generalize opd penv x = p at hx
    unfold nilv at h1
    split at h1
    · obtain ⟨_, hr⟩ := hx.ref_inv
      obtain ⟨id, rfl, _⟩ := refAt_add hr 0
      rfl
    · obtain ⟨ps, rfl, _⟩ := hx.pref_inv
      rfl
    · obtain ⟨ps, rfl, _⟩ := hx.func_inv
      rfl
    · cases h1
  case binOp op t x y ty =>
    simp only [Option.bind_eq_some_iff] at h
    obtain ⟨v, h1, h2⟩ := h
    obtain ⟨hb, h3⟩ := binK_ok h1
    refine ⟨_, _, _, asK_ref h2, rfl, fun ρ penv σ n0 hK => ?_⟩
    exact ⟨v, σ, by rw [h3 _ _ _ _ (opd_ok hK.env x) (opd_ok hK.env y)]; rfl, .id hK (.fr (.base _ hb)) n0⟩
  case unOp op t x =>
    simp only [Option.bind_eq_some_iff] at h
    obtain ⟨v, h1, h2⟩ := h
    obtain ⟨hb, h3⟩ := unv_ok h1
    refine ⟨_, _, _, asK_ref h2, rfl, fun ρ penv σ n0 hK => ?_⟩
    exact ⟨v, σ, by rw [h3 _ _ _ (opd_ok hK.env x)]; rfl, .id hK (.fr (.base _ hb)) n0⟩
  case convert s d x =>
    obtain ⟨v, h1, h2⟩ := convKK_ok h
    refine ⟨_, _, _, asK_ref h1, rfl, fun ρ penv σ n0 hK => ?_⟩
    obtain ⟨q, e1, e2⟩ := h2 ρ env penv σ _ hK (opd_ok hK.env x)
    exact ⟨q, σ, by rw [e1]; rfl, .id hK e2 n0⟩
  case makeFunc fn fs cs =>
    cases fn <;> simp only at h ⊢
    case func f =>
      split at h
      · rename_i hk
        exact ⟨_, _, _, h, rfl, fun ρ penv σ n0 hK => ⟨_, _, by rw [if_pos hk], .id hK (.func f (opds_ok hK.env _)) n0⟩⟩
      · cases h
    all_goals cases h
  case makeSlice t l cp =>
    split at h
    · rename_i el l' cp' hu hl hcp
      simp only [Option.bind_eq_some_iff] at h
      obtain ⟨sz, hsz, by_, hby, z, hz, h⟩ := h
      split at h
      · rename_i hc
        split at h
        · rename_i hd
          obtain ⟨d1, rfl, d3, d4⟩ := hd
          refine ⟨_, _, _, h, rfl, fun ρ penv σ n0 hK => ?_⟩
          have e1 : opd penv l = .int .i64 l' := by have := opd_ok hK.env l; rw [hl] at this; exact this.int_eq
          have e2 : opd penv cp = .int .i64 l' := by have := opd_ok hK.env cp; rw [hcp] at this; exact this.int_eq
          have hzc : VFs z.cells z.cells := ((VK.fr (ρ := ρ) (m := 0) (zeroOf_R hz)).cells hc.2.1).plain hc.2.2.2 |>.1
          have hr : rowsPl sz (List.replicate l'.toNat z.cells) = true := by
            unfold rowsPl
            rw [List.all_eq_true]
            intro e he
            rw [List.eq_of_mem_replicate he, hc.2.2.2]
            simp [hc.2.2.1]
          have hv : VFss (List.replicate l'.toNat z.cells) (List.replicate l'.toNat z.cells) := VFss.of (All2.replicate hzc _)
          refine ⟨_, _, ?_, hK.fresh (n := l'.toNat) hc.1 hr hv (by simp) n0⟩
          simp only [makeSlv, hu, e1, e2, hsz, hby, hz, Option.bind_some]
          rw [if_pos ⟨hc.1, hc.2.1, hc.2.2.1, d1, Int.le_refl _, d3, d4⟩]
        · cases h
      · cases h
    · cases h
  case slice t x lo hi mx =>
    obtain ⟨v, h1, h2⟩ := cutKK_ok h
    refine ⟨_, _, _, h1, rfl, fun ρ penv σ n0 hK => ?_⟩
    obtain ⟨q, e1, e2⟩ := h2 ρ env penv σ _ _ _ _ hK (opd_ok hK.env x) (OpR.map hK.env lo) (OpR.map hK.env hi) (OpR.map hK.env mx)
    exact ⟨q, σ, by rw [e1]; rfl, .id hK e2 n0⟩
  case fieldAddr s x f =>
    simp only [Option.bind_eq_some_iff] at h
    obtain ⟨v, h1, h2⟩ := h
    refine ⟨_, _, _, h2, rfl, fun ρ penv σ n0 hK => ?_⟩
    have hx := opd_ok hK.env x
    unfold fieldAddrv at h1 ⊢
    split at h1
    · rename_i fs hu
      simp only [Option.bind_eq_some_iff] at h1
      obtain ⟨fd, hfd, n, hn, h1⟩ := h1
      simp only [hfd, hn, Option.bind_some]
      split at h1
      · cases h1
      rename_i hn0
      simp only [if_neg hn0]
      split at h1
      · rename_i j i off hq
        cases h1
        rw [hq] at hx
        obtain ⟨hl, hr⟩ := hx.ref_inv
        obtain ⟨id, e1, e2⟩ := refAt_add hr fd.offset
        rw [e1]
        exact ⟨_, σ, rfl, .id hK (.ref hl e2) n0⟩
      · rename_i cs hq
        cases h1
        rw [hq] at hx
        obtain ⟨ps, e, hc⟩ := hx.pref_inv
        rw [e]
        exact ⟨_, σ, rfl, .id hK (.fr (.pref (hc.drop _))) n0⟩
      · cases h1
    · cases h1
  case field s x f =>
    simp only [Option.bind_eq_some_iff] at h
    obtain ⟨v, h1, h2⟩ := h
    rw [forceV_eq] at h2
    refine ⟨_, _, _, h2, rfl, fun ρ penv σ n0 hK => ?_⟩
    have hx := opd_ok hK.env x
    unfold fieldv at h1
    split at h1
    · rename_i fs cs hu hq
      rw [Option.bind_eq_some_iff] at h1
      obtain ⟨fd, hfd, h1⟩ := h1
      rw [hq] at hx
      obtain ⟨ps, e, hc⟩ := hx.agg_inv
      obtain ⟨p, e1, e2⟩ := partOf_ok h1 hc
      refine ⟨p, σ, ?_, .id hK e2 n0⟩
      rw [e]
      simp only [fieldv, hu, hfd, Option.bind_some, e1, Option.map_some]
    · cases h1
  case indexAddr t x i =>
    obtain ⟨v, h1, h2⟩ := idxKK_ok h
    refine ⟨_, _, _, h1, rfl, fun ρ penv σ n0 hK => ?_⟩
    obtain ⟨q, e1, e2⟩ := h2 ρ env penv σ _ _ hK (opd_ok hK.env x) (opd_ok hK.env i)
    exact ⟨q, σ, by rw [e1]; rfl, .id hK e2 n0⟩
  case index t x i =>
    obtain ⟨v, h2, hv⟩ := indexKK_ok h
    refine ⟨_, _, _, h2, rfl, fun ρ penv σ n0 hK => ?_⟩
    obtain ⟨q, e1, e2⟩ := hv ρ A.length _ _ (opd_ok hK.env x) (opd_ok hK.env i)
    exact ⟨q, σ, by rw [e1]; rfl, .id hK e2 n0⟩
  case extract x i =>
    simp only [Option.bind_eq_some_iff] at h
    obtain ⟨v, h1, h2⟩ := h
    rw [forceV_eq] at h2
    refine ⟨_, _, _, h2, rfl, fun ρ penv σ n0 hK => ?_⟩
    have hx := opd_ok hK.env x
    generalize opd env x = z at h1 hx
    unfold tupv at h1
    split at h1
    · obtain ⟨ps, e, hc⟩ := hx.tuple_inv
      rw [e]
      obtain ⟨p, e1, e2⟩ := hc.get h1
      exact ⟨p, σ, by simp only [e1, Option.map_some], .id hK e2 n0⟩
    · cases h1
  case call cl =>
    obtain ⟨callee, args, ts⟩ := cl
    cases callee <;> simp only at h ⊢
    case builtin b =>
      split at h
      · cases h
      rename_i hml
      obtain ⟨v, env', A', h1, hl, h2⟩ := bltKK_ok h
      exact ⟨v, env', A', h1, hl, fun ρ penv σ n0 hK => by rw [if_neg hml]; exact h2 ρ penv σ n0 _ hK (opds_ok hK.env _)⟩
    case value x =>
      simp only [Option.bind_eq_some_iff] at h
      obtain ⟨⟨g, cs⟩, h0, h⟩ := h
      obtain ⟨v, env', A', h1, hl, h2⟩ := callKK_ok hC hO h
      refine ⟨v, env', A', h1, hl, fun ρ penv σ n0 hK => ?_⟩
      have hx := opd_ok hK.env x
      generalize opd env x = z at h0 hx
      unfold fnv at h0
      split at h0
      · cases h0
        obtain ⟨ps, e, hc⟩ := hx.func_inv
        rw [e]
        exact h2 ρ penv σ n0 _ hK ((opds_ok hK.env _).app hc)
      · cases h0
    case invoke x m => cases h
  all_goals cases h

/-! ### Operations in order -/
theorem putv_ok (he : VKs ρ m env penv) {d : Option Nat} {v p : PV} (hv : VK ρ m v p) : VKs ρ m (putv env d v) (putv penv d p) := by
  cases d with
  | none => exact he
  | some t => exact he.set hv t
theorem putv_len (env : List PV) (d : Option Nat) (v : PV) : (putv env d v).length = env.length := by
  cases d with
  | none => rfl
  | some t => exact List.length_set
theorem isBox_dead {A : List KO} {j : Nat} (h : isBox (A.getD j .dead) = true) : isDead (A.getD j .dead) = false := by
  generalize A.getD j .dead = o at h
  cases o <;> first | rfl | cases h
theorem boxAt {ρ : Nat → PV} {A : List KO} {env penv : List PV} {σ : Store} {j : Nat} (hK : KS ρ A env penv σ) (h : isBox (A.getD j .dead) = true) : j < A.length ∧ ∃ id, ρ j = .ref id 0 0 ∧ (σ.objs id).isSome = true := by
  have hj : j < A.length := by
    rcases Nat.lt_or_ge j A.length with h1 | h1
    · exact h1
    · rw [List.getD_eq_getElem?_getD, List.getElem?_eq_none h1] at h; cases h
  refine ⟨hj, ?_⟩
  have ho := hK.obj j hj
  generalize A.getD j .dead = o at h ho
  cases o with
  | box w t cells => obtain ⟨id, pcs, ro, h1, h2, _⟩ := ho; exact ⟨id, h1, by rw [h2]; rfl⟩
  | _ => cases h
theorem refOf {ρ : Nat → PV} {m : Nat} {k i o : Nat} {p : PV} (h : VK ρ m (.ref k i o) p) : k < m ∧ refAt (ρ k) i o = some p := by
  cases h with
  | fr h => cases h with | base h => cases ‹PV.base _ = true›
  | ref h h2 => exact ⟨h, h2⟩
theorem refId_at {u p : PV} {i o : Nat} (h : refAt u i o = some p) : refId p = (tops u).head? ∧ (refId p).isSome = true := by
  cases u <;> first | (simp [refAt] at h; subst h; simp [refId, tops]) | (simp [refAt] at h)
theorem guardK_ok {c : Cfg} {ρ : Nat → PV} {A : List KO} {env penv : List PV} {σ : Store} {o : Oper} (hK : KS ρ A env penv σ) (h : guardK c env A o = true) : guardF c penv o = true := by
  unfold guardK at h
  unfold guardF
  cases hz : c.floZ with
  | nil => rfl
  | cons z zs =>
    rw [hz] at h
    simp only at h ⊢
    split at h
    · rename_i t ta e
      rw [e]
      simp only [Bool.or_eq_true] at h ⊢
      refine h.imp id fun h => ?_
      rw [List.any_eq_true] at h ⊢
      obtain ⟨u, hu, h⟩ := h
      refine ⟨u, hu, ?_⟩
      have h1 := hK.env.getD u
      have h2 := hK.env.getD ta
      split at h
      · rename_i j a b k a' b' e1 e2
        rw [beq_iff_eq] at h
        subst h
        rw [e1] at h1
        rw [e2] at h2
        obtain ⟨q1, q2⟩ := refId_at (refOf h1).2
        obtain ⟨q3, _⟩ := refId_at (refOf h2).2
        rw [Bool.and_eq_true, beq_iff_eq]
        exact ⟨q2, q1.trans q3.symm⟩
      · cases h
    · rename_i cl e
      rw [e]
      simp only
      split at h
      · rename_i e2
        rw [e2]
        simp only
        split at h
        · rename_i s r e3
          rw [e3]
          simp only
          have hs := opd_ok hK.env s
          generalize opd penv s = sp at hs
          split at h
          · rename_i id sz a n cap e4
            rw [e4] at hs
            rw [Bool.and_eq_true, Bool.not_eq_true', List.all_eq_true] at h
            obtain ⟨hd, ha⟩ := h
            have key : ∀ i, (i ∈ tops (ρ id)) → ((z :: zs).all fun u => match refId (penv.getD u .undef) with | some j => j != i | none => false) = true := by
              intro i hi
              rw [List.all_eq_true]
              intro u hu
              have h1 := ha u hu
              have h2 := hK.env.getD u
              split at h1
              · rename_i j a' b' e5
                rw [Bool.and_eq_true, bne_iff_ne] at h1
                rw [e5] at h2
                obtain ⟨hj, id', q1, q2⟩ := boxAt hK h1.2
                have q3 := (refOf h2).2
                rw [q1] at q3
                simp only [refAt, Option.some.injEq] at q3
                rw [← q3]
                simp only [refId, bne_iff_ne]
                intro e6
                subst e6
                refine h1.1 (hK.dis j id id' ?_ ?_)
                · unfold idsO
                  rw [isBox_dead h1.2, q1]
                  simp [tops]
                · unfold idsO
                  rw [hd]
                  simpa using hi
              · cases h1
            have tail : ∀ p : PV, (p = .nilsl ∨ ∃ i a b c d, p = .lsl i a b c d ∧ i ∈ tops (ρ id)) → (match p with
                | .lsl id _ _ _ _ => (z :: zs).all fun u => match refId (penv.getD u .undef) with | some j => j != id | none => false
                | .nilsl | .psl _ _ => true
                | _ => false) = true := by
              rintro p (rfl | ⟨i, a, b, c, d, rfl, hi⟩)
              · rfl
              · exact key i hi
            refine tail _ ?_
            cases hs with
            | fr h => cases h with | base h => cases ‹PV.base _ = true›
            | whole h hh =>
              generalize hq : ρ id = q at hh key
              cases q <;> first | cases hh | skip
              · exact .inl rfl
              · exact .inr ⟨_, _, _, _, _, rfl, by simp [tops]⟩
            | view h hh h2 =>
              generalize hq : ρ id = q at hh key
              cases q <;> first | cases hh | skip
              · exact .inl rfl
              · exact .inr ⟨_, _, _, _, _, rfl, by simp [tops]⟩
          · rename_i e4
            rw [e4] at hs
            rw [hs.nilsl_eq]
          · rename_i b es e4
            rw [e4] at hs
            cases hs with
            | fr h => cases h with
              | base h => cases ‹PV.base _ = true›
              | psl => rfl
              | nl => rfl
          · cases h
        · cases h
      · rename_i hne
        split
        · rename_i e2; exact absurd e2 (hne ·)
        · rfl
    · rename_i hne1 hne2
      split
      · rename_i t ta e; exact absurd e (hne1 t ta)
      · rename_i cl e; exact absurd e (hne2 cl)
      · rfl
theorem floSK_ok {c : Cfg} {ρ : Nat → PV} {A : List KO} {env penv : List PV} {σ : Store} (hK : KS ρ A env penv σ) (h : floSK c env A = true) : floS c penv σ = true := by
  unfold floSK at h
  unfold floS
  rw [List.all_eq_true] at h ⊢
  intro u hu
  have h1 := h u hu
  have h2 := hK.env.getD u
  split at h1
  · rename_i j a b e
    rw [e] at h2
    obtain ⟨_, id, q1, q2⟩ := boxAt hK h1
    have q3 := (refOf h2).2
    rw [q1] at q3
    simp only [refAt, Option.some.injEq] at q3
    rw [← q3]
    exact q2
  · cases h1
theorem opGG_ok {c : Cfg} {kc : KCfg} {C : CallK} {Cω : CallO} (hC : SoundC C Cω) (hO : OwnOk kc c.P Cω) {env : List PV} {A : List KO} {r : β} {o : Oper} {k : PV → List PV → List KO → Option β} (h : opGG c kc C env A o k = some r) : ∃ v env' A', k v env' A' = some r ∧ env'.length = env.length ∧
    ∀ ρ penv σ n0, KS ρ A env penv σ → ∃ p σ', evalG c Cω penv σ o = some (p, σ') ∧ Stp n0 ρ A σ v env' penv A' p σ' := by
  unfold opGG at h
  split at h
  · rename_i hg
    obtain ⟨v, e, A', h1, h2, h3⟩ := opKK_ok hC hO h
    exact ⟨v, e, A', h1, h2, fun ρ penv σ n0 hK => by rw [evalG_of (guardK_ok hK hg)]; exact h3 ρ penv σ n0 hK⟩
  · cases h
theorem opsKK_ok {c : Cfg} {kc : KCfg} {C : CallK} {Cω : CallO} (hC : SoundC C Cω) (hO : OwnOk kc c.P Cω) {all : List Oper} : ∀ (l : List Oper) {env : List PV} {A : List KO} {k : List PV → List KO → Option β}, opsKK c kc C all l env A k = some r →
    ∃ env' A', k env' A' = some r ∧ env'.length = env.length ∧ ∀ ρ penv σ n0, KS ρ A env penv σ → ∃ penv' σ' ρ', evalOps c Cω all l penv σ = some (penv', σ') ∧ KS ρ' A' env' penv' σ' ∧ Go2 n0 ρ A σ ρ' A' σ'
  | [], env, A, k, h => ⟨_, _, h, rfl, fun ρ penv σ n0 hK => ⟨penv, σ, ρ, rfl, hK, Go2.refl _ _ _ _⟩⟩
  | o :: l, env, A, k, h => by
    have go : (opGG c kc C env A o fun v env A => putK env o.dst v fun e => opsKK c kc C all l e A k) = some r → ∃ env' A', k env' A' = some r ∧ env'.length = env.length ∧ ∀ ρ penv σ n0, wants all penv o = some true → KS ρ A env penv σ → ∃ penv' σ' ρ', evalOps c Cω all (o :: l) penv σ = some (penv', σ') ∧ KS ρ' A' env' penv' σ' ∧ Go2 n0 ρ A σ ρ' A' σ' := by
      intro h
      obtain ⟨v, e1, A1, h1, hl1, h2⟩ := opGG_ok hC hO h
      rw [putK_eq] at h1
      obtain ⟨e2, A2, h3, hl2, h4⟩ := opsKK_ok hC hO l h1
      refine ⟨e2, A2, h3, by rw [hl2, putv_len, hl1], fun ρ penv σ n0 hw hK => ?_⟩
      obtain ⟨p, σ1, g1, ρ1, g2, g3, g4⟩ := h2 ρ penv σ n0 hK
      obtain ⟨penv', σ', ρ', g5, g6, g7⟩ := h4 ρ1 (putv penv o.dst p) σ1 n0 (g2.withEnv (putv_ok g2.env g3))
      refine ⟨penv', σ', ρ', ?_, g6, g4.trans g7⟩
      simp only [evalOps, hw, Option.bind_some, if_true, g1]
      exact g5
    have no : opsKK c kc C all l (putv env o.dst (.tuple [])) A k = some r → ∃ env' A', k env' A' = some r ∧ env'.length = env.length ∧ ∀ ρ penv σ n0, wants all penv o = some false → KS ρ A env penv σ → ∃ penv' σ' ρ', evalOps c Cω all (o :: l) penv σ = some (penv', σ') ∧ KS ρ' A' env' penv' σ' ∧ Go2 n0 ρ A σ ρ' A' σ' := by
      intro h
      obtain ⟨e2, A2, h3, hl2, h4⟩ := opsKK_ok hC hO l h
      refine ⟨e2, A2, h3, by rw [hl2, putv_len], fun ρ penv σ n0 hw hK => ?_⟩
      obtain ⟨penv', σ', ρ', g5, g6, g7⟩ := h4 ρ (putv penv o.dst (.tuple [])) σ n0 (hK.withEnv (putv_ok hK.env (.fr (.tuple .nil))))
      refine ⟨penv', σ', ρ', ?_, g6, g7⟩
      simp only [evalOps, hw, Option.bind_some, Bool.false_eq_true, if_false]
      exact g5
    unfold opsKK at h
    simp only [setL_eq] at h
    split at h
    · rename_i hg
      obtain ⟨e, A', h1, h2, h3⟩ := go h
      exact ⟨e, A', h1, h2, fun ρ penv σ n0 hK => h3 ρ penv σ n0 (by unfold wants; rw [hg]) hK⟩
    · rename_i g w hg
      split at h
      · cases h
      · rename_i d hd
        have hwb : ∀ {b : Bool} {ρ penv σ}, env.getD d .undef = .bool b → KS ρ A env penv σ → wants all penv o = some (b == w) := fun hb hK => by
          have := hK.env.getD d
          rw [hb] at this
          unfold wants
          rw [hg]
          simp only [hd]
          rw [this.bool_eq]
        split at h
        · rename_i b hb
          split at h
          · rename_i hbt
            subst hbt
            rw [set_same hb] at h
            cases w with
            | true =>
              rw [if_pos rfl] at h
              obtain ⟨e, A', h1, h2, h3⟩ := go h
              exact ⟨e, A', h1, h2, fun ρ penv σ n0 hK => h3 ρ penv σ n0 (hwb hb hK) hK⟩
            | false =>
              rw [if_neg (by decide), putK_eq] at h
              obtain ⟨e, A', h1, h2, h3⟩ := no h
              exact ⟨e, A', h1, h2, fun ρ penv σ n0 hK => h3 ρ penv σ n0 (hwb hb hK) hK⟩
          · rename_i hbt
            have hbf : b = false := by simpa using hbt
            subst hbf
            rw [set_same hb] at h
            cases w with
            | false =>
              rw [if_pos rfl] at h
              obtain ⟨e, A', h1, h2, h3⟩ := go h
              exact ⟨e, A', h1, h2, fun ρ penv σ n0 hK => h3 ρ penv σ n0 (hwb hb hK) hK⟩
            | true =>
              rw [if_neg (by decide), putK_eq] at h
              obtain ⟨e, A', h1, h2, h3⟩ := no h
              exact ⟨e, A', h1, h2, fun ρ penv σ n0 hK => h3 ρ penv σ n0 (hwb hb hK) hK⟩
        · rename_i vs hb
          rw [putK_eq] at h
          obtain ⟨e, A', h1, h2, h3⟩ := no h
          refine ⟨e, A', h1, h2, fun ρ penv σ n0 hK => h3 ρ penv σ n0 ?_ hK⟩
          have := hK.env.getD d
          rw [hb] at this
          obtain ⟨ps, e, _⟩ := this.tuple_inv
          unfold wants
          rw [hg]
          simp only [hd]
          rw [e]
        · cases h
end
end Go.Pvm

/- Part of the proof: functions and loops of the evaluator over values alone. -/
set_option linter.unusedSimpArgs false
set_option linter.unusedVariables false
namespace Go.Pvm
section
variable {P : Program} {ρ ρ' : Nat → PV} {m : Nat} {A A' : List KO} {env penv : List PV} {σ σ' : Store} {β : Type} {r : β}

theorem closeKK_ok : ∀ (l : List Nat) {env : List PV} {A : List KO} {k : List PV → List KO → Option β}, closeKK l env A k = some r → ∃ env' A', k env' A' = some r ∧ env'.length = env.length ∧
    ∀ ρ penv σ n0, KS ρ A env penv σ → ∃ penv' σ' ρ', closeAll l penv σ = some (penv', σ') ∧ KS ρ' A' env' penv' σ' ∧ Go2 n0 ρ A σ ρ' A' σ'
  | [], env, A, k, h => ⟨_, _, h, rfl, fun ρ penv σ n0 hK => ⟨penv, σ, ρ, rfl, hK, Go2.refl _ _ _ _⟩⟩
  | t :: l, env, A, k, h => by
    unfold closeKK at h
    split at h
    · rename_i hcl
      rw [Option.bind_eq_some_iff] at h
      obtain ⟨A1, h1, h⟩ := h
      rw [forceV_eq, setL_eq, forceA_eq] at h
      obtain ⟨e2, A2, h2, hl, h3⟩ := closeKK_ok l h
      refine ⟨e2, A2, h2, by rw [hl]; simp, fun ρ penv σ n0 hK => ?_⟩
      have ht := hK.env.getD t
      obtain ⟨σ1, g0, g1, g2⟩ := roK_ok _ h1 hK n0
      have hfz := fzK_ok hK fuelFz ht
      obtain ⟨penv', σ', ρ', g3, g4, g5⟩ := h3 ρ (penv.set t (fz fuelFz σ (penv.getD t .undef))) σ1 n0 (g1.withEnv (g1.env.set (.fr hfz) t))
      refine ⟨penv', σ', ρ', ?_, g4, g2.trans g5⟩
      unfold closeAll close1
      rw [ht.tops_eq hcl, g0]
      exact g3
    · cases h
theorem preKK_ok {c : Cfg} {f : FuncId} {id : Nat} {k : Bool → List PV → List KO → Option β} (h : preKK c f id env A k = some r) : ∃ b env' A', k b env' A' = some r ∧ env'.length = env.length ∧
    ∀ ρ penv σ n0, KS ρ A env penv σ → ∃ penv' σ' ρ', pre c f id penv σ = some (b, penv', σ') ∧ KS ρ' A' env' penv' σ' ∧ Go2 n0 ρ A σ ρ' A' σ' := by
  unfold preKK at h
  unfold pre
  split at h
  · rename_i hc
    exact ⟨_, _, _, h, rfl, fun ρ penv σ n0 hK => ⟨penv, σ, ρ, by rw [hc], hK, Go2.refl _ _ _ _⟩⟩
  · rename_i b zs hc
    obtain ⟨e, A', h1, hl, h2⟩ := closeKK_ok zs h
    refine ⟨b, e, A', h1, hl, fun ρ penv σ n0 hK => ?_⟩
    obtain ⟨penv', σ', ρ', g1, g2, g3⟩ := h2 ρ penv σ n0 hK
    exact ⟨penv', σ', ρ', by rw [hc]; simp only [g1, Option.map_some], g2, g3⟩

/-! ### Numbered anew -/
theorem packKK_ok {n : Nat} {k : List PV → List KO → Option β} (h : packKK (List.range n) env A k = some r) : ∃ env' A', k env' A' = some r ∧ env'.length = env.length ∧
    ∀ ρ penv σ, KS ρ A env penv σ → ∃ ρ', KS ρ' A' env' penv σ ∧ Go2 n ρ A σ ρ' A' σ := by
  unfold packKK at h
  rw [forceNats_eq] at h
  have hpre : ∀ (l0 l : List Nat) (i : Nat) (k : Nat), l0[i]? = some k → (∃ t, l = l0 ++ t) → l[i]? = some k := fun l0 l i k e ⟨t, ht⟩ => by
    rw [ht, List.getElem?_append_left (List.getElem?_eq_some_iff.1 e).1]; exact e
  have hadd : ∀ (x : List Nat) (l0 : List Nat), ∃ t, x.foldl addN l0 = l0 ++ t := by
    intro x
    induction x with
    | nil => intro l0; exact ⟨[], by simp⟩
    | cons a x ih =>
      intro l0
      obtain ⟨t, ht⟩ := ih (addN l0 a)
      rw [List.foldl_cons, ht]
      unfold addN
      split
      · exact ⟨t, rfl⟩
      · exact ⟨[a] ++ t, by rw [List.append_assoc]⟩
  have hreach : ∀ (n : Nat) (l0 : List Nat) (i : Nat), ∃ t, reachK n A l0 i = l0 ++ t := by
    intro n
    induction n with
    | zero => intro l0 i; exact ⟨[], by simp [reachK]⟩
    | succ n ih =>
      intro l0 i
      unfold reachK
      split
      · exact ⟨[], by simp⟩
      · split
        · rename_i cs _
          obtain ⟨t, ht⟩ := hadd (tops.topss cs) l0
          obtain ⟨t', ht'⟩ := ih ((tops.topss cs).foldl addN l0) (i + 1)
          exact ⟨t ++ t', by rw [ht', ht, List.append_assoc]⟩
        · exact ih l0 (i + 1)
  obtain ⟨t, ht⟩ : ∃ t, reachK 64 A ((tops.topss env).foldl addN (List.range n)) 0 = List.range n ++ t := by
    obtain ⟨t, ht⟩ := hadd (tops.topss env) (List.range n)
    obtain ⟨t', ht'⟩ := hreach 64 ((tops.topss env).foldl addN (List.range n)) 0
    exact ⟨t ++ t', by rw [ht', ht, List.append_assoc]⟩
  rw [ht] at h
  split at h
  · rename_i hc
    rw [forceVs_eq, forceA_eq] at h
    refine ⟨_, _, h, rnms_len _ _, fun ρ penv σ hK => ?_⟩
    have hlt : ∀ j ∈ List.range n ++ t, j < A.length := fun j hj => by
      have := hc.2
      rw [List.all_eq_true] at this
      simpa using this j hj
    have hp := hK.pack hc.1 hlt
    refine ⟨_, hp, Nat.le_refl _, fun _ _ _ => rfl, fun k x hx => ?_, fun hle => ⟨by simp, fun k hk => ?_⟩⟩
    · unfold idsO at hx
      rw [List.getD_eq_getElem?_getD, List.getElem?_map] at hx
      cases hq : (List.range n ++ t)[k]? with
      | none => rw [hq] at hx; cases hx
      | some j =>
        rw [hq] at hx
        simp only [Option.map_some, Option.getD_some, rnmO_dead] at hx
        have e : (List.range n ++ t).getD k 0 = j := by rw [List.getD_eq_getElem?_getD, hq]; rfl
        simp only [e] at hx
        exact .inl ⟨j, hx⟩
    · have hq : (List.range n ++ t)[k]? = some k := hpre (List.range n) _ k k (List.getElem?_range hk) ⟨t, rfl⟩
      have e : (List.range n ++ t).getD k 0 = k := by rw [List.getD_eq_getElem?_getD, hq]; rfl
      rw [List.getD_eq_getElem?_getD (l := List.map _ _), List.getElem?_map, hq]
      simp only [Option.map_some, Option.getD_some, rnmO_box, rnmO_dead, e]
      exact ⟨fun h => h, fun h => ⟨h, trivial⟩⟩
  · cases h
/-- More of what it has, all else being as it was. -/
structure More (ρ : Nat → PV) (A : List KO) (ρ' : Nat → PV) (A' : List KO) : Prop where
  len : A.length ≤ A'.length
  r : ∀ k, k < A.length → ρ' k = ρ k
  a : ∀ k, k < A.length → A'.getD k .dead = A.getD k .dead
theorem More.refl (ρ : Nat → PV) (A : List KO) : More ρ A ρ A := ⟨Nat.le_refl _, fun _ _ => rfl, fun _ _ => rfl⟩
theorem More.trans {ρ'' : Nat → PV} {A'' : List KO} (h : More ρ A ρ' A') (h' : More ρ' A' ρ'' A'') : More ρ A ρ'' A'' :=
  ⟨Nat.le_trans h.len h'.len, fun k hk => (h'.r k (Nat.lt_of_lt_of_le hk h.len)).trans (h.r k hk), fun k hk => (h'.a k (Nat.lt_of_lt_of_le hk h.len)).trans (h.a k hk)⟩
theorem promoV_ok : ∀ (offs : List (Nat × Nat)) {cs pcs : List PV} {A : List KO} {ρ : Nat → PV}, KS ρ A env penv σ → VKs ρ A.length cs pcs → ∀ n0,
    ∃ ρ', KS ρ' (promoV offs cs A).2 env penv σ ∧ VKs ρ' (promoV offs cs A).2.length (promoV offs cs A).1 pcs ∧ Go2 n0 ρ A σ ρ' (promoV offs cs A).2 σ ∧ More ρ A ρ' (promoV offs cs A).2
  | [], cs, pcs, A, ρ, hK, hc, n0 => ⟨ρ, hK, hc, Go2.refl _ _ _ _, More.refl _ _⟩
  | (o, sz) :: offs, cs, pcs, A, ρ, hK, hc, n0 => by
    show ∃ ρ', KS ρ' (promoV offs (promo1 cs A o sz).1 (promo1 cs A o sz).2).2 env penv σ ∧ VKs ρ' (promoV offs (promo1 cs A o sz).1 (promo1 cs A o sz).2).2.length (promoV offs (promo1 cs A o sz).1 (promo1 cs A o sz).2).1 pcs ∧ Go2 n0 ρ A σ ρ' (promoV offs (promo1 cs A o sz).1 (promo1 cs A o sz).2).2 σ ∧ More ρ A ρ' (promoV offs (promo1 cs A o sz).1 (promo1 cs A o sz).2).2
    have same : ∀ x : List PV × List KO, x = (cs, A) → ∃ ρ', KS ρ' (promoV offs x.1 x.2).2 env penv σ ∧ VKs ρ' (promoV offs x.1 x.2).2.length (promoV offs x.1 x.2).1 pcs ∧ Go2 n0 ρ A σ ρ' (promoV offs x.1 x.2).2 σ ∧ More ρ A ρ' (promoV offs x.1 x.2).2 := fun x hx => by
      rw [hx]; exact promoV_ok offs hK hc n0
    have fin : ∀ x : List PV × List KO, promo1 cs A o sz = x → ∃ ρ', KS ρ' (promoV offs x.1 x.2).2 env penv σ ∧ VKs ρ' (promoV offs x.1 x.2).2.length (promoV offs x.1 x.2).1 pcs ∧ Go2 n0 ρ A σ ρ' (promoV offs x.1 x.2).2 σ ∧ More ρ A ρ' (promoV offs x.1 x.2).2 := fun x hx => by
      unfold promo1 at hx
      split at hx
      · rename_i hq
        have stay : ∀ {m : Nat} {ρ : Nat → PV} {u : PV} {p : PV}, pcs[o]? = some p → VKs ρ m cs pcs → VK ρ m u p → VKs ρ m (cs.set o u) pcs := fun {m ρ u p} hp hc hu => by
          have q := hc.set hu o
          have e : pcs.set o p = pcs := by
            refine List.ext_getElem? fun i => ?_
            by_cases hi : o = i
            · subst hi; rw [hp, List.getElem?_set_self (List.getElem?_eq_some_iff.1 hp).1]
            · rw [List.getElem?_set_ne hi]
          rw [e] at q
          exact q
        split at hx
        · subst hx
          obtain ⟨p, hp, hv⟩ := hc.get hq
          have hpn := hv.nilsl_eq
          subst hpn
          exact promoV_ok offs hK (stay hp hc (.fr (.nl false))) n0
        · rename_i hsz
          subst hx
          obtain ⟨h1, h2⟩ := hK.more (σ' := σ) (u := .nilsl) (o := .made true sz []) (Nat.le_refl _) (fun _ _ => rfl) (fun i hi => by cases hi) ⟨hsz, rfl, .inl ⟨rfl, rfl⟩⟩ n0
          obtain ⟨p, hp, hv⟩ := hc.get hq
          have hpn := hv.nilsl_eq
          subst hpn
          have hw : VK (upd ρ A.length .nilsl) (A ++ [KO.made true sz []]).length (whole A.length sz) .nilsl := by
            have : VK (upd ρ A.length .nilsl) (A ++ [KO.made true sz []]).length (.lsl A.length sz 0 0 none) (upd ρ A.length .nilsl A.length) := .whole (by simp) (by rw [upd_same]; rfl)
            rw [upd_same] at this
            exact this
          have hm : More ρ A (upd ρ A.length .nilsl) (A ++ [KO.made true sz []]) := ⟨by simp, fun k hk => upd_other _ (by omega), fun k hk => getD_app hk⟩
          have hc' : VKs (upd ρ A.length .nilsl) (A ++ [KO.made true sz []]).length (cs.set o (whole A.length sz)) pcs := by
            have q := (hc.mono hm.len hm.r).set hw o
            have e : pcs.set o .nilsl = pcs := by
              refine List.ext_getElem? fun i => ?_
              by_cases hi : o = i
              · subst hi; rw [hp, List.getElem?_set_self (List.getElem?_eq_some_iff.1 hp).1]
              · rw [List.getElem?_set_ne hi]
            rw [e] at q
            exact q
          obtain ⟨ρ', g1, g2, g3, g4⟩ := promoV_ok offs h1 hc' n0
          exact ⟨ρ', g1, g2, h2.trans g3, hm.trans g4⟩
      · exact same x hx.symm
    exact fin _ rfl
theorem promoS_ok (pl : List Nat) : ∀ (l : List (Nat × TypeId)) {env : List PV} {A : List KO} {ρ : Nat → PV}, KS ρ A env penv σ → ∀ n0, ∃ ρ', KS ρ' (promoS P pl l env A).2 (promoS P pl l env A).1 penv σ ∧ Go2 n0 ρ A σ ρ' (promoS P pl l env A).2 σ
  | [], env, A, ρ, hK, n0 => ⟨ρ, hK, Go2.refl _ _ _ _⟩
  | (i, t) :: l, env, A, ρ, hK, n0 => by
    have fin : ∀ {x : PV} (cs : List PV) (mk : List PV → PV), env.getD i .undef = x → i < env.length → (∀ ρ m p, VK ρ m x p → ∃ pcs, VKs ρ m cs pcs ∧ ∀ ρ' m' cs', VKs ρ' m' cs' pcs → VK ρ' m' (mk cs') p) →
        ∃ ρ', KS ρ' (promoS P pl l (env.set i (mk (promoV (plOffs (pl.contains (2000000 + i)) (slOffs P 8 t 0)) cs A).1)) (promoV (plOffs (pl.contains (2000000 + i)) (slOffs P 8 t 0)) cs A).2).2 (promoS P pl l (env.set i (mk (promoV (plOffs (pl.contains (2000000 + i)) (slOffs P 8 t 0)) cs A).1)) (promoV (plOffs (pl.contains (2000000 + i)) (slOffs P 8 t 0)) cs A).2).1 penv σ ∧ Go2 n0 ρ A σ ρ' (promoS P pl l (env.set i (mk (promoV (plOffs (pl.contains (2000000 + i)) (slOffs P 8 t 0)) cs A).1)) (promoV (plOffs (pl.contains (2000000 + i)) (slOffs P 8 t 0)) cs A).2).2 σ := by
      intro x cs mk hx hi hcs
      have hxi := hK.env.getD i
      rw [hx] at hxi
      obtain ⟨pcs, h1, h2⟩ := hcs _ _ _ hxi
      obtain ⟨ρ1, g1, g2, g3, _⟩ := promoV_ok (plOffs (pl.contains (2000000 + i)) (slOffs P 8 t 0)) hK h1 n0
      have hset : VKs ρ1 (promoV (plOffs (pl.contains (2000000 + i)) (slOffs P 8 t 0)) cs A).2.length (env.set i (mk (promoV (plOffs (pl.contains (2000000 + i)) (slOffs P 8 t 0)) cs A).1)) penv := by
        have q := g1.env.set (h2 _ _ _ g2) i
        have e : penv.set i (penv.getD i .undef) = penv := by
          refine List.ext_getElem? fun j => ?_
          by_cases hj : i = j
          · subst hj
            have hil : i < penv.length := by rw [← hK.env.len]; exact hi
            rw [List.getElem?_set_self hil, List.getD_eq_getElem?_getD, List.getElem?_eq_getElem hil]; rfl
          · rw [List.getElem?_set_ne hj]
        rw [e] at q
        exact q
      obtain ⟨ρ', g4, g5⟩ := promoS_ok pl l (g1.withEnv hset) n0
      exact ⟨ρ', g4, g3.trans g5⟩
    have hil : ∀ {x : PV}, env.getD i .undef = x → x.known = true → i < env.length := fun hx hk => by
      refine Nat.lt_of_not_le fun hge => ?_
      rw [List.getD_eq_getElem?_getD, List.getElem?_eq_none hge] at hx
      subst hx
      cases hk
    unfold promoS
    split
    · rename_i cs hx
      exact fin cs .agg hx (hil hx rfl) fun ρ m p hp => by
        obtain ⟨ps, rfl, hq⟩ := hp.agg_inv
        exact ⟨ps, hq, fun _ _ _ h => .agg h⟩
    · rename_i hx
      exact fin [.nilsl] (fun cs => cs.headD .nilsl) hx (hil hx rfl) fun ρ m p hp => by
        rw [hp.nilsl_eq]
        refine ⟨[.nilsl], .one (.fr (.base _ rfl)), fun ρ' m' cs' h => ?_⟩
        cases h with
        | cons a b => exact a
    · exact promoS_ok pl l hK n0
theorem promoB_ok (pl : List Nat) : ∀ (l : List Nat) {A : List KO} {ρ : Nat → PV}, KS ρ A env penv σ → ∀ n0, ∃ ρ', KS ρ' (promoB P pl l A) env penv σ ∧ Go2 n0 ρ A σ ρ' (promoB P pl l A) σ
  | [], A, ρ, hK, n0 => ⟨ρ, hK, Go2.refl _ _ _ _⟩
  | k :: l, A, ρ, hK, n0 => by
    unfold promoB
    split
    · rename_i w t cs hj
      have hd : isDead (A.getD k .dead) = false := by rw [hj]; rfl
      obtain ⟨id, pcs, ro, e, s1, s2, s3, s4⟩ := hK.get (getD_lt hd) hj
      obtain ⟨ρ1, g1, g2, g3, g4⟩ := promoV_ok (plOffs (pl.contains (1000000 + t)) (slOffs P 8 t 0)) hK s2 n0
      have hkl := getD_lt hd
      have hj' : (promoV (plOffs (pl.contains (1000000 + t)) (slOffs P 8 t 0)) cs A).2.getD k .dead = .box w t cs := by rw [g4.a k hkl, hj]
      obtain ⟨h1, h2⟩ := g1.put (σ' := σ) (j := k) (o := .box w t (promoV (plOffs (pl.contains (1000000 + t)) (slOffs P 8 t 0)) cs A).1) (by rw [hj']; rfl) (Nat.le_refl _) (fun _ _ _ => rfl) ⟨id, pcs, ro, by rw [g4.r k hkl]; exact e, s1, g2, s3, s4⟩ (fun _ => rfl) n0
      obtain ⟨ρ', g5, g6⟩ := promoB_ok pl l h1 n0
      exact ⟨ρ', g5, (g3.trans h2).trans g6⟩
    · exact promoB_ok pl l hK n0
theorem promoS_len (pl : List Nat) : ∀ (l : List (Nat × TypeId)) (env : List PV) (A : List KO), (promoS P pl l env A).1.length = env.length
  | [], _, _ => rfl
  | (i, t) :: l, env, A => by
    unfold promoS
    split
    · rw [promoS_len pl l]; simp
    · rw [promoS_len pl l]; simp
    · exact promoS_len pl l _ _
theorem wkA_ok : ∀ (l : List Nat) (A : List KO), WkA A (wkA l A)
  | [], A => ⟨rfl, fun j => ⟨fun _ _ _ _ h => h, fun h => h, fun h => h⟩⟩
  | i :: l, A => by
    unfold wkA
    split
    · rename_i w sz es hj
      obtain ⟨h1, h2⟩ := wkA_ok l (A.set i (.made false sz es))
      have hil : i < A.length := getD_lt (by rw [hj]; rfl)
      refine ⟨by rw [h1]; simp, fun j => ?_⟩
      obtain ⟨a, b, c⟩ := h2 j
      by_cases hji : j = i
      · subst hji
        rw [getD_set hil] at a b c
        rw [hj]
        refine ⟨fun ρ m σ u ⟨q0, q1, q2⟩ => a ρ m σ u ⟨q0, q1, q2.imp (fun x => x) fun ⟨id, cap, ro, ps, tl, e, s1, s2, s3, s4, s5, s6⟩ => ⟨id, cap, ro, ps, tl, e, s1, s2, s3, s4, (fun hwt => by cases hwt), s6⟩⟩, fun h => rfl, fun h => by cases h⟩
      · rw [getD_set_ne hji] at a b c
        exact ⟨a, b, c⟩
    · exact wkA_ok l A
theorem mvA_ok : ∀ (l : List Nat) {env : List PV} {A : List KO} {ρ : Nat → PV}, KS ρ A env penv σ → ∀ n0, ∃ ρ', KS ρ' (mvA l env A).2 (mvA l env A).1 penv σ ∧ Go2 n0 ρ A σ ρ' (mvA l env A).2 σ
  | [], env, A, ρ, hK, n0 => ⟨ρ, hK, Go2.refl _ _ _ _⟩
  | j :: l, env, A, ρ, hK, n0 => by
    unfold mvA
    split
    · rename_i w sz es hj
      have hd : isDead (A.getD j .dead) = false := by rw [hj]; rfl
      obtain ⟨g1, g2⟩ := hK.renew (σ' := σ) (f := mvF j A.length) (j := j) (u := ρ j) (o := .made w sz es) hd (by rw [hj]; rfl) (fun k k' hk e => by
          unfold mvF at e
          split at e
          · rename_i hkj
            cases e
            exact ⟨by omega, by rw [upd_same, hkj]⟩
          · cases e
            exact ⟨by omega, upd_other _ (by omega)⟩)
        (Nat.le_refl _) (fun _ _ _ => rfl) (fun i hi => .inl hi) (hK.get (getD_lt hd) hj) n0
      obtain ⟨ρ', g3, g4⟩ := mvA_ok l g1 n0
      exact ⟨ρ', g3, g2.trans g4⟩
    · exact mvA_ok l hK n0
theorem mvA_len : ∀ (l : List Nat) (env : List PV) (A : List KO), (mvA l env A).1.length = env.length
  | [], _, _ => rfl
  | j :: l, env, A => by
    unfold mvA
    split
    · rw [mvA_len l, rnms_len]
    · exact mvA_len l _ _
theorem headKK_ok {n0 : Nat} {tys : List (Nat × TypeId)} {wk : List Nat × List Nat} {k : List PV → List KO → Option β} (h : headKK P n0 tys wk env A k = some r) : ∃ env' A', k env' A' = some r ∧ env'.length = env.length ∧
    ∀ ρ penv σ, KS ρ A env penv σ → ∃ ρ', KS ρ' A' env' penv σ ∧ Go2 n0 ρ A σ ρ' A' σ := by
  unfold headKK at h
  simp only [forceVs_eq, forceA_eq] at h
  obtain ⟨e, A', h1, hl, h2⟩ := packKK_ok h
  refine ⟨e, _, h1, by rw [hl, mvA_len, promoS_len], fun ρ penv σ hK => ?_⟩
  obtain ⟨ρ1, g1, g2⟩ := promoS_ok (P := P) wk.2 tys hK n0
  obtain ⟨ρ2, g3, g4⟩ := promoB_ok (P := P) wk.2 _ g1 n0
  obtain ⟨ρ2', g3', g4'⟩ := mvA_ok wk.2 g3 n0
  obtain ⟨ρ3, g5, g6⟩ := h2 ρ2' penv σ g3'
  obtain ⟨g7, g8⟩ := g5.wk (wkA_ok wk.1 A') n0
  exact ⟨ρ3, g7, (((g2.trans g4).trans g4').trans g6).trans g8⟩

/-! ### Code -/
theorem keepN_ok (he : VKs ρ m env penv) (n : Nat) (l : List Nat) : VKs ρ m (keepN n l env) (keepN n l penv) := by
  refine .map _ fun i _ => ?_
  show VK ρ m (if l.contains i = true then env.getD i .undef else .undef) (if l.contains i = true then penv.getD i .undef else .undef)
  split
  · exact he.getD i
  · exact .undef _
theorem asEnv_ok {sk : List (Nat × Sk)} {ml : List Nat} {e : List PV} : ∀ (is : List Nat) {k : List PV → Option β}, asEnv sk ml e is k = some r → ∃ vs, k vs = some r ∧ vs.length = is.length ∧ ∀ ρ m pe, VKs ρ m e pe → VKs ρ m vs (is.map fun i => if ml.contains i = true then pe.getD i .undef else .undef)
  | [], k, h => ⟨[], h, rfl, fun _ _ _ _ => .nil⟩
  | i :: is, k, h => by
    unfold asEnv at h
    split at h
    · rename_i s hf
      obtain ⟨v', h1, h2, _⟩ := asSk_ok _ h
      obtain ⟨vs, h3, hl, h4⟩ := asEnv_ok is h1
      refine ⟨_, h3, by simp [hl], fun ρ m pe hp => .cons ?_ (h4 ρ m pe hp)⟩
      split at hf
      · rename_i hc
        show VK ρ m v' (if ml.contains i = true then pe.getD i .undef else .undef)
        rw [if_pos hc]
        exact h2 _ _ _ (hp.getD i)
      · cases hf
    · obtain ⟨vs, h3, hl, h4⟩ := asEnv_ok is h
      exact ⟨_, h3, by simp [hl], fun ρ m pe hp => .cons (.undef _) (h4 ρ m pe hp)⟩
theorem setB_ok {cd : Operand} {b : Bool} {k : List PV → Option β} (h : opd env cd = .bool b) : setB env cd b k = k env := setB_same h
theorem evalKK_ok {c : Cfg} {kc : KCfg} {C : CallK} {L : LoopK} {Cω : CallO} {Lω : LoopO} (hC : SoundC C Cω) (hL : SoundL L Lω) (hO : OwnOk kc c.P Cω) {f : FuncId} {n0 : Nat} : ∀ (cd : Code) {env : List PV} {A : List KO} {k : Ex → List PV → List KO → Option β}, evalKK c kc C L f n0 cd env A k = some r →
    ∃ x env' A', k x env' A' = some r ∧ env'.length = env.length ∧ ∀ ρ penv σ, KS ρ A env penv σ → ∃ penv' σ' ρ', evalCode c Cω Lω f cd penv σ = some (x, penv', σ') ∧ KS ρ' A' env' penv' σ' ∧ Go2 n0 ρ A σ ρ' A' σ'
  | .skip, env, A, k, h | .label _, env, A, k, h | .exit _, env, A, k, h | .ret, env, A, k, h => ⟨_, _, _, h, rfl, fun ρ penv σ hK => ⟨penv, σ, ρ, rfl, hK, Go2.refl _ _ _ _⟩⟩
  | .region id ops draw, env, A, k, h => by
    simp only [evalKK] at h
    obtain ⟨b, e0, A0, h, hl0, h0⟩ := preKK_ok h
    simp only [evalCode]
    unfold evalReg
    split at h
    · rename_i hd
      simp only [if_pos hd]
      split at h
      · rename_i hk
        rw [Bool.and_eq_true, Bool.and_eq_true, Bool.and_eq_true] at hk
        obtain ⟨e, A', h1, hl, h2⟩ := opsKK_ok (c := { c.at_ f with strict := true, calm := b, calmA := calmOf c f id ops.toList, floZ := c.flo f id, floA := derived (c.flo f id) ops.toList }) (Cω := Cω) hC hO _ h
        refine ⟨_, _, _, h1, by rw [hl, hl0], fun ρ penv σ hK => ?_⟩
        obtain ⟨penv0, σ0, ρ0, g1, g2, g3⟩ := h0 ρ penv σ n0 hK
        have hk' : (drawOk { c.at_ f with calm := b, calmA := calmOf c f id ops.toList, floZ := c.flo f id, floA := derived (c.flo f id) ops.toList } ops.toList && edgesOk ops.toList && (floD { c.at_ f with floZ := c.flo f id } ops.toList && floS { c.at_ f with floZ := c.flo f id } penv0 σ0)) = true := by rw [drawOkK_ok hk.1.1, hk.1.2, hk.2.1, floSK_ok g2 hk.2.2]; rfl
        obtain ⟨penv', σ', ρ', g4, g5, g6⟩ := h2 ρ0 penv0 σ0 n0 g2
        refine ⟨penv', σ', ρ', ?_, g5, g3.trans g6⟩
        rw [g1]
        simp only [Option.bind_some]
        rw [if_pos hk', g4]
        rfl
      · cases h
    · rename_i hd
      simp only [if_neg hd]
      obtain ⟨e, A', h1, hl, h2⟩ := opsKK_ok (c := c.at_ f) (Cω := Cω) hC hO _ h
      refine ⟨_, _, _, h1, by rw [hl, hl0], fun ρ penv σ hK => ?_⟩
      obtain ⟨penv0, σ0, ρ0, g1, g2, g3⟩ := h0 ρ penv σ n0 hK
      obtain ⟨penv', σ', ρ', g4, g5, g6⟩ := h2 ρ0 penv0 σ0 n0 g2
      refine ⟨penv', σ', ρ', ?_, g5, g3.trans g6⟩
      rw [g1]
      simp only [Option.bind_some]
      rw [g4]
      rfl
  | .seq a b, env, A, k, h => by
    simp only [evalKK] at h
    obtain ⟨x, e, A1, h1, hl1, h2⟩ := evalKK_ok hC hL hO a h
    simp only [evalCode]
    cases x with
    | normal =>
      obtain ⟨x', e', A2, h3, hl2, h4⟩ := evalKK_ok hC hL hO b h1
      refine ⟨x', e', A2, h3, by rw [hl2, hl1], fun ρ penv σ hK => ?_⟩
      obtain ⟨penv1, σ1, ρ1, g1, g2, g3⟩ := h2 ρ penv σ hK
      obtain ⟨penv2, σ2, ρ2, g4, g5, g6⟩ := h4 ρ1 penv1 σ1 g2
      exact ⟨penv2, σ2, ρ2, by rw [g1]; exact g4, g5, g3.trans g6⟩
    | exit i =>
      refine ⟨_, e, A1, h1, hl1, fun ρ penv σ hK => ?_⟩
      obtain ⟨penv1, σ1, ρ1, g1, g2, g3⟩ := h2 ρ penv σ hK
      exact ⟨penv1, σ1, ρ1, by rw [g1]; rfl, g2, g3⟩
    | ret =>
      refine ⟨_, e, A1, h1, hl1, fun ρ penv σ hK => ?_⟩
      obtain ⟨penv1, σ1, ρ1, g1, g2, g3⟩ := h2 ρ penv σ hK
      exact ⟨penv1, σ1, ρ1, by rw [g1]; rfl, g2, g3⟩
  | .cond cd a b, env, A, k, h => by
    simp only [evalKK] at h
    simp only [evalCode]
    split at h
    · rename_i t ht
      have hb : ∀ {ρ penv σ}, KS ρ A env penv σ → opd penv cd = .bool t := fun hK => by
        have := opd_ok hK.env cd
        rw [ht] at this
        exact this.bool_eq
      split at h
      · rename_i htt
        subst htt
        rw [setB_ok ht] at h
        obtain ⟨x, e, A1, h1, hl1, h2⟩ := evalKK_ok hC hL hO a h
        refine ⟨x, e, A1, h1, hl1, fun ρ penv σ hK => ?_⟩
        obtain ⟨penv1, σ1, ρ1, g1, g2⟩ := h2 ρ penv σ hK
        exact ⟨penv1, σ1, ρ1, by rw [hb hK]; exact g1, g2⟩
      · rename_i htt
        have htf : t = false := by simpa using htt
        subst htf
        rw [setB_ok ht] at h
        obtain ⟨x, e, A1, h1, hl1, h2⟩ := evalKK_ok hC hL hO b h
        refine ⟨x, e, A1, h1, hl1, fun ρ penv σ hK => ?_⟩
        obtain ⟨penv1, σ1, ρ1, g1, g2⟩ := h2 ρ penv σ hK
        exact ⟨penv1, σ1, ρ1, by rw [hb hK]; exact g1, g2⟩
    · cases h
  | .block id cd, env, A, k, h => by
    simp only [evalKK] at h
    obtain ⟨x, e, A1, h1, hl1, h2⟩ := evalKK_ok hC hL hO cd h
    simp only [evalCode]
    cases x with
    | normal =>
      refine ⟨_, e, A1, h1, hl1, fun ρ penv σ hK => ?_⟩
      obtain ⟨penv1, σ1, ρ1, g1, g2⟩ := h2 ρ penv σ hK
      exact ⟨penv1, σ1, ρ1, by rw [g1]; rfl, g2⟩
    | ret =>
      refine ⟨_, e, A1, h1, hl1, fun ρ penv σ hK => ?_⟩
      obtain ⟨penv1, σ1, ρ1, g1, g2⟩ := h2 ρ penv σ hK
      exact ⟨penv1, σ1, ρ1, by rw [g1]; rfl, g2⟩
    | exit i =>
      simp only at h1
      split at h1
      · rename_i hi
        refine ⟨_, e, A1, h1, hl1, fun ρ penv σ hK => ?_⟩
        obtain ⟨penv1, σ1, ρ1, g1, g2⟩ := h2 ρ penv σ hK
        exact ⟨penv1, σ1, ρ1, by rw [g1]; simp only [Option.map_some]; rw [if_pos hi], g2⟩
      · rename_i hi
        refine ⟨_, e, A1, h1, hl1, fun ρ penv σ hK => ?_⟩
        obtain ⟨penv1, σ1, ρ1, g1, g2⟩ := h2 ρ penv σ hK
        exact ⟨penv1, σ1, ρ1, by rw [g1]; simp only [Option.map_some]; rw [if_neg hi], g2⟩
  | .loop cd, env, A, k, h => by
    simp only [evalKK] at h
    simp only [evalCode]
    split at h
    · rename_i hd l hm
      obtain ⟨e0, A0, h, hl0, h0⟩ := headKK_ok h
      rw [Option.bind_eq_some_iff] at h
      obtain ⟨⟨x, e, A1⟩, h1, h2⟩ := h
      have key : ∀ {sk : List (Nat × Sk)} {os : List OSk} {ml : List Nat} {kk : List PV → List KO → Option β}, (asEnv sk ml e (List.range env.length) fun e => asObjs os A1 fun A => kk e A) = some r → (outOf l x).map (·.1) = ml →
          ∃ e' A', kk e' A' = some r ∧ e'.length = env.length ∧ ∀ ρ penv σ, KS ρ A env penv σ → ∃ penv' σ' ρ', (Lω f cd (headM c f cd penv.length penv) σ).map (fun (x, e, s) => (x, outM c f cd x penv.length e, s)) = some (x, penv', σ') ∧ KS ρ' A' e' penv' σ' ∧ Go2 n0 ρ A σ ρ' A' σ' := by
        intro sk os ml kk hh hml
        obtain ⟨vs, h3, hl3, h4⟩ := asEnv_ok _ hh
        obtain ⟨A', h5, h6⟩ := asObjs_ok h3
        refine ⟨vs, A', h5, by rw [hl3]; simp, fun ρ penv σ hK => ?_⟩
        have hlen := hK.env.len
        obtain ⟨ρ0, g1, g2⟩ := h0 ρ (keepN env.length hd penv) σ (hK.withEnv (keepN_ok hK.env _ _))
        obtain ⟨penv1, σ1, ρ1, g3, g4, g5⟩ := hL f cd n0 e0 A0 x e A1 h1 ρ0 _ σ g1
        have hh' : headM c f cd penv.length penv = keepN env.length hd penv := by unfold headM; rw [hm, hlen]
        have ho : outM c f cd x penv.length penv1 = keepN env.length ml penv1 := by unfold outM; rw [hm, hlen]; simp only; rw [hml]
        obtain ⟨g6, g7⟩ := g4.wk h6 n0
        refine ⟨keepN env.length ml penv1, σ1, ρ1, ?_, g6.withEnv ?_, (g2.trans g5).trans g7⟩
        · rw [hh', g3]
          simp only [Option.map_some]
          rw [ho]
        · rw [h6.1]
          exact h4 _ _ _ g4.env
      cases x with
      | normal => cases h2
      | exit i =>
        replace h2 : (if kc.noex f (firstRegion cd) = false then asEnv (kc.osk f (firstRegion cd) _ _).1 (l.1.map (·.1)) e (List.range env.length) fun e => asObjs (kc.osk f (firstRegion cd) _ _).2 A1 fun A => k (.exit i) e A else none) = some r := h2
        split at h2
        · obtain ⟨e', A', q1, q2, q3⟩ := key h2 rfl
          exact ⟨_, e', A', q1, q2, q3⟩
        · cases h2
      | ret =>
        replace h2 : (match l.2 with | [] => none | _ :: _ => asEnv (kc.rsk f (firstRegion cd) _ _).1 (l.2.map (·.1)) e (List.range env.length) fun e => asObjs (kc.rsk f (firstRegion cd) _ _).2 A1 fun A => k .ret e A) = some r := h2
        split at h2
        · cases h2
        · rename_i hq
          obtain ⟨e', A', q1, q2, q3⟩ := key h2 rfl
          exact ⟨_, e', A', q1, q2, q3⟩
    · cases h
  | .rangeFunc .., _, _, _, h | .scope _, _, _, _, h | .goto _, _, _, _, h | .refuse _, _, _, _, h => by simp only [evalKK] at h; cases h

theorem resKK_ok {e : List PV} : ∀ (rs : List ResultVar) {k : List PV → Option β}, resKK P A e rs k = some r → ∃ vs, k vs = some r ∧ ∀ ρ penv σ, KS ρ A e penv σ → ∃ ps, resultsv P σ penv rs = some ps ∧ VKs ρ A.length vs ps
  | [], k, h => ⟨[], h, fun ρ penv σ hK => ⟨[], rfl, .nil⟩⟩
  | .tmp t :: rs, k, h => by
    obtain ⟨vs, h1, h2⟩ := resKK_ok rs h
    refine ⟨_, h1, fun ρ penv σ hK => ?_⟩
    obtain ⟨ps, g1, g2⟩ := h2 ρ penv σ hK
    exact ⟨_, by simp only [resultsv, resultv, Option.bind_some, g1]; rfl, .cons (hK.env.getD t) g2⟩
  | .cell a t :: rs, k, h => by
    simp only [resKK] at h
    obtain ⟨v, h0, hv⟩ := loadKK_ok h
    rw [forceV_eq] at h0
    obtain ⟨vs, h1, h2⟩ := resKK_ok rs h0
    refine ⟨_, h1, fun ρ penv σ hK => ?_⟩
    obtain ⟨q, e1, e2⟩ := hv ρ e penv σ _ hK (hK.env.getD a)
    obtain ⟨ps, g1, g2⟩ := h2 ρ penv σ hK
    exact ⟨_, by simp only [resultsv, resultv, e1, Option.bind_some, g1]; rfl, .cons e2 g2⟩
theorem VKs.split {a b ps : List PV} (h : VKs ρ m (a ++ b) ps) : ∃ p q, ps = p ++ q ∧ VKs ρ m a p ∧ VKs ρ m b q :=
  ⟨ps.take a.length, ps.drop a.length, (List.take_append_drop _ _).symm, by have := h.take a.length; rwa [List.take_left] at this, by have := h.drop a.length; rwa [List.drop_left] at this⟩
theorem tops_cutP (u : PV) (a n : Nat) : tops (cutP u a n) = tops u := by
  cases u <;> rfl
theorem cutP_hdl {u : PV} {a n : Nat} (h : hdl u = true) : hdl (cutP u a n) = true := by
  cases u <;> first | rfl | cases h
theorem KOR.cut {ρ' : Nat → PV} {m' : Nat} {u : PV} {w : Bool} {sz n : Nat} {es : List (List PV)} (h : KOR ρ m σ u (.made w sz es)) (hv : viewOk u 0 n) : KOR ρ' m' σ (cutP u 0 n) (.made w sz (es.take n)) := by
  obtain ⟨q0, q1, ⟨rfl, rfl⟩ | ⟨id, cap, ro, ps, tl, rfl, s1, s2, s3, s4, s5, s6⟩⟩ := h
  · exact ⟨q0, by simp [rowsPl], .inl ⟨rfl, by simp⟩⟩
  · have hv : 0 + n ≤ es.length := hv
    have hl := s2.len
    refine ⟨q0, rowsPl_take q1 n, .inr ⟨id, cap.map (· - 0), ro, ps.take n, ps.drop n ++ tl, ?_, ?_, s2.take n, ?_, rowsPl_app (rowsPl_drop (rowsPl_p s2 q1) n) s4, s5, s6⟩⟩
    · show PV.lsl id sz 0 n _ = _
      rw [List.length_take]
      congr 1
      omega
    · rw [← List.append_assoc, List.take_append_drop]; exact s1
    · rcases s3 with rfl | rfl
      · exact .inl rfl
      · right
        simp only [Option.map_some]
        congr 1
        rw [List.length_take, List.length_append, List.length_drop]
        omega
theorem nilsK_ok (m0 : Nat) : ∀ (nr : List Nat) {dn vs : List PV} {A : List KO} {k : List PV → List KO → Option β}, nilsK m0 nr dn vs A k = some r → ∃ vs' A', k vs' A' = some r ∧
    ∀ ρ σ n0 ps, KS ρ A (dn ++ vs) ps σ → ∃ ρ', KS ρ' A' vs' ps σ ∧ Go2 n0 ρ A σ ρ' A' σ
  | [], dn, vs, A, k, h => ⟨_, A, h, fun ρ σ n0 ps hK => ⟨ρ, hK, Go2.refl _ _ _ _⟩⟩
  | _ :: _, dn, [], A, k, h => ⟨dn, A, h, fun ρ σ n0 ps hK => by rw [List.append_nil] at hK; exact ⟨ρ, hK, Go2.refl _ _ _ _⟩⟩
  | n :: nr, dn, v :: vs, A, k, h => by
    have rest : nilsK m0 nr (dn ++ [v]) vs A k = some r → ∃ vs' A', k vs' A' = some r ∧
        ∀ ρ σ n0 ps, KS ρ A (dn ++ v :: vs) ps σ → ∃ ρ', KS ρ' A' vs' ps σ ∧ Go2 n0 ρ A σ ρ' A' σ := fun h => by
      obtain ⟨vs', A', h1, h2⟩ := nilsK_ok m0 nr h
      refine ⟨_, A', h1, fun ρ σ n0 ps hK => h2 ρ σ n0 ps ?_⟩
      rw [List.append_assoc]; exact hK
    cases n with
    | zero => exact rest h
    | succ sz =>
      unfold nilsK at h
      split at h
      · obtain ⟨vs', A', h1, h2⟩ := nilsK_ok m0 nr h
        refine ⟨_, A', h1, fun ρ σ n0 ps hK => ?_⟩
        obtain ⟨pd, p1, rfl, hd, hv⟩ := hK.env.split
        obtain ⟨p, pt, rfl, hv, ht⟩ := VKs.cons_inv hv
        rw [hv.nilsl_eq]
        obtain ⟨m1, m2⟩ := (hK.withEnv (hd.app ht)).more (σ' := σ) (u := .nilsl) (o := .made true (sz + 1) []) (Nat.le_refl _) (fun _ _ => rfl) (fun i hi => by cases hi) ⟨Nat.succ_ne_zero _, rfl, .inl ⟨rfl, rfl⟩⟩ n0
        have hl : A.length < (A ++ [KO.made true (sz + 1) []]).length := by simp
        have hw : VK (upd ρ A.length .nilsl) (A ++ [KO.made true (sz + 1) []]).length (.lsl A.length (sz + 1) 0 0 none) (upd ρ A.length .nilsl A.length) := .whole hl (by rw [upd_same]; rfl)
        rw [upd_same] at hw
        obtain ⟨q1, q2, e9, hd', ht'⟩ := m1.env.split
        have hle : q1.length = pd.length := by rw [← hd'.len, ← hd.len]
        obtain ⟨rfl, rfl⟩ := List.append_inj e9.symm hle
        obtain ⟨ρ', g1, g2⟩ := h2 _ σ n0 _ (m1.withEnv (by rw [List.append_assoc]; exact hd'.app (.cons hw ht')))
        exact ⟨ρ', g1, m2.trans g2⟩
      · rename_i j sz' a n
        split at h
        · rename_i hc
          obtain ⟨hj0, rfl, rfl, rfl⟩ := hc
          split at h
          rotate_left
          · cases h
          rename_i sz'' es hj
          split at h
          rotate_left
          · cases h
          rename_i hsz
          subst hsz
          unfold killKK at h
          rw [forceVs_eq, forceA_eq] at h
          obtain ⟨vs', A', h1, h2⟩ := nilsK_ok m0 nr h
          refine ⟨_, A', h1, fun ρ σ n0 ps hK => ?_⟩
          obtain ⟨pd, p1, rfl, hd, hv⟩ := hK.env.split
          obtain ⟨p, pt, rfl, hv, ht⟩ := VKs.cons_inv hv
          obtain ⟨hjl, hh, ⟨_, _, _, rfl⟩ | ⟨e, _⟩⟩ := hv.lsl_inv
          rotate_left
          · cases e
          have hko := hK.get hjl hj
          obtain ⟨ρ1, s1, s2, s3⟩ := (hK.withEnv (hd.app ht)).anew (u := ρ j) (σ' := σ) (new := es) hj n0 hh (Nat.le_refl _) (fun _ _ _ => rfl) (fun i hi => .inl hi) hko
          obtain ⟨q1, q2, e9, hd', ht'⟩ : ∃ q1 q2, pd ++ pt = q1 ++ q2 ∧ VKs ρ1 _ ((rnm.rnms (killL [j]) (dn ++ vs)).take dn.length) q1 ∧ VKs ρ1 _ ((rnm.rnms (killL [j]) (dn ++ vs)).drop dn.length) q2 :=
            ⟨(pd ++ pt).take dn.length, (pd ++ pt).drop dn.length, (List.take_append_drop _ _).symm, s1.env.take _, s1.env.drop _⟩
          have hle : q1.length = pd.length := by
            rw [← hd'.len, List.length_take, rnms_len, List.length_append, ← hd.len]; omega
          obtain ⟨rfl, rfl⟩ := List.append_inj e9.symm hle
          obtain ⟨ρ', g1, g2⟩ := h2 _ σ n0 _ (s1.withEnv (by rw [List.append_assoc]; exact hd'.app (.cons s2 ht')))
          exact ⟨ρ', g1, s3.trans g2⟩
        · exact rest h
      · rename_i j sz' a n c0
        split at h
        · rename_i hc
          obtain ⟨rfl, rfl⟩ := hc
          split at h
          rotate_left
          · cases h
          rename_i ha0
          subst ha0
          split at h
          rotate_left
          · cases h
          rename_i sz'' es hj
          split at h
          rotate_left
          · cases h
          rename_i hsz
          subst hsz
          unfold killKK at h
          rw [forceVs_eq, forceA_eq] at h
          obtain ⟨vs', A', h1, h2⟩ := nilsK_ok m0 nr h
          refine ⟨_, A', h1, fun ρ σ n0 ps hK => ?_⟩
          obtain ⟨pd, p1, rfl, hd, hv⟩ := hK.env.split
          obtain ⟨p, pt, rfl, hv, ht⟩ := VKs.cons_inv hv
          obtain ⟨hjl, hh, ⟨e, _⟩ | ⟨_, hvo, rfl⟩⟩ := hv.lsl_inv
          · cases e
          have hko := hK.get hjl hj
          obtain ⟨ρ1, s1, s2, s3⟩ := (hK.withEnv (hd.app ht)).anew (u := cutP (ρ j) 0 n) (σ' := σ) (new := es.take n) hj n0 (cutP_hdl hh) (Nat.le_refl _) (fun _ _ _ => rfl) (fun i hi => .inl (by rwa [tops_cutP] at hi)) (KOR.cut hko hvo)
          obtain ⟨q1, q2, e9, hd', ht'⟩ : ∃ q1 q2, pd ++ pt = q1 ++ q2 ∧ VKs ρ1 _ ((rnm.rnms (killL [j]) (dn ++ vs)).take dn.length) q1 ∧ VKs ρ1 _ ((rnm.rnms (killL [j]) (dn ++ vs)).drop dn.length) q2 :=
            ⟨(pd ++ pt).take dn.length, (pd ++ pt).drop dn.length, (List.take_append_drop _ _).symm, s1.env.take _, s1.env.drop _⟩
          have hle : q1.length = pd.length := by
            rw [← hd'.len, List.length_take, rnms_len, List.length_append, ← hd.len]; omega
          obtain ⟨rfl, rfl⟩ := List.append_inj e9.symm hle
          obtain ⟨ρ', g1, g2⟩ := h2 _ σ n0 _ (s1.withEnv (by rw [List.append_assoc]; exact hd'.app (.cons s2 ht')))
          exact ⟨ρ', g1, s3.trans g2⟩
        · exact rest h
      · exact rest h
theorem nilsF_ok (m0 : Nat) (nr : List Nat) {vs : List PV} {A : List KO} {k : List PV → List KO → Option β} (h : nilsF m0 nr vs A k = some r) : ∃ vs' A', k vs' A' = some r ∧
    ∀ ρ σ n0 ps, KS ρ A vs ps σ → ∃ ρ', KS ρ' A' vs' ps σ ∧ Go2 n0 ρ A σ ρ' A' σ := by
  unfold nilsF at h
  split at h
  · split at h
    · rename_i cs vs'
      obtain ⟨ws, A', h1, h2⟩ := nilsK_ok m0 nr.tail h
      refine ⟨_, A', h1, fun ρ σ n0 ps hK => ?_⟩
      obtain ⟨p, pt, rfl, hv, ht⟩ := VKs.cons_inv hK.env
      obtain ⟨qs, rfl, hq⟩ := hv.agg_inv
      obtain ⟨ρ', g1, g2⟩ := h2 ρ σ n0 (qs ++ pt) (hK.withEnv (hq.app ht))
      refine ⟨ρ', g1.withEnv (.cons (.agg ?_) ?_), g2⟩
      · have := g1.env.take cs.length
        rwa [hq.len, List.take_left, ← hq.len] at this
      · have := g1.env.drop cs.length
        rwa [hq.len, List.drop_left, ← hq.len] at this
    · cases h
  · exact nilsK_ok m0 nr h
theorem tuplev_ok {vs ps : List PV} (h : VKs ρ m vs ps) : VK ρ m (tuplev vs) (tuplev ps) := by
  match h with
  | .nil => exact .fr (.tuple .nil)
  | .cons h .nil => exact h
  | .cons h (.cons h' t) => exact .tuple (.cons h (.cons h' t))
end

theorem stepKK_ok {c : Cfg} {kc : KCfg} {C : CallK} {L : LoopK} (hC : SoundC C (callω c)) (hL : SoundL L (loopω c)) (hO : OwnOk kc c.P (callω c)) : SoundC (stepKK c kc C L) (callω c) := by
  intro g args A r A' h ρ pargs σ hK
  unfold stepKK at h
  split at h
  · cases h
  rename_i htold
  have hT : c.told g = none := by
    cases hq : c.told g with
    | none => rfl
    | some u => rw [hq] at htold; exact absurd rfl htold
  split at h
  · rename_i fn hf
    split at h
    · rename_i cd hcd
      obtain ⟨x, e, A1, h1, _, h2⟩ := evalKK_ok hC hL hO cd h
      have hent : VKs ρ A.length (enterv fn args) (enterv fn pargs) := by
        unfold enterv
        rw [← hK.env.len]
        refine hK.env.app (.of (All2.replicate (.undef _) _))
      obtain ⟨penv', σ', ρ1, g1, g2, g3⟩ := h2 ρ _ σ (hK.withEnv hent)
      have fin : ∀ {vs : List PV}, (nilsF A.length (kc.nret g) vs A1 fun vs A2 => packKK (List.range A.length) [tuplev vs] A2 fun e A => asCons e fun v _ => some (v, A)) = some (r, A') → (∃ ps, resultsv c.P σ' penv' fn.results.toList = some ps ∧ VKs ρ1 A1.length vs ps) → (x = .normal ∨ x = .ret) → ∃ p σ'' ρ', callω c g pargs σ = some (p, σ'') ∧ KS ρ' A' [r] [p] σ'' ∧ Go2 A.length ρ A σ ρ' A' σ'' := by
        intro vs hp0 ⟨ps, hps, hvs⟩ hx
        obtain ⟨vs1, A3, hp, hnl⟩ := nilsF_ok _ _ hp0
        obtain ⟨ρ3, n1, n2⟩ := hnl ρ1 σ' A.length ps (g2.withEnv hvs)
        obtain ⟨e2, A2, q1, q2, q3⟩ := packKK_ok hp
        obtain ⟨ρ2, q4, q5⟩ := q3 ρ3 [tuplev ps] σ' (n1.withEnv (.one (tuplev_ok n1.env)))
        unfold asCons at q1
        split at q1
        · rename_i v0 e3
          cases q1
          have h30 : e3 = [] := by
            have : e3.length + 1 = 1 := q2
            exact List.eq_nil_of_length_eq_zero (by omega)
          subst h30
          refine ⟨tuplev ps, σ', ρ2, ?_, q4, (g3.trans n2).trans q5⟩
          refine callω_of hT ?_
          unfold stepC
          rw [hT]
          simp only [hf, hcd, g1, Option.bind_some, hps, Option.map_some]
          rcases hx with rfl | rfl <;> rfl
        · cases q1
      cases x with
      | exit i => cases h1
      | normal =>
        obtain ⟨vs, h3, h4⟩ := resKK_ok _ h1
        exact fin h3 (h4 ρ1 penv' σ' g2) (.inl rfl)
      | ret =>
        obtain ⟨vs, h3, h4⟩ := resKK_ok _ h1
        exact fin h3 (h4 ρ1 penv' σ' g2) (.inr rfl)
    · cases h
  · cases h
theorem stepLKK_ok {c : Cfg} {kc : KCfg} {C : CallK} {L : LoopK} (hC : SoundC C (callω c)) (hL : SoundL L (loopω c)) (hO : OwnOk kc c.P (callω c)) : SoundL (stepLKK c kc C L) (loopω c) := by
  intro f cd n0 env A x env' A' h ρ penv σ hK
  unfold stepLKK at h
  obtain ⟨x0, e, A1, h1, hl1, h2⟩ := evalKK_ok hC hL hO cd h
  obtain ⟨penv1, σ1, ρ1, g1, g2, g3⟩ := h2 ρ penv σ hK
  have hlen := hK.env.len
  have hout : ∀ n y, VKs ρ1 A1.length (outM c f cd y n e) (outM c f cd y n penv1) := fun n y => by
    unfold outM
    split
    · exact keepN_ok g2.env _ _
    · exact g2.env
  have hhead : ∀ n, VKs ρ1 A1.length (headM c f cd n e) (headM c f cd n penv1) := fun n => by
    unfold headM
    split
    · exact keepN_ok g2.env _ _
    · exact g2.env
  unfold goKK at h1
  split at h1
  · obtain ⟨e2, A2, q1, _, q2⟩ := headKK_ok h1
    obtain ⟨ρ2, q3, q4⟩ := q2 ρ1 _ σ1 (g2.withEnv (hhead env.length))
    obtain ⟨penv3, σ3, ρ3, q5, q6, q7⟩ := hL f cd n0 e2 A2 x env' A' q1 ρ2 _ σ1 q3
    refine ⟨penv3, σ3, ρ3, ?_, q6, (g3.trans q4).trans q7⟩
    refine loopω_of ?_
    unfold stepL
    simp only [g1, Option.bind_some, ← hlen]
    exact q5
  · rename_i y hy
    obtain ⟨e2, A2, q1, _, q2⟩ := packKK_ok h1
    cases q1
    obtain ⟨ρ2, q3, q4⟩ := q2 ρ1 _ σ1 (g2.withEnv (hout env.length x))
    refine ⟨outM c f cd x env.length penv1, σ1, ρ2, ?_, q3, g3.trans q4⟩
    refine loopω_of ?_
    unfold stepL
    simp only [g1, Option.bind_some, ← hlen]
theorem soundN {c : Cfg} {kc : KCfg} (hO : OwnOk kc c.P (callω c)) : ∀ n, SoundC (callNK c kc n) (callω c) ∧ SoundL (loopNK c kc n) (loopω c)
  | 0 => ⟨(fun g args A r A' h => by cases h), (fun f cd n0 env A x env' A' h => by cases h)⟩
  | n + 1 => ⟨by unfold callNK; exact stepKK_ok (soundN hO n).1 (soundN hO n).2 hO, by unfold loopNK; exact stepLKK_ok (soundN hO n).1 (soundN hO n).2 hO⟩
end Go.Pvm

/- Part of the proof: what follows an evaluation hangs on its outcome alone. -/
set_option linter.unusedSimpArgs false
set_option linter.unusedVariables false
namespace Go.Pvm
section
variable {β γ : Type} {κ : γ → Option β}
def s2 {X Y : Type} (x : X) (y : Y) : Option (X × Y) := some (x, y)
def s3 {X Y Z : Type} (x : X) (y : Y) (z : Z) : Option (X × Y × Z) := some (x, y, z)
theorem asInt_b (i : IntKind) (v : PV) {g : Int → Option β} {f : Int → Option γ} (h : ∀ n, g n = (f n).bind κ) : asInt i v g = (asInt i v f).bind κ := by
  unfold asInt; split
  · split
    · exact h _
    · rfl
  · rfl
theorem asBool_b (v : PV) {g : Bool → Option β} {f : Bool → Option γ} (h : ∀ n, g n = (f n).bind κ) : asBool v g = (asBool v f).bind κ := by
  unfold asBool; split
  · exact h _
  · rfl
theorem asStr_b (v : PV) {g : ByteArray → Option β} {f : ByteArray → Option γ} (h : ∀ n, g n = (f n).bind κ) : asStr v g = (asStr v f).bind κ := by
  unfold asStr; split
  · exact h _
  · rfl
theorem asFlt_b (i : FloatKind) (v : PV) {g : Nat → Option β} {f : Nat → Option γ} (h : ∀ n, g n = (f n).bind κ) : asFlt i v g = (asFlt i v f).bind κ := by
  unfold asFlt; split
  · split
    · exact h _
    · rfl
  · rfl
theorem asSl_b (v : PV) {g : List (List PV) → Option β} {f : List (List PV) → Option γ} (h : ∀ n, g n = (f n).bind κ) : asSl v g = (asSl v f).bind κ := by
  unfold asSl; split <;> first | exact h _ | rfl
theorem asK_b (d : Option TypeDesc) (v : PV) {g : PV → Option β} {f : PV → Option γ} (h : ∀ n, g n = (f n).bind κ) : asK d v g = (asK d v f).bind κ := by
  unfold asK
  split
  · exact asInt_b _ _ fun _ => h _
  · exact asBool_b _ fun _ => h _
  · exact asStr_b _ fun _ => h _
  · exact h _
theorem ite_b {c : Prop} [Decidable c] {a b : Option β} {a' b' : Option γ} (h : a = a'.bind κ) (h' : b = b'.bind κ) : (if c then a else b) = (if c then a' else b').bind κ := by
  split <;> assumption
theorem itn_b {c : Prop} [Decidable c] {a : Option β} {a' : Option γ} (h : a = a'.bind κ) : (if c then a else none) = (if c then a' else none).bind κ := ite_b h rfl
theorem bind_b {X : Type} (o : Option X) {g : X → Option β} {f : X → Option γ} (h : ∀ x, g x = (f x).bind κ) : o.bind g = (o.bind f).bind κ := by
  cases o with
  | none => rfl
  | some x => exact h x
mutual
theorem asSk_b : ∀ (s : Sk) (v : PV) {g : PV → Option β} {f : PV → Option γ} (h : ∀ n, g n = (f n).bind κ), asSk s v g = (asSk s v f).bind κ
  | .any, v, _, _, h => h _
  | .drop, v, _, _, h => h _
  | .bool, v, _, _, h => asBool_b _ fun _ => h _
  | .str, v, _, _, h => asStr_b _ fun _ => h _
  | .psl, v, _, _, h => asSl_b _ fun _ => h _
  | .int i, v, _, _, h => asInt_b _ _ fun _ => h _
  | .flt i, v, _, _, h => asFlt_b _ _ fun _ => h _
  | .ref a b c, v, _, _, h => by
    unfold asSk asRef; split
    · exact itn_b (h _)
    · rfl
  | .whole a b, v, _, _, h => by
    unfold asSk asWhole; split
    · exact itn_b (h _)
    · rfl
  | .agg l, v, _, _, h => by
    unfold asSk asAgg; split
    · exact asSks_b l _ fun _ => h _
    · rfl
  | .tup l, v, _, _, h => by
    unfold asSk asTup; split
    · exact asSks_b l _ fun _ => h _
    · rfl
  | .view a b, v, _, _, h => by
    unfold asSk asView; split
    · exact itn_b (h _)
    · rfl
  | .wv a b, v, _, _, h => by
    unfold asSk asWv; split
    · exact itn_b (h _)
    · exact itn_b (h _)
    · rfl
  | .fn a l, v, _, _, h => by
    unfold asSk asFn; split
    · exact itn_b (asSks_b l _ fun _ => h _)
    · rfl
  | .pref l, v, _, _, h => by
    unfold asSk asPref; split
    · exact asSks_b l _ fun _ => h _
    · rfl
theorem asSks_b : ∀ (l : List Sk) (cs : List PV) {g : List PV → Option β} {f : List PV → Option γ} (h : ∀ n, g n = (f n).bind κ), asSk.asSks l cs g = (asSk.asSks l cs f).bind κ
  | [], cs, _, _, h => by
    unfold asSk.asSks asNil; split
    · exact h _
    · rfl
  | s :: l, cs, _, _, h => by
    unfold asSk.asSks asCons; split
    · exact asSk_b s _ fun _ => asSks_b l _ fun _ => h _
    · rfl
end
variable {P : Program} {A : List KO} {env : List PV}
theorem rowsK_b (A : List KO) (x : PV) {g : List (List PV) → Option β} {f : List (List PV) → Option γ} (h : ∀ n, g n = (f n).bind κ) : rowsK A x g = (rowsK A x f).bind κ := by
  unfold rowsK
  split <;> first | exact h _ | rfl | skip
  split
  · split <;> exact h _
  · rfl
theorem lenKK_b (A : List KO) (x : PV) {g : Nat → Option β} {f : Nat → Option γ} (h : ∀ n, g n = (f n).bind κ) : lenKK A x g = (lenKK A x f).bind κ := by
  unfold lenKK
  split <;> first | exact h _ | rfl | skip
  split
  · exact h _
  · split
    · exact h _
    · rfl
theorem loadKK_b (t : TypeId) (a : PV) {g : PV → Option β} {f : PV → Option γ} (h : ∀ n, g n = (f n).bind κ) : loadKK P A t a g = (loadKK P A t a f).bind κ := by
  unfold loadKK
  split
  · exact bind_b _ h
  · split
    · exact itn_b (bind_b _ h)
    · exact bind_b _ fun _ => bind_b _ fun _ => asSk_b _ _ h
    · rfl
  · rfl
theorem storeKK_b (t : TypeId) (a v : PV) {g : List KO → Option β} {f : List KO → Option γ} (h : ∀ n, g n = (f n).bind κ) : storeKK P A t a v g = (storeKK P A t a v f).bind κ := by
  unfold storeKK
  simp only [forceA_eq]
  split
  · refine bind_b _ fun _ => ?_
    split
    · exact itn_b (h _)
    · exact itn_b (itn_b (h _))
    · rfl
  · rfl
theorem killKK_b (l : List Nat) (env : List PV) (A : List KO) {g : List PV → List KO → Option β} {f : List PV → List KO → Option γ} (h : ∀ n A, g n A = (f n A).bind κ) : killKK l env A g = (killKK l env A f).bind κ := by
  unfold killKK
  simp only [forceVs_eq, forceA_eq]
  exact h _ _
theorem appKK_b (el : TypeId) (s x : PV) {g : PV → List PV → List KO → Option β} {f : PV → List PV → List KO → Option γ} (h : ∀ n e A, g n e A = (f n e A).bind κ) : appKK P el s x env A g = (appKK P el s x env A f).bind κ := by
  unfold appKK
  refine bind_b _ fun _ => bind_b _ fun _ => bind_b _ fun _ => rowsK_b _ _ fun _ => ?_
  refine ite_b rfl (ite_b rfl ?_)
  split
  · exact itn_b (h _ _ _)
  · split
    · exact itn_b (itn_b (killKK_b _ _ _ fun _ _ => h _ _ _))
    · rfl
  · rfl
theorem convKK_b (s d : TypeId) (x : PV) {g : PV → Option β} {f : PV → Option γ} (h : ∀ n, g n = (f n).bind κ) : convKK P A s d x g = (convKK P A s d x f).bind κ := by
  unfold convKK
  split
  · split
    · exact ite_b rfl (rowsK_b _ _ fun _ => bind_b _ fun _ => h _)
    · rfl
  · exact itn_b (bind_b _ h)
theorem cutKK_b (t : TypeId) (x : PV) (lo hi mx : Option PV) {g : PV → Option β} {f : PV → Option γ} (h : ∀ n, g n = (f n).bind κ) : cutKK P A t x lo hi mx g = (cutKK P A t x lo hi mx f).bind κ := by
  unfold cutKK
  refine ite_b rfl ?_
  split
  · exact bind_b _ h
  · exact bind_b _ h
  · exact bind_b _ fun _ => bind_b _ fun _ => bind_b _ fun _ => itn_b (itn_b (h _))
  · refine bind_b _ fun _ => ite_b rfl ?_
    split
    · refine ite_b rfl ?_
      split
      · exact bind_b _ fun _ => bind_b _ fun _ => itn_b (h _)
      · exact bind_b _ fun _ => bind_b _ fun _ => itn_b (h _)
    · rfl
  · exact bind_b _ fun _ => bind_b _ fun _ => bind_b _ fun _ => itn_b (h _)
  · rfl
theorem splitN_b (i : Int) (n : Nat) {g : Nat → Option β} {f : Nat → Option γ} (h : ∀ m, g m = (f m).bind κ) : ∀ r, splitN i n g r = (splitN i n f r).bind κ
  | 0 => rfl
  | r + 1 => by unfold splitN; exact ite_b (h _) (splitN_b i n h r)
theorem indexKK_b (t ty : TypeId) (x i : PV) {g : PV → Option β} {f : PV → Option γ} (h : ∀ n, g n = (f n).bind κ) : indexKK P t ty x i g = (indexKK P t ty x i f).bind κ := by
  unfold indexKK
  split
  · split
    · exact bind_b _ fun _ => bind_b _ fun _ => splitN_b _ _ (fun _ => bind_b _ fun _ => asK_b _ _ h) _
    · rfl
  · exact bind_b _ fun _ => asK_b _ _ h
theorem idxKK_b (t : TypeId) (x i : PV) {g : PV → Option β} {f : PV → Option γ} (h : ∀ n, g n = (f n).bind κ) : idxKK P A t x i g = (idxKK P A t x i f).bind κ := by
  unfold idxKK
  refine bind_b _ fun _ => ?_
  split
  · refine bind_b _ fun _ => ?_
    split
    · exact itn_b (bind_b _ fun _ => asSks_b _ _ fun _ => itn_b (h _))
    · refine ite_b rfl ?_
      split
      · refine ite_b rfl ?_
        split
        · exact itn_b (h _)
        · exact itn_b (h _)
      · rfl
    · rfl
  · refine bind_b _ fun _ => splitN_b _ _ (fun _ => ?_) _
    split <;> first | exact h _ | rfl
  · rfl
theorem packKK_b (l : List Nat) (env : List PV) (A : List KO) {g : List PV → List KO → Option β} {f : List PV → List KO → Option γ} (h : ∀ n A, g n A = (f n A).bind κ) : packKK l env A g = (packKK l env A f).bind κ := by
  unfold packKK
  simp only [forceNats_eq, forceVs_eq, forceA_eq]
  exact itn_b (h _ _)
theorem headKK_b (n0 : Nat) (tys : List (Nat × TypeId)) (wk : List Nat × List Nat) (env : List PV) (A : List KO) {g : List PV → List KO → Option β} {f : List PV → List KO → Option γ} (h : ∀ n A, g n A = (f n A).bind κ) : headKK P n0 tys wk env A g = (headKK P n0 tys wk env A f).bind κ := by
  unfold headKK
  simp only [forceVs_eq, forceA_eq]
  exact packKK_b _ _ _ fun _ _ => h _ _
theorem asObj_b (s : OSk) (o : KO) {g : KO → Option β} {f : KO → Option γ} (h : ∀ n, g n = (f n).bind κ) : asObj s o g = (asObj s o f).bind κ := by
  unfold asObj
  split
  · unfold asGone; split
    · rfl
    · exact h _
  · unfold asBox; split
    · exact itn_b (asSks_b _ _ fun _ => h _)
    · rfl
  · unfold asMade; split
    · exact itn_b (h _)
    · rfl
theorem asObjs_b : ∀ (s : List OSk) (l : List KO) {g : List KO → Option β} {f : List KO → Option γ} (h : ∀ n, g n = (f n).bind κ), asObjs s l g = (asObjs s l f).bind κ
  | [], l, _, _, h => by
    unfold asObjs asONil; split
    · exact h _
    · rfl
  | s :: sr, l, _, _, h => by
    unfold asObjs asOCons; split
    · exact asObj_b s _ fun _ => asObjs_b sr _ fun _ => h _
    · rfl
theorem asEnv_b (sk : List (Nat × Sk)) (m : List Nat) (e : List PV) : ∀ (is : List Nat) {g : List PV → Option β} {f : List PV → Option γ} (h : ∀ n, g n = (f n).bind κ), asEnv sk m e is g = (asEnv sk m e is f).bind κ
  | [], _, _, h => h _
  | i :: is, _, _, h => by
    unfold asEnv
    split
    · exact asSk_b _ _ fun _ => asEnv_b sk m e is fun _ => h _
    · exact asEnv_b sk m e is fun _ => h _
theorem liveKK_b (kc : KCfg) (C : CallK) (n : FuncId) (args : List PV) {g : PV → List PV → List KO → Option β} {f : PV → List PV → List KO → Option γ} (h : ∀ n e A, g n e A = (f n e A).bind κ) : liveKK kc C n args env A g = (liveKK kc C n args env A f).bind κ := by
  unfold liveKK
  simp only [forceNats_eq, forceVs_eq, forceA_eq, forceV_eq]
  exact itn_b (bind_b _ fun _ => asSk_b _ _ fun _ => asObjs_b _ _ fun _ => itn_b (h _ _ _))
theorem asCons_b (l : List PV) {g : PV → List PV → Option β} {f : PV → List PV → Option γ} (h : ∀ a b, g a b = (f a b).bind κ) : asCons l g = (asCons l f).bind κ := by
  unfold asCons
  split
  · exact h _ _
  · rfl
theorem asNil_b (l : List PV) {g : Option β} {f : Option γ} (h : g = f.bind κ) : asNil l g = (asNil l f).bind κ := by
  unfold asNil
  split
  · exact h
  · rfl
theorem partKK_b (A : List KO) (d : PV) (sz : Nat) {g : Nat → List (List PV) → Nat → Nat → Option β} {f : Nat → List (List PV) → Nat → Nat → Option γ} (h : ∀ a b c d, g a b c d = (f a b c d).bind κ) : partKK A d sz g = (partKK A d sz f).bind κ := by
  unfold partKK
  split
  · refine ite_b rfl ?_
    split
    · refine ite_b rfl ?_
      split <;> exact h _ _ _ _
    · rfl
  · rfl
theorem toldKK_b (u : Word) (args : List PV) {g : PV → List PV → List KO → Option β} {f : PV → List PV → List KO → Option γ} (h : ∀ n e A, g n e A = (f n e A).bind κ) : toldKK P u args env A g = (toldKK P u args env A f).bind κ := by
  cases u with
  | insert t =>
    show insKK P t args env A g = (insKK P t args env A f).bind κ
    unfold insKK
    refine asCons_b _ fun s l => asCons_b _ fun i l => asCons_b _ fun x l => asNil_b _ (asInt_b _ _ fun i => ?_)
    split
    · refine bind_b _ fun _ => bind_b _ fun _ => bind_b _ fun _ => ite_b rfl ?_
      split
      · split
        · refine itn_b ?_
          split
          · exact itn_b (itn_b (h _ _ _))
          · split
            · refine itn_b ?_
              split
              · refine itn_b (itn_b (itn_b ?_))
                unfold killKK
                simp only [forceVs_eq, forceA_eq]
                exact h _ _ _
              · rfl
            · split
              · refine itn_b (itn_b (itn_b ?_))
                unfold killKK
                simp only [forceVs_eq, forceA_eq]
                exact h _ _ _
              · rfl
          · rfl
        · rfl
      · rfl
    · rfl
  | sort =>
    show srtKK args env A g = (srtKK args env A f).bind κ
    unfold srtKK
    refine asCons_b _ fun s l => asNil_b _ ?_
    split
    · exact h _ _ _
    · exact partKK_b _ _ _ fun _ _ _ _ => itn_b (bind_b _ fun _ => h _ _ _)
  | keys q => rfl
  | sorted q => rfl
theorem callKK_b (c : Cfg) (kc : KCfg) (C : CallK) (n : FuncId) (args : List PV) (ty : TypeId) {g : PV → List PV → List KO → Option β} {f : PV → List PV → List KO → Option γ} (h : ∀ n e A, g n e A = (f n e A).bind κ) : callKK c kc C n args ty env A g = (callKK c kc C n args ty env A f).bind κ := by
  unfold callKK
  simp only [forceVs_eq]
  refine ite_b ?_ (itn_b (bind_b _ fun _ => h _ _ _))
  split
  · exact bind_b _ fun _ => asSk_b _ _ fun _ => ite_b (h _ _ _) (ite_b rfl (ite_b (itn_b (h _ _ _)) (bind_b _ fun _ => h _ _ _)))
  · split
    · exact bind_b _ fun _ => h _ _ _
    · rfl
  · split
    · exact toldKK_b _ _ h
    · exact liveKK_b _ _ _ _ h
  · rfl
theorem bltKK_b (b : Builtin) (ts : List TypeId) (args : List PV) (ty : TypeId) {g : PV → List PV → List KO → Option β} {f : PV → List PV → List KO → Option γ} (h : ∀ n e A, g n e A = (f n e A).bind κ) : bltKK P b ts args ty env A g = (bltKK P b ts args ty env A f).bind κ := by
  unfold bltKK
  split
  · split
    · split
      · exact h _ _ _
      · rfl
    · exact ite_b rfl (lenKK_b _ _ fun _ => h _ _ _)
    · rfl
  · exact itn_b (bind_b _ fun _ => asK_b _ _ fun _ => h _ _ _)
  · exact itn_b (bind_b _ fun _ => asK_b _ _ fun _ => h _ _ _)
  · split
    · exact ite_b rfl (appKK_b _ _ _ h)
    · exact itn_b (appKK_b _ _ _ h)
    · rfl
  · split
    · exact bind_b _ fun _ => rowsK_b _ _ fun _ => ite_b rfl (partKK_b _ _ _ fun _ _ _ _ => h _ _ _)
    · rfl
  · split
    · exact bind_b _ fun _ => bind_b _ fun _ => ite_b rfl (partKK_b _ _ _ fun _ _ _ _ => h _ _ _)
    · rfl
  · rfl
theorem opKK_b (c : Cfg) (kc : KCfg) (C : CallK) (o : Oper) {g : PV → List PV → List KO → Option β} {f : PV → List PV → List KO → Option γ} (h : ∀ n e A, g n e A = (f n e A).bind κ) : opKK c kc C env A o g = (opKK c kc C env A o f).bind κ := by
  obtain ⟨dst, op, type, pos, after, guard⟩ := o
  unfold opKK
  cases op <;> simp only [forceV_eq]
  case move x => exact h _ _ _
  case assign x => exact h _ _ _
  case pick cd a b =>
    split
    · exact ite_b (h _ _ _) (h _ _ _)
    · rfl
  case alloc el => exact bind_b _ fun _ => itn_b (h _ _ _)
  case box el x => exact itn_b (h _ _ _)
  case build t ps => exact bind_b _ fun _ => h _ _ _
  case buildSlice t n ps =>
    split
    · exact bind_b _ fun _ => bind_b _ fun _ => itn_b (bind_b _ fun _ => itn_b (h _ _ _))
    · rfl
  case load t a => exact ite_b (bind_b _ fun _ => h _ _ _) (loadKK_b _ _ fun _ => h _ _ _)
  case store t a x => exact storeKK_b _ _ _ fun _ => h _ _ _
  case nilCheck x => exact bind_b _ fun _ => h _ _ _
  case binOp op t x y ty => exact bind_b _ fun _ => asK_b _ _ fun _ => h _ _ _
  case unOp op t x => exact bind_b _ fun _ => asK_b _ _ fun _ => h _ _ _
  case convert s d x => exact convKK_b _ _ _ fun _ => asK_b _ _ fun _ => h _ _ _
  case makeFunc fn fs cs =>
    cases fn <;> simp only
    case func f => exact itn_b (h _ _ _)
    all_goals rfl
  case makeSlice t l cp =>
    split
    · exact bind_b _ fun _ => bind_b _ fun _ => bind_b _ fun _ => itn_b (itn_b (h _ _ _))
    · rfl
  case slice t x lo hi mx => exact cutKK_b _ _ _ _ _ fun _ => h _ _ _
  case fieldAddr s x f => exact bind_b _ fun _ => h _ _ _
  case field s x f => exact bind_b _ fun _ => h _ _ _
  case indexAddr t x i => exact idxKK_b _ _ _ fun _ => h _ _ _
  case index t x i => exact indexKK_b _ _ _ _ fun _ => h _ _ _
  case extract x i => exact bind_b _ fun _ => h _ _ _
  case call cl =>
    obtain ⟨callee, args, ts⟩ := cl
    cases callee <;> simp only
    case builtin b => exact ite_b rfl (bltKK_b _ _ _ _ h)
    case value x => exact bind_b _ fun _ => callKK_b _ _ _ _ _ _ h
    case invoke x m => rfl
  all_goals rfl
theorem opGG_b (c : Cfg) (kc : KCfg) (C : CallK) (o : Oper) {g : PV → List PV → List KO → Option β} {f : PV → List PV → List KO → Option γ} (h : ∀ n e A, g n e A = (f n e A).bind κ) : opGG c kc C env A o g = (opGG c kc C env A o f).bind κ := by
  unfold opGG
  exact itn_b (opKK_b _ _ _ _ h)
theorem opsKK_b (c : Cfg) (kc : KCfg) (C : CallK) (all : List Oper) : ∀ (l : List Oper) (env : List PV) (A : List KO) {g : List PV → List KO → Option β} {f : List PV → List KO → Option γ} (h : ∀ n A, g n A = (f n A).bind κ), opsKK c kc C all l env A g = (opsKK c kc C all l env A f).bind κ
  | [], _, _, _, _, h => h _ _
  | o :: l, env, A, g, f, h => by
    have go : ∀ (env : List PV), (opGG c kc C env A o fun v env A => putK env o.dst v fun e => opsKK c kc C all l e A g) = (opGG c kc C env A o fun v env A => putK env o.dst v fun e => opsKK c kc C all l e A f).bind κ := fun env => by
      simp only [putK_eq]
      exact opGG_b _ _ _ _ fun _ _ _ => opsKK_b c kc C all l _ _ h
    have no : ∀ (env : List PV), (putK env o.dst (.tuple []) fun e => opsKK c kc C all l e A g) = (putK env o.dst (.tuple []) fun e => opsKK c kc C all l e A f).bind κ := fun env => by
      simp only [putK_eq]
      exact opsKK_b c kc C all l _ _ h
    unfold opsKK
    split
    · exact go env
    · split
      · rfl
      · split
        · simp only [setL_eq]
          exact ite_b (ite_b (go _) (no _)) (ite_b (go _) (no _))
        · exact no _
        · rfl
theorem closeKK_b : ∀ (l : List Nat) (e : List PV) (A : List KO) {g : List PV → List KO → Option β} {f : List PV → List KO → Option γ} (h : ∀ n A, g n A = (f n A).bind κ), closeKK l e A g = (closeKK l e A f).bind κ
  | [], _, _, _, _, h => h _ _
  | t :: l, e, A, g, f, h => by
    unfold closeKK
    simp only [forceV_eq, setL_eq, forceA_eq]
    exact itn_b (bind_b _ fun _ => closeKK_b l _ _ h)
theorem preKK_b (c : Cfg) (n : FuncId) (id : Nat) (env : List PV) (A : List KO) {g : Bool → List PV → List KO → Option β} {f : Bool → List PV → List KO → Option γ} (h : ∀ b n A, g b n A = (f b n A).bind κ) : preKK c n id env A g = (preKK c n id env A f).bind κ := by
  unfold preKK
  split
  · exact h _ _ _
  · exact closeKK_b _ _ _ fun _ _ => h _ _ _
theorem onEx_b (x : Ex) {e : Nat → Option γ} {r : Option γ} {e' : Nat → Option β} {r' : Option β} (he : ∀ i, e' i = (e i).bind κ) (hr : r' = r.bind κ) : onEx x e' r' = (onEx x e r).bind κ := by
  cases x with
  | normal => rfl
  | exit i => exact he i
  | ret => exact hr
theorem evalKK_b (c : Cfg) (kc : KCfg) (C : CallK) (L : LoopK) (n : FuncId) (n0 : Nat) : ∀ (cd : Code) (env : List PV) (A : List KO) {g : Ex → List PV → List KO → Option β} {f : Ex → List PV → List KO → Option γ} (h : ∀ x e A, g x e A = (f x e A).bind κ), evalKK c kc C L n n0 cd env A g = (evalKK c kc C L n n0 cd env A f).bind κ
  | .skip, _, _, _, _, h | .label _, _, _, _, _, h | .exit _, _, _, _, _, h | .ret, _, _, _, _, h => h _ _ _
  | .region id ops draw, env, A, g, f, h => by
    simp only [evalKK]
    exact preKK_b _ _ _ _ _ fun _ _ _ => ite_b (itn_b (opsKK_b _ _ _ _ _ _ _ fun _ _ => h _ _ _)) (opsKK_b _ _ _ _ _ _ _ fun _ _ => h _ _ _)
  | .seq a b, env, A, g, f, h => by
    simp only [evalKK]
    refine evalKK_b c kc C L n n0 a _ _ fun x e s => ?_
    cases x with
    | normal => exact evalKK_b c kc C L n n0 b _ _ h
    | exit i => exact h _ _ _
    | ret => exact h _ _ _
  | .cond cd a b, env, A, g, f, h => by
    simp only [evalKK]
    split
    · rename_i t ht
      split
      · rename_i htt
        subst htt
        rw [setB_ok ht, setB_ok ht]
        exact evalKK_b c kc C L n n0 a _ _ h
      · rename_i htt
        have htf : t = false := by simpa using htt
        subst htf
        rw [setB_ok ht, setB_ok ht]
        exact evalKK_b c kc C L n n0 b _ _ h
    · rfl
  | .block id cd, env, A, g, f, h => by
    simp only [evalKK]
    refine evalKK_b c kc C L n n0 cd _ _ fun x e s => ?_
    cases x with
    | normal => exact h _ _ _
    | exit i => exact ite_b (h _ _ _) (h _ _ _)
    | ret => exact h _ _ _
  | .loop cd, env, A, g, f, h => by
    simp only [evalKK]
    split
    · refine headKK_b _ _ _ _ _ fun _ _ => bind_b _ fun _ => onEx_b _ (fun i => itn_b (asEnv_b _ _ _ _ fun _ => asObjs_b _ _ fun _ => h _ _ _)) ?_
      split
      · rfl
      · exact asEnv_b _ _ _ _ fun _ => asObjs_b _ _ fun _ => h _ _ _
    · rfl
  | .rangeFunc .., _, _, _, _, _ | .scope _, _, _, _, _, _ | .goto _, _, _, _, _, _ | .refuse _, _, _, _, _, _ => by simp only [evalKK]; rfl
theorem opKK_nat (c : Cfg) (kc : KCfg) (C : CallK) (o : Oper) (k : PV → List PV → List KO → Option β) : opKK c kc C env A o k = (opKK c kc C env A o s3).bind fun x => k x.1 x.2.1 x.2.2 := opKK_b c kc C o fun _ _ _ => rfl
theorem opGG_nat (c : Cfg) (kc : KCfg) (C : CallK) (o : Oper) (k : PV → List PV → List KO → Option β) : opGG c kc C env A o k = (opGG c kc C env A o s3).bind fun x => k x.1 x.2.1 x.2.2 := opGG_b c kc C o fun _ _ _ => rfl
theorem opsKK_nat (c : Cfg) (kc : KCfg) (C : CallK) (all l : List Oper) (env : List PV) (A : List KO) (k : List PV → List KO → Option β) : opsKK c kc C all l env A k = (opsKK c kc C all l env A s2).bind fun x => k x.1 x.2 := opsKK_b c kc C all l env A fun _ _ => rfl
theorem preKK_nat (c : Cfg) (n : FuncId) (id : Nat) (env : List PV) (A : List KO) (k : Bool → List PV → List KO → Option β) : preKK c n id env A k = (preKK c n id env A s3).bind fun x => k x.1 x.2.1 x.2.2 := preKK_b c n id env A fun _ _ _ => rfl
theorem headKK_nat (n0 : Nat) (tys : List (Nat × TypeId)) (wk : List Nat × List Nat) (env : List PV) (A : List KO) (k : List PV → List KO → Option β) : headKK P n0 tys wk env A k = (headKK P n0 tys wk env A s2).bind fun x => k x.1 x.2 := headKK_b n0 tys wk env A fun _ _ => rfl
theorem evalKK_nat (c : Cfg) (kc : KCfg) (C : CallK) (L : LoopK) (n : FuncId) (n0 : Nat) (cd : Code) (env : List PV) (A : List KO) (k : Ex → List PV → List KO → Option β) : evalKK c kc C L n n0 cd env A k = (evalKK c kc C L n n0 cd env A s3).bind fun x => k x.1 x.2.1 x.2.2 := evalKK_b c kc C L n n0 cd env A fun _ _ _ => rfl
end
end Go.Pvm

/- Part of the proof: the evaluator over values alone, without a bound on its steps. -/
set_option linter.unusedSimpArgs false
set_option linter.unusedVariables false
namespace Go.Pvm
def CLeK (C C' : CallK) : Prop := ∀ f a A r, C f a A = some r → C' f a A = some r
def LLeK (L L' : LoopK) : Prop := ∀ f cd n e A r, L f cd n e A = some r → L' f cd n e A = some r
section
variable {β : Type} {r : β} {A : List KO} {env : List PV} {c : Cfg} {kc : KCfg} {C C' : CallK} {L L' : LoopK} {f : FuncId} {n0 : Nat}
theorem pcall_mono (hC : CLeK C C') {g : FuncId} {args : List PV} {v : PV} (h : pcall C g args = some v) : pcall C' g args = some v := by
  unfold pcall at h ⊢
  rw [Option.map_eq_some_iff] at h
  obtain ⟨q, h1, h2⟩ := h
  rw [hC _ _ _ _ h1, Option.map_some, h2]
theorem pcallW_mono (hC : CLeK C C') {g : FuncId} {args : List PV} {v : PV} (h : pcallW kc C g args = some v) : pcallW kc C' g args = some v := by
  unfold pcallW at h ⊢
  split at h
  · exact h
  · split at h
    · exact h
    · exact pcall_mono hC h
theorem callKK_mono (hC : CLeK C C') {g : FuncId} {args : List PV} {ty : TypeId} {k : PV → List PV → List KO → Option β} (h : callKK c kc C g args ty env A k = some r) : callKK c kc C' g args ty env A k = some r := by
  unfold callKK at h ⊢
  simp only [forceVs_eq] at h ⊢
  split at h
  · rename_i he
    rw [if_pos he]
    split at h
    · rename_i hm
      rw [Option.bind_eq_some_iff] at h
      obtain ⟨v, h1, h2⟩ := h
      rw [pcallW_mono hC h1]
      exact h2
    · exact h
    · rename_i hm
      split at h
      · exact h
      unfold liveKK at h ⊢
      simp only [forceNats_eq, forceVs_eq, forceA_eq, forceV_eq] at h ⊢
      split at h
      · rename_i hq
        rw [if_pos hq]
        rw [Option.bind_eq_some_iff] at h
        obtain ⟨v, h1, h2⟩ := h
        rw [hC _ _ _ _ h1]
        exact h2
      · cases h
    · exact h
  · rename_i he
    rw [if_neg he]
    exact h
theorem opKK_mono (hC : CLeK C C') {o : Oper} {k : PV → List PV → List KO → Option β} (h : opKK c kc C env A o k = some r) : opKK c kc C' env A o k = some r := by
  obtain ⟨dst, op, type, pos, after, guard⟩ := o
  cases op
  case call cl =>
    obtain ⟨callee, args, ts⟩ := cl
    cases callee
    case value x =>
      unfold opKK at h ⊢
      simp only [Option.bind_eq_some_iff] at h ⊢
      obtain ⟨q, h1, h2⟩ := h
      exact ⟨q, h1, callKK_mono hC h2⟩
    all_goals exact h
  case makeFunc fn fs cs => cases fn <;> exact h
  all_goals exact h
theorem opGG_mono (hC : CLeK C C') {o : Oper} {k : PV → List PV → List KO → Option β} (h : opGG c kc C env A o k = some r) : opGG c kc C' env A o k = some r := by
  unfold opGG at h ⊢
  split at h
  · rename_i hg; rw [if_pos hg]; exact opKK_mono hC h
  · cases h
theorem opsKK_mono (hC : CLeK C C') {all : List Oper} : ∀ (l : List Oper) {env : List PV} {A : List KO} {k : List PV → List KO → Option β}, opsKK c kc C all l env A k = some r → opsKK c kc C' all l env A k = some r
  | [], _, _, _, h => h
  | o :: l, env, A, k, h => by
    have go : ∀ {env : List PV}, (opGG c kc C env A o fun v env A => putK env o.dst v fun e => opsKK c kc C all l e A k) = some r → (opGG c kc C' env A o fun v env A => putK env o.dst v fun e => opsKK c kc C' all l e A k) = some r := fun h => by
      rw [opGG_nat, Option.bind_eq_some_iff] at h
      obtain ⟨x, h1, h2⟩ := h
      rw [opGG_nat, opGG_mono hC h1]
      simp only [Option.bind_some]
      rw [putK_eq] at h2 ⊢
      exact opsKK_mono hC l h2
    have no : ∀ {env : List PV}, (putK env o.dst (.tuple []) fun e => opsKK c kc C all l e A k) = some r → (putK env o.dst (.tuple []) fun e => opsKK c kc C' all l e A k) = some r := fun h => by
      rw [putK_eq] at h ⊢
      exact opsKK_mono hC l h
    unfold opsKK at h ⊢
    split at h
    · rename_i hg
      (try rw [hg])
      exact go h
    · rename_i g w hg
      (try rw [hg])
      simp only [setL_eq] at h ⊢
      split at h
      · cases h
      · rename_i d hd
        (try rw [hd])
        (try simp only)
        split at h
        · rename_i b hb
          (try simp only [hb])
          split at h
          · rename_i hbt
            (try rw [if_pos hbt])
            split at h
            · rename_i hw; (try rw [if_pos hw]); exact go h
            · rename_i hw; (try rw [if_neg hw]); exact no h
          · rename_i hbt
            (try rw [if_neg hbt])
            split at h
            · rename_i hw; (try rw [if_pos hw]); exact go h
            · rename_i hw; (try rw [if_neg hw]); exact no h
        · rename_i vs hb
          (try simp only [hb])
          exact no h
        · cases h
theorem evalKK_mono (hC : CLeK C C') (hL : LLeK L L') : ∀ (cd : Code) {β : Type} {r : β} {env : List PV} {A : List KO} {k : Ex → List PV → List KO → Option β}, evalKK c kc C L f n0 cd env A k = some r → evalKK c kc C' L' f n0 cd env A k = some r
  | .skip, _, _, _, _, _, h | .label _, _, _, _, _, _, h | .exit _, _, _, _, _, _, h | .ret, _, _, _, _, _, h => h
  | .region id ops draw, β, r, env, A, k, h => by
    simp only [evalKK] at h ⊢
    rw [preKK_nat, Option.bind_eq_some_iff] at h
    obtain ⟨x, h1, h2⟩ := h
    rw [preKK_nat, h1]
    simp only [Option.bind_some]
    split at h2
    · rename_i hd
      rw [if_pos hd]
      split at h2
      · rename_i hk
        rw [if_pos hk]
        exact opsKK_mono hC _ h2
      · cases h2
    · rename_i hd
      rw [if_neg hd]
      exact opsKK_mono hC _ h2
  | .seq a b, β, r, env, A, k, h => by
    simp only [evalKK] at h ⊢
    rw [evalKK_nat, Option.bind_eq_some_iff] at h
    obtain ⟨⟨x, e, A1⟩, h1, h2⟩ := h
    rw [evalKK_nat, evalKK_mono hC hL a h1]
    simp only [Option.bind_some]
    cases x with
    | normal => exact evalKK_mono hC hL b h2
    | exit i => exact h2
    | ret => exact h2
  | .cond cd a b, β, r, env, A, k, h => by
    simp only [evalKK] at h ⊢
    split at h
    · rename_i t ht
      split at h
      · rename_i htt
        rw [if_pos htt]
        subst htt
        rw [setB_ok ht] at h ⊢
        exact evalKK_mono hC hL a h
      · rename_i htt
        rw [if_neg htt]
        have htf : t = false := by simpa using htt
        subst htf
        rw [setB_ok ht] at h ⊢
        exact evalKK_mono hC hL b h
    · cases h
  | .block id cd, β, r, env, A, k, h => by
    simp only [evalKK] at h ⊢
    rw [evalKK_nat, Option.bind_eq_some_iff] at h
    obtain ⟨⟨x, e, A1⟩, h1, h2⟩ := h
    rw [evalKK_nat, evalKK_mono hC hL cd h1]
    exact h2
  | .loop cd, β, r, env, A, k, h => by
    simp only [evalKK] at h ⊢
    split at h
    · rename_i hd l hm
      rw [headKK_nat, Option.bind_eq_some_iff] at h
      obtain ⟨x, h1, h2⟩ := h
      rw [Option.bind_eq_some_iff] at h2
      obtain ⟨y, h3, h4⟩ := h2
      rw [headKK_nat, h1]
      simp only [Option.bind_some]
      rw [hL _ _ _ _ _ _ h3]
      exact h4
    · cases h
  | .rangeFunc .., _, _, _, _, _, h | .scope _, _, _, _, _, _, h | .goto _, _, _, _, _, _, h | .refuse _, _, _, _, _, _, h => by simp only [evalKK] at h; cases h
theorem stepKK_mono (hC : CLeK C C') (hL : LLeK L L') : CLeK (stepKK c kc C L) (stepKK c kc C' L') := fun g a A r h => by
  unfold stepKK at h ⊢
  split at h
  · cases h
  rename_i ht
  rw [if_neg ht]
  split at h
  · rename_i fn hf
    split at h
    · rename_i cd hcd
      exact evalKK_mono hC hL cd h
    · cases h
  · cases h
theorem stepLKK_mono (hC : CLeK C C') (hL : LLeK L L') : LLeK (stepLKK c kc C L) (stepLKK c kc C' L') := fun g cd n e A r h => by
  unfold stepLKK at h ⊢
  rw [evalKK_nat, Option.bind_eq_some_iff] at h
  obtain ⟨⟨x, e1, A1⟩, h1, h2⟩ := h
  rw [evalKK_nat, evalKK_mono hC hL cd h1]
  simp only [Option.bind_some]
  unfold goKK at h2 ⊢
  cases x with
  | normal =>
    simp only at h2 ⊢
    rw [headKK_nat, Option.bind_eq_some_iff] at h2
    obtain ⟨y, h3, h4⟩ := h2
    rw [headKK_nat, h3]
    exact hL _ _ _ _ _ _ h4
  | exit i => exact h2
  | ret => exact h2
end
theorem callNK_up (c : Cfg) (kc : KCfg) : ∀ n, CLeK (callNK c kc n) (callNK c kc (n + 1)) ∧ LLeK (loopNK c kc n) (loopNK c kc (n + 1))
  | 0 => ⟨(fun f a A r h => by cases h), (fun f cd n e A r h => by cases h)⟩
  | n + 1 => by
    obtain ⟨h1, h2⟩ := callNK_up c kc n
    refine ⟨fun f a A r h => ?_, fun f cd n e A r h => ?_⟩
    · unfold callNK at h ⊢; exact stepKK_mono h1 h2 _ _ _ _ h
    · unfold loopNK at h ⊢; exact stepLKK_mono h1 h2 _ _ _ _ _ _ h
theorem callNK_le (c : Cfg) (kc : KCfg) {m : Nat} : ∀ n, m ≤ n → CLeK (callNK c kc m) (callNK c kc n) ∧ LLeK (loopNK c kc m) (loopNK c kc n)
  | 0, h => by
    have : m = 0 := by omega
    subst this
    exact ⟨fun _ _ _ _ h => h, fun _ _ _ _ _ _ h => h⟩
  | n + 1, h => by
    by_cases he : m = n + 1
    · subst he; exact ⟨fun _ _ _ _ h => h, fun _ _ _ _ _ _ h => h⟩
    · obtain ⟨h1, h2⟩ := callNK_le c kc (m := m) n (by omega)
      obtain ⟨h3, h4⟩ := callNK_up c kc n
      exact ⟨fun _ _ _ _ h => h3 _ _ _ _ (h1 _ _ _ _ h), fun _ _ _ _ _ _ h => h4 _ _ _ _ _ _ (h2 _ _ _ _ _ _ h)⟩
open Classical in
noncomputable def callωK (c : Cfg) (kc : KCfg) : CallK := fun f a A => if h : ∃ n r, callNK c kc n f a A = some r then callNK c kc (Classical.choose h) f a A else none
open Classical in
noncomputable def loopωK (c : Cfg) (kc : KCfg) : LoopK := fun f cd n0 e A => if h : ∃ n r, loopNK c kc n f cd n0 e A = some r then loopNK c kc (Classical.choose h) f cd n0 e A else none
section
variable {c : Cfg} {kc : KCfg}
theorem callωK_iff {g : FuncId} {a : List PV} {A : List KO} {r : PV × List KO} : callωK c kc g a A = some r ↔ ∃ n, callNK c kc n g a A = some r := by
  unfold callωK
  constructor
  · intro h
    split at h
    · exact ⟨_, h⟩
    · cases h
  · rintro ⟨n, h⟩
    have hx : ∃ n r, callNK c kc n g a A = some r := ⟨n, r, h⟩
    rw [dif_pos hx]
    obtain ⟨r', hr'⟩ := Classical.choose_spec hx
    rw [hr']
    rcases Nat.le_total n (Classical.choose hx) with hle | hle
    · rw [(callNK_le c kc _ hle).1 _ _ _ _ h] at hr'; exact hr'.symm
    · rw [(callNK_le c kc _ hle).1 _ _ _ _ hr'] at h; exact h
theorem loopωK_iff {g : FuncId} {cd : Code} {n0 : Nat} {e : List PV} {A : List KO} {r : Ex × List PV × List KO} : loopωK c kc g cd n0 e A = some r ↔ ∃ n, loopNK c kc n g cd n0 e A = some r := by
  unfold loopωK
  constructor
  · intro h
    split at h
    · exact ⟨_, h⟩
    · cases h
  · rintro ⟨n, h⟩
    have hx : ∃ n r, loopNK c kc n g cd n0 e A = some r := ⟨n, r, h⟩
    rw [dif_pos hx]
    obtain ⟨r', hr'⟩ := Classical.choose_spec hx
    rw [hr']
    rcases Nat.le_total n (Classical.choose hx) with hle | hle
    · rw [(callNK_le c kc _ hle).2 _ _ _ _ _ _ h] at hr'; exact hr'.symm
    · rw [(callNK_le c kc _ hle).2 _ _ _ _ _ _ hr'] at h; exact h
theorem soundω (hO : OwnOk kc c.P (callω c)) : SoundC (callωK c kc) (callω c) := fun g args A r A' h => by
  obtain ⟨n, h⟩ := callωK_iff.1 h
  exact (soundN hO n).1 g args A r A' h

section
variable {β : Type} {r : β} {A : List KO} {env : List PV} {c2 : Cfg} {f : FuncId} {n0 : Nat}
theorem pcallW_cont {g : FuncId} {args : List PV} {v : PV} (h : pcallW kc (callωK c kc) g args = some v) : ∃ n, pcallW kc (callNK c kc n) g args = some v := by
  unfold pcallW at h ⊢
  split at h
  · exact ⟨0, h⟩
  · split at h
    · exact ⟨0, h⟩
    · unfold pcall at h
      rw [Option.map_eq_some_iff] at h
      obtain ⟨q, h3, h4⟩ := h
      obtain ⟨n, h5⟩ := callωK_iff.1 h3
      refine ⟨n, ?_⟩
      unfold pcall
      rw [h5, Option.map_some, h4]
theorem callKK_cont {g : FuncId} {args : List PV} {ty : TypeId} {k : PV → List PV → List KO → Option β} (h : callKK c2 kc (callωK c kc) g args ty env A k = some r) : ∃ n, callKK c2 kc (callNK c kc n) g args ty env A k = some r := by
  unfold callKK at h ⊢
  simp only [forceVs_eq] at h ⊢
  split at h
  · rename_i he
    simp only [if_pos he]
    split at h
    · rename_i hm
      rw [Option.bind_eq_some_iff] at h
      obtain ⟨v, h1, h2⟩ := h
      obtain ⟨n, h3⟩ := pcallW_cont h1
      refine ⟨n, ?_⟩
      rw [h3]
      exact h2
    · exact ⟨0, h⟩
    · rename_i hm
      split at h
      · exact ⟨0, h⟩
      unfold liveKK at h ⊢
      simp only [forceNats_eq, forceVs_eq, forceA_eq, forceV_eq] at h ⊢
      split at h
      · rename_i hq
        simp only [if_pos hq]
        rw [Option.bind_eq_some_iff] at h
        obtain ⟨v, h1, h2⟩ := h
        obtain ⟨n, h5⟩ := callωK_iff.1 h1
        exact ⟨n, by rw [h5]; exact h2⟩
      · cases h
    · exact ⟨0, h⟩
  · rename_i he
    simp only [if_neg he]
    exact ⟨0, h⟩
theorem opKK_cont {o : Oper} {k : PV → List PV → List KO → Option β} (h : opKK c2 kc (callωK c kc) env A o k = some r) : ∃ n, opKK c2 kc (callNK c kc n) env A o k = some r := by
  obtain ⟨dst, op, type, pos, after, guard⟩ := o
  cases op
  case call cl =>
    obtain ⟨callee, args, ts⟩ := cl
    cases callee
    case value x =>
      unfold opKK at h ⊢
      simp only [Option.bind_eq_some_iff] at h ⊢
      obtain ⟨q, h1, h2⟩ := h
      obtain ⟨n, h3⟩ := callKK_cont h2
      exact ⟨n, q, h1, h3⟩
    all_goals exact ⟨0, h⟩
  case makeFunc fn fs cs => cases fn <;> exact ⟨0, h⟩
  all_goals exact ⟨0, h⟩
theorem opGG_cont {o : Oper} {k : PV → List PV → List KO → Option β} (h : opGG c2 kc (callωK c kc) env A o k = some r) : ∃ n, opGG c2 kc (callNK c kc n) env A o k = some r := by
  unfold opGG at h ⊢
  split at h
  · rename_i hg
    obtain ⟨n, h1⟩ := opKK_cont h
    exact ⟨n, by rw [if_pos hg]; exact h1⟩
  · cases h
theorem opsKK_cont {all : List Oper} : ∀ (l : List Oper) {env : List PV} {A : List KO} {k : List PV → List KO → Option β}, opsKK c2 kc (callωK c kc) all l env A k = some r → ∃ n, opsKK c2 kc (callNK c kc n) all l env A k = some r
  | [], _, _, _, h => ⟨0, h⟩
  | o :: l, env, A, k, h => by
    have go : ∀ {env : List PV}, (opGG c2 kc (callωK c kc) env A o fun v env A => putK env o.dst v fun e => opsKK c2 kc (callωK c kc) all l e A k) = some r → ∃ n, (opGG c2 kc (callNK c kc n) env A o fun v env A => putK env o.dst v fun e => opsKK c2 kc (callNK c kc n) all l e A k) = some r := fun h => by
      rw [opGG_nat, Option.bind_eq_some_iff] at h
      obtain ⟨x, h1, h2⟩ := h
      rw [putK_eq] at h2
      obtain ⟨n1, h3⟩ := opGG_cont h1
      obtain ⟨n2, h4⟩ := opsKK_cont l h2
      refine ⟨max n1 n2, ?_⟩
      rw [opGG_nat, opGG_mono (callNK_le c kc _ (Nat.le_max_left n1 n2)).1 h3]
      simp only [Option.bind_some]
      rw [putK_eq]
      exact opsKK_mono (callNK_le c kc _ (Nat.le_max_right n1 n2)).1 l h4
    have no : ∀ {env : List PV}, (putK env o.dst (.tuple []) fun e => opsKK c2 kc (callωK c kc) all l e A k) = some r → ∃ n, (putK env o.dst (.tuple []) fun e => opsKK c2 kc (callNK c kc n) all l e A k) = some r := fun h => by
      simp only [putK_eq] at h ⊢
      exact opsKK_cont l h
    unfold opsKK at h ⊢
    split at h
    · rename_i hg
      (try rw [hg])
      exact go h
    · rename_i g w hg
      (try rw [hg])
      simp only [setL_eq] at h ⊢
      split at h
      · cases h
      · rename_i d hd
        (try rw [hd])
        (try simp only)
        split at h
        · rename_i b hb
          (try simp only [hb])
          split at h
          · rename_i hbt
            (try simp only [if_pos hbt])
            split at h
            · rename_i hw; (try simp only [if_pos hw]); exact go h
            · rename_i hw; (try simp only [if_neg hw]); exact no h
          · rename_i hbt
            (try simp only [if_neg hbt])
            split at h
            · rename_i hw; (try simp only [if_pos hw]); exact go h
            · rename_i hw; (try simp only [if_neg hw]); exact no h
        · rename_i vs hb
          (try simp only [hb])
          exact no h
        · cases h
theorem evalKK_cont : ∀ (cd : Code) {β : Type} {r : β} {env : List PV} {A : List KO} {k : Ex → List PV → List KO → Option β}, evalKK c kc (callωK c kc) (loopωK c kc) f n0 cd env A k = some r → ∃ n, evalKK c kc (callNK c kc n) (loopNK c kc n) f n0 cd env A k = some r
  | .skip, _, _, _, _, _, h | .label _, _, _, _, _, _, h | .exit _, _, _, _, _, _, h | .ret, _, _, _, _, _, h => ⟨0, h⟩
  | .region id ops draw, β, r, env, A, k, h => by
    simp only [evalKK] at h ⊢
    rw [preKK_nat, Option.bind_eq_some_iff] at h
    obtain ⟨x, h1, h2⟩ := h
    split at h2
    · rename_i hd
      split at h2
      · rename_i hk
        obtain ⟨n, h3⟩ := opsKK_cont _ h2
        refine ⟨n, ?_⟩
        rw [preKK_nat, h1]
        simp only [Option.bind_some]
        rw [if_pos hd, if_pos hk]
        exact h3
      · cases h2
    · rename_i hd
      obtain ⟨n, h3⟩ := opsKK_cont _ h2
      refine ⟨n, ?_⟩
      rw [preKK_nat, h1]
      simp only [Option.bind_some]
      rw [if_neg hd]
      exact h3
  | .seq a b, β, r, env, A, k, h => by
    simp only [evalKK] at h ⊢
    rw [evalKK_nat, Option.bind_eq_some_iff] at h
    obtain ⟨⟨x, e, A1⟩, h1, h2⟩ := h
    obtain ⟨n1, h3⟩ := evalKK_cont a h1
    cases x with
    | normal =>
      obtain ⟨n2, h4⟩ := evalKK_cont b h2
      refine ⟨max n1 n2, ?_⟩
      obtain ⟨u1, u2⟩ := callNK_le c kc _ (Nat.le_max_left n1 n2)
      obtain ⟨u3, u4⟩ := callNK_le c kc _ (Nat.le_max_right n1 n2)
      rw [evalKK_nat, evalKK_mono u1 u2 a h3]
      exact evalKK_mono u3 u4 b h4
    | exit i => exact ⟨n1, by rw [evalKK_nat, h3]; exact h2⟩
    | ret => exact ⟨n1, by rw [evalKK_nat, h3]; exact h2⟩
  | .cond cd a b, β, r, env, A, k, h => by
    simp only [evalKK] at h ⊢
    split at h
    · rename_i t ht
      split at h
      · rename_i htt
        simp only [if_pos htt]
        subst htt
        simp only [setB_ok ht] at h ⊢
        exact evalKK_cont a h
      · rename_i htt
        simp only [if_neg htt]
        have htf : t = false := by simpa using htt
        subst htf
        simp only [setB_ok ht] at h ⊢
        exact evalKK_cont b h
    · cases h
  | .block id cd, β, r, env, A, k, h => by
    simp only [evalKK] at h ⊢
    rw [evalKK_nat, Option.bind_eq_some_iff] at h
    obtain ⟨⟨x, e, A1⟩, h1, h2⟩ := h
    obtain ⟨n1, h3⟩ := evalKK_cont cd h1
    exact ⟨n1, by rw [evalKK_nat, h3]; exact h2⟩
  | .loop cd, β, r, env, A, k, h => by
    simp only [evalKK] at h ⊢
    split at h
    · rename_i hd l hm
      rw [headKK_nat, Option.bind_eq_some_iff] at h
      obtain ⟨x, h1, h2⟩ := h
      rw [Option.bind_eq_some_iff] at h2
      obtain ⟨y, h3, h4⟩ := h2
      obtain ⟨n, h5⟩ := loopωK_iff.1 h3
      refine ⟨n, ?_⟩
      rw [headKK_nat, h1]
      simp only [Option.bind_some]
      rw [h5]
      exact h4
    · cases h
  | .rangeFunc .., _, _, _, _, _, h | .scope _, _, _, _, _, _, h | .goto _, _, _, _, _, _, h | .refuse _, _, _, _, _, _, h => by simp only [evalKK] at h; cases h
end
theorem callωK_of {g : FuncId} {a : List PV} {A : List KO} {r : PV × List KO} (h : stepKK c kc (callωK c kc) (loopωK c kc) g a A = some r) : callωK c kc g a A = some r := by
  refine callωK_iff.2 ?_
  unfold stepKK at h
  split at h
  · cases h
  rename_i ht
  split at h
  · rename_i fn hf
    split at h
    · rename_i cd hcd
      obtain ⟨n, h1⟩ := evalKK_cont cd h
      refine ⟨n + 1, ?_⟩
      unfold callNK stepKK
      rw [if_neg ht, hf]
      simp only [hcd]
      exact h1
    · cases h
  · cases h
theorem loopωK_of {g : FuncId} {cd : Code} {n0 : Nat} {e : List PV} {A : List KO} {r : Ex × List PV × List KO} (h : stepLKK c kc (callωK c kc) (loopωK c kc) g cd n0 e A = some r) : loopωK c kc g cd n0 e A = some r := by
  refine loopωK_iff.2 ?_
  unfold stepLKK at h
  rw [evalKK_nat, Option.bind_eq_some_iff] at h
  obtain ⟨⟨x, e1, A1⟩, h1, h2⟩ := h
  obtain ⟨n1, h3⟩ := evalKK_cont cd h1
  unfold goKK at h2
  cases x with
  | normal =>
    simp only at h2
    rw [headKK_nat, Option.bind_eq_some_iff] at h2
    obtain ⟨y, h4, h5⟩ := h2
    obtain ⟨n2, h6⟩ := loopωK_iff.1 h5
    obtain ⟨u1, u2⟩ := callNK_le c kc _ (Nat.le_max_left n1 n2)
    obtain ⟨u3, u4⟩ := callNK_le c kc _ (Nat.le_max_right n1 n2)
    refine ⟨max n1 n2 + 1, ?_⟩
    unfold loopNK stepLKK goKK
    rw [evalKK_nat, evalKK_mono u1 u2 cd h3]
    simp only [Option.bind_some]
    rw [headKK_nat, h4]
    exact u4 _ _ _ _ _ _ h6
  | exit i =>
    refine ⟨n1 + 1, ?_⟩
    unfold loopNK stepLKK goKK
    rw [evalKK_nat, h3]
    exact h2
  | ret =>
    refine ⟨n1 + 1, ?_⟩
    unfold loopNK stepLKK goKK
    rw [evalKK_nat, h3]
    exact h2
/-- A call by itself. -/
theorem pcall_of {g : FuncId} {a : List PV} {v w : PV} {A : List KO} (h : stepKK c kc (callωK c kc) (loopωK c kc) g a [] = some (v, A)) (hf : fzK fuelFz A v = w) : pcall (callωK c kc) g a = some w := by
  unfold pcall
  rw [callωK_of h, Option.map_some]
  exact congrArg some hf
/-- What is told by values alone holds of the program. -/
theorem pcall_sound (_hT : Tolds c) (hO : OwnOk kc c.P (callω c)) {g : FuncId} {a pa : List PV} {v : PV} (h : pcall (callωK c kc) g a = some v) (ha : VFs a pa) : ∃ p τ, callω c g pa .empty = some (p, τ) ∧ VF v (fz fuelFz τ p) :=
  pcall_ok (soundω hO) h ha
end
end Go.Pvm

/- Part of the proof: small laws for reading what a function comes to over values alone; copies. -/
set_option linter.unusedSimpArgs false
set_option linter.unusedVariables false
namespace Go.Pvm
/-- A copy of its own. -/
def cloneK (sz by_ : Nat) (args : List PV) : Option (List (List PV)) := match args with
  | [.psl _ es] => if rowsPl sz es = true ∧ es.all PV.own.owns = true ∧ es.length * by_ ≤ 140737488355328 then some es else none
  | _ => none
theorem cloneK_map {α : Type} {sz by_ : Nat} {b : Bool} {enc : α → List PV} (l : List α) (h : ∀ a, (enc a).length = sz ∧ (enc a).all PV.plain = true ∧ PV.own.owns (enc a) = true) (hb : l.length * by_ ≤ 140737488355328) : cloneK sz by_ [.psl b (l.map enc)] = some (l.map enc) := by
  have h1 : rowsPl sz (l.map enc) = true := by
    unfold rowsPl
    rw [List.all_eq_true]
    intro e he
    obtain ⟨a, _, rfl⟩ := List.mem_map.1 he
    rw [(h a).2.1]
    simp [(h a).1]
  have h2 : (l.map enc).all PV.own.owns = true := by
    rw [List.all_eq_true]
    intro e he
    obtain ⟨a, _, rfl⟩ := List.mem_map.1 he
    exact (h a).2.2
  show (if rowsPl sz (l.map enc) = true ∧ (l.map enc).all PV.own.owns = true ∧ (l.map enc).length * by_ ≤ 140737488355328 then some (l.map enc) else none) = _
  rw [if_pos ⟨h1, h2, by rw [List.length_map]; exact hb⟩]
/-- Rows one behind the other. -/
def joinK : List (List PV) → Option (List (List PV))
  | [] => some []
  | [.psl _ es] :: r => (joinK r).map fun x => es ++ x
  | _ => none
def concatK (sz by_ : Nat) (args : List PV) : Option (List (List PV)) := match args with
  | [.psl _ rows] => (joinK rows).bind fun es => if rowsPl sz es = true ∧ 0 < es.length ∧ es.length < 1073741824 ∧ es.length * by_ ≤ 140737488355328 ∧ rows.length < 1073741824 then some es else none
  | _ => none
theorem VF.own1 {v p : PV} (h : VF v p) (hp : v.plain = true) (ho : v.own = true) : p.own = true := by
  cases h with
  | undef => cases hp
  | base _ hb => exact ho
  | psl b b' h =>
    rename_i es ps
    have : es.isEmpty = true := ho
    have : ps.isEmpty = true := by
      cases h with
      | nil => rfl
      | cons => cases this
    exact this
  | nl => rfl
  | pref => cases ho
  | agg => cases hp
  | tuple => cases hp
  | func => cases hp
theorem VFs.own1 : ∀ {v p : List PV}, VFs v p → v.all PV.plain = true → PV.own.owns v = true → PV.own.owns p = true
  | _, _, .nil, _, _ => rfl
  | _, _, .cons h t, hp, ho => by
    rw [List.all_cons, Bool.and_eq_true] at hp
    unfold PV.own.owns at ho ⊢
    rw [Bool.and_eq_true] at ho
    rw [h.own1 hp.1 ho.1, t.own1 hp.2 ho.2]; rfl
theorem VFss.own1 {sz : Nat} : ∀ {v p : List (List PV)}, VFss v p → rowsPl sz v = true → v.all PV.own.owns = true → p.all PV.own.owns = true
  | _, _, .nil, _, _ => rfl
  | e :: es, _, .cons h t, hp, ho => by
    have hp1 := rowsPl_get hp (.head _)
    have hp2 : rowsPl sz es = true := by unfold rowsPl at hp ⊢; rw [List.all_cons, Bool.and_eq_true] at hp; exact hp.2
    rw [List.all_cons, Bool.and_eq_true] at ho ⊢
    exact ⟨h.own1 hp1.2 ho.1, t.own1 hp2 ho.2⟩
section
variable {β : Type}
theorem asSl_psl (b : Bool) (es : List (List PV)) (k : List (List PV) → Option β) : asSl (.psl b es) k = k es := rfl
theorem asSl_nil (k : List (List PV) → Option β) : asSl .nilsl k = k [] := rfl
theorem asAgg_agg (cs : List PV) (k : List PV → Option β) : asAgg (.agg cs) k = k cs := rfl
theorem asTup_tup (cs : List PV) (k : List PV → Option β) : asTup (.tuple cs) k = k cs := rfl
theorem asCons_cons (c : PV) (cs : List PV) (k : PV → List PV → Option β) : asCons (c :: cs) k = k c cs := rfl
theorem asNil_nil (k : Option β) : asNil [] k = k := rfl
theorem asFlt_flt (i : FloatKind) (n : Nat) (k : Nat → Option β) : asFlt i (.float i n) k = k n := by simp [asFlt]
theorem asRef_ref (a b c : Nat) (k : Option β) : asRef a b c (.ref a b c) k = k := by simp [asRef]
theorem asWhole_whole (a b : Nat) (k : Option β) : asWhole a b (whole a b) k = k := by simp [asWhole, whole]
theorem asWv_whole (a b : Nat) (k : Option β) (k' : Nat → Nat → Option β) : asWv a b (whole a b) k k' = k := by simp [asWv, whole]
theorem asWv_view (a b x n : Nat) (k : Option β) (k' : Nat → Nat → Option β) : asWv a b (viewK a b x n) k k' = k' x n := by simp [asWv, viewK]
theorem asView_view (a b x n : Nat) (k : Nat → Nat → Option β) : asView a b (viewK a b x n) k = k x n := by simp [asView, viewK]
theorem asFn_fn (f : FuncId) (cs : List PV) (k : List PV → Option β) : asFn f (.func f cs) k = k cs := by simp [asFn]
theorem asPref_pref (cs : List PV) (k : List PV → Option β) : asPref (.pref cs) k = k cs := rfl
theorem asOCons_cons (c : KO) (cs : List KO) (k : KO → List KO → Option β) : asOCons (c :: cs) k = k c cs := rfl
theorem asONil_nil (k : Option β) : asONil [] k = k := rfl
theorem asBox_box (w : Bool) (t : TypeId) (cs : List PV) (k : List PV → Option β) : asBox w t (.box w t cs) k = k cs := by simp [asBox]
theorem asBox_false (w : Bool) (t : TypeId) (cs : List PV) (k : List PV → Option β) : asBox false t (.box w t cs) k = k cs := by simp [asBox]
theorem asMade_made (w : Bool) (sz : Nat) (es : List (List PV)) (k : List (List PV) → Option β) : asMade w sz (.made w sz es) k = k es := by simp [asMade]
theorem asMade_false (w : Bool) (sz : Nat) (es : List (List PV)) (k : List (List PV) → Option β) : asMade false sz (.made w sz es) k = k es := by simp [asMade]
theorem asGone_dead (k : Option β) : asGone .dead k = k := rfl
theorem asGone_made (w : Bool) (sz : Nat) (es : List (List PV)) (k : Option β) : asGone (.made w sz es) k = k := rfl
/-! Two steps in one. -/
def asCI (κ : IntKind) (l : List PV) (k : Int → List PV → Option β) : Option β := asCons l fun v r => asInt κ v fun n => k n r
def asCB (l : List PV) (k : Bool → List PV → Option β) : Option β := asCons l fun v r => asBool v fun n => k n r
def asCF (κ : FloatKind) (l : List PV) (k : Nat → List PV → Option β) : Option β := asCons l fun v r => asFlt κ v fun n => k n r
def asCS (l : List PV) (k : List (List PV) → List PV → Option β) : Option β := asCons l fun v r => asSl v fun n => k n r
def asCW (a b : Nat) (l : List PV) (k : List PV → Option β) : Option β := asCons l fun v r => asWhole a b v (k r)
def asCR (a b c : Nat) (l : List PV) (k : List PV → Option β) : Option β := asCons l fun v r => asRef a b c v (k r)
def asOM (w : Bool) (sz : Nat) (l : List KO) (k : List (List PV) → List KO → Option β) : Option β := asOCons l fun o r => asMade w sz o fun es => k es r
def asOB (w : Bool) (t : TypeId) (l : List KO) (k : List PV → List KO → Option β) : Option β := asOCons l fun o r => asBox w t o fun cs => k cs r
def asOG (l : List KO) (k : List KO → Option β) : Option β := asOCons l fun o r => asGone o (k r)
def gS (x : Ex × List PV × List KO) (i : Nat) : PV := List.getD x.2.1 i .undef
theorem asCI_cons (κ : IntKind) (n : Int) (r : List PV) (k : Int → List PV → Option β) : asCI κ (.int κ n :: r) k = k n r := by simp [asCI, asCons_cons, asInt_int]
theorem asCB_cons (n : Bool) (r : List PV) (k : Bool → List PV → Option β) : asCB (.bool n :: r) k = k n r := by simp [asCB, asCons_cons, asBool_bool]
theorem asCF_cons (κ : FloatKind) (n : Nat) (r : List PV) (k : Nat → List PV → Option β) : asCF κ (.float κ n :: r) k = k n r := by simp [asCF, asCons_cons, asFlt_flt]
theorem asCS_psl (b : Bool) (n : List (List PV)) (r : List PV) (k : List (List PV) → List PV → Option β) : asCS (.psl b n :: r) k = k n r := rfl
theorem asCS_nil (r : List PV) (k : List (List PV) → List PV → Option β) : asCS (.nilsl :: r) k = k [] r := rfl
theorem asCW_cons (a b : Nat) (r : List PV) (k : List PV → Option β) : asCW a b (whole a b :: r) k = k r := by simp [asCW, asCons_cons, asWhole_whole]
theorem asCR_cons (a b c : Nat) (r : List PV) (k : List PV → Option β) : asCR a b c (.ref a b c :: r) k = k r := by simp [asCR, asCons_cons, asRef_ref]
theorem asOM_cons (w : Bool) (sz : Nat) (n : List (List PV)) (r : List KO) (k : List (List PV) → List KO → Option β) : asOM w sz (.made w sz n :: r) k = k n r := by simp [asOM, asOCons_cons, asMade_made]
theorem asOM_false (w : Bool) (sz : Nat) (n : List (List PV)) (r : List KO) (k : List (List PV) → List KO → Option β) : asOM false sz (.made w sz n :: r) k = k n r := by simp [asOM, asOCons_cons, asMade_false]
theorem asOB_cons (w : Bool) (t : TypeId) (n : List PV) (r : List KO) (k : List PV → List KO → Option β) : asOB w t (.box w t n :: r) k = k n r := by simp [asOB, asOCons_cons, asBox_box]
theorem asOB_false (w : Bool) (t : TypeId) (n : List PV) (r : List KO) (k : List PV → List KO → Option β) : asOB false t (.box w t n :: r) k = k n r := by simp [asOB, asOCons_cons, asBox_false]
theorem asOG_dead (r : List KO) (k : List KO → Option β) : asOG (.dead :: r) k = k r := rfl
theorem asOG_made (w : Bool) (sz : Nat) (es : List (List PV)) (r : List KO) (k : List KO → Option β) : asOG (.made w sz es :: r) k = k r := rfl
theorem gS_mk (x : Ex) (e : List PV) (A : List KO) (i : Nat) : gS (x, e, A) i = List.getD e i .undef := rfl
theorem getD_mkS {n i : Nat} (h : i < n) (l : List (Nat × PV)) : List.getD (mkS n l) i .undef = (l.lookup i).getD .undef := by
  unfold mkS
  rw [List.getD_eq_getElem?_getD, List.getElem?_map, List.getElem?_range h]
  rfl
end
/-- Rows. -/
abbrev Rws := List (List PV)
/-- A row's answer. -/
theorem bool_of_fz {n : Nat} {σ : Store} {p : PV} {b : Bool} (h : VF (.bool b) (fz n σ p)) : p = .bool b := by
  have e := h.base_eq rfl
  cases n with
  | zero => cases e
  | succ n =>
    cases p <;> first | exact e | (unfold fz at e; simp only at e; first | (cases e; done) | (split at e <;> first | (cases e; done) | (split at e <;> cases e)))
theorem rowsPl_nil (sz : Nat) : rowsPl sz [] = true := rfl
theorem rowsPl_map {α : Type} {sz : Nat} {enc : α → List PV} (l : List α) (h : ∀ a, (enc a).length = sz ∧ (enc a).all PV.plain = true) : rowsPl sz (l.map enc) = true := by
  unfold rowsPl
  rw [List.all_eq_true]
  intro e he
  obtain ⟨a, _, rfl⟩ := List.mem_map.1 he
  rw [(h a).2]
  simp [(h a).1]
theorem lens_map {α : Type} {sz : Nat} {enc : α → List PV} (l : List α) (h : ∀ a, (enc a).length = sz) : ((l.map enc).all fun e => e.length == sz) = true := by
  rw [List.all_eq_true]
  intro e he
  obtain ⟨a, _, rfl⟩ := List.mem_map.1 he
  simp [h a]
end Go.Pvm

/- Part of the proof: the arguments of a row, as values alone. -/
set_option linter.unusedSimpArgs false
set_option linter.unusedVariables false
namespace Go.Pvm
/-- A type's cells stand for things. -/
def ArgK {α : Type} (P : Program) (t : TypeId) (e : α → List PV) (Q : α → Prop) : Prop := ∀ top n c, WT P top n t c → ∃ a, VFs (e a) c ∧ Q a
theorem VFss.of_each {α : Type} {e : α → List PV} {Q : α → Prop} : ∀ (es : List (List PV)), (∀ c ∈ es, ∃ a, VFs (e a) c ∧ Q a) → ∃ l : List α, l.length = es.length ∧ VFss (l.map e) es ∧ ∀ a ∈ l, Q a
  | [], _ => ⟨[], rfl, .nil, fun a ha => by cases ha⟩
  | c :: es, h => by
    obtain ⟨a, h1, h2⟩ := h c (List.mem_cons_self ..)
    obtain ⟨l, h3, h4, h5⟩ := VFss.of_each es fun c hc => h c (List.mem_cons_of_mem _ hc)
    refine ⟨a :: l, by simp [h3], .cons h1 h4, fun b hb => ?_⟩
    rcases List.mem_cons.1 hb with rfl | hb
    · exact h2
    · exact h5 b hb
theorem ArgK.int {P : Program} {t : TypeId} {k : IntKind} (h : P.underlying t = some (.int k)) : ArgK P t (fun n : Int => [.int k n]) (fun n => k.min ≤ n ∧ n ≤ k.max) := fun top n c hw => by
  obtain ⟨x, rfl, hx⟩ := wt_int h hw
  exact ⟨x, .cons (.base _ rfl) .nil, hx⟩
theorem ArgK.slice {α : Type} {P : Program} {t el : TypeId} {e : α → List PV} {Q : α → Prop} (hu : P.underlying t = some (.slice el)) (h0 : P.cellsOf el ≠ 0) (he : ArgK P el e Q) :
    ArgK P t (fun l : List α => [.psl false (l.map e)]) (fun l => l.length * P.bytesOf el ≤ reachBytes ∧ ∀ a ∈ l, Q a) := fun top n c h => by
  cases n with
  | zero => exact h.elim
  | succ n =>
    unfold WT at h
    rw [hu] at h
    rcases h with h | ⟨es, h1, _, h2, h3⟩ | ⟨_, h1, _⟩
    · exact ⟨[], by rw [h]; exact .cons (.nl false) .nil, by simp, fun a ha => by cases ha⟩
    · obtain ⟨l, q1, q2, q3⟩ := VFss.of_each (e := e) (Q := Q) es fun c hc => he _ n c (h3 c hc).2
      exact ⟨l, by rw [h1]; exact .cons (.psl _ _ q2) .nil, by rw [q1]; exact h2, q3⟩
    · exact absurd h1 h0
/-- An argument that is one cell. -/
theorem ArgK.one {α : Type} {P : Program} {t : TypeId} {e : α → PV} {Q : α → Prop} (he : ArgK P t (fun a => [e a]) Q) (hs : aggD ((P.underlying t).getD .bool) = false) {v : PV} (h : WTV P t v) : ∃ a, VF (e a) v ∧ Q a := by
  obtain ⟨n, h⟩ := h
  rw [hs] at h
  obtain ⟨a, h1, h2⟩ := he _ _ _ h
  cases h1 with
  | cons h1 _ => exact ⟨a, h1, h2⟩
/-- An argument that is many. -/
theorem ArgK.many {α : Type} {P : Program} {t : TypeId} {e : α → List PV} {Q : α → Prop} (he : ArgK P t e Q) (hs : aggD ((P.underlying t).getD .bool) = true) {v : PV} (h : WTV P t v) : ∃ a, VF (.agg (e a)) v ∧ Q a := by
  obtain ⟨n, h⟩ := h
  rw [hs] at h
  obtain ⟨cs, rfl, h⟩ := h
  obtain ⟨a, h1, h2⟩ := he _ _ _ h
  exact ⟨a, .agg h1, h2⟩
theorem VFs.append {a b c d : List PV} (h : VFs a b) (h' : VFs c d) : VFs (a ++ c) (b ++ d) := by
  cases h with
  | nil => exact h'
  | cons h t => exact .cons h (VFs.append t h')
end Go.Pvm
