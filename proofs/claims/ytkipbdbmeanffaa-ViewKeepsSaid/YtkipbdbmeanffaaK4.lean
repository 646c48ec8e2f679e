/- Part of the proof: calls, and all operations, of the evaluator over values alone. -/
import Derived.Test.YtkipbdbmeanffaaK3
set_option linter.unusedSimpArgs false
set_option linter.unusedVariables false
namespace Go.Pvm

def SoundC (C : CallK) (Cω : CallO) : Prop := ∀ g args A r A', C g args A = some (r, A') → ∀ ρ pargs σ, KS ρ A args pargs σ → ∃ p σ' ρ', Cω g pargs σ = some (p, σ') ∧ KS ρ' A' [r] [p] σ' ∧ Go2 A.length ρ A σ ρ' A' σ'
def SoundL (L : LoopK) (Lω : LoopO) : Prop := ∀ f cd n0 env A x env' A', L f cd n0 env A = some (x, env', A') → ∀ ρ penv σ, KS ρ A env penv σ → ∃ penv' σ' ρ', Lω f cd penv σ = some (x, penv', σ') ∧ KS ρ' A' env' penv' σ' ∧ Go2 n0 ρ A σ ρ' A' σ'
def OwnOk (kc : KCfg) (Cω : CallO) : Prop := ∀ g sz h, kc.own g = some (sz, h) → ∀ args es, h args = some es → ∀ pargs, VFs args pargs → ∀ n, ∃ p τ, Cω g pargs (.at_ n) = some (p, τ) ∧ p.own = true ∧ ownObjs τ n = true ∧ n ≤ τ.next ∧ hdl p = true ∧ KOR (fun _ => .undef) 0 τ p (.made true sz es) ∧ ∀ i ∈ tops p, n ≤ i

section
variable {P : Program} {ρ ρ' : Nat → PV} {m : Nat} {A A' : List KO} {env penv : List PV} {σ σ' : Store} {β : Type} {r : β}

theorem KS.empty {args pargs : List PV} (h : VFs args pargs) (ρ : Nat → PV) (σ : Store) : KS ρ [] args pargs σ :=
  ⟨h.k, fun k hk => absurd hk (Nat.not_lt_zero _), fun k k' i hi => by cases hi⟩
theorem pcall_ok {C : CallK} {Cω : CallO} (hC : SoundC C Cω) {g : FuncId} {args pargs : List PV} {v : PV} (h : pcall C g args = some v) (ha : VFs args pargs) : ∃ p τ, Cω g pargs .empty = some (p, τ) ∧ VF v (fz fuelFz τ p) := by
  unfold pcall at h
  rw [Option.map_eq_some_iff] at h
  obtain ⟨⟨r, A'⟩, h1, h2⟩ := h
  obtain ⟨p, τ, ρ', q1, q2, _⟩ := hC g args [] r A' h1 (fun _ => .undef) pargs .empty (KS.empty ha _ _)
  refine ⟨p, τ, q1, ?_⟩
  rw [← h2]
  have := q2.env.getD 0
  exact fzK_ok q2 fuelFz this

/-! ### Objects known less -/
def WkO (o o' : KO) : Prop := (∀ ρ m σ u, KOR ρ m σ u o → KOR ρ m σ u o') ∧ (isDead o' = false → isDead o = false) ∧ (isBox o = true → isBox o' = true)
def WkA (A A' : List KO) : Prop := A'.length = A.length ∧ ∀ j, WkO (A.getD j .dead) (A'.getD j .dead)
theorem KS.wk (h : KS ρ A env penv σ) (hw : WkA A A') (n0 : Nat) : KS ρ A' env penv σ ∧ Go2 n0 ρ A σ ρ A' σ := by
  have hids : ∀ k i, i ∈ idsO A' ρ k → i ∈ idsO A ρ k := fun k i hi => by
    unfold idsO at hi ⊢
    split at hi
    · cases hi
    · rename_i hd
      rw [if_neg (by rw [(hw.2 k).2.1 (by simpa using hd)]; decide)]
      exact hi
  refine ⟨⟨by rw [hw.1]; exact h.env, fun k hk => ?_, fun k k' i hi hi' => h.dis k k' i (hids k i hi) (hids k' i hi')⟩, Nat.le_refl _, fun _ _ _ => rfl, fun k i hi => .inl ⟨k, hids k i hi⟩, fun hle => ⟨by rw [hw.1]; exact hle, fun k _ => ⟨(hw.2 k).2.2, fun hd => ⟨(hw.2 k).2.1 hd, rfl⟩⟩⟩⟩
  rw [hw.1] at hk ⊢
  exact (hw.2 k).1 _ _ _ _ (h.obj k hk)
theorem asObj_ok {s : OSk} {o : KO} {k : KO → Option β} (h : asObj s o k = some r) : ∃ o', k o' = some r ∧ WkO o o' := by
  unfold asObj at h
  split at h
  · unfold asGone at h
    split at h
    · cases h
    · rename_i hnb
      exact ⟨_, h, fun _ _ _ _ _ => trivial, (fun h => by cases h), fun hb => by cases o <;> first | (cases hb; done) | exact (hnb _ _ _ rfl).elim⟩
  · unfold asBox at h
    split at h
    · split at h
      · rename_i w t sk _ w' t' cs hc
        obtain ⟨hw, rfl⟩ := hc
        obtain ⟨cs', h1, h2, _⟩ := asSks_ok _ h
        refine ⟨_, h1, fun ρ m σ u ⟨id, pcs, ro, e, s1, s2, s3, s4⟩ => ⟨id, pcs, ro, e, s1, h2 _ _ _ s2, fun hwt => ?_, s4⟩, fun _ => rfl, fun _ => rfl⟩
        rcases hw with rfl | rfl
        · cases hwt
        · exact s3 hwt
      · cases h
    · cases h
  · unfold asMade at h
    split at h
    · split at h
      · rename_i w sz _ w' sz' es hc
        obtain ⟨hw, rfl⟩ := hc
        refine ⟨_, h, fun ρ m σ u ⟨q0, q1, q2⟩ => ⟨q0, q1, q2.imp (fun x => x) fun ⟨id, cap, ro, ps, e, s1, s2, s3, s4, s5, s6⟩ => ⟨id, cap, ro, ps, e, s1, s2, s3, s4, fun hwt => ?_, s6⟩⟩, fun h => h, fun h => h⟩
        rcases hw with rfl | rfl
        · cases hwt
        · exact s5 hwt
      · cases h
    · cases h
theorem asObjs_ok : ∀ {s : List OSk} {l : List KO} {k : List KO → Option β}, asObjs s l k = some r → ∃ l', k l' = some r ∧ WkA l l'
  | [], l, k, h => by
    unfold asObjs asONil at h
    split at h
    · exact ⟨[], h, rfl, fun j => ⟨fun _ _ _ _ h => h, fun h => h, fun h => h⟩⟩
    · cases h
  | s :: sr, l, k, h => by
    unfold asObjs asOCons at h
    split at h
    · rename_i o lr
      obtain ⟨o', h1, h2⟩ := asObj_ok h
      obtain ⟨l', h3, h4, h5⟩ := asObjs_ok h1
      refine ⟨_, h3, by simp [h4], fun j => ?_⟩
      cases j with
      | zero => exact h2
      | succ j => exact h5 j
    · cases h

/-! ### Numbers -/
theorem idxN_get : ∀ {l : List Nat} {k i : Nat}, idxN l k = some i → l[i]? = some k
  | [], _, _, e => by cases e
  | j :: r, k, i, e => by
    unfold idxN at e
    split at e
    · rename_i hjk; cases e; simp [hjk]
    · rw [Option.map_eq_some_iff] at e
      obtain ⟨i', e1, rfl⟩ := e
      simpa using idxN_get e1
theorem idxN_mem : ∀ {l : List Nat} {k : Nat}, k ∈ l → ∃ i, idxN l k = some i
  | j :: r, k, h => by
    unfold idxN
    by_cases hjk : j = k
    · exact ⟨0, by rw [if_pos hjk]⟩
    · rw [if_neg hjk]
      obtain ⟨i, hi⟩ := idxN_mem (l := r) (k := k) ((List.mem_cons.1 h).resolve_left (Ne.symm hjk))
      exact ⟨i + 1, by rw [hi]; rfl⟩
theorem nodupB_inj : ∀ {l : List Nat}, nodupB l = true → ∀ {i i' k : Nat}, l[i]? = some k → l[i']? = some k → i = i'
  | [], _, i, i', k, e, _ => by simp at e
  | j :: r, hb, i, i', k, e, e' => by
    unfold nodupB at hb
    rw [Bool.and_eq_true] at hb
    have hj : j ∉ r := by
      intro hm
      have := hb.1
      simp [hm] at this
    cases i with
    | zero =>
      cases i' with
      | zero => rfl
      | succ i' => simp at e e'; subst e; exact absurd (List.mem_of_getElem? e') hj
    | succ i =>
      cases i' with
      | zero => simp at e e'; subst e'; exact absurd (List.mem_of_getElem? e) hj
      | succ i' => rw [nodupB_inj hb.2 (i := i) (i' := i') (k := k) (by simpa using e) (by simpa using e')]
theorem idxN_of {l : List Nat} (h : nodupB l = true) {i k : Nat} (e : l[i]? = some k) : idxN l k = some i := by
  obtain ⟨i', hi⟩ := idxN_mem (List.mem_of_getElem? e)
  rw [hi, nodupB_inj h (idxN_get hi) e]

/-! ### A call in the store that there is -/
theorem liveKK_ok {kc : KCfg} {C : CallK} {Cω : CallO} (hC : SoundC C Cω) {g : FuncId} {args : List PV} {k : PV → List PV → List KO → Option β} (h : liveKK kc C g args env A k = some r) : ∃ v env' A', k v env' A' = some r ∧ env'.length = env.length ∧
    ∀ ρ penv σ n0 pargs, KS ρ A env penv σ → VKs ρ A.length args pargs → ∃ w σ', Cω g pargs σ = some (w, σ') ∧ Stp n0 ρ A σ v env' penv A' w σ' := by
  unfold liveKK at h
  rw [forceNats_eq] at h
  generalize reachK 64 A ((tops.topss args).foldl addN []) 0 = l at h
  simp only at h
  split at h
  · rename_i hc
    obtain ⟨hnd, hall⟩ := hc
    rw [forceVs_eq, forceA_eq, Option.bind_eq_some_iff] at h
    obtain ⟨⟨r0, A0'⟩, h1, h⟩ := h
    obtain ⟨v, h, hv1, _⟩ := asSk_ok _ h
    obtain ⟨A1, h, hw⟩ := asObjs_ok h
    split at h
    · rename_i hle
      rw [forceV_eq, forceVs_eq, forceA_eq] at h
      refine ⟨_, _, _, h, rnms_len _ _, fun ρ penv σ n0 pargs hK ha => ?_⟩
      have hlt : ∀ j ∈ l, j < A.length := fun j hj => by
        rw [List.all_eq_true] at hall
        simpa using hall j hj
      have hsub := (hK.withEnv ha).pack hnd hlt
      obtain ⟨p, σ', ρ1, q1, q2, q3⟩ := hC g _ _ r0 A0' h1 _ pargs σ hsub
      have q2' : KS ρ1 A0' [v] [p] σ' := q2.withEnv (.one (hv1 _ _ _ (q2.env.getD 0)))
      obtain ⟨q4, q5⟩ := q2'.wk hw (l.map fun j => rnmO (idxN l) (A.getD j .dead)).length
      have q6 := q3.trans q5
      refine ⟨p, σ', q1, ?_⟩
      clear q1 q2 q2' q3 q5 h1 h
      -- names
      generalize hA0 : (l.map fun j => rnmO (idxN l) (A.getD j .dead)) = A0 at q6
      have hA0l : A0.length = l.length := by rw [← hA0]; simp
      have hA0g : ∀ i k, l[i]? = some k → A0.getD i .dead = rnmO (idxN l) (A.getD k .dead) := fun i k e => by
        rw [← hA0, List.getD_eq_getElem?_getD, List.getElem?_map, e]; rfl
      have hA0n : ∀ i, l[i]? = none → A0.getD i .dead = .dead := fun i e => by
        rw [← hA0, List.getD_eq_getElem?_getD, List.getElem?_map, e]; rfl
      have hids0 : ∀ i x, x ∈ idsO A0 (fun i => ρ (l.getD i 0)) i → ∃ k, l[i]? = some k ∧ x ∈ idsO A ρ k := fun i x hx => by
        unfold idsO at hx
        cases hq : l[i]? with
        | none => rw [hA0n i hq] at hx; cases hx
        | some k =>
          rw [hA0g i k hq, rnmO_dead] at hx
          have : l.getD i 0 = k := by rw [List.getD_eq_getElem?_getD, hq]; rfl
          simp only [this] at hx
          exact ⟨k, rfl, hx⟩
      let b := backN l A.length
      let gone := l.filter fun j => match idxN l j with | some i => isDead (A1.getD i .dead) | none => true
      let ρ2 : Nat → PV := fun k => match idxN l k with
        | some i => ρ1 i
        | none => if k < A.length then ρ k else ρ1 (l.length + (k - A.length))
      let A2 := (List.range A.length).map (fun j => match idxN l j with
        | some i => rnmO b (A1.getD i .dead)
        | none => rnmO (killL gone) (A.getD j .dead)) ++ (A1.drop l.length).map (rnmO b)
      have hA2l : A2.length = A.length + (A1.length - l.length) := by simp [A2]
      have hA2a : ∀ k i, k < A.length → idxN l k = some i → A2.getD k .dead = rnmO b (A1.getD i .dead) := fun k i hk e => by
        rw [List.getD_eq_getElem?_getD, List.getElem?_append_left (by simpa using hk), List.getElem?_map, List.getElem?_range hk]
        simp [e]
      have hA2b : ∀ k, k < A.length → idxN l k = none → A2.getD k .dead = rnmO (killL gone) (A.getD k .dead) := fun k hk e => by
        rw [List.getD_eq_getElem?_getD, List.getElem?_append_left (by simpa using hk), List.getElem?_map, List.getElem?_range hk]
        simp [e]
      have hA2c : ∀ k, A.length ≤ k → A2.getD k .dead = rnmO b (A1.getD (l.length + (k - A.length)) .dead) := fun k hk => by
        rw [List.getD_eq_getElem?_getD, List.getElem?_append_right (by simpa using hk), List.getElem?_map, List.getElem?_drop]
        simp only [List.length_map, List.length_range, List.getD_eq_getElem?_getD]
        cases A1[l.length + (k - A.length)]? <;> rfl
      have hnone : ∀ k, A.length ≤ k → idxN l k = none := fun k hk => by
        cases hq : idxN l k with
        | none => rfl
        | some i => have := hlt k (List.mem_of_getElem? (idxN_get hq)); omega
      have hb : ∀ i k, i < A1.length → b i = some k → k < A2.length ∧ ρ2 k = ρ1 i := fun i k hi e => by
        have e : (if i < l.length then l[i]? else some (A.length + (i - l.length))) = some k := e
        split at e
        · rename_i hil
          have hk := hlt k (List.mem_of_getElem? e)
          exact ⟨by rw [hA2l]; omega, by simp only [ρ2, idxN_of hnd e]⟩
        · rename_i hil
          cases e
          refine ⟨by rw [hA2l]; omega, ?_⟩
          simp only [ρ2, hnone _ (Nat.le_add_right _ _)]
          rw [if_neg (by omega)]
          congr 1
          omega
      have hkill : ∀ k k', k < A.length → killL gone k = some k' → k' < A2.length ∧ ρ2 k' = ρ k := fun k k' hk e => by
        obtain ⟨rfl, hng⟩ := killF_ok e
        refine ⟨by rw [hA2l]; omega, ?_⟩
        cases hq : idxN l k' with
        | none => simp only [ρ2, hq]; rw [if_pos hk]
        | some i =>
          have hli := idxN_get hq
          have hdd : isDead (A1.getD i .dead) = false := by
            cases hbq : isDead (A1.getD i .dead) with
            | false => rfl
            | true => exact absurd (List.mem_filter.2 ⟨List.mem_of_getElem? hli, by rw [hq]; exact hbq⟩) hng
          have hil : i < l.length := (List.getElem?_eq_some_iff.1 hli).1
          have := (((q6.bx (Nat.le_refl _)).2 i (by rw [hA0l]; exact hil)).2 hdd).2
          simp only [ρ2, hq]
          rw [this, List.getD_eq_getElem?_getD, hli]; rfl
      have hids : ∀ k x, x ∈ idsO A2 ρ2 k → (∃ i, i < A1.length ∧ x ∈ idsO A1 ρ1 i ∧ b i = some k) ∨ (idxN l k = none ∧ k < A.length ∧ x ∈ idsO A ρ k) := fun k x hx => by
        unfold idsO at hx
        by_cases hk : k < A.length
        · cases hq : idxN l k with
          | some i =>
            have hli := idxN_get hq
            have hil : i < l.length := (List.getElem?_eq_some_iff.1 hli).1
            rw [hA2a k i hk hq, rnmO_dead] at hx
            simp only [ρ2, hq] at hx
            refine .inl ⟨i, by omega, hx, ?_⟩
            show (if i < l.length then l[i]? else some (A.length + (i - l.length))) = some k
            rw [if_pos hil, hli]
          | none =>
            rw [hA2b k hk hq, rnmO_dead] at hx
            simp only [ρ2, hq] at hx
            rw [if_pos hk] at hx
            exact .inr ⟨rfl, hk, hx⟩
        · rw [hA2c k (by omega), rnmO_dead] at hx
          simp only [ρ2, hnone k (by omega)] at hx
          rw [if_neg hk] at hx
          have hx' : x ∈ idsO A1 ρ1 (l.length + (k - A.length)) := hx
          have hi : l.length + (k - A.length) < A1.length := by
            refine Nat.lt_of_not_le fun hge => ?_
            unfold idsO at hx'
            rw [getD_out hge] at hx'
            cases hx'
          refine .inl ⟨_, hi, hx', ?_⟩
          show (if l.length + (k - A.length) < l.length then _ else some (A.length + (l.length + (k - A.length) - l.length))) = some k
          rw [if_neg (by omega)]
          congr 1
          omega
      have hmix : ∀ x i k, x ∈ idsO A1 ρ1 i → idxN l k = none → x ∈ idsO A ρ k → False := fun x i k h1 h2 h3 => by
        rcases q6.own i x h1 with ⟨i', e⟩ | e
        · obtain ⟨k', e1, e2⟩ := hids0 i' x e
          have := hK.dis k k' x h3 e2
          subst this
          rw [idxN_of hnd e1] at h2
          cases h2
        · have := hK.lt h3; omega
      refine ⟨ρ2, ⟨?_, fun k hk => ?_, fun k k' x hx hx' => ?_⟩, ?_, q6.nx, fun x hx hn => ?_, fun k x hx => ?_, fun hle => ⟨Nat.le_trans hle (Nat.le_trans (Nat.le_add_right _ _) (Nat.le_of_eq hA2l.symm)), fun k hk => ?_⟩⟩
      · exact hK.env.rnms hkill
      · show KOR ρ2 A2.length σ' (ρ2 k) (A2.getD k .dead)
        by_cases hkA : k < A.length
        · cases hq : idxN l k with
          | some i =>
            have hil : i < l.length := (List.getElem?_eq_some_iff.1 (idxN_get hq)).1
            rw [hA2a k i hkA hq]
            have : ρ2 k = ρ1 i := by simp only [ρ2, hq]
            rw [this]
            exact (q4.obj i (by omega)).rnm hb (Nat.le_refl _) fun _ _ _ => rfl
          | none =>
            rw [hA2b k hkA hq]
            have : ρ2 k = ρ k := by simp only [ρ2, hq]; rw [if_pos hkA]
            rw [this]
            refine (hK.obj k hkA).rnm hkill q6.nx fun hd x hx => ?_
            have hxk : x ∈ idsO A ρ k := by unfold idsO; rw [if_neg (by rw [hd]; decide)]; exact hx
            refine q6.fr x (hK.lt hxk) fun i hi => ?_
            obtain ⟨k', e1, e2⟩ := hids0 i x hi
            have := hK.dis k k' x hxk e2
            subst this
            rw [idxN_of hnd e1] at hq
            cases hq
        · rw [hA2c k (by omega)]
          have : ρ2 k = ρ1 (l.length + (k - A.length)) := by simp only [ρ2, hnone k (by omega)]; rw [if_neg hkA]
          rw [this]
          have hk : k < A2.length := hk
          rw [hA2l] at hk
          exact (q4.obj _ (by omega)).rnm hb (Nat.le_refl _) fun _ _ _ => rfl
      · rcases hids k x hx with ⟨i, h1, h2, h3⟩ | ⟨h1, h2, h3⟩
        · rcases hids k' x hx' with ⟨i', h4, h5, h6⟩ | ⟨h4, h5, h6⟩
          · have := q4.dis i i' x h2 h5
            subst this
            rw [h3] at h6
            exact Option.some.inj h6
          · exact (hmix x i k' h2 h4 h6).elim
        · rcases hids k' x hx' with ⟨i', h4, h5, h6⟩ | ⟨h4, h5, h6⟩
          · exact (hmix x i' k h5 h1 h3).elim
          · exact hK.dis k k' x h3 h6
      · exact (q4.env.getD 0).rnm hb
      · refine q6.fr x hx fun i hi => ?_
        obtain ⟨k', _, e2⟩ := hids0 i x hi
        exact hn k' e2
      · rcases hids k x hx with ⟨i, h1, h2, h3⟩ | ⟨h1, h2, h3⟩
        · rcases q6.own i x h2 with ⟨i', e⟩ | e
          · obtain ⟨k', _, e2⟩ := hids0 i' x e
            exact .inl ⟨k', e2⟩
          · exact .inr e
        · exact .inl ⟨k, h3⟩
      · have hkA : k < A.length := by omega
        show (isBox (A.getD k .dead) = true → isBox (A2.getD k .dead) = true) ∧ (isDead (A2.getD k .dead) = false → isDead (A.getD k .dead) = false ∧ ρ2 k = ρ k)
        cases hq : idxN l k with
        | some i =>
          have hli := idxN_get hq
          have hil : i < l.length := (List.getElem?_eq_some_iff.1 hli).1
          obtain ⟨g1, g2⟩ := (q6.bx (Nat.le_refl _)).2 i (by rw [hA0l]; exact hil)
          rw [hA0g i k hli, rnmO_box] at g1
          rw [hA0g i k hli, rnmO_dead] at g2
          rw [hA2a k i hkA hq, rnmO_box, rnmO_dead]
          refine ⟨g1, fun hd => ⟨(g2 hd).1, ?_⟩⟩
          simp only [ρ2, hq]
          rw [(g2 hd).2, List.getD_eq_getElem?_getD, hli]; rfl
        | none =>
          rw [hA2b k hkA hq, rnmO_box, rnmO_dead]
          exact ⟨fun h => h, fun h => ⟨h, by simp only [ρ2, hq]; rw [if_pos hkA]⟩⟩
    · cases h
  · cases h

/-! ### Calls -/
theorem callKK_ok {c : Cfg} {kc : KCfg} {C : CallK} {Cω : CallO} (hC : SoundC C Cω) (hO : OwnOk kc Cω) {g : FuncId} {args : List PV} {ty : TypeId} {k : PV → List PV → List KO → Option β} (h : callKK c kc C g args ty env A k = some r) : ∃ v env' A', k v env' A' = some r ∧ env'.length = env.length ∧
    ∀ ρ penv σ n0 pargs, KS ρ A env penv σ → VKs ρ A.length args pargs → ∃ w σ', (if enters c.P g = true then callv c Cω g pargs σ else none) = some (w, σ') ∧ Stp n0 ρ A σ v env' penv A' w σ' := by
  unfold callKK at h
  split at h
  · rename_i he
    simp only [if_pos he]
    split at h
    · -- by itself
      rename_i hm
      rw [forceVs_eq, Option.bind_eq_some_iff] at h
      obtain ⟨v0, h1, h⟩ := h
      obtain ⟨v, h, _, hv, hs⟩ := asSk_ok _ h
      have hfz : ∀ {ρ penv σ pargs}, KS ρ A env penv σ → VKs ρ A.length args pargs → VFs (args.map (fzK fuelFz A)) (pargs.map (fz fuelFz σ)) := fun hK ha => VFs.mapR ha fun _ _ q => fzK_ok hK fuelFz q
      have hcall : ∀ {pargs : List PV} {σ : Store} {p : PV} {τ : Store}, Cω g (pargs.map (fz fuelFz σ)) .empty = some (p, τ) → callv c Cω g pargs σ = (let r := fz fuelFz τ p; if r.scalar = true then some (r, σ) else if c.strict = true then (if PV.lf.lfs pargs = true then some (r, σ) else none) else (roAll (tops.topss pargs) σ).map fun σ' => (r, σ')) := fun e => by
        unfold callv
        rw [hm]
        simp only [e, Option.bind_some]
      split at h
      · rename_i hsc
        refine ⟨_, _, _, h, rfl, fun ρ penv σ n0 pargs hK ha => ?_⟩
        obtain ⟨p, τ, e1, e2⟩ := pcall_ok hC h1 (hfz hK ha)
        have hvp := hv _ e2
        obtain ⟨e3, e4⟩ := hvp.scalar (hs hsc)
        refine ⟨_, σ, ?_, ρ, hK, .fr hvp, Go2.refl _ _ _ _⟩
        rw [hcall e1]
        simp only
        rw [if_pos e4]
      · split at h
        · cases h
        rename_i hcl
        have hcl : PV.clean.cleans args = true := by simpa using hcl
        split at h
        · rename_i hst
          split at h
          · rename_i hlf
            refine ⟨_, _, _, h, rfl, fun ρ penv σ n0 pargs hK ha => ?_⟩
            obtain ⟨p, τ, e1, e2⟩ := pcall_ok hC h1 (hfz hK ha)
            refine ⟨fz fuelFz τ p, σ, ?_, ρ, hK, .fr (hv _ e2), Go2.refl _ _ _ _⟩
            rw [hcall e1]
            simp only
            rw [if_pos hst, if_pos (ha.lf_eq hcl hlf)]
            split <;> rfl
          · cases h
        · rename_i hst
          rw [Option.bind_eq_some_iff] at h
          obtain ⟨A', h2, h⟩ := h
          refine ⟨_, _, _, h, rfl, fun ρ penv σ n0 pargs hK ha => ?_⟩
          obtain ⟨p, τ, e1, e2⟩ := pcall_ok hC h1 (hfz hK ha)
          by_cases hps : (fz fuelFz τ p).scalar = true
          · obtain ⟨g1, g2⟩ := roK_weak _ h2 hK n0
            refine ⟨fz fuelFz τ p, σ, ?_, ρ, g1, .fr (hv _ e2), g2⟩
            rw [hcall e1]
            simp only
            rw [if_pos hps]
          · obtain ⟨σ', g0, g1, g2⟩ := roK_ok _ h2 hK n0
            refine ⟨fz fuelFz τ p, σ', ?_, ρ, g1, .fr (hv _ e2), g2⟩
            rw [hcall e1]
            simp only
            rw [if_neg hps, if_neg hst, ha.tops_eq hcl, g0]
            rfl
    · -- its answer its own
      rename_i hm
      split at h
      · rename_i sz f hf
        rw [forceVs_eq, Option.bind_eq_some_iff] at h
        obtain ⟨es, h1, h⟩ := h
        refine ⟨_, _, _, h, rfl, fun ρ penv σ n0 pargs hK ha => ?_⟩
        obtain ⟨p, τ, e1, e2, e3, e4, eh, e5, e6⟩ := hO g sz f hf _ es h1 (pargs.map (fz fuelFz σ)) (VFs.mapR ha fun _ _ q => fzK_ok hK fuelFz q) σ.next
        have hor : KOR (upd ρ A.length p) (A.length + 1) (σ.join τ) p (.made true sz es) := by
          obtain ⟨q0, q1, ⟨rfl, rfl⟩ | ⟨id, cap, ro, ps, rfl, s1, s2, s3, s4, s5, s6⟩⟩ := e5
          · exact ⟨q0, q1, .inl ⟨rfl, rfl⟩⟩
          · exact ⟨q0, q1, .inr ⟨id, cap, ro, ps, rfl, (join_new (e6 id (.head _))).trans s1, s2, s3, s4, s5, s6⟩⟩
        obtain ⟨g1, g2⟩ := hK.more (σ' := σ.join τ) (u := p) (o := .made true sz es) e4 (fun i hi => join_old hi) e6 hor n0
        refine ⟨p, σ.join τ, ?_, _, g1, ?_, g2⟩
        · unfold callv
          rw [hm]
          simp only [e1, Option.bind_some, e2, e3, Bool.and_self, if_true]
        · have : VK (upd ρ A.length p) (A ++ [KO.made true sz es]).length (.lsl A.length sz 0 0 none) (upd ρ A.length p A.length) := .whole (by simp) (by rw [upd_same]; exact eh)
          rw [upd_same] at this
          exact this
      · cases h
    · rename_i hm
      obtain ⟨v, env', A', h1, h2, h3⟩ := liveKK_ok hC h
      refine ⟨v, env', A', h1, h2, fun ρ penv σ n0 pargs hK ha => ?_⟩
      obtain ⟨w, σ', e1, e2⟩ := h3 ρ penv σ n0 pargs hK ha
      exact ⟨w, σ', by unfold callv; rw [hm]; exact e1, e2⟩
    · cases h
  · cases h
end
end Go.Pvm
