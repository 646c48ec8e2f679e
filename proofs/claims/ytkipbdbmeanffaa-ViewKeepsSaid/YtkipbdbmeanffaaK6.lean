/- Part of the proof: functions and loops of the evaluator over values alone. -/
import Derived.Test.YtkipbdbmeanffaaK5
set_option linter.unusedSimpArgs false
set_option linter.unusedVariables false
namespace Go.Pvm
section
variable {P : Program} {ρ ρ' : Nat → PV} {m : Nat} {A A' : List KO} {env penv : List PV} {σ σ' : Store} {β : Type} {r : β}

theorem closeKK_ok : ∀ (l : List Nat) {env : List PV} {A : List KO} {k : List PV → List KO → Option β}, closeKK l env A k = some r → ∃ env' A', k env' A' = some r ∧ env'.length = env.length ∧
    ∀ ρ penv σ n0, KS ρ A env penv σ → ∃ penv' σ' ρ', closeAll l penv σ = some (penv', σ') ∧ KS ρ' A' env' penv' σ' ∧ Go2 n0 ρ A σ ρ' A' σ'
  | [], env, A, k, h => ⟨_, _, h, rfl, fun ρ penv σ n0 hK => ⟨penv, σ, ρ, rfl, hK, Go2.refl _ _ _ _⟩⟩
  | t :: l, env, A, k, h => by
    unfold closeKK at h
    split at h
    · rename_i hcl
      rw [Option.bind_eq_some_iff] at h
      obtain ⟨A1, h1, h⟩ := h
      rw [forceV_eq, setL_eq] at h
      obtain ⟨e2, A2, h2, hl, h3⟩ := closeKK_ok l h
      refine ⟨e2, A2, h2, by rw [hl]; simp, fun ρ penv σ n0 hK => ?_⟩
      have ht := hK.env.getD t
      obtain ⟨σ1, g0, g1, g2⟩ := roK_ok _ h1 hK n0
      have hfz := fzK_ok hK fuelFz ht
      obtain ⟨penv', σ', ρ', g3, g4, g5⟩ := h3 ρ (penv.set t (fz fuelFz σ (penv.getD t .undef))) σ1 n0 (g1.withEnv (g1.env.set (.fr hfz) t))
      refine ⟨penv', σ', ρ', ?_, g4, g2.trans g5⟩
      unfold closeAll close1
      rw [ht.tops_eq hcl, g0]
      exact g3
    · cases h
theorem preKK_ok {c : Cfg} {f : FuncId} {id : Nat} {k : Bool → List PV → List KO → Option β} (h : preKK c f id env A k = some r) : ∃ b env' A', k b env' A' = some r ∧ env'.length = env.length ∧
    ∀ ρ penv σ n0, KS ρ A env penv σ → ∃ penv' σ' ρ', pre c f id penv σ = some (b, penv', σ') ∧ KS ρ' A' env' penv' σ' ∧ Go2 n0 ρ A σ ρ' A' σ' := by
  unfold preKK at h
  unfold pre
  split at h
  · rename_i hc
    exact ⟨_, _, _, h, rfl, fun ρ penv σ n0 hK => ⟨penv, σ, ρ, by rw [hc], hK, Go2.refl _ _ _ _⟩⟩
  · rename_i b zs hc
    obtain ⟨e, A', h1, hl, h2⟩ := closeKK_ok zs h
    refine ⟨b, e, A', h1, hl, fun ρ penv σ n0 hK => ?_⟩
    obtain ⟨penv', σ', ρ', g1, g2, g3⟩ := h2 ρ penv σ n0 hK
    exact ⟨penv', σ', ρ', by rw [hc]; simp only [g1, Option.map_some], g2, g3⟩

/-! ### Numbered anew -/
theorem packKK_ok {n : Nat} {k : List PV → List KO → Option β} (h : packKK (List.range n) env A k = some r) : ∃ env' A', k env' A' = some r ∧ env'.length = env.length ∧
    ∀ ρ penv σ, KS ρ A env penv σ → ∃ ρ', KS ρ' A' env' penv σ ∧ Go2 n ρ A σ ρ' A' σ := by
  unfold packKK at h
  rw [forceNats_eq] at h
  have hpre : ∀ (l0 l : List Nat) (i : Nat) (k : Nat), l0[i]? = some k → (∃ t, l = l0 ++ t) → l[i]? = some k := fun l0 l i k e ⟨t, ht⟩ => by
    rw [ht, List.getElem?_append_left (List.getElem?_eq_some_iff.1 e).1]; exact e
  have hadd : ∀ (x : List Nat) (l0 : List Nat), ∃ t, x.foldl addN l0 = l0 ++ t := by
    intro x
    induction x with
    | nil => intro l0; exact ⟨[], by simp⟩
    | cons a x ih =>
      intro l0
      obtain ⟨t, ht⟩ := ih (addN l0 a)
      rw [List.foldl_cons, ht]
      unfold addN
      split
      · exact ⟨t, rfl⟩
      · exact ⟨[a] ++ t, by rw [List.append_assoc]⟩
  have hreach : ∀ (n : Nat) (l0 : List Nat) (i : Nat), ∃ t, reachK n A l0 i = l0 ++ t := by
    intro n
    induction n with
    | zero => intro l0 i; exact ⟨[], by simp [reachK]⟩
    | succ n ih =>
      intro l0 i
      unfold reachK
      split
      · exact ⟨[], by simp⟩
      · split
        · rename_i cs _
          obtain ⟨t, ht⟩ := hadd (tops.topss cs) l0
          obtain ⟨t', ht'⟩ := ih ((tops.topss cs).foldl addN l0) (i + 1)
          exact ⟨t ++ t', by rw [ht', ht, List.append_assoc]⟩
        · exact ih l0 (i + 1)
  obtain ⟨t, ht⟩ : ∃ t, reachK 64 A ((tops.topss env).foldl addN (List.range n)) 0 = List.range n ++ t := by
    obtain ⟨t, ht⟩ := hadd (tops.topss env) (List.range n)
    obtain ⟨t', ht'⟩ := hreach 64 ((tops.topss env).foldl addN (List.range n)) 0
    exact ⟨t ++ t', by rw [ht', ht, List.append_assoc]⟩
  rw [ht] at h
  split at h
  · rename_i hc
    rw [forceVs_eq, forceA_eq] at h
    refine ⟨_, _, h, rnms_len _ _, fun ρ penv σ hK => ?_⟩
    have hlt : ∀ j ∈ List.range n ++ t, j < A.length := fun j hj => by
      have := hc.2
      rw [List.all_eq_true] at this
      simpa using this j hj
    have hp := hK.pack hc.1 hlt
    refine ⟨_, hp, Nat.le_refl _, fun _ _ _ => rfl, fun k x hx => ?_, fun hle => ⟨by simp, fun k hk => ?_⟩⟩
    · unfold idsO at hx
      rw [List.getD_eq_getElem?_getD, List.getElem?_map] at hx
      cases hq : (List.range n ++ t)[k]? with
      | none => rw [hq] at hx; cases hx
      | some j =>
        rw [hq] at hx
        simp only [Option.map_some, Option.getD_some, rnmO_dead] at hx
        have e : (List.range n ++ t).getD k 0 = j := by rw [List.getD_eq_getElem?_getD, hq]; rfl
        simp only [e] at hx
        exact .inl ⟨j, hx⟩
    · have hq : (List.range n ++ t)[k]? = some k := hpre (List.range n) _ k k (List.getElem?_range hk) ⟨t, rfl⟩
      have e : (List.range n ++ t).getD k 0 = k := by rw [List.getD_eq_getElem?_getD, hq]; rfl
      rw [List.getD_eq_getElem?_getD (l := List.map _ _), List.getElem?_map, hq]
      simp only [Option.map_some, Option.getD_some, rnmO_box, rnmO_dead, e]
      exact ⟨fun h => h, fun h => ⟨h, trivial⟩⟩
  · cases h
/-- More of what it has, all else being as it was. -/
structure More (ρ : Nat → PV) (A : List KO) (ρ' : Nat → PV) (A' : List KO) : Prop where
  len : A.length ≤ A'.length
  r : ∀ k, k < A.length → ρ' k = ρ k
  a : ∀ k, k < A.length → A'.getD k .dead = A.getD k .dead
theorem More.refl (ρ : Nat → PV) (A : List KO) : More ρ A ρ A := ⟨Nat.le_refl _, fun _ _ => rfl, fun _ _ => rfl⟩
theorem More.trans {ρ'' : Nat → PV} {A'' : List KO} (h : More ρ A ρ' A') (h' : More ρ' A' ρ'' A'') : More ρ A ρ'' A'' :=
  ⟨Nat.le_trans h.len h'.len, fun k hk => (h'.r k (Nat.lt_of_lt_of_le hk h.len)).trans (h.r k hk), fun k hk => (h'.a k (Nat.lt_of_lt_of_le hk h.len)).trans (h.a k hk)⟩
theorem promoV_ok : ∀ (offs : List (Nat × Nat)) {cs pcs : List PV} {A : List KO} {ρ : Nat → PV}, KS ρ A env penv σ → VKs ρ A.length cs pcs → ∀ n0,
    ∃ ρ', KS ρ' (promoV offs cs A).2 env penv σ ∧ VKs ρ' (promoV offs cs A).2.length (promoV offs cs A).1 pcs ∧ Go2 n0 ρ A σ ρ' (promoV offs cs A).2 σ ∧ More ρ A ρ' (promoV offs cs A).2
  | [], cs, pcs, A, ρ, hK, hc, n0 => ⟨ρ, hK, hc, Go2.refl _ _ _ _, More.refl _ _⟩
  | (o, sz) :: offs, cs, pcs, A, ρ, hK, hc, n0 => by
    show ∃ ρ', KS ρ' (promoV offs (promo1 cs A o sz).1 (promo1 cs A o sz).2).2 env penv σ ∧ VKs ρ' (promoV offs (promo1 cs A o sz).1 (promo1 cs A o sz).2).2.length (promoV offs (promo1 cs A o sz).1 (promo1 cs A o sz).2).1 pcs ∧ Go2 n0 ρ A σ ρ' (promoV offs (promo1 cs A o sz).1 (promo1 cs A o sz).2).2 σ ∧ More ρ A ρ' (promoV offs (promo1 cs A o sz).1 (promo1 cs A o sz).2).2
    have same : ∀ x : List PV × List KO, x = (cs, A) → ∃ ρ', KS ρ' (promoV offs x.1 x.2).2 env penv σ ∧ VKs ρ' (promoV offs x.1 x.2).2.length (promoV offs x.1 x.2).1 pcs ∧ Go2 n0 ρ A σ ρ' (promoV offs x.1 x.2).2 σ ∧ More ρ A ρ' (promoV offs x.1 x.2).2 := fun x hx => by
      rw [hx]; exact promoV_ok offs hK hc n0
    have fin : ∀ x : List PV × List KO, promo1 cs A o sz = x → ∃ ρ', KS ρ' (promoV offs x.1 x.2).2 env penv σ ∧ VKs ρ' (promoV offs x.1 x.2).2.length (promoV offs x.1 x.2).1 pcs ∧ Go2 n0 ρ A σ ρ' (promoV offs x.1 x.2).2 σ ∧ More ρ A ρ' (promoV offs x.1 x.2).2 := fun x hx => by
      unfold promo1 at hx
      split at hx
      · rename_i hq
        have stay : ∀ {m : Nat} {ρ : Nat → PV} {u : PV} {p : PV}, pcs[o]? = some p → VKs ρ m cs pcs → VK ρ m u p → VKs ρ m (cs.set o u) pcs := fun {m ρ u p} hp hc hu => by
          have q := hc.set hu o
          have e : pcs.set o p = pcs := by
            refine List.ext_getElem? fun i => ?_
            by_cases hi : o = i
            · subst hi; rw [hp, List.getElem?_set_self (List.getElem?_eq_some_iff.1 hp).1]
            · rw [List.getElem?_set_ne hi]
          rw [e] at q
          exact q
        split at hx
        · subst hx
          obtain ⟨p, hp, hv⟩ := hc.get hq
          have hpn := hv.nilsl_eq
          subst hpn
          exact promoV_ok offs hK (stay hp hc (.fr (.nl false))) n0
        · rename_i hsz
          subst hx
          obtain ⟨h1, h2⟩ := hK.more (σ' := σ) (u := .nilsl) (o := .made true sz []) (Nat.le_refl _) (fun _ _ => rfl) (fun i hi => by cases hi) ⟨hsz, rfl, .inl ⟨rfl, rfl⟩⟩ n0
          obtain ⟨p, hp, hv⟩ := hc.get hq
          have hpn := hv.nilsl_eq
          subst hpn
          have hw : VK (upd ρ A.length .nilsl) (A ++ [KO.made true sz []]).length (whole A.length sz) .nilsl := by
            have : VK (upd ρ A.length .nilsl) (A ++ [KO.made true sz []]).length (.lsl A.length sz 0 0 none) (upd ρ A.length .nilsl A.length) := .whole (by simp) (by rw [upd_same]; rfl)
            rw [upd_same] at this
            exact this
          have hm : More ρ A (upd ρ A.length .nilsl) (A ++ [KO.made true sz []]) := ⟨by simp, fun k hk => upd_other _ (by omega), fun k hk => getD_app hk⟩
          have hc' : VKs (upd ρ A.length .nilsl) (A ++ [KO.made true sz []]).length (cs.set o (whole A.length sz)) pcs := by
            have q := (hc.mono hm.len hm.r).set hw o
            have e : pcs.set o .nilsl = pcs := by
              refine List.ext_getElem? fun i => ?_
              by_cases hi : o = i
              · subst hi; rw [hp, List.getElem?_set_self (List.getElem?_eq_some_iff.1 hp).1]
              · rw [List.getElem?_set_ne hi]
            rw [e] at q
            exact q
          obtain ⟨ρ', g1, g2, g3, g4⟩ := promoV_ok offs h1 hc' n0
          exact ⟨ρ', g1, g2, h2.trans g3, hm.trans g4⟩
      · exact same x hx.symm
    exact fin _ rfl
theorem promoS_ok (pl : List Nat) : ∀ (l : List (Nat × TypeId)) {env : List PV} {A : List KO} {ρ : Nat → PV}, KS ρ A env penv σ → ∀ n0, ∃ ρ', KS ρ' (promoS P pl l env A).2 (promoS P pl l env A).1 penv σ ∧ Go2 n0 ρ A σ ρ' (promoS P pl l env A).2 σ
  | [], env, A, ρ, hK, n0 => ⟨ρ, hK, Go2.refl _ _ _ _⟩
  | (i, t) :: l, env, A, ρ, hK, n0 => by
    have fin : ∀ {x : PV} (cs : List PV) (mk : List PV → PV), env.getD i .undef = x → i < env.length → (∀ ρ m p, VK ρ m x p → ∃ pcs, VKs ρ m cs pcs ∧ ∀ ρ' m' cs', VKs ρ' m' cs' pcs → VK ρ' m' (mk cs') p) →
        ∃ ρ', KS ρ' (promoS P pl l (env.set i (mk (promoV (plOffs (pl.contains (2000000 + i)) (slOffs P 8 t 0)) cs A).1)) (promoV (plOffs (pl.contains (2000000 + i)) (slOffs P 8 t 0)) cs A).2).2 (promoS P pl l (env.set i (mk (promoV (plOffs (pl.contains (2000000 + i)) (slOffs P 8 t 0)) cs A).1)) (promoV (plOffs (pl.contains (2000000 + i)) (slOffs P 8 t 0)) cs A).2).1 penv σ ∧ Go2 n0 ρ A σ ρ' (promoS P pl l (env.set i (mk (promoV (plOffs (pl.contains (2000000 + i)) (slOffs P 8 t 0)) cs A).1)) (promoV (plOffs (pl.contains (2000000 + i)) (slOffs P 8 t 0)) cs A).2).2 σ := by
      intro x cs mk hx hi hcs
      have hxi := hK.env.getD i
      rw [hx] at hxi
      obtain ⟨pcs, h1, h2⟩ := hcs _ _ _ hxi
      obtain ⟨ρ1, g1, g2, g3, _⟩ := promoV_ok (plOffs (pl.contains (2000000 + i)) (slOffs P 8 t 0)) hK h1 n0
      have hset : VKs ρ1 (promoV (plOffs (pl.contains (2000000 + i)) (slOffs P 8 t 0)) cs A).2.length (env.set i (mk (promoV (plOffs (pl.contains (2000000 + i)) (slOffs P 8 t 0)) cs A).1)) penv := by
        have q := g1.env.set (h2 _ _ _ g2) i
        have e : penv.set i (penv.getD i .undef) = penv := by
          refine List.ext_getElem? fun j => ?_
          by_cases hj : i = j
          · subst hj
            have hil : i < penv.length := by rw [← hK.env.len]; exact hi
            rw [List.getElem?_set_self hil, List.getD_eq_getElem?_getD, List.getElem?_eq_getElem hil]; rfl
          · rw [List.getElem?_set_ne hj]
        rw [e] at q
        exact q
      obtain ⟨ρ', g4, g5⟩ := promoS_ok pl l (g1.withEnv hset) n0
      exact ⟨ρ', g4, g3.trans g5⟩
    have hil : ∀ {x : PV}, env.getD i .undef = x → x.known = true → i < env.length := fun hx hk => by
      refine Nat.lt_of_not_le fun hge => ?_
      rw [List.getD_eq_getElem?_getD, List.getElem?_eq_none hge] at hx
      subst hx
      cases hk
    unfold promoS
    split
    · rename_i cs hx
      exact fin cs .agg hx (hil hx rfl) fun ρ m p hp => by
        obtain ⟨ps, rfl, hq⟩ := hp.agg_inv
        exact ⟨ps, hq, fun _ _ _ h => .agg h⟩
    · rename_i hx
      exact fin [.nilsl] (fun cs => cs.headD .nilsl) hx (hil hx rfl) fun ρ m p hp => by
        rw [hp.nilsl_eq]
        refine ⟨[.nilsl], .one (.fr (.base _ rfl)), fun ρ' m' cs' h => ?_⟩
        cases h with
        | cons a b => exact a
    · exact promoS_ok pl l hK n0
theorem promoB_ok (pl : List Nat) : ∀ (l : List Nat) {A : List KO} {ρ : Nat → PV}, KS ρ A env penv σ → ∀ n0, ∃ ρ', KS ρ' (promoB P pl l A) env penv σ ∧ Go2 n0 ρ A σ ρ' (promoB P pl l A) σ
  | [], A, ρ, hK, n0 => ⟨ρ, hK, Go2.refl _ _ _ _⟩
  | k :: l, A, ρ, hK, n0 => by
    unfold promoB
    split
    · rename_i w t cs hj
      have hd : isDead (A.getD k .dead) = false := by rw [hj]; rfl
      obtain ⟨id, pcs, ro, e, s1, s2, s3, s4⟩ := hK.get (getD_lt hd) hj
      obtain ⟨ρ1, g1, g2, g3, g4⟩ := promoV_ok (plOffs (pl.contains (1000000 + t)) (slOffs P 8 t 0)) hK s2 n0
      have hkl := getD_lt hd
      have hj' : (promoV (plOffs (pl.contains (1000000 + t)) (slOffs P 8 t 0)) cs A).2.getD k .dead = .box w t cs := by rw [g4.a k hkl, hj]
      obtain ⟨h1, h2⟩ := g1.put (σ' := σ) (j := k) (o := .box w t (promoV (plOffs (pl.contains (1000000 + t)) (slOffs P 8 t 0)) cs A).1) (by rw [hj']; rfl) (Nat.le_refl _) (fun _ _ _ => rfl) ⟨id, pcs, ro, by rw [g4.r k hkl]; exact e, s1, g2, s3, s4⟩ (fun _ => rfl) n0
      obtain ⟨ρ', g5, g6⟩ := promoB_ok pl l h1 n0
      exact ⟨ρ', g5, (g3.trans h2).trans g6⟩
    · exact promoB_ok pl l hK n0
theorem promoS_len (pl : List Nat) : ∀ (l : List (Nat × TypeId)) (env : List PV) (A : List KO), (promoS P pl l env A).1.length = env.length
  | [], _, _ => rfl
  | (i, t) :: l, env, A => by
    unfold promoS
    split
    · rw [promoS_len pl l]; simp
    · rw [promoS_len pl l]; simp
    · exact promoS_len pl l _ _
theorem wkA_ok : ∀ (l : List Nat) (A : List KO), WkA A (wkA l A)
  | [], A => ⟨rfl, fun j => ⟨fun _ _ _ _ h => h, fun h => h, fun h => h⟩⟩
  | i :: l, A => by
    unfold wkA
    split
    · rename_i w sz es hj
      obtain ⟨h1, h2⟩ := wkA_ok l (A.set i (.made false sz es))
      have hil : i < A.length := getD_lt (by rw [hj]; rfl)
      refine ⟨by rw [h1]; simp, fun j => ?_⟩
      obtain ⟨a, b, c⟩ := h2 j
      by_cases hji : j = i
      · subst hji
        rw [getD_set hil] at a b c
        rw [hj]
        refine ⟨fun ρ m σ u ⟨q0, q1, q2⟩ => a ρ m σ u ⟨q0, q1, q2.imp (fun x => x) fun ⟨id, cap, ro, ps, e, s1, s2, s3, s4, s5, s6⟩ => ⟨id, cap, ro, ps, e, s1, s2, s3, s4, (fun hwt => by cases hwt), s6⟩⟩, fun h => rfl, fun h => by cases h⟩
      · rw [getD_set_ne hji] at a b c
        exact ⟨a, b, c⟩
    · exact wkA_ok l A
theorem mvA_ok : ∀ (l : List Nat) {env : List PV} {A : List KO} {ρ : Nat → PV}, KS ρ A env penv σ → ∀ n0, ∃ ρ', KS ρ' (mvA l env A).2 (mvA l env A).1 penv σ ∧ Go2 n0 ρ A σ ρ' (mvA l env A).2 σ
  | [], env, A, ρ, hK, n0 => ⟨ρ, hK, Go2.refl _ _ _ _⟩
  | j :: l, env, A, ρ, hK, n0 => by
    unfold mvA
    split
    · rename_i w sz es hj
      have hd : isDead (A.getD j .dead) = false := by rw [hj]; rfl
      obtain ⟨g1, g2⟩ := hK.renew (σ' := σ) (f := mvF j A.length) (j := j) (u := ρ j) (o := .made w sz es) hd (by rw [hj]; rfl) (fun k k' hk e => by
          unfold mvF at e
          split at e
          · rename_i hkj
            cases e
            exact ⟨by omega, by rw [upd_same, hkj]⟩
          · cases e
            exact ⟨by omega, upd_other _ (by omega)⟩)
        (Nat.le_refl _) (fun _ _ _ => rfl) (fun i hi => .inl hi) (hK.get (getD_lt hd) hj) n0
      obtain ⟨ρ', g3, g4⟩ := mvA_ok l g1 n0
      exact ⟨ρ', g3, g2.trans g4⟩
    · exact mvA_ok l hK n0
theorem mvA_len : ∀ (l : List Nat) (env : List PV) (A : List KO), (mvA l env A).1.length = env.length
  | [], _, _ => rfl
  | j :: l, env, A => by
    unfold mvA
    split
    · rw [mvA_len l, rnms_len]
    · exact mvA_len l _ _
theorem headKK_ok {n0 : Nat} {tys : List (Nat × TypeId)} {wk : List Nat × List Nat} {k : List PV → List KO → Option β} (h : headKK P n0 tys wk env A k = some r) : ∃ env' A', k env' A' = some r ∧ env'.length = env.length ∧
    ∀ ρ penv σ, KS ρ A env penv σ → ∃ ρ', KS ρ' A' env' penv σ ∧ Go2 n0 ρ A σ ρ' A' σ := by
  unfold headKK at h
  simp only [forceVs_eq, forceA_eq] at h
  obtain ⟨e, A', h1, hl, h2⟩ := packKK_ok h
  refine ⟨e, _, h1, by rw [hl, mvA_len, promoS_len], fun ρ penv σ hK => ?_⟩
  obtain ⟨ρ1, g1, g2⟩ := promoS_ok (P := P) wk.2 tys hK n0
  obtain ⟨ρ2, g3, g4⟩ := promoB_ok (P := P) wk.2 _ g1 n0
  obtain ⟨ρ2', g3', g4'⟩ := mvA_ok wk.2 g3 n0
  obtain ⟨ρ3, g5, g6⟩ := h2 ρ2' penv σ g3'
  obtain ⟨g7, g8⟩ := g5.wk (wkA_ok wk.1 A') n0
  exact ⟨ρ3, g7, (((g2.trans g4).trans g4').trans g6).trans g8⟩

/-! ### Code -/
theorem keepN_ok (he : VKs ρ m env penv) (n : Nat) (l : List Nat) : VKs ρ m (keepN n l env) (keepN n l penv) := by
  refine .map _ fun i _ => ?_
  show VK ρ m (if l.contains i = true then env.getD i .undef else .undef) (if l.contains i = true then penv.getD i .undef else .undef)
  split
  · exact he.getD i
  · exact .undef _
theorem asEnv_ok {sk : List (Nat × Sk)} {ml : List Nat} {e : List PV} : ∀ (is : List Nat) {k : List PV → Option β}, asEnv sk ml e is k = some r → ∃ vs, k vs = some r ∧ vs.length = is.length ∧ ∀ ρ m pe, VKs ρ m e pe → VKs ρ m vs (is.map fun i => if ml.contains i = true then pe.getD i .undef else .undef)
  | [], k, h => ⟨[], h, rfl, fun _ _ _ _ => .nil⟩
  | i :: is, k, h => by
    unfold asEnv at h
    split at h
    · rename_i s hf
      obtain ⟨v', h1, h2, _⟩ := asSk_ok _ h
      obtain ⟨vs, h3, hl, h4⟩ := asEnv_ok is h1
      refine ⟨_, h3, by simp [hl], fun ρ m pe hp => .cons ?_ (h4 ρ m pe hp)⟩
      split at hf
      · rename_i hc
        show VK ρ m v' (if ml.contains i = true then pe.getD i .undef else .undef)
        rw [if_pos hc]
        exact h2 _ _ _ (hp.getD i)
      · cases hf
    · obtain ⟨vs, h3, hl, h4⟩ := asEnv_ok is h
      exact ⟨_, h3, by simp [hl], fun ρ m pe hp => .cons (.undef _) (h4 ρ m pe hp)⟩
theorem setB_ok {cd : Operand} {b : Bool} {k : List PV → Option β} (h : opd env cd = .bool b) : setB env cd b k = k env := setB_same h
theorem evalKK_ok {c : Cfg} {kc : KCfg} {C : CallK} {L : LoopK} {Cω : CallO} {Lω : LoopO} (hC : SoundC C Cω) (hL : SoundL L Lω) (hO : OwnOk kc Cω) {f : FuncId} {n0 : Nat} : ∀ (cd : Code) {env : List PV} {A : List KO} {k : Ex → List PV → List KO → Option β}, evalKK c kc C L f n0 cd env A k = some r →
    ∃ x env' A', k x env' A' = some r ∧ env'.length = env.length ∧ ∀ ρ penv σ, KS ρ A env penv σ → ∃ penv' σ' ρ', evalCode c Cω Lω f cd penv σ = some (x, penv', σ') ∧ KS ρ' A' env' penv' σ' ∧ Go2 n0 ρ A σ ρ' A' σ'
  | .skip, env, A, k, h | .label _, env, A, k, h | .exit _, env, A, k, h | .ret, env, A, k, h => ⟨_, _, _, h, rfl, fun ρ penv σ hK => ⟨penv, σ, ρ, rfl, hK, Go2.refl _ _ _ _⟩⟩
  | .region id ops draw, env, A, k, h => by
    simp only [evalKK] at h
    obtain ⟨b, e0, A0, h, hl0, h0⟩ := preKK_ok h
    simp only [evalCode]
    unfold evalReg
    split at h
    · rename_i hd
      simp only [if_pos hd]
      split at h
      · rename_i hk
        rw [Bool.and_eq_true] at hk
        have hk' : (drawOk { c.at_ f with calm := b, calmA := calmOf c f id ops.toList } ops.toList && edgesOk ops.toList) = true := by rw [drawOkK_ok hk.1, hk.2]; rfl
        obtain ⟨e, A', h1, hl, h2⟩ := opsKK_ok (Cω := Cω) hC hO _ h
        refine ⟨_, _, _, h1, by rw [hl, hl0], fun ρ penv σ hK => ?_⟩
        obtain ⟨penv0, σ0, ρ0, g1, g2, g3⟩ := h0 ρ penv σ n0 hK
        obtain ⟨penv', σ', ρ', g4, g5, g6⟩ := h2 ρ0 penv0 σ0 n0 g2
        refine ⟨penv', σ', ρ', ?_, g5, g3.trans g6⟩
        rw [g1]
        simp only [Option.bind_some]
        rw [if_pos hk', g4]
        rfl
      · cases h
    · rename_i hd
      simp only [if_neg hd]
      obtain ⟨e, A', h1, hl, h2⟩ := opsKK_ok (Cω := Cω) hC hO _ h
      refine ⟨_, _, _, h1, by rw [hl, hl0], fun ρ penv σ hK => ?_⟩
      obtain ⟨penv0, σ0, ρ0, g1, g2, g3⟩ := h0 ρ penv σ n0 hK
      obtain ⟨penv', σ', ρ', g4, g5, g6⟩ := h2 ρ0 penv0 σ0 n0 g2
      refine ⟨penv', σ', ρ', ?_, g5, g3.trans g6⟩
      rw [g1]
      simp only [Option.bind_some]
      rw [g4]
      rfl
  | .seq a b, env, A, k, h => by
    simp only [evalKK] at h
    obtain ⟨x, e, A1, h1, hl1, h2⟩ := evalKK_ok hC hL hO a h
    simp only [evalCode]
    cases x with
    | normal =>
      obtain ⟨x', e', A2, h3, hl2, h4⟩ := evalKK_ok hC hL hO b h1
      refine ⟨x', e', A2, h3, by rw [hl2, hl1], fun ρ penv σ hK => ?_⟩
      obtain ⟨penv1, σ1, ρ1, g1, g2, g3⟩ := h2 ρ penv σ hK
      obtain ⟨penv2, σ2, ρ2, g4, g5, g6⟩ := h4 ρ1 penv1 σ1 g2
      exact ⟨penv2, σ2, ρ2, by rw [g1]; exact g4, g5, g3.trans g6⟩
    | exit i =>
      refine ⟨_, e, A1, h1, hl1, fun ρ penv σ hK => ?_⟩
      obtain ⟨penv1, σ1, ρ1, g1, g2, g3⟩ := h2 ρ penv σ hK
      exact ⟨penv1, σ1, ρ1, by rw [g1]; rfl, g2, g3⟩
    | ret =>
      refine ⟨_, e, A1, h1, hl1, fun ρ penv σ hK => ?_⟩
      obtain ⟨penv1, σ1, ρ1, g1, g2, g3⟩ := h2 ρ penv σ hK
      exact ⟨penv1, σ1, ρ1, by rw [g1]; rfl, g2, g3⟩
  | .cond cd a b, env, A, k, h => by
    simp only [evalKK] at h
    simp only [evalCode]
    split at h
    · rename_i t ht
      have hb : ∀ {ρ penv σ}, KS ρ A env penv σ → opd penv cd = .bool t := fun hK => by
        have := opd_ok hK.env cd
        rw [ht] at this
        exact this.bool_eq
      split at h
      · rename_i htt
        subst htt
        rw [setB_ok ht] at h
        obtain ⟨x, e, A1, h1, hl1, h2⟩ := evalKK_ok hC hL hO a h
        refine ⟨x, e, A1, h1, hl1, fun ρ penv σ hK => ?_⟩
        obtain ⟨penv1, σ1, ρ1, g1, g2⟩ := h2 ρ penv σ hK
        exact ⟨penv1, σ1, ρ1, by rw [hb hK]; exact g1, g2⟩
      · rename_i htt
        have htf : t = false := by simpa using htt
        subst htf
        rw [setB_ok ht] at h
        obtain ⟨x, e, A1, h1, hl1, h2⟩ := evalKK_ok hC hL hO b h
        refine ⟨x, e, A1, h1, hl1, fun ρ penv σ hK => ?_⟩
        obtain ⟨penv1, σ1, ρ1, g1, g2⟩ := h2 ρ penv σ hK
        exact ⟨penv1, σ1, ρ1, by rw [hb hK]; exact g1, g2⟩
    · cases h
  | .block id cd, env, A, k, h => by
    simp only [evalKK] at h
    obtain ⟨x, e, A1, h1, hl1, h2⟩ := evalKK_ok hC hL hO cd h
    simp only [evalCode]
    cases x with
    | normal =>
      refine ⟨_, e, A1, h1, hl1, fun ρ penv σ hK => ?_⟩
      obtain ⟨penv1, σ1, ρ1, g1, g2⟩ := h2 ρ penv σ hK
      exact ⟨penv1, σ1, ρ1, by rw [g1]; rfl, g2⟩
    | ret =>
      refine ⟨_, e, A1, h1, hl1, fun ρ penv σ hK => ?_⟩
      obtain ⟨penv1, σ1, ρ1, g1, g2⟩ := h2 ρ penv σ hK
      exact ⟨penv1, σ1, ρ1, by rw [g1]; rfl, g2⟩
    | exit i =>
      simp only at h1
      split at h1
      · rename_i hi
        refine ⟨_, e, A1, h1, hl1, fun ρ penv σ hK => ?_⟩
        obtain ⟨penv1, σ1, ρ1, g1, g2⟩ := h2 ρ penv σ hK
        exact ⟨penv1, σ1, ρ1, by rw [g1]; simp only [Option.map_some]; rw [if_pos hi], g2⟩
      · rename_i hi
        refine ⟨_, e, A1, h1, hl1, fun ρ penv σ hK => ?_⟩
        obtain ⟨penv1, σ1, ρ1, g1, g2⟩ := h2 ρ penv σ hK
        exact ⟨penv1, σ1, ρ1, by rw [g1]; simp only [Option.map_some]; rw [if_neg hi], g2⟩
  | .loop cd, env, A, k, h => by
    simp only [evalKK] at h
    simp only [evalCode]
    split at h
    · rename_i hd l hm
      obtain ⟨e0, A0, h, hl0, h0⟩ := headKK_ok h
      rw [Option.bind_eq_some_iff] at h
      obtain ⟨⟨x, e, A1⟩, h1, h2⟩ := h
      have key : ∀ {sk : List (Nat × Sk)} {os : List OSk} {ml : List Nat} {kk : List PV → List KO → Option β}, (asEnv sk ml e (List.range env.length) fun e => asObjs os A1 fun A => kk e A) = some r → (outOf l x).map (·.1) = ml →
          ∃ e' A', kk e' A' = some r ∧ e'.length = env.length ∧ ∀ ρ penv σ, KS ρ A env penv σ → ∃ penv' σ' ρ', (Lω f cd (headM c f cd penv.length penv) σ).map (fun (x, e, s) => (x, outM c f cd x penv.length e, s)) = some (x, penv', σ') ∧ KS ρ' A' e' penv' σ' ∧ Go2 n0 ρ A σ ρ' A' σ' := by
        intro sk os ml kk hh hml
        obtain ⟨vs, h3, hl3, h4⟩ := asEnv_ok _ hh
        obtain ⟨A', h5, h6⟩ := asObjs_ok h3
        refine ⟨vs, A', h5, by rw [hl3]; simp, fun ρ penv σ hK => ?_⟩
        have hlen := hK.env.len
        obtain ⟨ρ0, g1, g2⟩ := h0 ρ (keepN env.length hd penv) σ (hK.withEnv (keepN_ok hK.env _ _))
        obtain ⟨penv1, σ1, ρ1, g3, g4, g5⟩ := hL f cd n0 e0 A0 x e A1 h1 ρ0 _ σ g1
        have hh' : headM c f cd penv.length penv = keepN env.length hd penv := by unfold headM; rw [hm, hlen]
        have ho : outM c f cd x penv.length penv1 = keepN env.length ml penv1 := by unfold outM; rw [hm, hlen]; simp only; rw [hml]
        obtain ⟨g6, g7⟩ := g4.wk h6 n0
        refine ⟨keepN env.length ml penv1, σ1, ρ1, ?_, g6.withEnv ?_, (g2.trans g5).trans g7⟩
        · rw [hh', g3]
          simp only [Option.map_some]
          rw [ho]
        · rw [h6.1]
          exact h4 _ _ _ g4.env
      cases x with
      | normal => cases h2
      | exit i =>
        replace h2 : (if kc.noex f (firstRegion cd) = false then asEnv (kc.osk f (firstRegion cd)).1 (l.1.map (·.1)) e (List.range env.length) fun e => asObjs (kc.osk f (firstRegion cd)).2 A1 fun A => k (.exit i) e A else none) = some r := h2
        split at h2
        · obtain ⟨e', A', q1, q2, q3⟩ := key h2 rfl
          exact ⟨_, e', A', q1, q2, q3⟩
        · cases h2
      | ret =>
        replace h2 : (match l.2 with | [] => none | _ :: _ => asEnv (kc.rsk f (firstRegion cd)).1 (l.2.map (·.1)) e (List.range env.length) fun e => asObjs (kc.rsk f (firstRegion cd)).2 A1 fun A => k .ret e A) = some r := h2
        split at h2
        · cases h2
        · rename_i hq
          obtain ⟨e', A', q1, q2, q3⟩ := key h2 rfl
          exact ⟨_, e', A', q1, q2, q3⟩
    · cases h
  | .rangeFunc .., _, _, _, h | .scope _, _, _, _, h | .goto _, _, _, _, h | .refuse _, _, _, _, h => by simp only [evalKK] at h; cases h

theorem resKK_ok {e : List PV} : ∀ (rs : List ResultVar) {k : List PV → Option β}, resKK P A e rs k = some r → ∃ vs, k vs = some r ∧ ∀ ρ penv σ, KS ρ A e penv σ → ∃ ps, resultsv P σ penv rs = some ps ∧ VKs ρ A.length vs ps
  | [], k, h => ⟨[], h, fun ρ penv σ hK => ⟨[], rfl, .nil⟩⟩
  | .tmp t :: rs, k, h => by
    obtain ⟨vs, h1, h2⟩ := resKK_ok rs h
    refine ⟨_, h1, fun ρ penv σ hK => ?_⟩
    obtain ⟨ps, g1, g2⟩ := h2 ρ penv σ hK
    exact ⟨_, by simp only [resultsv, resultv, Option.bind_some, g1]; rfl, .cons (hK.env.getD t) g2⟩
  | .cell a t :: rs, k, h => by
    simp only [resKK] at h
    obtain ⟨v, h0, hv⟩ := loadKK_ok h
    rw [forceV_eq] at h0
    obtain ⟨vs, h1, h2⟩ := resKK_ok rs h0
    refine ⟨_, h1, fun ρ penv σ hK => ?_⟩
    obtain ⟨q, e1, e2⟩ := hv ρ e penv σ _ hK (hK.env.getD a)
    obtain ⟨ps, g1, g2⟩ := h2 ρ penv σ hK
    exact ⟨_, by simp only [resultsv, resultv, e1, Option.bind_some, g1]; rfl, .cons e2 g2⟩
theorem tuplev_ok {vs ps : List PV} (h : VKs ρ m vs ps) : VK ρ m (tuplev vs) (tuplev ps) := by
  match h with
  | .nil => exact .fr (.tuple .nil)
  | .cons h .nil => exact h
  | .cons h (.cons h' t) => exact .tuple (.cons h (.cons h' t))
end

theorem stepKK_ok {c : Cfg} {kc : KCfg} {C : CallK} {L : LoopK} (hT : ∀ f, c.told f = none) (hC : SoundC C (callω c)) (hL : SoundL L (loopω c)) (hO : OwnOk kc (callω c)) : SoundC (stepKK c kc C L) (callω c) := by
  intro g args A r A' h ρ pargs σ hK
  unfold stepKK at h
  split at h
  · rename_i fn hf
    split at h
    · rename_i cd hcd
      obtain ⟨x, e, A1, h1, _, h2⟩ := evalKK_ok hC hL hO cd h
      have hent : VKs ρ A.length (enterv fn args) (enterv fn pargs) := by
        unfold enterv
        rw [← hK.env.len]
        refine hK.env.app (.of (All2.replicate (.undef _) _))
      obtain ⟨penv', σ', ρ1, g1, g2, g3⟩ := h2 ρ _ σ (hK.withEnv hent)
      have fin : ∀ {vs : List PV}, (packKK (List.range A.length) [tuplev vs] A1 fun e A => asCons e fun v _ => some (v, A)) = some (r, A') → (∃ ps, resultsv c.P σ' penv' fn.results.toList = some ps ∧ VKs ρ1 A1.length vs ps) → (x = .normal ∨ x = .ret) → ∃ p σ'' ρ', callω c g pargs σ = some (p, σ'') ∧ KS ρ' A' [r] [p] σ'' ∧ Go2 A.length ρ A σ ρ' A' σ'' := by
        intro vs hp ⟨ps, hps, hvs⟩ hx
        obtain ⟨e2, A2, q1, q2, q3⟩ := packKK_ok hp
        obtain ⟨ρ2, q4, q5⟩ := q3 ρ1 [tuplev ps] σ' (g2.withEnv (.one (tuplev_ok hvs)))
        unfold asCons at q1
        split at q1
        · rename_i v0 e3
          cases q1
          have h30 : e3 = [] := by
            have : e3.length + 1 = 1 := q2
            exact List.eq_nil_of_length_eq_zero (by omega)
          subst h30
          refine ⟨tuplev ps, σ', ρ2, ?_, q4, g3.trans q5⟩
          refine callω_of hT ?_
          unfold stepC
          rw [hT g]
          simp only [hf, hcd, g1, Option.bind_some, hps, Option.map_some]
          rcases hx with rfl | rfl <;> rfl
        · cases q1
      cases x with
      | exit i => cases h1
      | normal =>
        obtain ⟨vs, h3, h4⟩ := resKK_ok _ h1
        exact fin h3 (h4 ρ1 penv' σ' g2) (.inl rfl)
      | ret =>
        obtain ⟨vs, h3, h4⟩ := resKK_ok _ h1
        exact fin h3 (h4 ρ1 penv' σ' g2) (.inr rfl)
    · cases h
  · cases h
theorem stepLKK_ok {c : Cfg} {kc : KCfg} {C : CallK} {L : LoopK} (hC : SoundC C (callω c)) (hL : SoundL L (loopω c)) (hO : OwnOk kc (callω c)) : SoundL (stepLKK c kc C L) (loopω c) := by
  intro f cd n0 env A x env' A' h ρ penv σ hK
  unfold stepLKK at h
  obtain ⟨x0, e, A1, h1, hl1, h2⟩ := evalKK_ok hC hL hO cd h
  obtain ⟨penv1, σ1, ρ1, g1, g2, g3⟩ := h2 ρ penv σ hK
  have hlen := hK.env.len
  have hout : ∀ n y, VKs ρ1 A1.length (outM c f cd y n e) (outM c f cd y n penv1) := fun n y => by
    unfold outM
    split
    · exact keepN_ok g2.env _ _
    · exact g2.env
  have hhead : ∀ n, VKs ρ1 A1.length (headM c f cd n e) (headM c f cd n penv1) := fun n => by
    unfold headM
    split
    · exact keepN_ok g2.env _ _
    · exact g2.env
  unfold goKK at h1
  split at h1
  · obtain ⟨e2, A2, q1, _, q2⟩ := headKK_ok h1
    obtain ⟨ρ2, q3, q4⟩ := q2 ρ1 _ σ1 (g2.withEnv (hhead env.length))
    obtain ⟨penv3, σ3, ρ3, q5, q6, q7⟩ := hL f cd n0 e2 A2 x env' A' q1 ρ2 _ σ1 q3
    refine ⟨penv3, σ3, ρ3, ?_, q6, (g3.trans q4).trans q7⟩
    refine loopω_of ?_
    unfold stepL
    simp only [g1, Option.bind_some, ← hlen]
    exact q5
  · rename_i y hy
    obtain ⟨e2, A2, q1, _, q2⟩ := packKK_ok h1
    cases q1
    obtain ⟨ρ2, q3, q4⟩ := q2 ρ1 _ σ1 (g2.withEnv (hout env.length x))
    refine ⟨outM c f cd x env.length penv1, σ1, ρ2, ?_, q3, g3.trans q4⟩
    refine loopω_of ?_
    unfold stepL
    simp only [g1, Option.bind_some, ← hlen]
theorem soundN {c : Cfg} {kc : KCfg} (hT : ∀ f, c.told f = none) (hO : OwnOk kc (callω c)) : ∀ n, SoundC (callNK c kc n) (callω c) ∧ SoundL (loopNK c kc n) (loopω c)
  | 0 => ⟨(fun g args A r A' h => by cases h), (fun f cd n0 env A x env' A' h => by cases h)⟩
  | n + 1 => ⟨by unfold callNK; exact stepKK_ok hT (soundN hT hO n).1 (soundN hT hO n).2 hO, by unfold loopNK; exact stepLKK_ok (soundN hT hO n).1 (soundN hT hO n).2 hO⟩
end Go.Pvm
