/- Part of the proof: operations of the evaluator over values alone, continued: reading whole, closing, appending, cutting. -/
import Derived.Test.YtkipbdbmeanffaaK2
set_option linter.unusedSimpArgs false
set_option linter.unusedVariables false
namespace Go.Pvm
section
variable {P : Program} {ρ ρ' : Nat → PV} {m : Nat} {A A' : List KO} {env penv : List PV} {σ σ' : Store} {β : Type} {r : β}

/-! ### Reading whole -/
theorem VFs.mapR {f g : PV → PV} : ∀ {cs ps : List PV}, VKs ρ m cs ps → (∀ v p, VK ρ m v p → VF (f v) (g p)) → VFs (cs.map f) (ps.map g)
  | _, _, .nil, _ => .nil
  | _, _, .cons h t, hf => .cons (hf _ _ h) (VFs.mapR t hf)
theorem fzK_ok (hK : KS ρ A env penv σ) : ∀ (n : Nat) {v p : PV}, VK ρ A.length v p → VF (fzK n A v) (fz n σ p)
  | 0, _, _, _ => .undef _
  | n + 1, v, p, h => by
    match h with
    | .fr (.undef _) => exact .undef _
    | .fr (.base v hb) => cases v <;> first | exact .base _ rfl | exact .nl _ | cases hb
    | .fr (.psl b b' h) => exact .psl b b' h
    | .fr (.nl b) => exact .nl b
    | .fr (.pref h) => exact .pref h
    | .fr (.agg h) => exact .agg (VFs.mapR (ρ := ρ) (m := A.length) h.k fun _ _ q => fzK_ok hK n q)
    | .fr (.tuple h) => exact .tuple (VFs.mapR (ρ := ρ) (m := A.length) h.k fun _ _ q => fzK_ok hK n q)
    | .fr (.func f h) => exact .func f (VFs.mapR (ρ := ρ) (m := A.length) h.k fun _ _ q => fzK_ok hK n q)
    | .agg h => exact .agg (VFs.mapR h fun _ _ q => fzK_ok hK n q)
    | .tuple h => exact .tuple (VFs.mapR h fun _ _ q => fzK_ok hK n q)
    | .func f h => exact .func f (VFs.mapR h fun _ _ q => fzK_ok hK n q)
    | .ref (k := k) (i := i) (o := o) hl hr =>
      unfold fzK
      simp only
      split
      · rename_i w t cs hj
        split
        · rename_i hi
          subst hi
          obtain ⟨id, pcs, ro, e, q1, q2, q3, q4⟩ := hK.get hl hj
          rw [e] at hr
          cases hr
          unfold fz
          simp only [q1, List.getElem?_cons_zero]
          exact .pref (VFs.mapR (q2.drop o) fun _ _ q => fzK_ok hK n q)
        · exact .undef _
      · rename_i w sz es hj
        split
        · rename_i n' e hes
          obtain ⟨q0, q1, ⟨e', rfl⟩ | ⟨id, cap, ro, ps, e', s1, s2, s3, s4, s5, s6⟩⟩ := hK.get hl hj
          · rw [e'] at hr; cases hr
          · rw [e'] at hr
            cases hr
            obtain ⟨pe, s7, s8⟩ := s2.get hes
            unfold fz
            simp only [s1, s7]
            have hpl := (rowsPl_get (rowsPl_p s2 q1) (List.mem_of_getElem? s7)).2
            rw [fz_plains (fun c hc => by rw [List.all_eq_true] at hpl; exact hpl c (List.mem_of_mem_drop hc))]
            exact .pref (s8.drop o)
        · exact .undef _
      · exact .undef _
    | .whole (k := k) (sz := sz) hl hh =>
      unfold fzK
      simp only
      split
      · rename_i w sz' es hj
        cases n with
        | zero => exact .undef _
        | succ n' =>
          obtain ⟨q0, q1, ⟨e', rfl⟩ | ⟨id, cap, ro, ps, e', s1, s2, s3, s4, s5, s6⟩⟩ := hK.get hl hj
          · rw [e']; exact .nl _
          · rw [e']
            rw [frz_lsl s1 (by rw [s2.len]; omega)]
            rw [s2.len]
            simp only [List.drop_zero, List.take_length]
            rw [rows_fz (rowsPl_p s2 q1)]
            exact .psl _ _ s2
      · exact .undef _
    | .view (k := k) (sz := sz) (a := a) (n := nn) hl hh hv =>
      unfold fzK
      simp only
      split
      · rename_i w sz' es hj
        cases n with
        | zero => exact .undef _
        | succ n' =>
          obtain ⟨q0, q1, ⟨e', rfl⟩ | ⟨id, cap, ro, ps, e', s1, s2, s3, s4, s5, s6⟩⟩ := hK.get hl hj
          · rw [e'] at hv ⊢
            obtain ⟨rfl, rfl⟩ := hv
            exact .nl _
          · rw [e'] at hv ⊢
            have hv : a + nn ≤ es.length := hv
            show VF _ (fz (n' + 1 + 1) σ (.lsl id _ a nn _))
            rw [frz_lsl s1 (by rw [← s2.len]; omega)]
            have : ((ps.drop a).take nn).map (fun e => e.map (fz (n' + 1) σ)) = (ps.drop a).take nn := by
              have hq := rows_fz (rowsPl_p s2 q1) n' σ
              rw [List.map_take, List.map_drop, hq]
            rw [this]
            exact .psl _ _ ((s2.drop a).take nn)
      · exact .undef _

/-! ### Closing -/
theorem roAll_app : ∀ (a b : List Nat) (σ : Store), roAll (a ++ b) σ = (roAll a σ).bind (roAll b)
  | [], b, σ => rfl
  | i :: a, b, σ => by
    simp only [List.cons_append, roAll]
    split
    · split
      · exact roAll_app a b _
      · rfl
    · rfl
theorem topss_app : ∀ a b : List PV, tops.topss (a ++ b) = tops.topss a ++ tops.topss b
  | [], b => rfl
  | v :: a, b => by
    show tops v ++ tops.topss (a ++ b) = (tops v ++ tops.topss a) ++ tops.topss b
    rw [topss_app a b, List.append_assoc]
mutual
theorem VF.no_tops : ∀ {v p : PV}, VF v p → v.clean = true → tops v = [] ∧ tops p = [] ∧ p.lf = true
  | _, _, .undef _, h => by cases h
  | _, _, .base v hb, h => by cases v <;> first | exact ⟨rfl, rfl, rfl⟩ | cases hb
  | _, _, .psl .., h => ⟨rfl, rfl, rfl⟩
  | _, _, .nl _, h => ⟨rfl, rfl, rfl⟩
  | _, _, .pref _, h => ⟨rfl, rfl, rfl⟩
  | _, _, .agg hc, h => VFs.no_tops hc h
  | _, _, .tuple hc, h => VFs.no_tops hc h
  | _, _, .func _ hc, h => VFs.no_tops hc h
theorem VFs.no_tops : ∀ {v p : List PV}, VFs v p → PV.clean.cleans v = true → tops.topss v = [] ∧ tops.topss p = [] ∧ PV.lf.lfs p = true
  | _, _, .nil, _ => ⟨rfl, rfl, rfl⟩
  | _, _, .cons hv ht, h => by
    unfold PV.clean.cleans at h
    rw [Bool.and_eq_true] at h
    obtain ⟨a1, a2, a3⟩ := VF.no_tops hv h.1
    obtain ⟨b1, b2, b3⟩ := VFs.no_tops ht h.2
    exact ⟨by unfold tops.topss; rw [a1, b1]; rfl, by unfold tops.topss; rw [a2, b2]; rfl, by unfold PV.lf.lfs; rw [a3, b3]; rfl⟩
end
mutual
theorem VK.tops_eq : ∀ {v p : PV}, VK ρ m v p → v.clean = true → tops p = (tops v).flatMap fun k => tops (ρ k)
  | _, _, .fr h, hc => by obtain ⟨a1, a2, _⟩ := h.no_tops hc; rw [a1, a2]; rfl
  | _, _, .ref (k := k) h h2, _ => by
    unfold refAt at h2
    split at h2
    · rename_i e _; cases h2; simp [tops, e]
    · rename_i e _; cases h2; simp [tops, e]
    · cases h2
  | _, _, .whole (k := k) h hh, _ => by simp [tops]
  | _, _, .view (k := k) (a := a) (n := n) h hh h2, _ => by
    cases hq : ρ k <;> rw [hq] at hh <;> first | (cases hh; done) | simp [tops, cutP, hq]
  | _, _, .agg h, hc => VKs.tops_eq h hc
  | _, _, .tuple h, hc => VKs.tops_eq h hc
  | _, _, .func _ h, hc => VKs.tops_eq h hc
theorem VKs.tops_eq : ∀ {v p : List PV}, VKs ρ m v p → PV.clean.cleans v = true → tops.topss p = (tops.topss v).flatMap fun k => tops (ρ k)
  | _, _, .nil, _ => rfl
  | _, _, .cons hv ht, h => by
    unfold PV.clean.cleans at h
    rw [Bool.and_eq_true] at h
    unfold tops.topss
    rw [VK.tops_eq hv h.1, VKs.tops_eq ht h.2, List.flatMap_append]
end
mutual
theorem VK.lf_eq : ∀ {v p : PV}, VK ρ m v p → v.clean = true → v.lf = true → p.lf = true
  | _, _, .fr h, hc, _ => (h.no_tops hc).2.2
  | _, _, .ref .., _, h => by cases h
  | _, _, .whole .., _, h => by cases h
  | _, _, .view .., _, h => by cases h
  | _, _, .agg h, hc, hl => VKs.lf_eq h hc hl
  | _, _, .tuple h, hc, hl => VKs.lf_eq h hc hl
  | _, _, .func _ h, hc, hl => VKs.lf_eq h hc hl
theorem VKs.lf_eq : ∀ {v p : List PV}, VKs ρ m v p → PV.clean.cleans v = true → PV.lf.lfs v = true → PV.lf.lfs p = true
  | _, _, .nil, _, _ => rfl
  | _, _, .cons hv ht, h, hl => by
    unfold PV.clean.cleans at h
    unfold PV.lf.lfs at hl
    rw [Bool.and_eq_true] at h hl
    unfold PV.lf.lfs
    rw [VK.lf_eq hv h.1 hl.1, VKs.lf_eq ht h.2 hl.2]; rfl
end
theorem lfs_plainB {e : List PV} (h : e.all PV.plain = true) : PV.lf.lfs e = true := lfs_plain (by rw [List.all_eq_true] at h; exact h)
/-- What is closed is known less. -/
theorem roK_len : ∀ (ks : List Nat) {A A' : List KO}, roK ks A = some A' → A'.length = A.length
  | [], A, A', h => by cases h; rfl
  | k :: ks, A, A', h => by
    unfold roK at h
    split at h
    · rw [roK_len ks h]; simp
    · split at h
      · rw [roK_len ks h]; simp
      · cases h
    · cases h
theorem roK_weak : ∀ (ks : List Nat) {A A' : List KO}, roK ks A = some A' → KS ρ A env penv σ → ∀ n0, KS ρ A' env penv σ ∧ Go2 n0 ρ A σ ρ A' σ
  | [], A, A', h, hK, n0 => by cases h; exact ⟨hK, Go2.refl _ _ _ _⟩
  | k :: ks, A, A', h, hK, n0 => by
    unfold roK at h
    split at h
    · rename_i w sz es hj
      have hd : isDead (A.getD k .dead) = false := by rw [hj]; rfl
      obtain ⟨q0, q1, q2⟩ := hK.get (getD_lt hd) hj
      obtain ⟨h1, h2⟩ := hK.put (σ' := σ) (o := .made false sz es) hd (Nat.le_refl _) (fun _ _ _ => rfl) ⟨q0, q1, q2.imp (fun x => x) fun ⟨id, cap, ro, ps, e, s1, s2, s3, s4, _, s6⟩ => ⟨id, cap, ro, ps, e, s1, s2, s3, s4, (fun h => by cases h), s6⟩⟩ (fun hb => by rw [hj] at hb; cases hb) n0
      obtain ⟨h3, h4⟩ := roK_weak ks h h1 n0
      exact ⟨h3, h2.trans h4⟩
    · rename_i w t cs hj
      split at h
      · have hd : isDead (A.getD k .dead) = false := by rw [hj]; rfl
        obtain ⟨id, pcs, ro, e, s1, s2, _, s4⟩ := hK.get (getD_lt hd) hj
        obtain ⟨h1, h2⟩ := hK.put (σ' := σ) (o := .box false t cs) hd (Nat.le_refl _) (fun _ _ _ => rfl) ⟨id, pcs, ro, e, s1, s2, (fun h => by cases h), s4⟩ (fun _ => rfl) n0
        obtain ⟨h3, h4⟩ := roK_weak ks h h1 n0
        exact ⟨h3, h2.trans h4⟩
      · cases h
    · cases h
theorem roK_ok : ∀ (ks : List Nat) {A A' : List KO} {σ : Store}, roK ks A = some A' → KS ρ A env penv σ → ∀ n0, ∃ σ', roAll (ks.flatMap fun k => tops (ρ k)) σ = some σ' ∧ KS ρ A' env penv σ' ∧ Go2 n0 ρ A σ ρ A' σ'
  | [], A, A', σ, h, hK, n0 => by cases h; exact ⟨σ, rfl, hK, Go2.refl _ _ _ _⟩
  | k :: ks, A, A', σ, h, hK, n0 => by
    unfold roK at h
    split at h
    · rename_i w sz es hj
      have hd : isDead (A.getD k .dead) = false := by rw [hj]; rfl
      obtain ⟨q0, q1, ⟨e, rfl⟩ | ⟨id, cap, ro, ps, e, s1, s2, s3, s4, s5, s6⟩⟩ := hK.get (getD_lt hd) hj
      · obtain ⟨h1, h2⟩ := hK.put (σ' := σ) (o := .made false sz []) hd (Nat.le_refl _) (fun _ _ _ => rfl) ⟨q0, q1, .inl ⟨e, rfl⟩⟩ (fun hb => by rw [hj] at hb; cases hb) n0
        obtain ⟨σ', h3, h4, h5⟩ := roK_ok ks h h1 n0
        refine ⟨σ', ?_, h4, h2.trans h5⟩
        rw [List.flatMap_cons, e]
        exact h3
      · have hpl := rowsPl_p s2 q1
        have hlf : (ps.all fun e => PV.lf.lfs e) = true := by
          rw [List.all_eq_true]
          exact fun e he => lfs_plainB (rowsPl_get hpl he).2
        obtain ⟨h1, h2⟩ := hK.put (σ' := σ.put id (.cells ps.length ps)) (o := .made false sz es) hd (Nat.le_refl _) (fun x _ hx => put_other fun ex => hx (by rw [e, ex]; exact .head _)) ⟨q0, q1, .inr ⟨id, cap, ps.length, ps, e, put_obj _ _ _, s2, s3, by rw [s2.len]; exact Nat.le_refl _, (fun h => by cases h), s6⟩⟩ (fun hb => by rw [hj] at hb; cases hb) n0
        obtain ⟨σ', h3, h4, h5⟩ := roK_ok ks h h1 n0
        refine ⟨σ', ?_, h4, h2.trans h5⟩
        rw [List.flatMap_cons, e]
        show roAll (id :: _) σ = _
        unfold roAll
        rw [s1]
        simp only
        rw [if_pos hlf]
        exact h3
    · rename_i w t cs hj
      split at h
      · rename_i hcs
        have hd : isDead (A.getD k .dead) = false := by rw [hj]; rfl
        obtain ⟨id, pcs, ro, e, s1, s2, _, s4⟩ := hK.get (getD_lt hd) hj
        have hpl := (s2.plain hcs).2
        obtain ⟨h1, h2⟩ := hK.put (σ' := σ.put id (.cells 1 [pcs])) (o := .box false t cs) hd (Nat.le_refl _) (fun x _ hx => put_other fun ex => hx (by rw [e, ex]; exact .head _)) ⟨id, pcs, 1, e, put_obj _ _ _, s2, (fun h => by cases h), s4⟩ (fun _ => rfl) n0
        obtain ⟨σ', h3, h4, h5⟩ := roK_ok ks h h1 n0
        refine ⟨σ', ?_, h4, h2.trans h5⟩
        rw [List.flatMap_cons, e]
        show roAll (id :: _) σ = _
        unfold roAll
        rw [s1]
        simp only
        rw [if_pos (by simp [lfs_plainB hpl])]
        exact h3
      · cases h
    · cases h

/-! ### Appending -/
theorem rnms_len (f : Nat → Option Nat) : ∀ l : List PV, (rnm.rnms f l).length = l.length
  | [] => rfl
  | _ :: r => congrArg (· + 1) (rnms_len f r)
theorem killF_ok {l : List Nat} {k k' : Nat} (h : killL l k = some k') : k' = k ∧ k ∉ l := by
  unfold killL at h
  split at h
  · cases h
  · rename_i hc
    cases h
    exact ⟨rfl, by simpa using hc⟩
def Stp (n0 : Nat) (ρ : Nat → PV) (A : List KO) (σ : Store) (v : PV) (env' penv : List PV) (A' : List KO) (p : PV) (σ' : Store) : Prop := ∃ ρ', KS ρ' A' env' penv σ' ∧ VK ρ' A'.length v p ∧ Go2 n0 ρ A σ ρ' A' σ'
theorem appKK_ok {el : TypeId} {s x : PV} {k : PV → List PV → List KO → Option β} (h : appKK P el s x env A k = some r) : ∃ v env' A', k v env' A' = some r ∧ env'.length = env.length ∧
    ∀ ρ penv σ n0 p q, KS ρ A env penv σ → VK ρ A.length s p → VK ρ A.length x q → ∃ w σ', appendv P σ el p q = some (w, σ') ∧ Stp n0 ρ A σ v env' penv A' w σ' := by
  unfold appKK at h
  simp only [Option.bind_eq_some_iff] at h
  obtain ⟨sz, hsz, by_, hby, z, hz, h⟩ := h
  obtain ⟨new, h, hx⟩ := rowsK_ok h
  split at h
  · cases h
  rename_i hne
  have hne1 : sz ≠ 0 ∧ by_ ≠ 0 ∧ z.known = true ∧ z.cells.length = sz := by
    refine ⟨fun e => hne (.inl e), fun e => hne (.inr (.inl e)), ?_, ?_⟩
    · cases hq : z.known with
      | true => rfl
      | false => exact absurd (.inr (.inr (.inl hq))) hne
    · by_cases hq : z.cells.length = sz
      · exact hq
      · exact absurd (.inr (.inr (.inr hq))) hne
  have E : El P el sz by_ := ⟨hsz, hby, ⟨z, hz, hne1.2.2⟩, hne1.1, hne1.2.1⟩
  split at h
  · cases h
  rename_i hro
  have hro : rowsPl sz new = true := by simpa using hro
  split at h
  · -- nil
    split at h
    · rename_i hb
      refine ⟨_, _, _, h, rfl, fun ρ penv σ n0 p q hK hp hq => ?_⟩
      obtain ⟨ps, e1, e2⟩ := hx ρ env penv σ q hK hq
      have hpl := rowsPl_p e2 hro
      have hall := (rowsPl_els.1 hpl).all1
      rw [hp.nilsl_eq]
      by_cases hn : ps = []
      · subst hn
        have hn' : new = [] := List.eq_nil_of_length_eq_zero (by rw [e2.len]; rfl)
        subst hn'
        obtain ⟨h1, h2⟩ := hK.more (σ' := σ) (u := .nilsl) (o := .made true sz []) (Nat.le_refl _) (fun _ _ => rfl) (fun i hi => by cases hi) ⟨hne1.1, rfl, .inl ⟨rfl, rfl⟩⟩ n0
        refine ⟨.nilsl, σ, ?_, _, h1, ?_, h2⟩
        · rw [appendv_start E e1 hall]
          rfl
        · have : VK (upd ρ A.length .nilsl) (A ++ [KO.made true sz []]).length (.lsl A.length sz 0 0 none) (upd ρ A.length .nilsl A.length) := .whole (by simp) (by rw [upd_same]; rfl)
          rw [upd_same] at this
          exact this
      · have hbs : ps.length * by_ ≤ 140737488355328 := by rw [← e2.len]; exact hb
        obtain ⟨h1, h2⟩ := hK.more (σ' := σ.push (.cells 0 ps)) (u := .lsl σ.next sz 0 ps.length none) (o := .made true sz new) (Nat.le_succ _) (fun i hi => push_old hi) (fun i hi => by rw [List.mem_singleton.1 hi]; exact Nat.le_refl _)
          ⟨hne1.1, hro, .inr ⟨σ.next, none, 0, ps, by rw [e2.len], push_obj _ _, e2, .inl rfl, Nat.zero_le _, fun _ => rfl, Nat.lt_succ_self _⟩⟩ n0
        refine ⟨_, _, appendv_nil E e1 hall hn hbs, _, h1, ?_, h2⟩
        have : VK (upd ρ A.length (.lsl σ.next sz 0 ps.length none)) (A ++ [KO.made true sz new]).length (.lsl A.length sz 0 0 none) (upd ρ A.length (.lsl σ.next sz 0 ps.length none) A.length) := .whole (by simp) (by rw [upd_same]; rfl)
        rw [upd_same] at this
        exact this
    · cases h
  · -- a slice that was made
    rename_i j sz' _
    split at h
    · rename_i w sz'' es hj
      split at h
      · rename_i hszz
        subst hszz
        split at h
        · rename_i hb
          unfold killKK at h
          rw [forceVs_eq, forceA_eq] at h
          refine ⟨_, _, _, h, rnms_len _ _, fun ρ penv σ n0 p q hK hp hq => ?_⟩
          obtain ⟨ps, e1, e2⟩ := hx ρ env penv σ q hK hq
          have hpl := rowsPl_p e2 hro
          have hall := (rowsPl_els.1 hpl).all1
          have hd : isDead (A.getD j .dead) = false := by rw [hj]; rfl
          have hjl := getD_lt hd
          have hf : ∀ u k k', k < A.length → killL [j] k = some k' → k' < A.length + 1 ∧ upd ρ A.length u k' = ρ k := fun u k k' hk e => by
            obtain ⟨rfl, b⟩ := killF_ok e
            exact ⟨by omega, upd_other _ (by omega)⟩
          have hrows : rowsPl sz'' (es ++ new) = true := by
            have h1 := (hK.get hjl hj).2.1
            unfold rowsPl at h1 hro ⊢
            rw [List.all_append, h1, hro]; rfl
          have hfin : ∀ (u : PV) (σ' : Store), hdl u = true → σ.next ≤ σ'.next → (∀ i, i < σ.next → i ∉ tops (ρ j) → σ'.objs i = σ.objs i) → (∀ i ∈ tops u, i ∈ tops (ρ j) ∨ σ.next ≤ i) → KOR (upd ρ A.length u) (A.length + 1) σ' u (.made w sz'' (es ++ new)) →
              Stp n0 ρ A σ (whole (A.map (rnmO (killL [j]))).length sz'') (rnm.rnms (killL [j]) env) penv ((A.map (rnmO (killL [j]))).set j .dead ++ [.made w sz'' (es ++ new)]) u σ' := fun u σ' hu a b c d => by
            obtain ⟨h1, h2⟩ := hK.renew (f := killL [j]) hd (by rw [hj]; rfl) (hf u) a b c d n0
            refine ⟨_, h1, ?_, h2⟩
            have : VK (upd ρ A.length u) ((A.map (rnmO (killL [j]))).set j .dead ++ [KO.made w sz'' (es ++ new)]).length (.lsl A.length sz'' 0 0 none) (upd ρ A.length u A.length) := .whole (by simp) (by rw [upd_same]; exact hu)
            rw [upd_same] at this
            rw [List.length_map]
            exact this
          obtain ⟨_, _, ⟨_, _, _, rfl⟩ | ⟨e, _⟩⟩ := hp.lsl_inv
          · obtain ⟨q0, q1, ⟨e', rfl⟩ | ⟨id, cap, ro, pes, e', s1, s2, s3, s4, s5, s6⟩⟩ := hK.get hjl hj
            · rw [e']
              by_cases hn : ps = []
              · subst hn
                have hn' : new = [] := List.eq_nil_of_length_eq_zero (by rw [e2.len]; rfl)
                subst hn'
                exact ⟨.nilsl, σ, by rw [appendv_start E e1 hall]; rfl, hfin .nilsl σ rfl (Nat.le_refl _) (fun _ _ _ => rfl) (fun i hi => by cases hi) ⟨q0, hrows, .inl ⟨rfl, rfl⟩⟩⟩
              · exact ⟨_, _, appendv_nil E e1 hall hn (by rw [← e2.len]; simpa using hb), hfin _ _ rfl (Nat.le_succ _) (fun i hi _ => push_old hi) (fun i hi => by rw [List.mem_singleton.1 hi]; exact .inr (Nat.le_refl _))
                  ⟨q0, hrows, .inr ⟨σ.next, none, 0, ps, by rw [← e2.len]; rfl, push_obj _ _, e2, .inl rfl, Nat.zero_le _, fun _ => rfl, Nat.lt_succ_self _⟩⟩⟩
            · rw [e']
              have hpes := s2.len
              by_cases hn : ps = []
              · subst hn
                have hn' : new = [] := List.eq_nil_of_length_eq_zero (by rw [e2.len]; rfl)
                subst hn'
                refine ⟨_, _, appendv_none E e1, hfin _ σ rfl (Nat.le_refl _) (fun _ _ _ => rfl) (fun i hi => by rw [e']; exact .inl hi) ⟨q0, hrows, .inr ⟨id, cap, ro, pes, by simp, s1, by simpa using s2, by simpa using s3, by simpa using s4, s5, s6⟩⟩⟩
              · have hb' : (es.length + ps.length) * by_ ≤ 140737488355328 := by rw [← e2.len]; exact hb
                rcases s3 with rfl | rfl
                · refine ⟨_, _, appendv_open E e1 hall hn s1 (by rw [← hpes]; omega) (by omega) hb', hfin _ _ rfl (Nat.le_succ _) (fun i hi hni => ?_) (fun i hi => by rw [List.mem_singleton.1 hi]; exact .inr (Nat.le_refl _)) ⟨q0, hrows, .inr ⟨σ.next, none, ro - 0, _, by rw [List.length_append, e2.len], kill_push_obj _ _ _, ?_, .inl rfl, by simp; omega, fun hw => by rw [s5 hw], Nat.lt_succ_self _⟩⟩⟩
                  · show (if i = σ.next then _ else if i = id then none else σ.objs i) = _
                    rw [if_neg (by omega), if_neg (fun ex => hni (by rw [e', ex]; exact .head _))]
                  · rw [List.drop_zero, List.take_of_length_le (by rw [← hpes]; exact Nat.le_refl _)]
                    exact s2.app e2
                · refine ⟨_, _, appendv_full E e1 hall hn s1 (by rw [← hpes]; omega) hb', hfin _ _ rfl (Nat.le_succ _) (fun i hi _ => push_old hi) (fun i hi => by rw [List.mem_singleton.1 hi]; exact .inr (Nat.le_refl _)) ⟨q0, hrows, .inr ⟨σ.next, none, 0, _, by rw [List.length_append, e2.len], push_obj _ _, ?_, .inl rfl, Nat.zero_le _, fun _ => rfl, Nat.lt_succ_self _⟩⟩⟩
                  rw [List.drop_zero, List.take_of_length_le (by rw [← hpes]; exact Nat.le_refl _)]
                  exact s2.app e2
          · cases e
        · cases h
      · cases h
    · cases h
  · cases h

/-! ### Cutting, places of elements, texts -/
def OpR (ρ : Nat → PV) (m : Nat) (x y : Option PV) : Prop := (x = none ∧ y = none) ∨ ∃ v p, x = some v ∧ y = some p ∧ VK ρ m v p
theorem numOf_ok {x y : Option PV} {d n : Nat} (h : OpR ρ m x y) (hn : numOf x d = some n) : numOf y d = some n := by
  rcases h with ⟨rfl, rfl⟩ | ⟨v, p, rfl, rfl, h⟩
  · exact hn
  · cases v <;> first | (cases hn; done) | skip
    rw [h.int_eq]
    exact hn
theorem OpR.map (h : VKs ρ m env penv) (o : Option Operand) : OpR ρ m (o.map (opd env)) (o.map (opd penv)) := by
  cases o with
  | none => exact .inl ⟨rfl, rfl⟩
  | some x => exact .inr ⟨_, _, rfl, rfl, opd_ok h x⟩
theorem OpR.isSome {x y : Option PV} (h : OpR ρ m x y) : y.isSome = x.isSome := by
  rcases h with ⟨rfl, rfl⟩ | ⟨v, p, rfl, rfl, _⟩ <;> rfl
theorem cutKK_ok {t : TypeId} {x : PV} {lo hi mx : Option PV} {k : PV → Option β} (h : cutKK P A t x lo hi mx k = some r) : ∃ v, k v = some r ∧ ∀ ρ env penv σ p plo phi pmx, KS ρ A env penv σ → VK ρ A.length x p → OpR ρ A.length lo plo → OpR ρ A.length hi phi → OpR ρ A.length mx pmx → ∃ q, cutv P t p plo phi pmx = some q ∧ VK ρ A.length v q := by
  unfold cutKK at h
  split at h
  · cases h
  rename_i hmx
  have hmx : mx = none := by cases mx with | none => rfl | some _ => exact absurd rfl hmx
  subst hmx
  have nomx : ∀ {ρ m} {pmx : Option PV}, OpR ρ m none pmx → pmx = none := fun h => by rcases h with ⟨_, e⟩ | ⟨_, _, e, _⟩ <;> first | exact e | cases e
  split at h
  · rename_i s hu
    rw [Option.bind_eq_some_iff] at h
    obtain ⟨v, h1, h2⟩ := h
    refine ⟨v, h2, fun ρ env penv σ p plo phi pmx hK hp hlo hhi hm => ?_⟩
    rw [hp.str_eq, nomx hm]
    simp only [cutv, hu, Option.isSome_none, Bool.false_eq_true, false_and, if_false, Option.bind_eq_some_iff] at h1 ⊢
    obtain ⟨a, h3, b, h4, h5⟩ := h1
    split at h5
    · rename_i hc
      cases h5
      exact ⟨_, ⟨a, numOf_ok hhi h3, b, numOf_ok hlo h4, by rw [if_pos hc]⟩, .fr (.base _ rfl)⟩
    · cases h5
  · rename_i el hu
    rw [Option.bind_eq_some_iff] at h
    obtain ⟨v, h1, h2⟩ := h
    refine ⟨v, h2, fun ρ env penv σ p plo phi pmx hK hp hlo hhi hm => ?_⟩
    rw [hp.nilsl_eq, nomx hm]
    simp only [cutv, hu, Option.isSome_none, Bool.false_eq_true, false_and, if_false, Option.bind_eq_some_iff] at h1 ⊢
    obtain ⟨s, h3, a, h4, b, h5, c, h6, h7⟩ := h1
    split at h7
    · rename_i hc
      cases h7
      exact ⟨_, ⟨s, h3, a, numOf_ok hhi h4, b, numOf_ok hlo h5, c, h6, by rw [if_pos hc]⟩, .fr (.base _ rfl)⟩
    · cases h7
  · rename_i el b es hu
    simp only [Option.bind_eq_some_iff] at h
    obtain ⟨sz, hsz, a, h3, l, h4, h⟩ := h
    split at h
    · rename_i hall
      split at h
      · rename_i hc
        refine ⟨_, h, fun ρ env penv σ p plo phi pmx hK hp hlo hhi hm => ?_⟩
        rw [nomx hm]
        rcases hp.psl_inv with ⟨rfl, rfl⟩ | ⟨b', ps, rfl, hps⟩
        · have ha : a = 0 := by simpa using hc.2
          have hl : l = 0 := by have := hc.1; omega
          subst ha hl
          refine ⟨.nilsl, ?_, .fr (.nl _)⟩
          simp only [cutv, hu, Option.isSome_none, Bool.false_eq_true, false_and, if_false, hsz, Option.bind_some]
          have h3' : numOf hi 0 = some 0 := h3
          rw [numOf_ok hhi h3', numOf_ok hlo h4]
          rfl
        · have hall' : (ps.all fun e => e.length == sz) = true := by
            rw [List.all_eq_true] at hall ⊢
            intro e he
            obtain ⟨i, hi⟩ := List.getElem?_of_mem he
            obtain ⟨e0, e1, e2⟩ := hps.all2.get hi
            rw [← e2.len]
            exact hall e0 (List.mem_of_getElem? e1)
          refine ⟨.psl (b' && decide (a = ps.length)) ((ps.drop l).take (a - l)), ?_, .fr (.psl _ _ ((hps.drop l).take (a - l)))⟩
          simp only [cutv, hu, Option.isSome_none, Bool.false_eq_true, false_and, if_false, hsz, Option.bind_some]
          rw [← hps.len, numOf_ok hhi h3]
          simp only [Option.bind_some]
          rw [numOf_ok hlo h4]
          simp only [Option.bind_some, numOf]
          rw [if_pos ⟨hc.1, hc.2, Nat.le_refl _, hall'⟩]
      · cases h
    · cases h
  · rename_i el j sz' a n c hu
    simp only [Option.bind_eq_some_iff] at h
    obtain ⟨sz, hsz, h⟩ := h
    split at h
    · cases h
    rename_i hs1
    have hs1 : sz' = sz := by simpa using hs1
    subst hs1
    split at h
    · rename_i w sz'' es hj
      split at h
      · cases h
      rename_i hs2
      have hs2 : sz'' = sz' := by simpa using hs2
      subst hs2
      split at h
      · simp only [Option.bind_eq_some_iff] at h
        obtain ⟨b, h3, l, h4, h⟩ := h
        split at h
        · rename_i hc
          refine ⟨_, h, fun ρ env penv σ p plo phi pmx hK hp hlo hhi hm => ?_⟩
          rw [nomx hm]
          obtain ⟨hl, hh, ⟨_, _, _, rfl⟩ | ⟨e, _⟩⟩ := hp.lsl_inv
          · obtain ⟨q0, q1, ⟨e', rfl⟩ | ⟨id, cap, ro, ps, e', s1, s2, s3, s4, s5, s6⟩⟩ := hK.get hl hj
            · have hb : b = 0 := by simpa using hc.2
              have hl0 : l = 0 := by have := hc.1; omega
              subst hb hl0
              refine ⟨.nilsl, ?_, ?_⟩
              · rw [e']
                simp only [cutv, hu, Option.isSome_none, Bool.false_eq_true, false_and, if_false, hsz, Option.bind_some]
                have h3' : numOf hi 0 = some 0 := h3
                rw [numOf_ok hhi h3', numOf_ok hlo h4]
                rfl
              · have : VK ρ A.length (viewK j sz'' 0 (0 - 0)) (cutP (ρ j) 0 0) := .view hl hh (by rw [e']; exact ⟨rfl, rfl⟩)
                rw [e'] at this
                exact this
            · refine ⟨.lsl id sz'' l (b - l) (cap.map (· - l)), ?_, ?_⟩
              · rw [e']
                have hcap : b ≤ cap.getD es.length := by rcases s3 with rfl | rfl <;> exact hc.2
                simp only [cutv, hu, Option.isSome_none, Bool.false_eq_true, false_and, if_false, hsz, Option.bind_some]
                rw [if_neg (by simp), numOf_ok hhi h3]
                simp only [Option.bind_some]
                rw [numOf_ok hlo h4]
                simp only [Option.bind_some, numOf]
                rw [if_pos ⟨hc.1, hcap, Nat.le_refl _⟩, Nat.zero_add]
              · have : VK ρ A.length (viewK j sz'' l (b - l)) (cutP (ρ j) l (b - l)) := .view hl hh (by rw [e']; show l + (b - l) ≤ es.length; omega)
                rw [e'] at this
                exact this
          · cases e
        · cases h
      · simp only [Option.bind_eq_some_iff] at h
        obtain ⟨b, h3, l, h4, h⟩ := h
        split at h
        · rename_i hc
          refine ⟨_, h, fun ρ env penv σ p plo phi pmx hK hp hlo hhi hm => ?_⟩
          rw [nomx hm]
          obtain ⟨hl, hh, ⟨e, _⟩ | ⟨_, hv, rfl⟩⟩ := hp.lsl_inv
          · cases e
          · obtain ⟨q0, q1, ⟨e', rfl⟩ | ⟨id, cap, ro, ps, e', s1, s2, s3, s4, s5, s6⟩⟩ := hK.get hl hj
            · rw [e'] at hv
              obtain ⟨rfl, rfl⟩ := hv
              have hb : b = 0 := by simpa using hc.2
              have hl0 : l = 0 := by have := hc.1; omega
              subst hb hl0
              refine ⟨.nilsl, ?_, ?_⟩
              · rw [e']
                simp only [cutP, cutv, hu, Option.isSome_none, Bool.false_eq_true, false_and, if_false, hsz, Option.bind_some]
                rw [numOf_ok hhi h3, numOf_ok hlo h4]
                rfl
              · have : VK ρ A.length (viewK j sz'' 0 (0 - 0)) (cutP (ρ j) 0 0) := .view hl hh (by rw [e']; exact ⟨rfl, rfl⟩)
                rw [e'] at this
                exact this
            · rw [e'] at hv
              have hv : a + n ≤ es.length := hv
              refine ⟨.lsl id sz'' (a + l) (b - l) (cap.map (· - (a + l))), ?_, ?_⟩
              · rw [e']
                have hcap : b ≤ (cap.map (· - a)).getD n := by
                  rcases s3 with rfl | rfl
                  · exact hc.2
                  · have : b ≤ es.length - a := by have := hc.2; omega
                    exact this
                simp only [cutP, cutv, hu, Option.isSome_none, Bool.false_eq_true, false_and, if_false, hsz, Option.bind_some]
                rw [if_neg (by simp), numOf_ok hhi h3]
                simp only [Option.bind_some]
                rw [numOf_ok hlo h4]
                simp only [Option.bind_some, numOf]
                rw [if_pos ⟨hc.1, hcap, Nat.le_refl _⟩]
                congr 2
                cases cap with
                | none => rfl
                | some c => simp only [Option.map_some]; congr 1; omega
              · have : VK ρ A.length (viewK j sz'' (a + l) (b - l)) (cutP (ρ j) (a + l) (b - l)) := .view hl hh (by rw [e']; show a + l + (b - l) ≤ es.length; have := hc.2; have := hc.1; omega)
                rw [e'] at this
                exact this
        · cases h
    · cases h
  · cases h

theorem idxKK_ok {t : TypeId} {x i : PV} {k : PV → Option β} (h : idxKK P A t x i k = some r) : ∃ v, k v = some r ∧ ∀ ρ env penv σ p pi, KS ρ A env penv σ → VK ρ A.length x p → VK ρ A.length i pi → ∃ q, indexAddrv P t p pi = some q ∧ VK ρ A.length v q := by
  unfold idxKK at h
  rw [Option.bind_eq_some_iff] at h
  obtain ⟨n, hi, h⟩ := h
  have hi' : ∀ ρ m pi, VK ρ m i pi → intOf? pi = some n := fun ρ m pi hv => by
    cases i <;> first | (cases hi; done) | skip
    rw [hv.int_eq]
    exact hi
  split at h
  · rename_i el hu
    rw [Option.bind_eq_some_iff] at h
    obtain ⟨sz, hsz, h⟩ := h
    split at h
    · rename_i b es
      split at h
      · rename_i hn
        rw [Option.bind_eq_some_iff] at h
        obtain ⟨e, he, h⟩ := h
        obtain ⟨cs, h1, h2, h3, _⟩ := asSks_ok _ h
        split at h1
        · rename_i hl
          refine ⟨_, h1, fun ρ env penv σ p pi hK hp hpi => ?_⟩
          rcases hp.psl_inv with ⟨rfl, rfl⟩ | ⟨b', ps, rfl, hps⟩
          · simp at he
          · obtain ⟨pe, g1, g2⟩ := hps.get he
            have g3 := h3 _ g2
            refine ⟨.pref pe, ?_, .fr (.pref g3)⟩
            simp only [indexAddrv, hi' _ _ _ hpi, Option.bind_some, hu, hsz]
            rw [if_pos hn, g1]
            simp only [Option.bind_some]
            rw [if_pos (by rw [← g3.len]; exact hl)]
        · cases h1
      · cases h
    · rename_i j sz' a nn c
      split at h
      · cases h
      rename_i hs1
      have hs1 : sz' = sz := by simpa using hs1
      subst hs1
      split at h
      · rename_i w sz'' es hj
        split at h
        · cases h
        rename_i hs2
        have hs2 : sz'' = sz' := by simpa using hs2
        subst hs2
        split at h
        · split at h
          · rename_i hb
            refine ⟨_, h, fun ρ env penv σ p pi hK hp hpi => ?_⟩
            obtain ⟨hl, hh, ⟨_, _, _, rfl⟩ | ⟨e, _⟩⟩ := hp.lsl_inv
            · obtain ⟨q0, q1, ⟨e', rfl⟩ | ⟨id, cap, ro, ps, e', s1, s2, s3, s4, s5, s6⟩⟩ := hK.get hl hj
              · have := hb.2; simp at this; omega
              · refine ⟨.ref id (0 + n.toNat) 0, ?_, .ref hl (by rw [e', Nat.zero_add]; rfl)⟩
                rw [e']
                simp only [indexAddrv, hi' _ _ _ hpi, Option.bind_some, hu, hsz]
                rw [if_pos ⟨hb.1, hb.2, trivial⟩]
            · cases e
          · cases h
        · split at h
          · rename_i hb
            refine ⟨_, h, fun ρ env penv σ p pi hK hp hpi => ?_⟩
            obtain ⟨hl, hh, ⟨e, _⟩ | ⟨_, hv, rfl⟩⟩ := hp.lsl_inv
            · cases e
            · obtain ⟨q0, q1, ⟨e', rfl⟩ | ⟨id, cap, ro, ps, e', s1, s2, s3, s4, s5, s6⟩⟩ := hK.get hl hj
              · rw [e'] at hv
                obtain ⟨rfl, rfl⟩ := hv
                have := hb.2; simp at this; omega
              · refine ⟨.ref id (a + n.toNat) 0, ?_, .ref hl (by rw [e']; rfl)⟩
                rw [e']
                simp only [indexAddrv, cutP, hi' _ _ _ hpi, Option.bind_some, hu, hsz]
                rw [if_pos ⟨hb.1, hb.2, trivial⟩]
          · cases h
      · cases h
    · cases h
  · rename_i nn el hu
    rw [Option.bind_eq_some_iff] at h
    obtain ⟨sz, hsz, h⟩ := h
    split at h
    · rename_i hb
      split at h
      · rename_i j ix off
        refine ⟨_, h, fun ρ env penv σ p pi hK hp hpi => ?_⟩
        obtain ⟨hl, hr⟩ := hp.ref_inv
        have key : ∃ id ix', p = .ref id ix' off ∧ refAt (ρ j) ix (off + n.toNat * sz) = some (.ref id ix' (off + n.toNat * sz)) := by
          unfold refAt at hr
          split at hr <;> first | (cases hr; rename_i e; exact ⟨_, _, rfl, by rw [e]; rfl⟩) | cases hr
        obtain ⟨id, ix', rfl, e⟩ := key
        refine ⟨_, ?_, .ref hl e⟩
        simp only [indexAddrv, hi' _ _ _ hpi, Option.bind_some, hu, hsz]
        rw [if_pos hb]
      · rename_i cs
        refine ⟨_, h, fun ρ env penv σ p pi hK hp hpi => ?_⟩
        obtain ⟨ps, rfl, hc⟩ := hp.pref_inv
        refine ⟨_, ?_, .fr (.pref (hc.drop _))⟩
        simp only [indexAddrv, hi' _ _ _ hpi, Option.bind_some, hu, hsz]
        rw [if_pos hb]
      · cases h
    · cases h
  · cases h
def isSl : PV → Bool
  | .nilsl | .psl .. | .lsl .. => true
  | _ => false
theorem VK.nostr {x p : PV} (hp : VK ρ m x p) (h : isSl x = true) : isStr p = false := by
  cases x <;> first | (cases h; done) | skip
  case nilsl => rw [hp.nilsl_eq]; rfl
  case psl => rcases hp.psl_inv with ⟨rfl, _⟩ | ⟨_, _, rfl, _⟩ <;> rfl
  case lsl j _ a n _ =>
    obtain ⟨_, hh, ⟨_, _, _, rfl⟩ | ⟨_, _, rfl⟩⟩ := hp.lsl_inv
    · cases hq : ρ j <;> rw [hq] at hh <;> first | rfl | cases hh
    · cases hq : ρ j <;> rw [hq] at hh <;> first | rfl | cases hh
theorem bytesOf_flat : ∀ {es ps : List (List PV)} {l : List UInt8}, VFss es ps → bytesOf es = some l → ps = es
  | _, _, _, .nil, _ => rfl
  | e :: es, p :: ps, l, .cons h t, hb => by
    unfold bytesOf at hb
    split at hb
    · rename_i heq; cases heq
    · rename_i n r heq
      cases heq
      rw [Option.map_eq_some_iff] at hb
      obtain ⟨l', h1, _⟩ := hb
      rw [bytesOf_flat t h1, h.base_eq rfl]
    · cases hb
theorem convKK_ok {s d : TypeId} {x : PV} {k : PV → Option β} (h : convKK P A s d x k = some r) : ∃ v, k v = some r ∧ ∀ ρ env penv σ p, KS ρ A env penv σ → VK ρ A.length x p → ∃ q, convv P σ s d p = some q ∧ VK ρ A.length v q := by
  unfold convKK at h
  split at h
  · rename_i e hs hd
    split at h
    · rename_i he
      split at h
      · cases h
      rename_i hns
      have h0 := h
      obtain ⟨es, h, hx⟩ := rowsK_ok h
      rw [Option.bind_eq_some_iff] at h
      obtain ⟨l, h1, h2⟩ := h
      refine ⟨_, h2, fun ρ env penv σ p hK hp => ?_⟩
      obtain ⟨ps, e1, e2⟩ := hx ρ env penv σ p hK hp
      have := bytesOf_flat e2 h1
      subst this
      refine ⟨_, ?_, .fr (.base _ rfl)⟩
      have hnp : isStr p = false := by
        refine hp.nostr ?_
        cases x <;> first | (exact absurd rfl hns) | rfl | cases h0
      simp only [convv, hs, hd, he, hnp, e1, Bool.false_eq_true, if_false, Option.bind_some, h1, Option.map_some]
    · cases h
  · rename_i hno
    split at h
    · rename_i hf
      rw [Option.bind_eq_some_iff] at h
      obtain ⟨v, h1, h2⟩ := h
      refine ⟨v, h2, fun ρ env penv σ p hK hp => ?_⟩
      rw [hp.flat_eq hf]
      unfold convv at h1 ⊢
      split at h1
      · cases h1; exact ⟨_, rfl, .fr (.base _ rfl)⟩
      · cases h1; exact ⟨_, rfl, .fr (.base _ rfl)⟩
      · rename_i e _ hs hd
        exact absurd hd (hno _ hs)
      · cases h1
    · cases h
end
end Go.Pvm
