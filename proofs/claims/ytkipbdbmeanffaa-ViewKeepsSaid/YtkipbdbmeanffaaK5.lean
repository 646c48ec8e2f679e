/- Part of the proof: code of the evaluator over values alone is that of the one with a store. -/
import Derived.Test.YtkipbdbmeanffaaK4
set_option linter.unusedSimpArgs false
set_option linter.unusedVariables false
namespace Go.Pvm
section
variable {P : Program} {ρ ρ' : Nat → PV} {m : Nat} {A A' : List KO} {env penv : List PV} {σ σ' : Store} {β : Type} {r : β}

/-! ### Numbers, texts -/
theorem arith_base {op : BinOp} {κ : IntKind} {x y : Int} {v : PV} (h : arith op κ x y = some v) : v.base = true := by
  cases op <;> simp only [arith] at h <;> first | (cases h; done) | (cases h; rfl) | (split at h <;> first | (cases h; done) | (cases h; rfl))
theorem binv_base {op : BinOp} {t : TypeId} {x y v : PV} (h : binv P op t x y = some v) : v.base = true := by
  unfold binv at h
  split at h
  · split at h
    · unfold shiftv at h
      split at h
      · cases h
      · split at h <;> first | (cases h; done) | (cases h; rfl)
    · unfold shiftv at h
      split at h
      · cases h
      · split at h <;> first | (cases h; done) | (cases h; rfl)
    · split at h
      · exact arith_base h
      · cases h
  · unfold strv at h
    split at h
    · split at h <;> first | (cases h; done) | (cases h; rfl)
    · cases h; rfl
    · cases h; rfl
    · cases h
  · split at h
    · split at h <;> first | (cases h; done) | (cases h; rfl)
    · cases h
  · split at h
    · cases h
    · split at h
      · rw [Option.map_eq_some_iff] at h; obtain ⟨b, _, rfl⟩ := h; rfl
      · rw [Option.map_eq_some_iff] at h; obtain ⟨b, _, rfl⟩ := h; rfl
      · cases h
theorem eqv_ref (n : Nat) (t : TypeId) (a b c a' b' c' : Nat) : eqv P n t (.ref a b c) .nilptr = eqv P n t (.ref a' b' c') .nilptr := by
  cases n with
  | zero => rfl
  | succ n =>
    unfold eqv
    cases P.underlying t with
    | none => rfl
    | some d => cases d <;> rfl
theorem eqv_pref (n : Nat) (t : TypeId) (a b : List PV) : eqv P n t (.pref a) .nilptr = eqv P n t (.pref b) .nilptr := by
  cases n with
  | zero => rfl
  | succ n =>
    unfold eqv
    cases P.underlying t with
    | none => rfl
    | some d => cases d <;> rfl
theorem binK_ok {op : BinOp} {t : TypeId} {x y v : PV} (h : binK P op t x y = some v) : v.base = true ∧ ∀ ρ m p q, VK ρ m x p → VK ρ m y q → binv P op t p q = some v := by
  unfold binK at h
  split at h
  · rename_i hf
    exact ⟨binv_base h, fun ρ m p q hp hq => by rw [hp.flat_eq hf.1, hq.flat_eq hf.2]; exact h⟩
  · split at h
    · refine ⟨binv_base h, fun ρ m p q hp hq => ?_⟩
      obtain ⟨_, hr⟩ := hp.ref_inv
      rw [hq.base_eq rfl]
      have key : ∃ a b c, p = .ref a b c := by
        unfold refAt at hr
        split at hr <;> first | (cases hr; exact ⟨_, _, _, rfl⟩) | cases hr
      obtain ⟨a', b', c', rfl⟩ := key
      unfold binv guardT at h ⊢
      simp only [Bool.false_eq_true, if_false] at h ⊢
      rw [eqv_ref 10000 t a' b' c' _ _ _]
      exact h
    · refine ⟨binv_base h, fun ρ m p q hp hq => ?_⟩
      obtain ⟨ps, rfl, _⟩ := hp.pref_inv
      rw [hq.base_eq rfl]
      unfold binv guardT at h ⊢
      simp only [Bool.false_eq_true, if_false] at h ⊢
      rw [eqv_pref 10000 t ps _]
      exact h
    · cases h
theorem unv_ok {op : UnOp} {x v : PV} (h : unv op x = some v) : v.base = true ∧ ∀ ρ m p, VK ρ m x p → unv op p = some v := by
  unfold unv at h
  split at h
  · cases h; exact ⟨rfl, fun ρ m p hp => by rw [hp.int_eq]; rfl⟩
  · cases h; exact ⟨rfl, fun ρ m p hp => by rw [hp.int_eq]; rfl⟩
  · cases h; exact ⟨rfl, fun ρ m p hp => by rw [hp.bool_eq]; rfl⟩
  · cases h
theorem fold_base {f : PV → PV → Option PV} (hf : ∀ a b c, f a b = some c → c.base = true) : ∀ (l : List PV) {x v : PV}, x.base = true → foldv f x l = some v → v.base = true
  | [], x, v, hx, h => by cases h; exact hx
  | y :: l, x, v, hx, h => by
    unfold foldv at h
    rw [Option.bind_eq_some_iff] at h
    obtain ⟨z, h1, h2⟩ := h
    exact fold_base hf l (hf _ _ _ h1) h2
theorem fold_flat {f : PV → PV → Option PV} (hf : ∀ a b c, f a b = some c → c.base = true) : ∀ (l : List PV) {x v : PV}, VF x x → foldv f x l = some v → VF v v
  | [], x, v, hx, h => by cases h; exact hx
  | y :: l, x, v, hx, h => by
    unfold foldv at h
    rw [Option.bind_eq_some_iff] at h
    obtain ⟨z, h1, h2⟩ := h
    exact fold_flat hf l (.base _ (hf _ _ _ h1)) h2
theorem VFs.baseR : ∀ {cs : List PV}, cs.all PV.base = true → VFs cs cs
  | [], _ => .nil
  | c :: cs, h => by
    rw [List.all_cons, Bool.and_eq_true] at h
    exact .cons (.base _ h.1) (VFs.baseR h.2)
theorem VF.flatR {v : PV} (h : v.flat = true) : VF v v := by
  rcases flat_cases h with hb | ⟨cs, rfl, hb⟩
  · exact .base _ hb
  · exact .agg (VFs.baseR hb)

/-! ### Made of parts -/
theorem fillv_ok {place : Nat → Option (Nat × Nat)} : ∀ (ps : List (Nat × Operand)) {cs pcs out : List PV}, VKs ρ m env penv → VKs ρ m cs pcs → fillv place cs (ps.map fun (i, x) => (i, opd env x)) = some out → ∃ pout, fillv place pcs (ps.map fun (i, x) => (i, opd penv x)) = some pout ∧ VKs ρ m out pout
  | [], cs, pcs, out, he, hc, h => by cases h; exact ⟨_, rfl, hc⟩
  | (i, x) :: ps, cs, pcs, out, he, hc, h => by
    simp only [List.map_cons, fillv, Option.bind_eq_some_iff] at h ⊢
    obtain ⟨⟨off, size⟩, h1, h⟩ := h
    simp only at h
    split at h
    · rename_i hq
      have hx := opd_ok he x
      have hcs := hx.cells hq.2.2
      obtain ⟨pout, h2, h3⟩ := fillv_ok ps he (hc.over hcs off) h
      refine ⟨pout, ⟨(off, size), h1, ?_⟩, h3⟩
      simp only
      rw [if_pos ⟨by rw [← hcs.len]; exact hq.1, by rw [← hc.len]; exact hq.2.1, hx.known hq.2.2⟩]
      exact h2
    · cases h
theorem zeroOf_R {t : TypeId} {z : PV} (h : zeroOf P t = some z) : VF z z := by
  unfold zeroOf at h
  rw [Option.map_eq_some_iff] at h
  obtain ⟨v, _, rfl⟩ := h
  exact .ofValue v
theorem buildv_ok {t : TypeId} {ps : List (Nat × Operand)} {v : PV} (he : VKs ρ m env penv) (h : buildv P t (ps.map fun (i, x) => (i, opd env x)) = some v) : ∃ p, buildv P t (ps.map fun (i, x) => (i, opd penv x)) = some p ∧ VK ρ m v p := by
  unfold buildv at h ⊢
  rw [Option.bind_eq_some_iff] at h
  obtain ⟨z, hz, h⟩ := h
  rw [hz]
  simp only [Option.bind_some]
  split at h
  · cases h
  rename_i hk
  rw [if_neg hk]
  have hzc : VKs ρ m z.cells z.cells := (VK.fr (zeroOf_R hz)).cells (by simpa using hk)
  split at h
  · rename_i fs hu
    rw [Option.bind_eq_some_iff] at h
    obtain ⟨pl, hpl, h⟩ := h
    rw [Option.map_eq_some_iff] at h
    obtain ⟨out, h1, rfl⟩ := h
    obtain ⟨pout, h2, h3⟩ := fillv_ok ps he hzc h1
    rw [hpl]
    simp only [Option.bind_some, h2, Option.map_some]
    exact ⟨_, rfl, .agg h3⟩
  · rename_i n el hu
    rw [Option.bind_eq_some_iff] at h
    obtain ⟨pl, hpl, h⟩ := h
    rw [Option.map_eq_some_iff] at h
    obtain ⟨out, h1, rfl⟩ := h
    obtain ⟨pout, h2, h3⟩ := fillv_ok ps he hzc h1
    rw [hpl]
    simp only [Option.bind_some, h2, Option.map_some]
    exact ⟨_, rfl, .agg h3⟩
  · cases h
theorem setAll_ok {sz : Nat} : ∀ (ps : List (Nat × Operand)) {es pes out : List (List PV)}, VKs ρ m env penv → All2 (VKs ρ m) es pes → setAll es sz (ps.map fun (i, x) => (i, opd env x)) = some out → ∃ pout, setAll pes sz (ps.map fun (i, x) => (i, opd penv x)) = some pout ∧ All2 (VKs ρ m) out pout
  | [], es, pes, out, he, hc, h => by cases h; exact ⟨_, rfl, hc⟩
  | (i, x) :: ps, es, pes, out, he, hc, h => by
    simp only [List.map_cons, setAll] at h ⊢
    split at h
    · rename_i hq
      have hx := opd_ok he x
      have hcs := hx.cells hq.2.2
      obtain ⟨pout, h2, h3⟩ := setAll_ok ps he (hc.set hcs i) h
      refine ⟨pout, ?_, h3⟩
      rw [if_pos ⟨by rw [← hcs.len]; exact hq.1, by rw [← hc.len]; exact hq.2.1, hx.known hq.2.2⟩]
      exact h2
    · cases h
theorem rowsPl_ss {sz : Nat} {es pes : List (List PV)} (h : All2 (VKs ρ m) es pes) (hr : rowsPl sz es = true) : VFss es pes := by
  induction h with
  | nil => exact .nil
  | cons h _ ih =>
    unfold rowsPl at hr
    rw [List.all_cons, Bool.and_eq_true, Bool.and_eq_true] at hr
    exact .cons (h.plain hr.1.2).1 (ih hr.2)
/-- A slice just made. -/
theorem KS.fresh (hK : KS ρ A env penv σ) {sz n : Nat} {es ps : List (List PV)} (h0 : sz ≠ 0) (hr : rowsPl sz es = true) (hv : VFss es ps) (hn : n = es.length) (n0 : Nat) : Stp n0 ρ A σ (whole A.length sz) env penv (A ++ [.made true sz es]) (.lsl σ.next sz 0 n (some n)) (σ.push (.cells 0 ps)) := by
  subst hn
  obtain ⟨h1, h2⟩ := hK.more (σ' := σ.push (.cells 0 ps)) (u := .lsl σ.next sz 0 es.length (some es.length)) (o := .made true sz es) (Nat.le_succ _) (fun i hi => push_old hi) (fun i hi => by rw [List.mem_singleton.1 hi]; exact Nat.le_refl _)
    ⟨h0, hr, .inr ⟨σ.next, _, 0, ps, rfl, push_obj _ _, hv, .inr rfl, Nat.zero_le _, fun _ => rfl, Nat.lt_succ_self _⟩⟩ n0
  refine ⟨_, h1, ?_, h2⟩
  have : VK (upd ρ A.length (.lsl σ.next sz 0 es.length (some es.length))) (A ++ [KO.made true sz es]).length (.lsl A.length sz 0 0 none) (upd ρ A.length (.lsl σ.next sz 0 es.length (some es.length)) A.length) := .whole (by simp) (by rw [upd_same]; rfl)
  rw [upd_same] at this
  exact this
/-- A variable just laid. -/
theorem KS.laid (hK : KS ρ A env penv σ) {cs ps : List PV} (t : TypeId) (hv : VKs ρ A.length cs ps) (n0 : Nat) : Stp n0 ρ A σ (.ref A.length 0 0) env penv (A ++ [.box true t cs]) (.ref σ.next 0 0) (σ.push (.cells 0 [ps])) := by
  obtain ⟨h1, h2⟩ := hK.more (σ' := σ.push (.cells 0 [ps])) (u := .ref σ.next 0 0) (o := .box true t cs) (Nat.le_succ _) (fun i hi => push_old hi) (fun i hi => by rw [List.mem_singleton.1 hi]; exact Nat.le_refl _)
    ⟨σ.next, ps, 0, rfl, push_obj _ _, hv.mono (Nat.le_succ _) fun k hk => upd_other _ (by omega), fun _ => rfl, Nat.lt_succ_self _⟩ n0
  exact ⟨_, h1, .ref (by simp) (by rw [upd_same]; rfl), h2⟩
theorem Stp.id (hK : KS ρ A env penv σ) {v p : PV} (hv : VK ρ A.length v p) (n0 : Nat) : Stp n0 ρ A σ v env penv A p σ := ⟨ρ, hK, hv, Go2.refl _ _ _ _⟩

theorem rowsPl_app {sz : Nat} {a b : List (List PV)} (h : rowsPl sz a = true) (h' : rowsPl sz b = true) : rowsPl sz (a ++ b) = true := by
  unfold rowsPl at h h' ⊢
  rw [List.all_append, h, h']; rfl
theorem rowsPl_take {sz : Nat} {a : List (List PV)} (h : rowsPl sz a = true) (n : Nat) : rowsPl sz (a.take n) = true := by
  unfold rowsPl at h ⊢
  rw [List.all_eq_true] at h ⊢
  exact fun e he => h e (List.mem_of_mem_take he)
theorem rowsPl_drop {sz : Nat} {a : List (List PV)} (h : rowsPl sz a = true) (n : Nat) : rowsPl sz (a.drop n) = true := by
  unfold rowsPl at h ⊢
  rw [List.all_eq_true] at h ⊢
  exact fun e he => h e (List.mem_of_mem_drop he)
/-- What a part is, with the store. -/
theorem partKK_ok {d : PV} {sz : Nat} {k : Nat → List (List PV) → Nat → Nat → Option β} (h : partKK A d sz k = some r) : ∃ j es a n, k j es a n = some r ∧ A.getD j .dead = .made true sz es ∧
    ∀ ρ env penv σ p, KS ρ A env penv σ → VK ρ A.length d p → (p = .nilsl ∧ ρ j = .nilsl ∧ es = [] ∧ a = 0 ∧ n = 0) ∨ ∃ id cap cap' ps, p = .lsl id sz a n cap ∧ ρ j = .lsl id sz 0 es.length cap' ∧ (cap' = none ∨ cap' = some es.length) ∧ σ.objs id = some (.cells 0 ps) ∧ VFss es ps ∧ a + n ≤ es.length ∧ id < σ.next := by
  unfold partKK at h
  split at h
  · rename_i j sz' a n c
    split at h
    · cases h
    rename_i hs1
    have hs1 : sz' = sz := by simpa using hs1
    subst hs1
    split at h
    · rename_i sz'' es hj
      split at h
      · cases h
      rename_i hs2
      have hs2 : sz'' = sz' := by simpa using hs2
      subst hs2
      split at h
      · refine ⟨_, _, _, _, h, hj, fun ρ env penv σ p hK hp => ?_⟩
        obtain ⟨hl, hh, ⟨_, _, _, rfl⟩ | ⟨e, _⟩⟩ := hp.lsl_inv
        · obtain ⟨q0, q1, ⟨e, rfl⟩ | ⟨id, cap, ro, ps, e, s1, s2, s3, s4, s5, s6⟩⟩ := hK.get hl hj
          · exact .inl ⟨e, e, rfl, rfl, rfl⟩
          · have hro := s5 rfl
            subst hro
            exact .inr ⟨id, cap, cap, ps, e, e, s3, s1, s2, by omega, s6⟩
        · cases e
      · refine ⟨_, _, _, _, h, hj, fun ρ env penv σ p hK hp => ?_⟩
        obtain ⟨hl, hh, ⟨e, _⟩ | ⟨_, hv, rfl⟩⟩ := hp.lsl_inv
        · cases e
        · obtain ⟨q0, q1, ⟨e, rfl⟩ | ⟨id, cap, ro, ps, e, s1, s2, s3, s4, s5, s6⟩⟩ := hK.get hl hj
          · rw [e] at hv ⊢
            obtain ⟨rfl, rfl⟩ := hv
            exact .inl ⟨rfl, rfl, rfl, rfl, rfl⟩
          · have hro := s5 rfl
            subst hro
            rw [e] at hv
            refine .inr ⟨id, cap.map (· - a), cap, ps, by rw [e]; rfl, e, s3, s1, s2, hv, s6⟩
    · cases h
  · cases h
theorem copyKK_ok {el : TypeId} {d s : PV} {t u e2 : TypeId} {k : Nat → List KO → Option β} (ht : P.underlying t = some (.slice el)) (hu : P.underlying u = some (.slice e2)) (h : copyKK P A el d s k = some r) : ∃ n A', k n A' = some r ∧
    ∀ ρ env penv σ n0 p q, KS ρ A env penv σ → VK ρ A.length d p → VK ρ A.length s q → ∃ σ', writeB P σ .copy [t, u] [p, q] = some (.int .i64 (n : Nat), σ') ∧ KS ρ A' env penv σ' ∧ Go2 n0 ρ A σ ρ A' σ' := by
  unfold copyKK at h
  rw [Option.bind_eq_some_iff] at h
  obtain ⟨sz, hsz, h⟩ := h
  obtain ⟨src, h, hx⟩ := rowsK_ok h
  split at h
  · cases h
  rename_i hro
  have hro : rowsPl sz src = true := by simpa using hro
  obtain ⟨j, es, a, n, h, hj, hd⟩ := partKK_ok h
  refine ⟨_, _, h, fun ρ env penv σ n0 p q hK hp hq => ?_⟩
  have hdd : isDead (A.getD j .dead) = false := by rw [hj]; rfl
  obtain ⟨q0, q1, _⟩ := hK.get (getD_lt hdd) hj
  obtain ⟨ps, e1, e2⟩ := hx ρ env penv σ q hK hq
  have hall := (rowsPl_els.1 (rowsPl_p e2 hro)).all1
  rcases hd ρ env penv σ p hK hp with ⟨rfl, e3, rfl, rfl, rfl⟩ | ⟨id, cap, cap', pes, rfl, e3, e4, e5, e6, e7, e8⟩
  · obtain ⟨g1, g2⟩ := hK.put (σ' := σ) (o := .made true sz (([] : List (List PV)).take 0 ++ src.take 0 ++ ([] : List (List PV)).drop (0 + (src.take 0).length))) hdd (Nat.le_refl _) (fun _ _ _ => rfl) ⟨q0, by simpa using q1, .inl ⟨e3, by simp⟩⟩ (fun hb => by rw [hj] at hb; cases hb) n0
    refine ⟨σ, ?_, g1, g2⟩
    simp only [writeB, ht, hu, copyv, hsz, e1, Option.bind_some]
    rw [if_neg q0, if_pos hall]
    show some (PV.int .i64 0, σ) = some (PV.int .i64 ((Nat.min src.length 0 : Nat) : Int), σ)
    rw [show Nat.min src.length 0 = 0 from Nat.min_zero _]
    rfl
  · have hlen : (es.take a ++ src.take n ++ es.drop (a + (src.take n).length)).length = es.length := by
      simp only [List.length_append, List.length_take, List.length_drop]
      omega
    obtain ⟨g1, g2⟩ := hK.put (σ' := σ.put id (.cells 0 (pes.take a ++ ps.take n ++ pes.drop (a + (ps.take n).length)))) (o := .made true sz (es.take a ++ src.take n ++ es.drop (a + (src.take n).length))) hdd (Nat.le_refl _) (fun x _ hx => put_other fun ex => hx (by rw [e3, ex]; exact .head _))
      ⟨q0, rowsPl_app (rowsPl_app (rowsPl_take q1 _) (rowsPl_take hro _)) (rowsPl_drop q1 _), .inr ⟨id, cap', 0, _, by rw [hlen]; exact e3, put_obj _ _ _, by
        have hl2 : (ps.take n).length = (src.take n).length := by rw [List.length_take, List.length_take, e2.len]
        rw [hl2]
        exact ((e6.take a).app (e2.take n)).app (e6.drop _), by rw [hlen]; exact e4, Nat.zero_le _, fun _ => rfl, e8⟩⟩ (fun hb => by rw [hj] at hb; cases hb) n0
    refine ⟨_, ?_, g1, g2⟩
    simp only [writeB, ht, hu, copyv, hsz, e1, Option.bind_some, e5]
    rw [if_neg q0, if_neg (by simp), if_pos ⟨by rw [← e6.len]; exact e7, Nat.zero_le _⟩, if_pos hall, e2.len]
theorem clearKK_ok {el : TypeId} {d : PV} {t : TypeId} {k : List KO → Option β} (ht : P.underlying t = some (.slice el)) (h : clearKK P A el d k = some r) : ∃ A', k A' = some r ∧
    ∀ ρ env penv σ n0 p, KS ρ A env penv σ → VK ρ A.length d p → ∃ σ', writeB P σ .clear [t] [p] = some (.tuple [], σ') ∧ KS ρ A' env penv σ' ∧ Go2 n0 ρ A σ ρ A' σ' := by
  unfold clearKK at h
  simp only [Option.bind_eq_some_iff] at h
  obtain ⟨sz, hsz, z, hz, h⟩ := h
  split at h
  · cases h
  rename_i hne
  have hk : z.known = true := by
    cases hq : z.known with
    | true => rfl
    | false => exact absurd (.inl hq) hne
  have hl : z.cells.length = sz := by
    by_cases hq : z.cells.length = sz
    · exact hq
    · exact absurd (.inr (.inl hq)) hne
  have hpl : z.cells.all PV.plain = true := by
    cases hq : z.cells.all PV.plain with
    | true => rfl
    | false => exact absurd (.inr (.inr hq)) hne
  have hone : z.cells.all PV.one = true := by
    rw [List.all_eq_true] at hpl ⊢
    exact fun x hx => one_plain (hpl x hx)
  obtain ⟨j, es, a, n, h, hj, hd⟩ := partKK_ok h
  refine ⟨_, h, fun ρ env penv σ n0 p hK hp => ?_⟩
  have hdd : isDead (A.getD j .dead) = false := by rw [hj]; rfl
  obtain ⟨q0, q1, _⟩ := hK.get (getD_lt hdd) hj
  have hcond : ¬ (sz = 0 ∨ z.known = false ∨ z.cells.length ≠ sz ∨ z.cells.all PV.one = false) := by simp [q0, hk, hl, hone]
  have hzc : VFs z.cells z.cells := ((VK.fr (ρ := ρ) (m := 0) (zeroOf_R hz)).cells hk).plain hpl |>.1
  rcases hd ρ env penv σ p hK hp with ⟨rfl, e3, rfl, rfl, rfl⟩ | ⟨id, cap, cap', pes, rfl, e3, e4, e5, e6, e7, e8⟩
  · obtain ⟨g1, g2⟩ := hK.put (σ' := σ) (o := .made true sz (([] : List (List PV)).take 0 ++ List.replicate 0 z.cells ++ ([] : List (List PV)).drop (0 + 0))) hdd (Nat.le_refl _) (fun _ _ _ => rfl) ⟨q0, by simpa using q1, .inl ⟨e3, by simp⟩⟩ (fun hb => by rw [hj] at hb; cases hb) n0
    refine ⟨σ, ?_, g1, g2⟩
    simp only [writeB, ht, clearv, hsz, hz, Option.bind_some]
    rw [if_neg hcond]
  · have hlen : (es.take a ++ List.replicate n z.cells ++ es.drop (a + n)).length = es.length := by
      simp only [List.length_append, List.length_take, List.length_drop, List.length_replicate]
      omega
    have hrep : rowsPl sz (List.replicate n z.cells) = true := by
      unfold rowsPl
      rw [List.all_eq_true]
      intro e he
      rw [List.eq_of_mem_replicate he, hpl]
      simp [hl]
    obtain ⟨g1, g2⟩ := hK.put (σ' := σ.put id (.cells 0 (pes.take a ++ List.replicate n z.cells ++ pes.drop (a + n)))) (o := .made true sz (es.take a ++ List.replicate n z.cells ++ es.drop (a + n))) hdd (Nat.le_refl _) (fun x _ hx => put_other fun ex => hx (by rw [e3, ex]; exact .head _))
      ⟨q0, rowsPl_app (rowsPl_app (rowsPl_take q1 _) hrep) (rowsPl_drop q1 _), .inr ⟨id, cap', 0, _, by rw [hlen]; exact e3, put_obj _ _ _, ((e6.take a).app (VFss.of (All2.replicate hzc n))).app (e6.drop _), by rw [hlen]; exact e4, Nat.zero_le _, fun _ => rfl, e8⟩⟩ (fun hb => by rw [hj] at hb; cases hb) n0
    refine ⟨_, ?_, g1, g2⟩
    simp only [writeB, ht, clearv, hsz, hz, Option.bind_some, e5]
    rw [if_neg hcond, if_neg (by simp), if_pos ⟨by rw [← e6.len]; exact e7, Nat.zero_le _⟩]
theorem bltKK_ok {b : Builtin} {ts : List TypeId} {args : List PV} {ty : TypeId} {k : PV → List PV → List KO → Option β} (h : bltKK P b ts args ty env A k = some r) : ∃ v env' A', k v env' A' = some r ∧ env'.length = env.length ∧
    ∀ ρ penv σ n0 pargs, KS ρ A env penv σ → VKs ρ A.length args pargs → ∃ w σ', builtinv P σ b ts pargs = some (w, σ') ∧ Stp n0 ρ A σ v env' penv A' w σ' := by
  unfold bltKK at h
  split at h
  · rename_i t tr x xr
    split at h
    · rename_i hu
      split at h
      · rename_i s
        refine ⟨_, _, _, h, rfl, fun ρ penv σ n0 pargs hK ha => ?_⟩
        cases ha with
        | cons hp ht =>
          rw [hp.str_eq]
          exact ⟨.int .i64 (s.size : Nat), σ, by show (pureB P .len (t :: tr) (.str s :: _)).map _ = _; simp only [pureB, hu, Option.map_some], .id hK (.fr (.base _ rfl)) n0⟩
      · cases h
    · rename_i el hu
      split at h
      · cases h
      rename_i hns
      have h0 := h
      obtain ⟨n, h, hn⟩ := lenKK_ok h
      refine ⟨_, _, _, h, rfl, fun ρ penv σ n0 pargs hK ha => ?_⟩
      cases ha with
      | cons hp ht =>
        rename_i p ps
        have hl := hn ρ env penv σ p hK hp
        have hsl : isStr p = false := hp.nostr (by cases x <;> first | (exact absurd rfl hns) | rfl | cases h0)
        refine ⟨.int .i64 (n : Nat), σ, ?_, .id hK (.fr (.base _ rfl)) n0⟩
        show (pureB P .len (t :: tr) (p :: ps)).map _ = _
        cases p <;> first | (cases hl; done) | (cases hsl; done) | skip
        all_goals (cases hl; simp only [pureB, hu, Option.map_some])
        all_goals rfl
    · cases h
  · rename_i x xr
    split at h
    · rename_i hf
      rw [Option.bind_eq_some_iff] at h
      obtain ⟨v, h1, h2⟩ := h
      refine ⟨_, _, _, asK_ref h2, rfl, fun ρ penv σ n0 pargs hK ha => ?_⟩
      cases ha with
      | cons hp ht =>
        rw [hp.flat_eq hf.1, ht.flat_eq hf.2]
        refine ⟨v, σ, ?_, .id hK (.fr (fold_flat (fun a b c e => ?_) _ (VF.flatR hf.1) h1)) n0⟩
        · have e : pureB P .max ts (x :: xr) = some v := by unfold pureB; exact h1
          unfold builtinv
          rw [if_pos (show calmB .max = true from rfl), e]; rfl
        · unfold max2v at e; split at e <;> first | (cases e; rfl) | cases e
    · cases h
  · rename_i x xr
    split at h
    · rename_i hf
      rw [Option.bind_eq_some_iff] at h
      obtain ⟨v, h1, h2⟩ := h
      refine ⟨_, _, _, asK_ref h2, rfl, fun ρ penv σ n0 pargs hK ha => ?_⟩
      cases ha with
      | cons hp ht =>
        rw [hp.flat_eq hf.1, ht.flat_eq hf.2]
        refine ⟨v, σ, ?_, .id hK (.fr (fold_flat (fun a b c e => ?_) _ (VF.flatR hf.1) h1)) n0⟩
        · have e : pureB P .min ts (x :: xr) = some v := by unfold pureB; exact h1
          unfold builtinv
          rw [if_pos (show calmB .min = true from rfl), e]; rfl
        · unfold min2v at e; split at e <;> first | (cases e; rfl) | cases e
    · cases h
  · rename_i t u s x
    split at h
    · rename_i el e2 hu1 hu2
      split at h
      · cases h
      rename_i hns
      have h0 := h
      obtain ⟨v, env', A', h, hl, hx⟩ := appKK_ok h
      refine ⟨v, env', A', h, hl, fun ρ penv σ n0 pargs hK ha => ?_⟩
      cases ha with
      | cons hp ha =>
        cases ha with
        | cons hq ha =>
          cases ha
          rename_i p q
          obtain ⟨w, σ', e1, e3⟩ := hx ρ penv σ n0 p q hK hp hq
          refine ⟨w, σ', ?_, e3⟩
          have hqs : isStr q = false := hq.nostr (by
            cases x <;> first | (exact absurd rfl hns) | rfl | skip
            all_goals (exfalso; unfold appKK at h0; simp only [Option.bind_eq_some_iff] at h0; obtain ⟨_, _, _, _, _, _, h0⟩ := h0; cases h0))
          show writeB P σ .append [t, u] [p, q] = _
          rw [writeB_append hu1 hu2 hqs]
          exact e1
    · rename_i el hu1 hu2
      split at h
      · rename_i hs
        obtain ⟨v, env', A', h, hl, hx⟩ := appKK_ok h
        refine ⟨v, env', A', h, hl, fun ρ penv σ n0 pargs hK ha => ?_⟩
        cases ha with
        | cons hp ha =>
          cases ha with
          | cons hq ha =>
            cases ha
            rename_i p q
            obtain ⟨w, σ', e1, e3⟩ := hx ρ penv σ n0 p q hK hp hq
            refine ⟨w, σ', ?_, e3⟩
            cases x <;> first | (cases hs; done) | skip
            rw [hq.str_eq] at e1 ⊢
            show writeB P σ .append [t, u] [p, .str _] = _
            simp only [writeB, hu1, hu2]
            exact e1
      · cases h
    · cases h
  · rename_i t u d s
    split at h
    · rename_i el e2 hu1 hu2
      obtain ⟨n, A', h, hx⟩ := copyKK_ok hu1 hu2 h
      refine ⟨_, _, _, h, rfl, fun ρ penv σ n0 pargs hK ha => ?_⟩
      cases ha with
      | cons hp ha =>
        cases ha with
        | cons hq ha =>
          cases ha
          obtain ⟨σ', g1, g2, g3⟩ := hx ρ env penv σ n0 _ _ hK hp hq
          exact ⟨_, σ', g1, ρ, g2, .fr (.base _ rfl), g3⟩
    · cases h
  · rename_i t d
    split at h
    · rename_i el hu1
      obtain ⟨A', h, hx⟩ := clearKK_ok hu1 h
      refine ⟨_, _, _, h, rfl, fun ρ penv σ n0 pargs hK ha => ?_⟩
      cases ha with
      | cons hp ha =>
        cases ha
        obtain ⟨σ', g1, g2, g3⟩ := hx ρ env penv σ n0 _ hK hp
        exact ⟨_, σ', g1, ρ, g2, .fr (.tuple .nil), g3⟩
    · cases h
  · cases h

/-! ### One operation -/
theorem refAt_add {u p : PV} {i o : Nat} (h : refAt u i o = some p) (n : Nat) : ∃ id, p = .ref id i o ∧ refAt u i (o + n) = some (.ref id i (o + n)) := by
  unfold refAt at h
  split at h <;> first | (cases h; exact ⟨_, rfl, rfl⟩) | cases h
theorem opKK_ok {c : Cfg} {kc : KCfg} {C : CallK} {Cω : CallO} (hC : SoundC C Cω) (hO : OwnOk kc Cω) {o : Oper} {k : PV → List PV → List KO → Option β} (h : opKK c kc C env A o k = some r) : ∃ v env' A', k v env' A' = some r ∧ env'.length = env.length ∧
    ∀ ρ penv σ n0, KS ρ A env penv σ → ∃ p σ', evalOp c Cω penv σ o = some (p, σ') ∧ Stp n0 ρ A σ v env' penv A' p σ' := by
  obtain ⟨dst, op, type, pos, after, guard⟩ := o
  unfold opKK at h
  unfold evalOp
  cases op <;> simp only at h ⊢
  case move x => exact ⟨_, _, _, h, rfl, fun ρ penv σ n0 hK => ⟨_, _, rfl, .id hK (opd_ok hK.env x) n0⟩⟩
  case assign x => exact ⟨_, _, _, h, rfl, fun ρ penv σ n0 hK => ⟨_, _, rfl, .id hK (opd_ok hK.env x) n0⟩⟩
  case pick cd a b =>
    split at h
    · rename_i t ht
      have hb : ∀ {ρ penv σ}, KS ρ A env penv σ → opd penv cd = .bool t := fun hK => by
        have := opd_ok hK.env cd
        rw [ht] at this
        exact this.bool_eq
      split at h
      · rename_i htt
        exact ⟨_, _, _, h, rfl, fun ρ penv σ n0 hK => ⟨opd penv a, σ, by simp only [hb hK]; rw [if_pos htt], .id hK (opd_ok hK.env a) n0⟩⟩
      · rename_i htt
        exact ⟨_, _, _, h, rfl, fun ρ penv σ n0 hK => ⟨opd penv b, σ, by simp only [hb hK]; rw [if_neg htt], .id hK (opd_ok hK.env b) n0⟩⟩
    · cases h
  case alloc el =>
    simp only [Option.bind_eq_some_iff] at h
    obtain ⟨z, h1, h2⟩ := h
    split at h2
    · rename_i hk
      refine ⟨_, _, _, h2, rfl, fun ρ penv σ n0 hK => ⟨_, _, ?_, hK.laid el ((VK.fr (zeroOf_R h1)).cells hk.1) n0⟩⟩
      rw [h1]
      simp only [Option.bind_some]
      rw [if_pos hk]
    · cases h2
  case box el x =>
    split at h
    · rename_i hk
      refine ⟨_, _, _, h, rfl, fun ρ penv σ n0 hK => ?_⟩
      have hx := opd_ok hK.env x
      have hc := hx.cells hk.1
      refine ⟨_, _, ?_, hK.laid el hc n0⟩
      rw [if_pos ⟨hx.known hk.1, by rw [← hc.len]; exact hk.2⟩]
    · cases h
  case build t ps =>
    simp only [Option.bind_eq_some_iff] at h
    obtain ⟨z, h1, h2⟩ := h
    rw [forceV_eq] at h2
    refine ⟨_, _, _, h2, rfl, fun ρ penv σ n0 hK => ?_⟩
    obtain ⟨p, e1, e2⟩ := buildv_ok hK.env h1
    exact ⟨p, σ, by rw [e1]; rfl, .id hK e2 n0⟩
  case buildSlice t n ps =>
    split at h
    · rename_i el hu
      simp only [Option.bind_eq_some_iff] at h
      obtain ⟨sz, hsz, z, hz, h⟩ := h
      split at h
      · rename_i hc
        rw [Option.bind_eq_some_iff] at h
        obtain ⟨es, h1, h⟩ := h
        split at h
        · rename_i hr
          refine ⟨_, _, _, h, rfl, fun ρ penv σ n0 hK => ?_⟩
          have hzc : VKs ρ A.length z.cells z.cells := (VK.fr (zeroOf_R hz)).cells hc.2.1
          obtain ⟨pes, e1, e2⟩ := setAll_ok ps.toList hK.env (All2.replicate hzc n) h1
          have hlen : es.length = n := by
            have : ∀ (l : List (Nat × PV)) (a b : List (List PV)), setAll a sz l = some b → b.length = a.length := by
              intro l
              induction l with
              | nil => intro a b h; cases h; rfl
              | cons x l ih =>
                intro a b h
                unfold setAll at h
                split at h
                · rw [ih _ _ h]; simp
                · cases h
            rw [this _ _ _ h1]; simp
          refine ⟨_, _, ?_, hK.fresh hc.1 hr (rowsPl_ss e2 hr) hlen.symm n0⟩
          simp only [buildSlv, hu, hsz, hz, Option.bind_some]
          rw [if_pos hc, e1]
          rfl
        · cases h
      · cases h
    · cases h
  case load t a =>
    split at h
    · rename_i hc
      simp only [Option.bind_eq_some_iff] at h
      obtain ⟨v, h1, h2⟩ := h
      rw [forceV_eq] at h2
      refine ⟨_, _, _, h2, rfl, fun ρ penv σ n0 hK => ?_⟩
      rw [if_pos hc]
      have ha := opd_ok hK.env a
      unfold loadcv at h1
      split at h1
      · rename_i cs hq
        rw [hq] at ha
        obtain ⟨ps, e, hcs⟩ := ha.pref_inv
        obtain ⟨p, e1, e2⟩ := partOf_ok h1 hcs.k
        exact ⟨p, σ, by rw [e]; simp only [loadcv, e1, Option.map_some], .id hK e2 n0⟩
      · cases h1
    · rename_i hc
      obtain ⟨v, h1, h2⟩ := loadKK_ok h
      rw [forceV_eq] at h1
      refine ⟨_, _, _, h1, rfl, fun ρ penv σ n0 hK => ?_⟩
      rw [if_neg hc]
      obtain ⟨q, e1, e2⟩ := h2 ρ env penv σ _ hK (opd_ok hK.env a)
      exact ⟨q, σ, by rw [e1]; rfl, .id hK e2 n0⟩
  case store t a x =>
    obtain ⟨A', h1, h2⟩ := storeKK_ok h
    refine ⟨_, _, _, h1, rfl, fun ρ penv σ n0 hK => ?_⟩
    obtain ⟨σ', e1, e2, e3, _⟩ := h2 ρ env penv σ n0 _ _ hK (opd_ok hK.env a) (opd_ok hK.env x)
    exact ⟨.tuple [], σ', by rw [e1]; rfl, ρ, e2, .fr (.tuple .nil), e3⟩
  case nilCheck x =>
    simp only [Option.bind_eq_some_iff] at h
    obtain ⟨v, h1, h2⟩ := h
    refine ⟨_, _, _, h2, rfl, fun ρ penv σ n0 hK => ?_⟩
    have hx := opd_ok hK.env x
    have hv : v = opd env x := by
      generalize opd env x = z at h1
      unfold nilv at h1
      split at h1 <;> first | (cases h1; rfl) | cases h1
    rw [← hv] at h1 hx
    refine ⟨opd penv x, σ, ?_, .id hK hx n0⟩
    generalize opd penv x = p at hx
    unfold nilv at h1
    split at h1
    · obtain ⟨_, hr⟩ := hx.ref_inv
      obtain ⟨id, rfl, _⟩ := refAt_add hr 0
      rfl
    · obtain ⟨ps, rfl, _⟩ := hx.pref_inv
      rfl
    · obtain ⟨ps, rfl, _⟩ := hx.func_inv
      rfl
    · cases h1
  case binOp op t x y ty =>
    simp only [Option.bind_eq_some_iff] at h
    obtain ⟨v, h1, h2⟩ := h
    obtain ⟨hb, h3⟩ := binK_ok h1
    refine ⟨_, _, _, asK_ref h2, rfl, fun ρ penv σ n0 hK => ?_⟩
    exact ⟨v, σ, by rw [h3 _ _ _ _ (opd_ok hK.env x) (opd_ok hK.env y)]; rfl, .id hK (.fr (.base _ hb)) n0⟩
  case unOp op t x =>
    simp only [Option.bind_eq_some_iff] at h
    obtain ⟨v, h1, h2⟩ := h
    obtain ⟨hb, h3⟩ := unv_ok h1
    refine ⟨_, _, _, asK_ref h2, rfl, fun ρ penv σ n0 hK => ?_⟩
    exact ⟨v, σ, by rw [h3 _ _ _ (opd_ok hK.env x)]; rfl, .id hK (.fr (.base _ hb)) n0⟩
  case convert s d x =>
    obtain ⟨v, h1, h2⟩ := convKK_ok h
    refine ⟨_, _, _, asK_ref h1, rfl, fun ρ penv σ n0 hK => ?_⟩
    obtain ⟨q, e1, e2⟩ := h2 ρ env penv σ _ hK (opd_ok hK.env x)
    exact ⟨q, σ, by rw [e1]; rfl, .id hK e2 n0⟩
  case makeFunc fn fs cs =>
    cases fn <;> simp only at h ⊢
    case func f =>
      split at h
      · rename_i hk
        exact ⟨_, _, _, h, rfl, fun ρ penv σ n0 hK => ⟨_, _, by rw [if_pos hk], .id hK (.func f (opds_ok hK.env _)) n0⟩⟩
      · cases h
    all_goals cases h
  case makeSlice t l cp =>
    split at h
    · rename_i el l' cp' hu hl hcp
      simp only [Option.bind_eq_some_iff] at h
      obtain ⟨sz, hsz, by_, hby, z, hz, h⟩ := h
      split at h
      · rename_i hc
        split at h
        · rename_i hd
          obtain ⟨d1, rfl, d3, d4⟩ := hd
          refine ⟨_, _, _, h, rfl, fun ρ penv σ n0 hK => ?_⟩
          have e1 : opd penv l = .int .i64 l' := by have := opd_ok hK.env l; rw [hl] at this; exact this.int_eq
          have e2 : opd penv cp = .int .i64 l' := by have := opd_ok hK.env cp; rw [hcp] at this; exact this.int_eq
          have hzc : VFs z.cells z.cells := ((VK.fr (ρ := ρ) (m := 0) (zeroOf_R hz)).cells hc.2.1).plain hc.2.2.2 |>.1
          have hr : rowsPl sz (List.replicate l'.toNat z.cells) = true := by
            unfold rowsPl
            rw [List.all_eq_true]
            intro e he
            rw [List.eq_of_mem_replicate he, hc.2.2.2]
            simp [hc.2.2.1]
          have hv : VFss (List.replicate l'.toNat z.cells) (List.replicate l'.toNat z.cells) := VFss.of (All2.replicate hzc _)
          refine ⟨_, _, ?_, hK.fresh (n := l'.toNat) hc.1 hr hv (by simp) n0⟩
          simp only [makeSlv, hu, e1, e2, hsz, hby, hz, Option.bind_some]
          rw [if_pos ⟨hc.1, hc.2.1, hc.2.2.1, d1, Int.le_refl _, d3, d4⟩]
        · cases h
      · cases h
    · cases h
  case slice t x lo hi mx =>
    obtain ⟨v, h1, h2⟩ := cutKK_ok h
    refine ⟨_, _, _, h1, rfl, fun ρ penv σ n0 hK => ?_⟩
    obtain ⟨q, e1, e2⟩ := h2 ρ env penv σ _ _ _ _ hK (opd_ok hK.env x) (OpR.map hK.env lo) (OpR.map hK.env hi) (OpR.map hK.env mx)
    exact ⟨q, σ, by rw [e1]; rfl, .id hK e2 n0⟩
  case fieldAddr s x f =>
    simp only [Option.bind_eq_some_iff] at h
    obtain ⟨v, h1, h2⟩ := h
    refine ⟨_, _, _, h2, rfl, fun ρ penv σ n0 hK => ?_⟩
    have hx := opd_ok hK.env x
    unfold fieldAddrv at h1 ⊢
    split at h1
    · rename_i fs hu
      simp only [Option.bind_eq_some_iff] at h1
      obtain ⟨fd, hfd, n, hn, h1⟩ := h1
      simp only [hfd, hn, Option.bind_some]
      split at h1
      · cases h1
      rename_i hn0
      simp only [if_neg hn0]
      split at h1
      · rename_i j i off hq
        cases h1
        rw [hq] at hx
        obtain ⟨hl, hr⟩ := hx.ref_inv
        obtain ⟨id, e1, e2⟩ := refAt_add hr fd.offset
        rw [e1]
        exact ⟨_, σ, rfl, .id hK (.ref hl e2) n0⟩
      · rename_i cs hq
        cases h1
        rw [hq] at hx
        obtain ⟨ps, e, hc⟩ := hx.pref_inv
        rw [e]
        exact ⟨_, σ, rfl, .id hK (.fr (.pref (hc.drop _))) n0⟩
      · cases h1
    · cases h1
  case field s x f =>
    simp only [Option.bind_eq_some_iff] at h
    obtain ⟨v, h1, h2⟩ := h
    rw [forceV_eq] at h2
    refine ⟨_, _, _, h2, rfl, fun ρ penv σ n0 hK => ?_⟩
    have hx := opd_ok hK.env x
    unfold fieldv at h1
    split at h1
    · rename_i fs cs hu hq
      rw [Option.bind_eq_some_iff] at h1
      obtain ⟨fd, hfd, h1⟩ := h1
      rw [hq] at hx
      obtain ⟨ps, e, hc⟩ := hx.agg_inv
      obtain ⟨p, e1, e2⟩ := partOf_ok h1 hc
      refine ⟨p, σ, ?_, .id hK e2 n0⟩
      rw [e]
      simp only [fieldv, hu, hfd, Option.bind_some, e1, Option.map_some]
    · cases h1
  case indexAddr t x i =>
    obtain ⟨v, h1, h2⟩ := idxKK_ok h
    refine ⟨_, _, _, h1, rfl, fun ρ penv σ n0 hK => ?_⟩
    obtain ⟨q, e1, e2⟩ := h2 ρ env penv σ _ _ hK (opd_ok hK.env x) (opd_ok hK.env i)
    exact ⟨q, σ, by rw [e1]; rfl, .id hK e2 n0⟩
  case index t x i =>
    simp only [Option.bind_eq_some_iff] at h
    obtain ⟨v, h1, h2⟩ := h
    refine ⟨_, _, _, asK_ref h2, rfl, fun ρ penv σ n0 hK => ?_⟩
    have hx := opd_ok hK.env x
    have hi := opd_ok hK.env i
    unfold indexv at h1 ⊢
    rw [Option.bind_eq_some_iff] at h1
    obtain ⟨n, hn, h1⟩ := h1
    have hn' : intOf? (opd penv i) = some n := by
      generalize opd env i = z at hn hi
      cases z <;> first | (cases hn; done) | skip
      rw [hi.int_eq]
      exact hn
    rw [hn']
    simp only [Option.bind_some]
    split at h1
    · rename_i m el cs hu hq
      rw [Option.bind_eq_some_iff] at h1
      obtain ⟨sz, hsz, h1⟩ := h1
      rw [hq] at hx
      obtain ⟨ps, e, hc⟩ := hx.agg_inv
      split at h1
      · rename_i hb
        obtain ⟨p, e1, e2⟩ := partOf_ok h1 hc
        refine ⟨p, σ, ?_, .id hK e2 n0⟩
        rw [e]
        simp only [hu, hsz, Option.bind_some]
        rw [if_pos hb, e1]
        rfl
      · cases h1
    · rename_i s hu hq
      rw [hq] at hx
      rw [hx.str_eq]
      split at h1
      · rename_i hb
        refine ⟨v, σ, ?_, .id hK ?_ n0⟩
        · simp only [hu]
          rw [if_pos hb, h1]
          rfl
        · rw [Option.map_eq_some_iff] at h1
          obtain ⟨b, _, rfl⟩ := h1
          exact .fr (.base _ rfl)
      · cases h1
    · cases h1
  case extract x i =>
    simp only [Option.bind_eq_some_iff] at h
    obtain ⟨v, h1, h2⟩ := h
    rw [forceV_eq] at h2
    refine ⟨_, _, _, h2, rfl, fun ρ penv σ n0 hK => ?_⟩
    have hx := opd_ok hK.env x
    generalize opd env x = z at h1 hx
    unfold tupv at h1
    split at h1
    · obtain ⟨ps, e, hc⟩ := hx.tuple_inv
      rw [e]
      obtain ⟨p, e1, e2⟩ := hc.get h1
      exact ⟨p, σ, by simp only [e1, Option.map_some], .id hK e2 n0⟩
    · cases h1
  case call cl =>
    obtain ⟨callee, args, ts⟩ := cl
    cases callee <;> simp only at h ⊢
    case builtin b =>
      obtain ⟨v, env', A', h1, hl, h2⟩ := bltKK_ok h
      exact ⟨v, env', A', h1, hl, fun ρ penv σ n0 hK => h2 ρ penv σ n0 _ hK (opds_ok hK.env _)⟩
    case value x =>
      simp only [Option.bind_eq_some_iff] at h
      obtain ⟨⟨g, cs⟩, h0, h⟩ := h
      obtain ⟨v, env', A', h1, hl, h2⟩ := callKK_ok hC hO h
      refine ⟨v, env', A', h1, hl, fun ρ penv σ n0 hK => ?_⟩
      have hx := opd_ok hK.env x
      generalize opd env x = z at h0 hx
      unfold fnv at h0
      split at h0
      · cases h0
        obtain ⟨ps, e, hc⟩ := hx.func_inv
        rw [e]
        exact h2 ρ penv σ n0 _ hK ((opds_ok hK.env _).app hc)
      · cases h0
    case invoke x m => cases h
  all_goals cases h

/-! ### Operations in order -/
theorem putv_ok (he : VKs ρ m env penv) {d : Option Nat} {v p : PV} (hv : VK ρ m v p) : VKs ρ m (putv env d v) (putv penv d p) := by
  cases d with
  | none => exact he
  | some t => exact he.set hv t
theorem putv_len (env : List PV) (d : Option Nat) (v : PV) : (putv env d v).length = env.length := by
  cases d with
  | none => rfl
  | some t => exact List.length_set
theorem opsKK_ok {c : Cfg} {kc : KCfg} {C : CallK} {Cω : CallO} (hC : SoundC C Cω) (hO : OwnOk kc Cω) {all : List Oper} : ∀ (l : List Oper) {env : List PV} {A : List KO} {k : List PV → List KO → Option β}, opsKK c kc C all l env A k = some r →
    ∃ env' A', k env' A' = some r ∧ env'.length = env.length ∧ ∀ ρ penv σ n0, KS ρ A env penv σ → ∃ penv' σ' ρ', evalOps c Cω all l penv σ = some (penv', σ') ∧ KS ρ' A' env' penv' σ' ∧ Go2 n0 ρ A σ ρ' A' σ'
  | [], env, A, k, h => ⟨_, _, h, rfl, fun ρ penv σ n0 hK => ⟨penv, σ, ρ, rfl, hK, Go2.refl _ _ _ _⟩⟩
  | o :: l, env, A, k, h => by
    have go : (opKK c kc C env A o fun v env A => putK env o.dst v fun e => opsKK c kc C all l e A k) = some r → ∃ env' A', k env' A' = some r ∧ env'.length = env.length ∧ ∀ ρ penv σ n0, wants all penv o = some true → KS ρ A env penv σ → ∃ penv' σ' ρ', evalOps c Cω all (o :: l) penv σ = some (penv', σ') ∧ KS ρ' A' env' penv' σ' ∧ Go2 n0 ρ A σ ρ' A' σ' := by
      intro h
      obtain ⟨v, e1, A1, h1, hl1, h2⟩ := opKK_ok hC hO h
      rw [putK_eq] at h1
      obtain ⟨e2, A2, h3, hl2, h4⟩ := opsKK_ok hC hO l h1
      refine ⟨e2, A2, h3, by rw [hl2, putv_len, hl1], fun ρ penv σ n0 hw hK => ?_⟩
      obtain ⟨p, σ1, g1, ρ1, g2, g3, g4⟩ := h2 ρ penv σ n0 hK
      obtain ⟨penv', σ', ρ', g5, g6, g7⟩ := h4 ρ1 (putv penv o.dst p) σ1 n0 (g2.withEnv (putv_ok g2.env g3))
      refine ⟨penv', σ', ρ', ?_, g6, g4.trans g7⟩
      simp only [evalOps, hw, Option.bind_some, if_true, g1]
      exact g5
    have no : opsKK c kc C all l (putv env o.dst (.tuple [])) A k = some r → ∃ env' A', k env' A' = some r ∧ env'.length = env.length ∧ ∀ ρ penv σ n0, wants all penv o = some false → KS ρ A env penv σ → ∃ penv' σ' ρ', evalOps c Cω all (o :: l) penv σ = some (penv', σ') ∧ KS ρ' A' env' penv' σ' ∧ Go2 n0 ρ A σ ρ' A' σ' := by
      intro h
      obtain ⟨e2, A2, h3, hl2, h4⟩ := opsKK_ok hC hO l h
      refine ⟨e2, A2, h3, by rw [hl2, putv_len], fun ρ penv σ n0 hw hK => ?_⟩
      obtain ⟨penv', σ', ρ', g5, g6, g7⟩ := h4 ρ (putv penv o.dst (.tuple [])) σ n0 (hK.withEnv (putv_ok hK.env (.fr (.tuple .nil))))
      refine ⟨penv', σ', ρ', ?_, g6, g7⟩
      simp only [evalOps, hw, Option.bind_some, Bool.false_eq_true, if_false]
      exact g5
    unfold opsKK at h
    simp only [setL_eq] at h
    split at h
    · rename_i hg
      obtain ⟨e, A', h1, h2, h3⟩ := go h
      exact ⟨e, A', h1, h2, fun ρ penv σ n0 hK => h3 ρ penv σ n0 (by unfold wants; rw [hg]) hK⟩
    · rename_i g w hg
      split at h
      · cases h
      · rename_i d hd
        have hwb : ∀ {b : Bool} {ρ penv σ}, env.getD d .undef = .bool b → KS ρ A env penv σ → wants all penv o = some (b == w) := fun hb hK => by
          have := hK.env.getD d
          rw [hb] at this
          unfold wants
          rw [hg]
          simp only [hd]
          rw [this.bool_eq]
        split at h
        · rename_i b hb
          split at h
          · rename_i hbt
            subst hbt
            rw [set_same hb] at h
            cases w with
            | true =>
              rw [if_pos rfl] at h
              obtain ⟨e, A', h1, h2, h3⟩ := go h
              exact ⟨e, A', h1, h2, fun ρ penv σ n0 hK => h3 ρ penv σ n0 (hwb hb hK) hK⟩
            | false =>
              rw [if_neg (by decide), putK_eq] at h
              obtain ⟨e, A', h1, h2, h3⟩ := no h
              exact ⟨e, A', h1, h2, fun ρ penv σ n0 hK => h3 ρ penv σ n0 (hwb hb hK) hK⟩
          · rename_i hbt
            have hbf : b = false := by simpa using hbt
            subst hbf
            rw [set_same hb] at h
            cases w with
            | false =>
              rw [if_pos rfl] at h
              obtain ⟨e, A', h1, h2, h3⟩ := go h
              exact ⟨e, A', h1, h2, fun ρ penv σ n0 hK => h3 ρ penv σ n0 (hwb hb hK) hK⟩
            | true =>
              rw [if_neg (by decide), putK_eq] at h
              obtain ⟨e, A', h1, h2, h3⟩ := no h
              exact ⟨e, A', h1, h2, fun ρ penv σ n0 hK => h3 ρ penv σ n0 (hwb hb hK) hK⟩
        · rename_i vs hb
          rw [putK_eq] at h
          obtain ⟨e, A', h1, h2, h3⟩ := no h
          refine ⟨e, A', h1, h2, fun ρ penv σ n0 hK => h3 ρ penv σ n0 ?_ hK⟩
          have := hK.env.getD d
          rw [hb] at this
          obtain ⟨ps, e, _⟩ := this.tuple_inv
          unfold wants
          rw [hg]
          simp only [hd]
          rw [e]
        · cases h
end
end Go.Pvm
