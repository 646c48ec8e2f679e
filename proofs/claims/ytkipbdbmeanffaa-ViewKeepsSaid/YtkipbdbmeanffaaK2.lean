/- Part of the proof: operations of the evaluator over values alone are those of the one with a store. -/
import Derived.Test.YtkipbdbmeanffaaK1
set_option linter.unusedSimpArgs false
set_option linter.unusedVariables false
namespace Go.Pvm

theorem VF.ofCell (v : Value) : VF (ofCell v) (ofCell v) := by
  unfold Pvm.ofCell
  split <;> first | exact .base _ rfl | exact .undef _
theorem VFs.refl_of {l : List PV} (h : ∀ v ∈ l, VF v v) : VFs l l := by
  induction l with
  | nil => exact .nil
  | cons v l ih => exact .cons (h v (.head _)) (ih fun x hx => h x (.tail _ hx))
theorem VF.ofValue (v : Value) : VF (ofValue v) (ofValue v) := by
  unfold Pvm.ofValue
  split
  · exact .agg (.refl_of fun x hx => by obtain ⟨c, _, rfl⟩ := List.mem_map.1 hx; exact .ofCell c)
  · split
    · exact .func _ .nil
    · exact .undef _
  · split
    · exact .tuple .nil
    · exact .undef _
  · exact .ofCell v

section
variable {P : Program} {ρ ρ' : Nat → PV} {m : Nat} {A A' : List KO} {env penv : List PV} {σ σ' : Store} {β : Type} {r : β}
theorem opd_ok (h : VKs ρ m env penv) (x : Operand) : VK ρ m (opd env x) (opd penv x) := by
  cases x with
  | tmp t => exact h.getD t
  | const v => exact .fr (.ofValue v)
  | func f => exact .func f .nil
  | global _ => exact .undef _
theorem opds_ok (h : VKs ρ m env penv) (l : List Operand) : VKs ρ m (l.map (opd env)) (l.map (opd penv)) := .map l fun x _ => opd_ok h x
theorem VK.cells {v p : PV} (h : VK ρ m v p) (hk : v.known = true) : VKs ρ m v.cells p.cells := by
  match h with
  | .fr (.undef _) => cases hk
  | .fr (.base v hb) => cases v <;> first | exact .one (.fr (.base _ rfl)) | cases hb
  | .fr (.psl b b' h) => exact .one (.fr (.psl b b' h))
  | .fr (.nl b) => exact .one (.fr (.nl b))
  | .fr (.pref h) => exact .one (.fr (.pref h))
  | .fr (.agg h) => exact h.k
  | .fr (.tuple h) => exact .one (.fr (.tuple h))
  | .fr (.func f h) => exact .one (.fr (.func f h))
  | .ref (k := k) h h2 =>
    have hc : p.cells = [p] := by
      unfold refAt at h2
      split at h2 <;> first | (cases h2; rfl) | cases h2
    rw [hc]
    exact .one (.ref h h2)
  | .whole (k := k) h hh =>
    have hc : (ρ k).cells = [ρ k] := by
      cases hq : ρ k <;> rw [hq] at hh <;> first | rfl | cases hh
    rw [hc]
    exact .one (.whole h hh)
  | .view (k := k) (a := a) (n := n) h hh h2 =>
    have hc : (cutP (ρ k) a n).cells = [cutP (ρ k) a n] := by
      cases hq : ρ k <;> rw [hq] at hh <;> first | rfl | cases hh
    rw [hc]
    exact .one (.view h hh h2)
  | .agg h => exact h
  | .tuple h => exact .one (.tuple h)
  | .func f h => exact .one (.func f h)
theorem VK.one {v p : PV} (h : VK ρ m v p) (hk : v.one = true) : p.one = true := by
  match h with
  | .fr (.undef _) => cases hk
  | .fr (.base v hb) => exact hk
  | .fr (.psl b b' h) => rfl
  | .fr (.nl b) => rfl
  | .fr (.pref h) => rfl
  | .fr (.agg h) => cases hk
  | .fr (.tuple h) => cases hk
  | .fr (.func f h) => rfl
  | .ref (k := k) h h2 =>
    unfold refAt at h2
    split at h2 <;> first | (cases h2; rfl) | cases h2
  | .whole (k := k) h hh => cases hq : ρ k <;> rw [hq] at hh <;> first | rfl | cases hh
  | .view (k := k) (a := a) (n := n) h hh h2 => cases hq : ρ k <;> rw [hq] at hh <;> first | rfl | cases hh
  | .agg h => cases hk
  | .tuple h => cases hk
  | .func f h => rfl
theorem VKs.ones : ∀ {cs ps : List PV}, VKs ρ m cs ps → cs.all PV.one = true → ps.all PV.one = true
  | _, _, .nil, _ => rfl
  | _, _, .cons h t, hb => by
    rw [List.all_cons, Bool.and_eq_true] at hb
    rw [List.all_cons, h.one hb.1, t.ones hb.2]; rfl
theorem VK.known {v p : PV} (h : VK ρ m v p) (hk : v.known = true) : p.known = true := by
  match h with
  | .fr (.undef _) => cases hk
  | .fr (.base v hb) => exact hk
  | .fr (.psl b b' h) => rfl
  | .fr (.nl b) => rfl
  | .fr (.pref h) => rfl
  | .fr (.agg h) => rfl
  | .fr (.tuple h) => rfl
  | .fr (.func f h) => rfl
  | .ref (k := k) h h2 =>
    unfold refAt at h2
    split at h2 <;> first | (cases h2; rfl) | cases h2
  | .whole (k := k) h hh => cases hq : ρ k <;> rw [hq] at hh <;> first | rfl | cases hh
  | .view (k := k) (a := a) (n := n) h hh h2 => cases hq : ρ k <;> rw [hq] at hh <;> first | rfl | cases hh
  | .agg h => rfl
  | .tuple h => rfl
  | .func f h => rfl
theorem one_known {v : PV} {n : Nat} (h : v.cells.all PV.one = true) (hn : v.cells.length = n) : v.known = true := by
  cases v <;> first | rfl | cases h

theorem partOf_ok {t : TypeId} {cs ps : List PV} {off : Nat} {v : PV} (h : partOf P t cs off = some v) (hc : VKs ρ m cs ps) : ∃ p, partOf P t ps off = some p ∧ VK ρ m v p := by
  unfold partOf at h ⊢
  cases hs : szOf P t with
  | none => rw [hs] at h; cases h
  | some n =>
    rw [hs] at h
    simp only [Option.bind_some] at h ⊢
    cases hu : P.underlying t with
    | none => rw [hu] at h; cases h
    | some d =>
      rw [hu] at h
      simp only [Option.bind_some] at h ⊢
      by_cases ha : aggD d = true
      · rw [if_pos ha] at h ⊢
        by_cases hl : off + n ≤ cs.length
        · rw [if_pos hl] at h
          cases h
          rw [if_pos (by rw [← hc.len]; exact hl)]
          exact ⟨_, rfl, .agg ((hc.drop off).take n)⟩
        · rw [if_neg hl] at h; cases h
      · rw [if_neg ha] at h ⊢
        exact hc.get h

/-! ### What is known of a value -/
mutual
theorem VF.scalar : ∀ {v p : PV}, VF v p → v.scalar = true → p = v ∧ p.scalar = true
  | _, _, .undef _, h => by cases h
  | _, _, .base v hb, h => ⟨rfl, h⟩
  | _, _, .psl .., h => by cases h
  | _, _, .nl _, h => by cases h
  | _, _, .pref _, h => by cases h
  | _, _, .agg hc, h => by obtain ⟨rfl, h2⟩ := VFs.scalars hc h; exact ⟨rfl, h2⟩
  | _, _, .tuple hc, h => by obtain ⟨rfl, h2⟩ := VFs.scalars hc h; exact ⟨rfl, h2⟩
  | _, _, .func .., h => by cases h
theorem VFs.scalars : ∀ {v p : List PV}, VFs v p → PV.scalar.scalars v = true → p = v ∧ PV.scalar.scalars p = true
  | _, _, .nil, _ => ⟨rfl, rfl⟩
  | _, _, .cons hv ht, h => by
    unfold PV.scalar.scalars at h
    rw [Bool.and_eq_true] at h
    obtain ⟨rfl, h1⟩ := VF.scalar hv h.1
    obtain ⟨rfl, h2⟩ := VFs.scalars ht h.2
    exact ⟨rfl, by unfold PV.scalar.scalars; rw [h1, h2]; rfl⟩
end

mutual
theorem asSk_ok : ∀ (s : Sk) {v : PV} {k : PV → Option β}, asSk s v k = some r → ∃ v', k v' = some r ∧ (∀ ρ m p, VK ρ m v p → VK ρ m v' p) ∧ (∀ p, VF v p → VF v' p) ∧ (s.scalar = true → v'.scalar = true)
  | .any, v, k, h => ⟨v, h, fun _ _ _ h => h, fun _ h => h, fun h => by cases h⟩
  | .drop, v, k, h => ⟨.undef, h, fun _ _ _ _ => .undef _, fun _ _ => .undef _, fun h => by cases h⟩
  | .bool, v, k, h => by
    cases v <;> first | (cases h; done) | exact ⟨_, h, fun _ _ _ h => h, fun _ h => h, fun _ => rfl⟩
  | .str, v, k, h => by
    cases v <;> first | (cases h; done) | exact ⟨_, h, fun _ _ _ h => h, fun _ h => h, fun _ => rfl⟩
  | .psl, v, k, h => by
    cases v <;> first | (cases h; done) | skip
    · exact ⟨_, h, fun _ _ p hp => by rw [hp.nilsl_eq]; exact .fr (.nl _), fun p hp => by rw [hp.base_eq rfl]; exact .nl _, fun h => by cases h⟩
    · refine ⟨_, h, fun _ _ p hp => ?_, fun p hp => ?_, fun h => by cases h⟩
      · rcases hp.psl_inv with ⟨rfl, rfl⟩ | ⟨b', ps, rfl, h⟩
        · exact .fr (.nl _)
        · exact .fr (.psl _ _ h)
      · rcases (VK.fr (ρ := fun _ => .undef) (m := 0) hp).psl_inv with ⟨rfl, rfl⟩ | ⟨b', ps, rfl, h⟩
        · exact .nl _
        · exact .psl _ _ h
  | .int κ, v, k, h => by
    unfold asSk asInt at h
    split at h
    · split at h
      · rename_i e; subst e; exact ⟨_, h, fun _ _ _ h => h, fun _ h => h, fun _ => rfl⟩
      · cases h
    · cases h
  | .flt κ, v, k, h => by
    unfold asSk asFlt at h
    split at h
    · split at h
      · rename_i e; subst e; exact ⟨_, h, fun _ _ _ h => h, fun _ h => h, fun _ => rfl⟩
      · cases h
    · cases h
  | .ref a b c, v, k, h => by
    unfold asSk asRef at h
    split at h
    · split at h
      · rename_i e; obtain ⟨rfl, rfl, rfl⟩ := e; exact ⟨_, h, fun _ _ _ h => h, fun _ h => h, fun h => by cases h⟩
      · cases h
    · cases h
  | .whole a b, v, k, h => by
    unfold asSk asWhole at h
    split at h
    · split at h
      · rename_i e; obtain ⟨rfl, rfl⟩ := e; exact ⟨_, h, fun _ _ _ h => h, fun _ h => h, fun h => by cases h⟩
      · cases h
    · cases h
  | .agg l, v, k, h => by
    unfold asSk asAgg at h
    split at h
    · rename_i cs
      obtain ⟨cs', h1, h2, h3, h4⟩ := asSks_ok l h
      refine ⟨_, h1, fun ρ m p hp => ?_, fun p hp => ?_, h4⟩
      · obtain ⟨ps, rfl, hq⟩ := hp.agg_inv; exact .agg (h2 _ _ _ hq)
      · cases hp with
        | base h => cases ‹PV.base _ = true›
        | agg hq => exact .agg (h3 _ hq)
    · cases h
  | .tup l, v, k, h => by
    unfold asSk asTup at h
    split at h
    · rename_i cs
      obtain ⟨cs', h1, h2, h3, h4⟩ := asSks_ok l h
      refine ⟨_, h1, fun ρ m p hp => ?_, fun p hp => ?_, h4⟩
      · obtain ⟨ps, rfl, hq⟩ := hp.tuple_inv; exact .tuple (h2 _ _ _ hq)
      · cases hp with
        | base h => cases ‹PV.base _ = true›
        | tuple hq => exact .tuple (h3 _ hq)
    · cases h
  | .view a b, v, k, h => by
    unfold asSk asView at h
    split at h
    · split at h
      · rename_i e; obtain ⟨rfl, rfl⟩ := e; exact ⟨_, h, fun _ _ _ h => h, fun _ h => h, fun h => by cases h⟩
      · cases h
    · cases h
  | .wv a b, v, k, h => by
    unfold asSk asWv at h
    split at h
    · split at h
      · rename_i e; obtain ⟨rfl, rfl⟩ := e; exact ⟨_, h, fun _ _ _ h => h, fun _ h => h, fun h => by cases h⟩
      · cases h
    · split at h
      · rename_i e; obtain ⟨rfl, rfl⟩ := e; exact ⟨_, h, fun _ _ _ h => h, fun _ h => h, fun h => by cases h⟩
      · cases h
    · cases h
  | .fn f l, v, k, h => by
    unfold asSk asFn at h
    split at h
    · split at h
      · rename_i cs e
        subst e
        obtain ⟨cs', h1, h2, h3, h4⟩ := asSks_ok l h
        refine ⟨_, h1, fun ρ m p hp => ?_, fun p hp => ?_, fun h => by cases h⟩
        · obtain ⟨ps, rfl, hq⟩ := hp.func_inv; exact .func _ (h2 _ _ _ hq)
        · cases hp with
          | base h => cases ‹PV.base _ = true›
          | func _ hq => exact .func _ (h3 _ hq)
      · cases h
    · cases h
  | .pref l, v, k, h => by
    unfold asSk asPref at h
    split at h
    · rename_i cs
      obtain ⟨cs', h1, h2, h3, h4⟩ := asSks_ok l h
      refine ⟨_, h1, fun ρ m p hp => ?_, fun p hp => ?_, fun h => by cases h⟩
      · obtain ⟨ps, rfl, hq⟩ := hp.pref_inv; exact .fr (.pref (h3 _ hq))
      · cases hp with
        | base h => cases ‹PV.base _ = true›
        | pref hq => exact .pref (h3 _ hq)
    · cases h
theorem asSks_ok : ∀ (l : List Sk) {cs : List PV} {k : List PV → Option β}, asSk.asSks l cs k = some r → ∃ cs', k cs' = some r ∧ (∀ ρ m ps, VKs ρ m cs ps → VKs ρ m cs' ps) ∧ (∀ ps, VFs cs ps → VFs cs' ps) ∧ (Sk.scalar.scalars l = true → PV.scalar.scalars cs' = true)
  | [], cs, k, h => by
    unfold asSk.asSks asNil at h
    split at h
    · exact ⟨[], h, fun _ _ _ h => h, fun _ h => h, fun _ => rfl⟩
    · cases h
  | s :: l, cs, k, h => by
    unfold asSk.asSks asCons at h
    split at h
    · rename_i c cs
      obtain ⟨c', h1, h2, h3, h4⟩ := asSk_ok s h
      obtain ⟨cs', q1, q2, q3, q4⟩ := asSks_ok l h1
      refine ⟨_, q1, fun ρ m ps hp => ?_, fun ps hp => ?_, fun hs => ?_⟩
      · cases hp with | cons a b => exact .cons (h2 _ _ _ a) (q2 _ _ _ b)
      · cases hp with | cons a b => exact .cons (h3 _ a) (q3 _ b)
      · unfold Sk.scalar.scalars at hs
        rw [Bool.and_eq_true] at hs
        show PV.scalar.scalars (c' :: cs') = true
        unfold PV.scalar.scalars
        rw [h4 hs.1, q4 hs.2]; rfl
    · cases h
end

/-! ### Reading -/
theorem KS.get (h : KS ρ A env penv σ) {j : Nat} {o : KO} (hj : j < A.length) (e : A.getD j .dead = o) : KOR ρ A.length σ (ρ j) o := e ▸ h.obj j hj
theorem plains_fz {e : List PV} (h : e.all PV.plain = true) (n : Nat) (σ : Store) : e.map (fz (n + 1) σ) = e := fz_plains (by rw [List.all_eq_true] at h; exact h) n σ
theorem rows_fz {sz : Nat} {es : List (List PV)} (h : rowsPl sz es = true) (n : Nat) (σ : Store) : es.map (fun e => e.map (fz (n + 1) σ)) = es := by
  induction es with
  | nil => rfl
  | cons e es ih =>
    have he := (rowsPl_get h (.head _)).2
    have ht : rowsPl sz es = true := by unfold rowsPl at h ⊢; rw [List.all_cons, Bool.and_eq_true] at h; exact h.2
    rw [List.map_cons, plains_fz he, ih ht]

theorem rowsK_ok {x : PV} {k : List (List PV) → Option β} (h : rowsK A x k = some r) : ∃ es, k es = some r ∧ ∀ ρ env penv σ p, KS ρ A env penv σ → VK ρ A.length x p → ∃ ps, elemsOf σ p = some ps ∧ VFss es ps := by
  unfold rowsK at h
  split at h
  · exact ⟨_, h, fun ρ env penv σ p _ hp => by rw [hp.nilsl_eq]; exact ⟨_, rfl, .nil⟩⟩
  · refine ⟨_, h, fun ρ env penv σ p _ hp => ?_⟩
    rcases hp.psl_inv with ⟨rfl, rfl⟩ | ⟨b', ps, rfl, h⟩
    · exact ⟨_, rfl, .nil⟩
    · exact ⟨_, rfl, h⟩
  · exact ⟨_, h, fun ρ env penv σ p _ hp => by rw [hp.str_eq]; exact ⟨_, rfl, .str _⟩⟩
  · rename_i j sz a n c
    split at h
    · rename_i w sz' es hj
      split at h
      · refine ⟨_, h, fun ρ env penv σ p hK hp => ?_⟩
        obtain ⟨hl, hh, ⟨_, _, _, rfl⟩ | ⟨e, _⟩⟩ := hp.lsl_inv
        · obtain ⟨q0, q1, ⟨e, rfl⟩ | ⟨id, cap, ro, ps, e, h1, h2, h3, h4, h5, h6⟩⟩ := hK.get hl hj
          · rw [e]; exact ⟨_, rfl, .nil⟩
          · rw [e]
            refine ⟨ps, ?_, h2⟩
            simp only [elemsOf, h1]
            rw [if_pos (by rw [h2.len]; omega), h2.len]
            simp
        · cases e
      · refine ⟨_, h, fun ρ env penv σ p hK hp => ?_⟩
        obtain ⟨hl, hh, ⟨e, _⟩ | ⟨_, hv, rfl⟩⟩ := hp.lsl_inv
        · cases e
        · obtain ⟨q0, q1, ⟨e, rfl⟩ | ⟨id, cap, ro, ps, e, h1, h2, h3, h4, h5, h6⟩⟩ := hK.get hl hj
          · rw [e] at hv ⊢
            obtain ⟨rfl, rfl⟩ := hv
            exact ⟨_, rfl, .nil⟩
          · rw [e] at hv ⊢
            have hv : a + n ≤ es.length := hv
            refine ⟨(ps.drop a).take n, ?_, (h2.drop a).take n⟩
            simp only [elemsOf, cutP, h1]
            rw [if_pos (by rw [← h2.len]; omega)]
    · cases h
  · cases h

theorem lenKK_ok {x : PV} {k : Nat → Option β} (h : lenKK A x k = some r) : ∃ n, k n = some r ∧ ∀ ρ env penv σ p, KS ρ A env penv σ → VK ρ A.length x p → lenOfV p = some n := by
  unfold lenKK at h
  split at h
  · exact ⟨_, h, fun ρ env penv σ p _ hp => by rw [hp.nilsl_eq]; rfl⟩
  · refine ⟨_, h, fun ρ env penv σ p _ hp => ?_⟩
    rcases hp.psl_inv with ⟨rfl, rfl⟩ | ⟨b', ps, rfl, h⟩
    · rfl
    · rw [h.len]; rfl
  · exact ⟨_, h, fun ρ env penv σ p _ hp => by rw [hp.str_eq]; rfl⟩
  · rename_i j sz a n c
    split at h
    · refine ⟨_, h, fun ρ env penv σ p hK hp => ?_⟩
      obtain ⟨hl, hh, ⟨e, _⟩ | ⟨_, hv, rfl⟩⟩ := hp.lsl_inv
      · cases e
      · cases hq : ρ j <;> rw [hq] at hh hv <;> first | (cases hh; done) | skip
        · obtain ⟨rfl, rfl⟩ := hv; rfl
        · rfl
    · split at h
      · rename_i w sz' es hj
        refine ⟨_, h, fun ρ env penv σ p hK hp => ?_⟩
        obtain ⟨hl, hh, ⟨_, _, _, rfl⟩ | ⟨e, _⟩⟩ := hp.lsl_inv
        · obtain ⟨q0, q1, ⟨e, rfl⟩ | ⟨id, cap, ro, ps, e, h1, h2, h3, h4, h5, h6⟩⟩ := hK.get hl hj
          · rw [e]; rfl
          · rw [e]; rfl
        · cases e
      · cases h
  · cases h

theorem loadKK_ok {t : TypeId} {a : PV} {k : PV → Option β} (h : loadKK P A t a k = some r) : ∃ v, k v = some r ∧ ∀ ρ env penv σ p, KS ρ A env penv σ → VK ρ A.length a p → ∃ q, loadv P σ t p = some q ∧ VK ρ A.length v q := by
  unfold loadKK at h
  split at h
  · rw [Option.bind_eq_some_iff] at h
    obtain ⟨v, h1, h2⟩ := h
    refine ⟨v, h2, fun ρ env penv σ p _ hp => ?_⟩
    obtain ⟨ps, rfl, hc⟩ := hp.pref_inv
    exact partOf_ok h1 hc.k
  · rename_i j i off
    split at h
    · rename_i w t' cs hj
      split at h
      · rename_i hi
        subst hi
        rw [Option.bind_eq_some_iff] at h
        obtain ⟨v, h1, h2⟩ := h
        refine ⟨v, h2, fun ρ env penv σ p hK hp => ?_⟩
        obtain ⟨hl, hr⟩ := hp.ref_inv
        obtain ⟨id, pcs, ro, e, q1, q2, q3, q4⟩ := hK.get hl hj
        rw [e] at hr
        cases hr
        obtain ⟨q, s1, s2⟩ := partOf_ok h1 q2
        exact ⟨q, by simp only [loadv, q1, List.getElem?_cons_zero, Option.bind_some]; exact s1, s2⟩
      · cases h
    · rename_i w sz es hj
      rw [Option.bind_eq_some_iff] at h
      obtain ⟨e, h1, h⟩ := h
      rw [Option.bind_eq_some_iff] at h
      obtain ⟨v, h2, h3⟩ := h
      obtain ⟨v', h4, h5, _⟩ := asSk_ok _ h3
      refine ⟨v', h4, fun ρ env penv σ p hK hp => ?_⟩
      obtain ⟨hl, hr⟩ := hp.ref_inv
      obtain ⟨q0, q1, ⟨e', rfl⟩ | ⟨id, cap, ro, ps, e', s1, s2, s3, s4, s5, s6⟩⟩ := hK.get hl hj
      · rw [e'] at hr; cases hr
      · rw [e'] at hr
        cases hr
        obtain ⟨pe, s7, s8⟩ := s2.get h1
        obtain ⟨q, s9, s10⟩ := partOf_ok h2 s8.k
        exact ⟨q, by simp only [loadv, s1, s7, Option.bind_some]; exact s9, h5 _ _ _ s10⟩
    · cases h
  · cases h

theorem over_len {cs new : List PV} {off : Nat} (h : off + new.length ≤ cs.length) : (over cs off new).length = cs.length := by
  unfold over
  simp only [List.length_append, List.length_take, List.length_drop]
  omega
theorem over_plain {cs new : List PV} {off : Nat} (h : cs.all PV.plain = true) (h' : new.all PV.plain = true) : (over cs off new).all PV.plain = true := by
  unfold over
  rw [List.all_eq_true] at h h' ⊢
  intro x hx
  rcases List.mem_append.1 hx with hx | hx
  · rcases List.mem_append.1 hx with hx | hx
    · exact h x (List.mem_of_mem_take hx)
    · exact h' x hx
  · exact h x (List.mem_of_mem_drop hx)
theorem rowsPl_set {sz : Nat} {es : List (List PV)} {e : List PV} {i : Nat} (h : rowsPl sz es = true) (hl : e.length = sz) (hp : e.all PV.plain = true) : rowsPl sz (es.set i e) = true := by
  unfold rowsPl at h ⊢
  rw [List.all_eq_true] at h ⊢
  intro x hx
  rcases List.mem_or_eq_of_mem_set hx with hx | rfl
  · exact h x hx
  · rw [hp]; simp [hl]
theorem storeKK_ok {t : TypeId} {a v : PV} {k : List KO → Option β} (h : storeKK P A t a v k = some r) : ∃ A', k A' = some r ∧ ∀ ρ env penv σ n0 p q, KS ρ A env penv σ → VK ρ A.length a p → VK ρ A.length v q → ∃ σ', storev P σ t p q = some σ' ∧ KS ρ A' env penv σ' ∧ Go2 n0 ρ A σ ρ A' σ' ∧ A'.length = A.length := by
  unfold storeKK at h
  split at h
  · rename_i j i off
    rw [Option.bind_eq_some_iff] at h
    obtain ⟨n, hn, h⟩ := h
    split at h
    · rename_i tt cs hj
      split at h
      · rename_i hc
        obtain ⟨rfl, c1, c2, c3⟩ := hc
        rw [forceA_eq] at h
        refine ⟨_, h, fun ρ env penv σ n0 p q hK hp hv => ?_⟩
        obtain ⟨hl, hr⟩ := hp.ref_inv
        obtain ⟨id, pcs, ro, e, q1, q2, q3, q4⟩ := hK.get hl hj
        have hro := q3 rfl
        subst hro
        rw [e] at hr
        cases hr
        have hcs := hv.cells (one_known c3 c1)
        refine ⟨_, ?_, (hK.put (σ' := σ.put id (.cells 0 [over pcs off q.cells])) (o := .box true tt (over cs off v.cells)) (by rw [hj]; rfl) (Nat.le_refl _) (fun x hx hnx => put_other fun ex => hnx (by rw [e, ex]; exact .head _)) ?_ (fun _ => rfl) n0).imp (fun x => x) fun x => ⟨x, by simp⟩⟩
        · simp only [storev, q1, List.getElem?_cons_zero, Option.bind_some, hn]
          rw [if_pos ⟨by rw [← hcs.len]; exact c1, by rw [← q2.len]; exact c2, hcs.ones c3, Nat.le_refl _⟩]
          rfl
        · refine ⟨id, _, 0, e, put_obj _ _ _, q2.over hcs off, fun _ => rfl, q4⟩
      · cases h
    · rename_i sz es hj
      split at h
      · rename_i hc
        obtain ⟨c1, c2, c3⟩ := hc
        split at h
        · rename_i hi
          refine ⟨_, h, fun ρ env penv σ n0 p q hK hp hv => ?_⟩
          obtain ⟨hl, hr⟩ := hp.ref_inv
          obtain ⟨q0, q1, ⟨e', rfl⟩ | ⟨id, cap, ro, ps, e', s1, s2, s3, s4, s5, s6⟩⟩ := hK.get hl hj
          · rw [e'] at hr; cases hr
          · have hro := s5 rfl
            subst hro
            rw [e'] at hr
            cases hr
            have hone : v.cells.all PV.one = true := by
              rw [List.all_eq_true] at c3 ⊢
              exact fun x hx => one_plain (c3 x hx)
            have hcs := hv.cells (one_known hone c1)
            obtain ⟨g1, g2⟩ := hcs.plain c3
            have hes : es[i]? = some es[i] := List.getElem?_eq_getElem hi
            obtain ⟨pe, s7, s8⟩ := s2.get hes
            have hgd : es.getD i [] = es[i] := by rw [List.getD_eq_getElem?_getD, hes]; rfl
            have hre := rowsPl_get q1 (List.getElem_mem hi)
            have hpe : pe.length = sz := by rw [← s8.len]; exact hre.1
            -- what is laid there
            have hnew : (if off = 0 ∧ n = sz then v.cells else over (es.getD i []) off v.cells) = over es[i] off v.cells := by
              split
              · rename_i hz
                obtain ⟨rfl, rfl⟩ := hz
                unfold over
                simp [c1, hre.1]
              · rw [hgd]
            rw [hnew]
            refine ⟨_, ?_, (hK.put (σ' := σ.put id (.cells 0 (ps.set i (over pe off q.cells)))) (o := .made true sz (es.set i (over es[i] off v.cells))) (by rw [hj]; rfl) (Nat.le_refl _) (fun x hx hnx => put_other fun ex => hnx (by rw [e', ex]; exact .head _)) ?_ (fun hb => by rw [hj] at hb; cases hb) n0).imp (fun x => x) fun x => ⟨x, by simp⟩⟩
            · simp only [storev, s1, s7, Option.bind_some, hn]
              rw [if_pos ⟨by rw [← hcs.len]; exact c1, by rw [hpe]; exact c2, hcs.ones hone, Nat.zero_le _⟩]
            · refine ⟨q0, rowsPl_set q1 (by rw [over_len (by rw [hre.1, c1]; exact c2)]; exact hre.1) (over_plain hre.2 c3), .inr ⟨id, cap, 0, _, by rw [e']; simp, put_obj _ _ _, s2.set (s8.over g1 off) i, by simpa using s3, Nat.zero_le _, fun _ => rfl, s6⟩⟩
        · cases h
      · cases h
    · cases h
  · cases h
end
end Go.Pvm
