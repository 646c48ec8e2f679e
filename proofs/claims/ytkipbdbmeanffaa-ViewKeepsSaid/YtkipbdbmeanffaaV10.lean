/- Part of the proof: cuts, lengths, least and greatest. -/
import Derived.Test.YtkipbdbmeanffaaV9
set_option linter.unusedSimpArgs false
set_option linter.unusedVariables false
namespace Go.Pvm
section
variable {P : Program} {ρ : Where} {F : Froz} {w : World} {σ : Store}

/-- A bound of a cut stands. -/
def VRo (ρ : Where) (F : Froz) (w : World) (o : Option PV) (c : Option Value) : Prop :=
  match o, c with
  | none, none => True
  | some v, some u => VR ρ F w v u
  | _, _ => False

theorem VRo.map {f : Operand → PV} {g : Operand → Value} (h : ∀ x, VR ρ F w (f x) (g x)) (o : Option Operand) : VRo ρ F w (o.map f) (o.map g) := by
  cases o with
  | none => trivial
  | some x => exact h x

theorem numOf_run {o : Option PV} {d n : Nat} (h : numOf o d = some n) {c : Option Value} (hc : VRo ρ F w o c) :
    (o = none ∧ c = none ∧ n = d) ∨ (o.isSome = true ∧ ∃ k, c = some (.int k (n : Int))) := by
  unfold numOf at h
  split at h
  · cases h
    cases c with
    | none => exact .inl ⟨rfl, rfl, rfl⟩
    | some u => exact hc.elim
  · split at h
    · rename_i k m h0
      cases h
      cases c with
      | none => exact hc.elim
      | some u =>
        obtain rfl := VR.int_inv hc
        exact .inr ⟨rfl, k, by congr 2; omega⟩
    · cases h
  · cases h

theorem sliceBound_run (k : IntKind) (n y : Nat) (code : BoundsCode) (h : n ≤ y) : (Instr.sliceBound (.int k (n : Int)) y code).run P w = .ok n w := by
  have : (0 : Int) ≤ n ∧ (n : Int) ≤ y := ⟨by omega, by omega⟩
  simp [Instr.sliceBound, asIntOf, this]

/-- The three bounds. -/
theorem bounds_run {isSl : Bool} {len cap h l m : Nat} {lo hi mx : Option PV} {clo chi cmx : Option Value} (hlo : VRo ρ F w lo clo) (hhi : VRo ρ F w hi chi) (hmx : VRo ρ F w mx cmx)
    (e1 : numOf hi len = some h) (e2 : numOf lo 0 = some l) {dm : Nat} (e3 : numOf mx dm = some m) (hm : mx = none → dm ≤ cap ∧ m = dm) (hmc : mx.isSome = true → m ≤ cap) (hg : ¬ (mx.isSome = true ∧ hi.isSome = false)) (h1 : l ≤ h) (h2 : h ≤ m) :
    (Instr.sliceBounds isSl len cap clo chi cmx).run P w = .ok (l, h, if mx.isSome = true then m else cap) w := by
  have b := @sliceBound_run P w
  rcases numOf_run e3 hmx with ⟨rfl, rfl, rfl⟩ | ⟨hms, km, rfl⟩
  · have hle := (hm rfl).1
    rcases numOf_run e1 hhi with ⟨rfl, rfl, rfl⟩ | ⟨_, kh, rfl⟩ <;> rcases numOf_run e2 hlo with ⟨rfl, rfl, rfl⟩ | ⟨_, kl, rfl⟩
    · simp [Instr.sliceBounds]
    · simp [Instr.sliceBounds, b kl l h _ h1]
    · simp [Instr.sliceBounds, b kh h cap _ (by omega)]
    · simp [Instr.sliceBounds, b kh h cap _ (by omega), b kl l h _ h1]
  · have hle := hmc hms
    rcases numOf_run e1 hhi with ⟨rfl, rfl, rfl⟩ | ⟨_, kh, rfl⟩
    · exact absurd ⟨hms, rfl⟩ hg
    · rcases numOf_run e2 hlo with ⟨rfl, rfl, rfl⟩ | ⟨_, kl, rfl⟩
      · simp [Instr.sliceBounds, b km m cap _ hle, b kh h m _ h2, hms]
      · simp [Instr.sliceBounds, b km m cap _ hle, b kh h m _ h2, b kl l h _ h1, hms]

theorem VP.psl' {full : Bool} {es : List (List PV)} {sz b o c : Nat} (hs : ∀ e ∈ es, e.length = sz) (hc : es.length ≤ c) (hf : full = true → c = es.length)
    (h : ∀ (i : Nat) (e : List PV), es[i]? = some e → ∀ (j : Nat) (x : PV), e[j]? = some x → ∃ v, F b (o + i * sz + j) ∧ w.cell? ⟨b, o + i * sz + j, none⟩ = some v ∧ VP F w x v) :
    VP F w (.psl full es) (.slice (some ⟨b, o, none⟩) es.length c) := by
  refine .psl full es sz b o none c (fun i j => (w.cell? ⟨b, o + i * sz + j, none⟩).getD Go.undef) (fun _ => rfl) hs hc hf (fun i e he j x hx => ?_) (fun i e he j x hx => ?_)
  · obtain ⟨v, h1, h2, _⟩ := h i e he j x hx
    exact ⟨h1, by rw [h2]; rfl⟩
  · obtain ⟨v, h1, h2, h3⟩ := h i e he j x hx
    rw [h2]; exact h3

theorem run_cutv {t : TypeId} {x v : PV} {lo hi mx : Option PV} (h : cutv P t x lo hi mx = some v) {cx : Value} {clo chi cmx : Option Value} (hx : VR ρ F w x cx) (hlo : VRo ρ F w lo clo) (hhi : VRo ρ F w hi chi) (hmx : VRo ρ F w mx cmx) :
    ∃ u, (Instr.sliceAt t cx clo chi cmx).run P w = .ok u w ∧ VR ρ F w v u := by
  unfold cutv at h
  split at h
  · cases h
  · rename_i hg
    split at h
    · rename_i s hu
      split at h
      · cases h
      · rename_i hm
        simp only [Option.bind_eq_some_iff] at h
        obtain ⟨hh, e1, l, e2, h⟩ := h
        split at h
        · rename_i hle
          cases h
          obtain rfl := hx.str_inv
          have hmn : mx = none := by cases mx with | none => rfl | some _ => exact absurd rfl hm
          subst hmn
          obtain rfl : cmx = none := by cases cmx with | none => rfl | some _ => exact hmx.elim
          have := bounds_run (P := P) (isSl := false) hlo hhi (mx := none) (cmx := none) trivial e1 e2 (dm := s.size) (m := s.size) (cap := s.size) rfl (fun _ => ⟨Nat.le_refl _, rfl⟩) (fun h => by cases h) (by simp) hle.1 hle.2
          refine ⟨_, ?_, .pure (.str _)⟩
          simp [Instr.sliceAt, run_underlying hu, Instr.slice, this]
        · cases h
    · rename_i el hu
      simp only [Option.bind_eq_some_iff] at h
      obtain ⟨sz, hsz, hh, e1, l, e2, m, e3, h⟩ := h
      split at h
      · rename_i hle
        obtain ⟨rfl, rfl, rfl⟩ := hle
        cases h
        obtain rfl := hx.nilsl_inv
        have := bounds_run (P := P) (isSl := true) (len := 0) (cap := 0) hlo hhi hmx e1 e2 e3 (fun _ => ⟨Nat.le_refl _, rfl⟩) (fun _ => Nat.le_refl _) hg (Nat.le_refl _) (Nat.le_refl _)
        refine ⟨.slice none 0 0, ?_, hx⟩
        simp [Instr.sliceAt, run_underlying hu, Instr.slice, this, run_szOf hsz]
      · cases h
    · rename_i el full es hu
      simp only [Option.bind_eq_some_iff] at h
      obtain ⟨sz, hsz, hh, e1, l, e2, m, e3, h⟩ := h
      split at h
      · rename_i hle
        obtain ⟨h1, h2, h3, h4⟩ := hle
        cases h
        have hes : ∀ e ∈ es, e.length = sz := by simpa [List.all_eq_true] using h4
        obtain ⟨sz', b, o, sp, k, rfl, hs', hlk, hf, hcell, hsp⟩ := hx.psl_inv
        have hb := bounds_run (P := P) (isSl := true) (len := es.length) (cap := k) hlo hhi hmx e1 e2 e3 (fun hn => ⟨hlk, by subst hn; simp [numOf] at e3; exact e3.symm⟩) (fun _ => by omega) hg h1 h2
        have hlen : ((es.drop l).take (hh - l)).length = hh - l := by simp; omega
        by_cases hk0 : k = 0
        · -- a slice without room stays where it is
          subst hk0
          have hes0 : es = [] := List.length_eq_zero_iff.1 (by omega)
          subst hes0
          simp only [List.length_nil] at h3 hb
          obtain rfl : m = 0 := by omega
          obtain rfl : hh = 0 := by omega
          obtain rfl : l = 0 := by omega
          refine ⟨.slice (some ⟨b, o, sp⟩) 0 0, ?_, .pure ?_⟩
          · simp [Instr.sliceAt, run_underlying hu, Instr.slice, hb, run_szOf hsz]
          · exact .psl _ [] sz' b o sp 0 (fun _ _ => Go.undef) (fun h => absurd rfl h) (by simp) (Nat.le_refl _) (fun _ => rfl) (fun i e he => by simp at he) (fun i e he => by simp at he)
        obtain rfl := hsp hk0
        -- the address is told by the capacity
        let M := if mx.isSome = true then m else k
        have hMl : hh ≤ M := by
          show hh ≤ if mx.isSome = true then m else k
          split <;> omega
        refine ⟨.slice (some (if M = l then ⟨b, o, none⟩ else ⟨b, o + l * sz, none⟩)) (hh - l) (M - l), ?_, .pure ?_⟩
        · show (Instr.sliceAt t (.slice (some ⟨b, o, none⟩) es.length k) clo chi cmx).run P w = _
          simp only [Instr.sliceAt, Sem.run_bind, run_underlying hu, Result.andThen_ok, Instr.slice, hb, run_szOf hsz, Sem.run_pure, Option.map_some, ad_add]
          congr 1
          show Value.slice (if M = l then _ else _) (hh - l) (M - l) = _
          split <;> rfl
        · have key : ∀ o' : Nat, (∀ (i : Nat) (e : List PV), ((es.drop l).take (hh - l))[i]? = some e → o' = o + l * sz) → VP F w (.psl (if mx.isSome = true then decide (m = hh) else full && decide (hh = es.length)) ((es.drop l).take (hh - l))) (.slice (some ⟨b, o', none⟩) (hh - l) (M - l)) := by
            intro o' ho'
            have := VP.psl' (F := F) (w := w) (full := if mx.isSome = true then decide (m = hh) else full && decide (hh = es.length)) (es := (es.drop l).take (hh - l)) (sz := sz) (b := b) (o := o') (c := M - l)
              (fun e he => hes e (List.mem_of_mem_drop (List.mem_of_mem_take he))) (by rw [hlen]; omega) (fun hq => ?_) (fun i e he j x hx' => ?_)
            · rwa [hlen] at this
            · rw [hlen]
              show (if mx.isSome = true then m else k) - l = hh - l
              split
              · rename_i hms; rw [if_pos hms] at hq; have := of_decide_eq_true hq; omega
              · rename_i hms
                rw [if_neg hms] at hq
                simp only [Bool.and_eq_true, decide_eq_true_eq] at hq
                rw [hf hq.1, hq.2]
            · obtain rfl := ho' i e he
              rw [List.getElem?_take] at he
              split at he
              · rw [List.getElem?_drop] at he
                have hz : sz' = sz := by rw [← hs' e (List.mem_of_getElem? he)]; exact hes e (List.mem_of_getElem? he)
                subst hz
                obtain ⟨v, q1, q2, q3⟩ := hcell _ e he j x hx'
                have e9 : o + (l + i) * sz' + j = o + l * sz' + i * sz' + j := by rw [Nat.add_mul]; omega
                rw [e9] at q1 q2
                exact ⟨v, q1, q2, q3⟩
              · cases he
          by_cases hMe : M = l
          · rw [if_pos hMe]
            refine key o fun i e he => ?_
            have : i < ((es.drop l).take (hh - l)).length := (List.getElem?_eq_some_iff.1 he).1
            omega
          · rw [if_neg hMe]
            exact key _ fun _ _ _ => rfl
      · cases h
    · rename_i el id sz idx len cap hu
      simp only [Option.bind_eq_some_iff] at h
      obtain ⟨sz', hsz, h⟩ := h
      split at h
      · cases h
      · rename_i hzz
        have hzz' : sz' = sz := by simpa using hzz
        subst hzz'
        simp only [Option.bind_eq_some_iff] at h
        obtain ⟨hh, e1, l, e2, m, e3, h⟩ := h
        split at h
        · rename_i hle
          obtain ⟨h1, h2, h3⟩ := hle
          cases h
          obtain ⟨r, b, o, k, hr, hrs, rfl, hab, hlk, hk, hkn, hph, hinn⟩ := hx.lsl_inv
          have hgd : cap.getD len ≤ k := by
            cases hc : cap with
            | none => simpa using hlk
            | some j => have := (hk j hc).1; simp; omega
          have hb := bounds_run (P := P) (isSl := true) (len := len) (cap := k) hlo hhi hmx e1 e2 e3 (fun hn => ⟨hgd, by subst hn; simp [numOf] at e3; exact e3.symm⟩) (fun _ => by omega) hg h1 h2
          let M := if mx.isSome = true then m else k
          have hMl : hh ≤ M := by
            show hh ≤ if mx.isSome = true then m else k
            split <;> omega
          have hMk : M ≤ k := by
            show (if mx.isSome = true then m else k) ≤ k
            split <;> omega
          refine ⟨.slice (some (if M = l then ⟨b, o, none⟩ else ⟨b, o + l * sz', none⟩)) (hh - l) (M - l), ?_, ?_⟩
          · show (Instr.sliceAt t (.slice (some ⟨b, o, none⟩) len k) clo chi cmx).run P w = _
            simp only [Instr.sliceAt, Sem.run_bind, run_underlying hu, Result.andThen_ok, Instr.slice, hb, run_szOf hsz, Sem.run_pure, Option.map_some, ad_add]
            congr 1
            show Value.slice (if M = l then _ else _) (hh - l) (M - l) = _
            split <;> rfl
          · have hmul : (idx + l) * r.sz = idx * r.sz + l * r.sz := Nat.add_mul _ _ _
            have hbig : (idx + l + (M - l)) * r.sz ≤ (idx + k) * r.sz := Nat.mul_le_mul_right _ (by omega)
            have hv : VR ρ F w (.lsl id r.sz (idx + l) (hh - l) (if mx.isSome = true then some (m - l) else cap.map (· - l))) (.slice (some ⟨b, if M = l then o else o + l * r.sz, none⟩) (hh - l) (M - l)) := by
              refine .lsl id (idx + l) (hh - l) _ r b _ (M - l) hr (fun hne => ?_) (by omega) (fun j hj => ?_) (fun hn => ?_) (by omega) ?_
              · obtain ⟨rfl, rfl⟩ := hab (by omega)
                refine ⟨rfl, ?_⟩
                rw [if_neg (by omega)]
                omega
              · split at hj
                · rename_i hms
                  cases hj
                  have : M = m := if_pos hms
                  refine ⟨by omega, ?_⟩
                  have : idx + cap.getD len ≤ r.n := by
                    cases hc : cap with
                    | none => simpa using hinn
                    | some j => have := (hk j hc).2; simpa using this
                  omega
                · rename_i hms
                  have hMk' : M = k := if_neg hms
                  cases hc : cap with
                  | none => rw [hc] at hj; cases hj
                  | some q =>
                    rw [hc] at hj
                    simp only [Option.map_some, Option.some.injEq] at hj
                    subst hj
                    have := hk q hc
                    have e4 : m = q := by
                      have hmn : mx = none := by cases mx with | none => rfl | some _ => exact absurd rfl hms
                      rw [hmn, hc] at e3
                      simpa [numOf] using e3.symm
                    omega
              · split at hn
                · cases hn
                · rename_i hms
                  have hMk' : M = k := if_neg hms
                  have hc : cap = none := by cases hc : cap with | none => rfl | some q => rw [hc] at hn; cases hn
                  have := hkn hc
                  omega
              · have : idx + cap.getD len ≤ r.n := by
                  cases hc : cap with
                  | none => simpa using hinn
                  | some j => have := (hk j hc).2; simpa using this
                omega
            rw [← hrs] at hv
            by_cases hMe : M = l
            · rw [if_pos hMe] at hv ⊢; exact hv
            · rw [if_neg hMe] at hv ⊢; exact hv
        · cases h
    · cases h

end
end Go.Pvm
