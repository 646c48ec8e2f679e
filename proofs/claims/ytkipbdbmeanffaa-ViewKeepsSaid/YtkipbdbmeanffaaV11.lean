/- Part of the proof: calls of functions: in the store that there is, or by themselves. -/
import Derived.Test.YtkipbdbmeanffaaV10
set_option linter.unusedSimpArgs false
set_option linter.unusedVariables false
namespace Go.Pvm
section
variable {P : Program} {ρ : Where} {F F0 : Froz} {w : World} {σ : Store}

theorem VPs.get {cs : List PV} {us : List Value} (h : VPs F w cs us) {i : Nat} {c : PV} (e : cs[i]? = some c) : ∃ u, us[i]? = some u ∧ VP F w c u := by
  have hi : i < us.length := by rw [h.1]; exact (List.getElem?_eq_some_iff.1 e).1
  exact ⟨us[i], List.getElem?_eq_getElem hi, h.2 _ _ _ e (List.getElem?_eq_getElem hi)⟩
theorem VP.agg' {cs : List PV} {us : List Value} (h : VPs F w cs us) : VP F w (.agg cs) (.agg us.toArray) := by
  obtain ⟨vs, h1, h2⟩ := fn_of h.1 h.2
  exact .agg cs us vs h.1 h1 h2
theorem VP.tuple' {cs : List PV} {us : List Value} (h : VPs F w cs us) : VP F w (.tuple cs) (.tuple us.toArray) := by
  obtain ⟨vs, h1, h2⟩ := fn_of h.1 h.2
  exact .tuple cs us vs h.1 h1 h2
theorem VP.func' {f : FuncId} {cs : List PV} {us : List Value} (h : VPs F w cs us) : VP F w (.func f cs) (.func (.func f) #[] us.toArray) := by
  obtain ⟨vs, h1, h2⟩ := fn_of h.1 h.2
  exact .func f cs us vs h.1 h1 h2

theorem map_vps {g : PV → PV} {cs : List PV} {us : List Value} {R : PV → Value → Prop} (hl : us.length = cs.length) (h : ∀ (i : Nat) (c : PV) (u : Value), cs[i]? = some c → us[i]? = some u → R c u) (hg : ∀ c u, c ∈ cs → R c u → VP F w (g c) u) : VPs F w (cs.map g) us :=
  ⟨by simpa using hl, fun i c u e e' => by
    rw [List.getElem?_map, Option.map_eq_some_iff] at e
    obtain ⟨c0, e0, rfl⟩ := e
    exact hg _ _ (List.mem_of_getElem? e0) (h i c0 u e0 e')⟩

/-- What names nothing reads as itself. -/
theorem fz_vp (σ : Store) : ∀ (n : Nat) (v : PV) (c : Value), VP F w v c → VP F w (fz n σ v) c
  | 0, v, c, _ => .undef _
  | n + 1, v, c, h => by
    cases h with
    | undef v => exact .undef _
    | bool b => exact .bool b
    | int k m => exact .int k m
    | float k m => exact .float k m
    | str s => exact .str s
    | nilptr => exact .nilptr
    | pref cs b o vs h1 h2 => exact .pref cs b o vs h1 h2
    | nilsl => exact .nilsl
    | psl full es sz b o sp c vs hsp hs hc hf h1 h2 => exact .psl full es sz b o sp c vs hsp hs hc hf h1 h2
    | nilmap => exact .nilmap
    | nilfunc => exact .nilfunc
    | niliface => exact .niliface
    | func f cs us vs hl h1 h2 => exact .func' (map_vps (R := VP F w) hl (fun i c u e e' => by have := h1 i c e; rw [e'] at this; cases this; exact h2 i c e) fun c u _ hh => fz_vp σ n c u hh)
    | agg cs us vs hl h1 h2 => exact .agg' (map_vps (R := VP F w) hl (fun i c u e e' => by have := h1 i c e; rw [e'] at this; cases this; exact h2 i c e) fun c u _ hh => fz_vp σ n c u hh)
    | tuple cs us vs hl h1 h2 => exact .tuple' (map_vps (R := VP F w) hl (fun i c u e e' => by have := h1 i c e; rw [e'] at this; cases this; exact h2 i c e) fun c u _ hh => fz_vp σ n c u hh)

theorem topss_mem {cs : List PV} {c : PV} (h : c ∈ cs) {id : Nat} (hid : id ∈ tops c) : id ∈ tops.topss cs := by
  induction cs with
  | nil => cases h
  | cons v r ih =>
    simp only [tops.topss, List.mem_append]
    cases h with
    | head => exact .inl hid
    | tail _ h => exact .inr (ih h)

/-- What is read whole stands where it stood, if that is among what is written no more. -/
theorem fz_vr (hs : SR ρ F σ w) (hF : ∀ b o, F b o → F0 b o) {Good : Nat → Prop}
    (hg : ∀ id r ro es, Good id → ρ id = some r → σ.objs id = some (.cells ro es) → (∀ (i : Nat) (e : List PV), es[i]? = some e → ∀ (j : Nat) (x : PV), e[j]? = some x → F0 r.block (r.sh + i * r.sz + j)) ∧ ∀ e ∈ es, ∀ x ∈ e, ∀ id' ∈ tops x, Good id') :
    ∀ (n : Nat) (v : PV) (c : Value), VR ρ F w v c → (∀ id ∈ tops v, Good id) → VP F0 w (fz n σ v) c
  | 0, v, c, _, _ => .undef _
  | n + 1, v, c, h, ht => by
    have cellOf : ∀ {id : Nat} {r : Rec} {ro : Nat} {es : List (List PV)}, Good id → ρ id = some r → σ.objs id = some (.cells ro es) → ∀ (i : Nat) (e : List PV), es[i]? = some e → ∀ (j : Nat) (x : PV), e[j]? = some x →
        ∃ u, F0 r.block (r.sh + i * r.sz + j) ∧ w.cell? ⟨r.block, r.sh + i * r.sz + j, none⟩ = some u ∧ VP F0 w (fz n σ x) u := by
      intro id r ro es hG hr ho i e he j x hx
      obtain ⟨g1, g2⟩ := hg id r ro es hG hr ho
      obtain ⟨u, q1, q2⟩ := (hs.obj id r _ hr ho).elem he j x hx
      exact ⟨u, g1 i e he j x hx, q1, fz_vr hs hF hg n x u q2 (g2 e (List.mem_of_getElem? he) x (List.mem_of_getElem? hx))⟩
    cases h with
    | pure h => exact fz_vp σ (n + 1) v c (h.mono hF fun _ _ _ => rfl)
    | ref id idx off r hr =>
      show VP F0 w (match σ.objs id with | some (.cells _ es) => (match es[idx]? with | some e => .pref ((e.drop off).map (fz n σ)) | none => .undef) | _ => .undef) _
      split
      · rename_i ro es ho
        split
        · rename_i e he
          refine .pref' fun i x hx => ?_
          rw [List.getElem?_map, Option.map_eq_some_iff] at hx
          obtain ⟨y, hy, rfl⟩ := hx
          rw [List.getElem?_drop] at hy
          obtain ⟨u, q1, q2, q3⟩ := cellOf (ht id (by simp [tops])) hr ho idx e he (off + i) y hy
          rw [← Nat.add_assoc] at q1 q2
          exact ⟨u, q1, q2, q3⟩
        · exact .undef _
      · exact .undef _
    | lsl id idx len cap r b o c hr ha hl hk hn hp hi =>
      show VP F0 w (match σ.objs id with | some (.cells _ es) => (if idx + len ≤ es.length then .psl (cap == some len) (((es.drop idx).take len).map fun e => e.map (fz n σ)) else .undef) | _ => .undef) _
      split
      · rename_i ro es ho
        split
        · rename_i hle
          obtain ⟨arr, ty, hb, hp', hnn, hes, hfit, hrn, hz0, hFF, hc⟩ := (hs.obj id r _ hr ho).cells_inv
          have hlen : (((es.drop idx).take len).map fun e => e.map (fz n σ)).length = len := by simp; omega
          have := VP.psl' (F := F0) (w := w) (full := cap == some len) (es := ((es.drop idx).take len).map fun e => e.map (fz n σ)) (sz := r.sz) (b := b) (o := o) (c := c)
            (fun e he => by
              obtain ⟨e0, he0, rfl⟩ := List.mem_map.1 he
              rw [List.length_map]
              exact hes e0 (List.mem_of_mem_drop (List.mem_of_mem_take he0)))
            (by rw [hlen]; exact hl) (fun hq => by rw [hlen]; exact (hk len (by simpa using hq)).1)
            (fun i e he j x hx => by
              rw [List.getElem?_map, Option.map_eq_some_iff] at he
              obtain ⟨e0, he0, rfl⟩ := he
              rw [List.getElem?_map, Option.map_eq_some_iff] at hx
              obtain ⟨y, hy, rfl⟩ := hx
              have hil : i < len := by
                have := (List.getElem?_eq_some_iff.1 he0).1
                simp at this; omega
              rw [List.getElem?_take, if_pos hil, List.getElem?_drop] at he0
              obtain ⟨rfl, rfl⟩ := ha (by omega)
              obtain ⟨u, q1, q2, q3⟩ := cellOf (ht id (by simp [tops])) hr ho _ e0 he0 j y hy
              rw [Nat.add_mul, ← Nat.add_assoc] at q1 q2
              exact ⟨u, q1, q2, q3⟩)
          rwa [hlen] at this
        · exact .undef _
      · exact .undef _
    | func f cs us vs hl h1 h2 => exact .func' (map_vps (R := VR ρ F w) hl (fun i c u e e' => by have := h1 i c e; rw [e'] at this; cases this; exact h2 i c e) fun c u hm hh => fz_vr hs hF hg n c u hh fun id hid => ht id (by simp only [tops]; exact topss_mem hm hid))
    | agg cs us vs hl h1 h2 => exact .agg' (map_vps (R := VR ρ F w) hl (fun i c u e e' => by have := h1 i c e; rw [e'] at this; cases this; exact h2 i c e) fun c u hm hh => fz_vr hs hF hg n c u hh fun id hid => ht id (by simp only [tops]; exact topss_mem hm hid))
    | tuple cs us vs hl h1 h2 => exact .tuple' (map_vps (R := VR ρ F w) hl (fun i c u e e' => by have := h1 i c e; rw [e'] at this; cases this; exact h2 i c e) fun c u hm hh => fz_vr hs hF hg n c u hh fun id hid => ht id (by simp only [tops]; exact topss_mem hm hid))

mutual
theorem tops_lf : ∀ (v : PV), v.lf = true → tops v = []
  | .ref .., h => by simp [PV.lf] at h
  | .lsl .., h => by simp [PV.lf] at h
  | .mref _, h => by simp [PV.lf] at h
  | .agg cs, h => by simp only [tops]; exact topss_lf cs (by simpa [PV.lf] using h)
  | .tuple cs, h => by simp only [tops]; exact topss_lf cs (by simpa [PV.lf] using h)
  | .func f cs, h => by simp only [tops]; exact topss_lf cs (by simpa [PV.lf] using h)
  | .undef, _ | .bool _, _ | .int .., _ | .float .., _ | .str _, _ | .nilptr, _ | .pref _, _ | .nilsl, _ | .psl .., _ | .nilmap, _ | .nilfunc, _ | .niliface, _ => by simp [tops]
theorem topss_lf : ∀ (cs : List PV), PV.lf.lfs cs = true → tops.topss cs = []
  | [], _ => rfl
  | v :: r, h => by
    simp only [PV.lf.lfs, Bool.and_eq_true] at h
    simp [tops.topss, tops_lf v h.1, topss_lf r h.2]
end

/-- What a call of a function comes to. -/
def CallOk (P : Program) (C : CallO) : Prop := ∀ f args σ v σ', C f args σ = some (v, σ') → ∀ (ρ : Where) (F : Froz) (w : World) (us : List Value), SR ρ F σ w → VRs ρ F w args us → (∀ id, σ.next ≤ id → id < σ'.next → ρ id = none) →
  Calls P f us.toArray w fun e w' => ∃ vc ρ' F', e = .returned vc ∧ Go1 ρ F σ w ρ' F' σ' w' ∧ SR ρ' F' σ' w' ∧ VR ρ' F' w' v vc

theorem Lv.empty (b : Nat) {n : Nat} : ¬ Lv (fun _ => none) (Store.at_ n) b := fun ⟨_, _, _, h, _⟩ => by cases h
theorem SR.empty {F : Froz} (h : ∀ b o, F b o → b < w.heap.size) (n : Nat) : SR (fun _ => none) F (Store.at_ n) w :=
  ⟨fun _ _ _ h => absurd h (by simp), fun _ _ _ _ _ _ h => absurd h (by simp), h, fun _ _ => rfl⟩

theorem lv_lt (hs : SR ρ F σ w) {b : Nat} (h : Lv ρ σ b) : b < w.heap.size := by
  obtain ⟨id, r, o, h1, h2, rfl⟩ := h
  cases hs.obj id r o h1 h2 with
  | cells ro es arr ty hb => exact (Array.getElem?_eq_some_iff.1 hb).1

/-- Memory that only grows. -/
structure Grew (w w' : World) : Prop where
  size : w.heap.size ≤ w'.heap.size
  blk : ∀ b, b < w.heap.size → w'.heap[b]? = w.heap[b]?
  os : w'.os = w.os
  tape : w'.tape = w.tape
  out : w'.output = w.output

theorem Go1.grew {F' : Froz} {ρ' : Where} {τ : Store} {w' : World} {n : Nat} (h : Go1 (fun _ => none) F (Store.at_ n) w ρ' F' τ w') : Grew w w' :=
  ⟨h.size, fun b hb => h.frame b hb (Lv.empty b), h.os, h.tape, h.out⟩

theorem Grew.cell {w' : World} (h : Grew w w') (b o : Nat) (hb : b < w.heap.size) : w'.cell? ⟨b, o, none⟩ = w.cell? ⟨b, o, none⟩ := by simp [World.cell?, h.blk b hb]

/-- Memory has grown; more of it is written no more; objects may be closed. -/
theorem SR.grew {w' : World} {F' : Froz} {σ' : Store} (hs : SR ρ F σ w) (hg : Grew w w') (hF : ∀ b o, F b o → F' b o) (hlt : ∀ b o, F' b o → b < w'.heap.size)
    (hnx : σ'.next = σ.next) (hobj : ∀ id, σ'.objs id = σ.objs id ∨ ∃ ro es, σ.objs id = some (.cells ro es) ∧ σ'.objs id = some (.cells es.length es))
    (hfree : ∀ id r ro es, ρ id = some r → σ'.objs id = some (.cells ro es) → ∀ o, r.sh + ro * r.sz ≤ o → F' r.block o → F r.block o) : SR ρ F' σ' w' := by
  have sub : ∀ id o, σ'.objs id = some o → ∃ o', σ.objs id = some o' := fun id o e => by
    rcases hobj id with h | ⟨ro, es, h, _⟩
    · exact ⟨o, by rw [← h]; exact e⟩
    · exact ⟨_, h⟩
  have mono : ∀ {v : PV} {c : Value}, VR ρ F w v c → VR ρ F' w' v c := fun h => h.mono (fun _ _ e => e) hF (fun b o e => hg.cell b o (hs.old b o e))
  refine ⟨fun id r o hr ho => ?_, fun i j r r' o o' a b c d hne => ?_, hlt, fun id hid => ?_⟩
  · have build : ∀ ro0 ro es, σ.objs id = some (.cells ro0 es) → σ'.objs id = some (.cells ro es) → (ro = ro0 ∨ ro = es.length) → OR ρ F' w' r (.cells ro es) := by
      intro ro0 ro es e1 e2 hro'
      obtain ⟨arr, ty, hb, hp, hn, hsz, hfit, hrn, hz0, hFF, hc⟩ := (hs.obj id r _ hr e1).cells_inv
      have hle : r.sh + ro0 * r.sz ≤ r.sh + ro * r.sz := by
        rcases hro' with rfl | rfl
        · exact Nat.le_refl _
        · have := Nat.mul_le_mul_right r.sz (show ro0 ≤ es.length by omega); omega
      refine .cells ro es arr ty (by rw [hg.blk _ (Array.getElem?_eq_some_iff.1 hb).1]; exact hb) hp hn hsz hfit (by rcases hro' with rfl | rfl <;> omega) hz0 (fun o ho hF' => ?_) fun i e he j x hx => ?_
      · exact hFF o (by omega) (hfree id r ro es hr e2 o ho hF')
      · obtain ⟨v, q1, q2⟩ := hc i e he j x hx
        exact ⟨v, q1, mono q2⟩
    rcases hobj id with h | ⟨ro, es, h1, h2⟩
    · rw [ho] at h
      cases o with
      | cells ro es => exact build ro ro es h.symm ho (.inl rfl)
      | map kvs =>
        have := hs.obj id r _ hr h.symm
        cases this
    · rw [h2] at ho
      cases ho
      exact build ro _ es h1 h2 (.inr rfl)
  · obtain ⟨o1, h1⟩ := sub _ _ b
    obtain ⟨o2, h2⟩ := sub _ _ d
    exact hs.apart i j r r' o1 o2 a h1 c h2 hne
  · rcases hobj id with h | ⟨ro, es, h1, h2⟩
    · rw [h]; exact hs.new id (by omega)
    · have := hs.new id (by omega)
      rw [h1] at this
      cases this

theorem Go1.of_grew {w' : World} {F' : Froz} {σ' : Store} (hs : SR ρ F σ w) (hg : Grew w w') (hF : ∀ b o, F b o → F' b o) (hN : ∀ b o, F' b o → F b o ∨ w.heap.size ≤ b ∨ Lv ρ σ b) (hnx : σ'.next = σ.next)
    (hsub : ∀ id o, σ'.objs id = some o → ∃ o', σ.objs id = some o') : Go1 ρ F σ w ρ F' σ' w' :=
  ⟨fun _ _ h => h, fun _ _ h h' => absurd (h.symm.trans h') (by simp), by rw [hnx]; exact Nat.le_refl _, hF, fun b o e => hg.cell b o (hs.old b o e), hg.size, fun b hb _ => hg.blk b hb, hN,
    fun b ⟨id, r, o, h1, h2, h3⟩ => let ⟨o', h4⟩ := hsub id o h2; .inr ⟨id, r, o', h1, h4, h3⟩, hg.os, hg.tape, hg.out⟩

theorem roAll_spec : ∀ (ids : List Nat) (σ σ' : Store), roAll ids σ = some σ' → σ'.next = σ.next ∧ (∀ id ∈ ids, ∃ ro es, σ.objs id = some (.cells ro es) ∧ (∀ e ∈ es, PV.lf.lfs e = true) ∧ σ'.objs id = some (.cells es.length es)) ∧ ∀ id, id ∉ ids → σ'.objs id = σ.objs id
  | [], σ, σ', h => by simp [roAll] at h; subst h; exact ⟨rfl, fun id h => absurd h (by simp), fun _ _ => rfl⟩
  | a :: ids, σ, σ', h => by
    unfold roAll at h
    split at h
    · rename_i ro es ho
      split at h
      · rename_i hall
        obtain ⟨h1, h2, h3⟩ := roAll_spec ids _ σ' h
        have hlf : ∀ e ∈ es, PV.lf.lfs e = true := by simpa [List.all_eq_true] using hall
        refine ⟨h1, fun id hid => ?_, fun id hid => ?_⟩
        · by_cases hm : id ∈ ids
          · obtain ⟨ro', es', q1, q2, q3⟩ := h2 id hm
            by_cases hia : id = a
            · subst hia
              simp [Store.put] at q1
              obtain ⟨rfl, rfl⟩ := q1
              exact ⟨ro, es, ho, hlf, q3⟩
            · simp [Store.put, hia] at q1
              exact ⟨ro', es', q1, q2, q3⟩
          · obtain rfl : id = a := by
              cases hid with
              | head => rfl
              | tail _ h => exact absurd h hm
            have := h3 id hm
            exact ⟨ro, es, ho, hlf, by rw [this]; simp [Store.put]⟩
        · have := h3 id (fun h => hid (.tail _ h))
          rw [this]
          have hne : id ≠ a := fun e => hid (by subst e; exact .head _)
          simp [Store.put, hne]
      · cases h
    · cases h

theorem owns_mem {cs : List PV} (h : PV.own.owns cs = true) : ∀ c ∈ cs, c.own = true := by
  induction cs with
  | nil => intro c hc; cases hc
  | cons v r ih =>
    simp only [PV.own.owns, Bool.and_eq_true] at h
    intro c hc
    cases hc with
    | head => exact h.1
    | tail _ hc => exact ih h.2 c hc

theorem VP.own {F F' : Froz} {w : World} {v : PV} {c : Value} (h : VP F w v c) : v.own = true → VP F' w v c := by
  induction h with
  | undef v => exact fun _ => .undef v
  | bool b => exact fun _ => .bool b
  | int k n => exact fun _ => .int k n
  | float k n => exact fun _ => .float k n
  | str s => exact fun _ => .str s
  | nilptr => exact fun _ => .nilptr
  | nilsl => exact fun _ => .nilsl
  | nilmap => exact fun _ => .nilmap
  | nilfunc => exact fun _ => .nilfunc
  | niliface => exact fun _ => .niliface
  | agg cs us vs hl h1 h2 ih => intro k; exact .agg cs us vs hl h1 fun i c e => ih i c e (owns_mem (by simpa [PV.own] using k) c (List.mem_of_getElem? e))
  | tuple cs us vs hl h1 h2 ih => intro k; exact .tuple cs us vs hl h1 fun i c e => ih i c e (owns_mem (by simpa [PV.own] using k) c (List.mem_of_getElem? e))
  | func f cs us vs hl h1 h2 ih => intro k; exact .func f cs us vs hl h1 fun i c e => ih i c e (owns_mem (by simpa [PV.own] using k) c (List.mem_of_getElem? e))
  | pref cs b o vs h1 h2 ih => intro k; simp [PV.own] at k
  | psl full es sz b o sp c vs hsp hs hc' hf h1 h2 ih =>
    intro k
    simp only [PV.own, List.isEmpty_iff] at k
    subst k
    exact .psl full [] sz b o sp c vs hsp hs hc' hf (fun i e he => by simp at he) (fun i e he => by simp at he)

theorem VR.own {ρ : Where} {F F' : Froz} {w : World} {v : PV} {c : Value} (h : VR ρ F w v c) : v.own = true → VR ρ F' w v c := by
  induction h with
  | pure h => exact fun k => .pure (h.own k)
  | ref id idx off r h => exact fun _ => .ref id idx off r h
  | lsl id idx len cap r b o c h ha hl hk hn hp hi => exact fun _ => .lsl id idx len cap r b o c h ha hl hk hn hp hi
  | func f cs us vs hl h1 h2 ih => intro k; exact .func f cs us vs hl h1 fun i c e => ih i c e (owns_mem (by simpa [PV.own] using k) c (List.mem_of_getElem? e))
  | agg cs us vs hl h1 h2 ih => intro k; exact .agg cs us vs hl h1 fun i c e => ih i c e (owns_mem (by simpa [PV.own] using k) c (List.mem_of_getElem? e))
  | tuple cs us vs hl h1 h2 ih => intro k; exact .tuple cs us vs hl h1 fun i c e => ih i c e (owns_mem (by simpa [PV.own] using k) c (List.mem_of_getElem? e))

theorem ownObjs_get {τ : Store} {a : Nat} (h : ownObjs τ a = true) {id : Nat} (hid : a ≤ id) {ro : Nat} {es : List (List PV)} (ho : τ.objs id = some (.cells ro es)) (hlt : id < τ.next) : ∀ e ∈ es, ∀ x ∈ e, x.own = true := by
  have := (List.all_eq_true.1 h) (id - a) (by simp; omega)
  rw [show a + (id - a) = id by omega, ho] at this
  intro e he
  exact owns_mem ((List.all_eq_true.1 this) e he)

theorem callv_sound {cfg : Cfg} {C : CallO} (hC : CallOk cfg.P C) {f : FuncId} {args : List PV} {v : PV} {σ' : Store} (h : callv cfg C f args σ = some (v, σ')) (hs : SR ρ F σ w) {us : List Value} (hu : VRs ρ F w args us)
    (hn : ∀ id, σ.next ≤ id → id < σ'.next → ρ id = none) :
    Calls cfg.P f us.toArray w fun e w' => ∃ vc ρ' F', e = .returned vc ∧ Go1 ρ F σ w ρ' F' σ' w' ∧ SR ρ' F' σ' w' ∧ VR ρ' F' w' v vc := by
  unfold callv at h
  split at h
  · exact hC f args σ v σ' h ρ F w us hs hu hn
  · simp only [Option.bind_eq_some_iff] at h
    obtain ⟨⟨v0, τ⟩, hc, h⟩ := h
    simp only at h
    split at h
    · -- the answer names no memory
      rename_i hsc
      cases h
      let F0 : Froz := fun b o => F b o ∨ Lv ρ σ b
      have hargs : VPs F0 w (args.map (fz fuelFz σ)) us := map_vps (R := VR ρ F w) hu.1 hu.2 fun c u _ hh => fz_vr (Good := fun _ => True) hs (fun b o e => .inl e)
        (fun id r ro es _ hr ho => ⟨fun i e he j x hx => .inr ⟨id, r, _, hr, ho, rfl⟩, fun _ _ _ _ _ _ => trivial⟩) fuelFz c u hh fun _ _ => trivial
      have hold0 : ∀ b o, F0 b o → b < w.heap.size := fun b o e => by
        rcases e with e | e
        · exact hs.old b o e
        · exact lv_lt hs e
      refine (hC f _ _ v0 τ hc (fun _ => none) F0 w us (SR.empty hold0 0) ⟨hargs.1, fun i c u e e' => .pure (hargs.2 i c u e e')⟩ fun _ _ _ => rfl).mono fun e w' ⟨vc, ρ', F', he, g, s, hv⟩ => ?_
      have hgr := g.grew
      let F2 : Froz := fun b o => F' b o ∨ Lv ρ' τ b
      have hv2 : VP F2 w' (fz fuelFz τ v0) vc := fz_vr (Good := fun _ => True) s (fun b o e => .inl e)
        (fun id r ro es _ hr ho => ⟨fun i e he j x hx => .inr ⟨id, r, _, hr, ho, rfl⟩, fun _ _ _ _ _ _ => trivial⟩) fuelFz v0 vc hv fun _ _ => trivial
      exact ⟨vc, ρ, F, he, Go1.of_grew hs hgr (fun _ _ e => e) (fun _ _ e => .inl e) rfl (fun _ o e => ⟨o, e⟩), hs.grew hgr (fun _ _ e => e) (fun b o e => Nat.lt_of_lt_of_le (hs.old b o e) hgr.size) rfl (fun _ => .inl rfl) (fun _ _ _ _ _ _ _ _ e => e), .pure (hv2.scalar hsc)⟩
    · -- the answer may stand in what was handed over: that is closed
      have hex : ∃ σ1, roAll (tops.topss args) σ = some σ1 ∧ (fz fuelFz τ v0, σ1) = (v, σ') := by
        split at h
        · split at h
          · rename_i hlf
            cases h
            exact ⟨σ, by rw [topss_lf args hlf]; rfl, rfl⟩
          · cases h
        · rw [Option.map_eq_some_iff] at h
          exact h
      obtain ⟨σ1, hro, heq⟩ := hex
      clear h
      cases heq
      obtain ⟨r1, r2, r3⟩ := roAll_spec _ _ _ hro
      let F0 : Froz := fun b o => F b o ∨ ∃ id r ro es, id ∈ tops.topss args ∧ ρ id = some r ∧ σ.objs id = some (.cells ro es) ∧ r.block = b ∧ o < r.sh + r.n * r.sz
      have hargs : VPs F0 w (args.map (fz fuelFz σ)) us := map_vps (R := VR ρ F w) hu.1 hu.2 fun c u hm hh => fz_vr (Good := fun id => id ∈ tops.topss args) hs (fun b o e => .inl e)
        (fun id r ro es hid hr ho => by
          obtain ⟨arr, ty, hb, hp, hnn, hsz, hfit, hrn, hz0, hFF, hcc⟩ := (hs.obj id r _ hr ho).cells_inv
          refine ⟨fun i e he j x hx => .inr ⟨id, r, ro, es, hid, hr, ho, rfl, ?_⟩, fun e he x hx id' hid' => ?_⟩
          · have hi : i < r.n := by rw [← hnn]; exact (List.getElem?_eq_some_iff.1 he).1
            have hj : j < r.sz := by rw [← hsz e (List.mem_of_getElem? he)]; exact (List.getElem?_eq_some_iff.1 hx).1
            have := mul_lt_of hi hj
            omega
          · obtain ⟨ro', es', q1, q2, _⟩ := r2 id hid
            rw [ho] at q1
            cases q1
            have : x.lf = true := by
              obtain ⟨k, hk⟩ := List.mem_iff_getElem?.1 hx
              exact lfs_get (q2 e he) k x hk
            rw [tops_lf x this] at hid'
            cases hid') fuelFz c u hh fun id hid => topss_mem hm hid
      have hold0 : ∀ b o, F0 b o → b < w.heap.size := fun b o e => by
        rcases e with e | ⟨id, r, ro, es, _, hr, ho, rfl, _⟩
        · exact hs.old b o e
        · exact lv_lt hs ⟨id, r, _, hr, ho, rfl⟩
      refine (hC f _ _ v0 τ hc (fun _ => none) F0 w us (SR.empty hold0 0) ⟨hargs.1, fun i c u e e' => .pure (hargs.2 i c u e e')⟩ fun _ _ _ => rfl).mono fun e w' ⟨vc, ρ', F', he, g, s, hv⟩ => ?_
      have hgr := g.grew
      let F2 : Froz := fun b o => F' b o ∨ Lv ρ' τ b
      have hv2 : VP F2 w' (fz fuelFz τ v0) vc := fz_vr (Good := fun _ => True) s (fun b o e => .inl e)
        (fun id r ro es _ hr ho => ⟨fun i e he j x hx => .inr ⟨id, r, _, hr, ho, rfl⟩, fun _ _ _ _ _ _ => trivial⟩) fuelFz v0 vc hv fun _ _ => trivial
      have hnew : ∀ b o, F2 b o → F0 b o ∨ w.heap.size ≤ b := fun b o e => by
        rcases e with e | e
        · rcases g.froN b o e with e | e | e
          · exact .inl e
          · exact .inr e
          · exact absurd e (Lv.empty b)
        · rcases g.live b e with e | e
          · exact .inr e
          · exact absurd e (Lv.empty b)
      have hF2 : ∀ b o, F b o → F2 b o := fun b o e => .inl (g.fro b o (.inl e))
      have hobj : ∀ id, σ'.objs id = σ.objs id ∨ ∃ ro es, σ.objs id = some (.cells ro es) ∧ σ'.objs id = some (.cells es.length es) := fun id => by
        by_cases hid : id ∈ tops.topss args
        · obtain ⟨ro, es, q1, _, q3⟩ := r2 id hid
          exact .inr ⟨ro, es, q1, q3⟩
        · exact .inl (r3 id hid)
      have hsub : ∀ id o, σ'.objs id = some o → ∃ o', σ.objs id = some o' := fun id o e => by
        rcases hobj id with h | ⟨ro, es, h, _⟩
        · exact ⟨o, by rw [← h]; exact e⟩
        · exact ⟨_, h⟩
      refine ⟨vc, ρ, F2, he, Go1.of_grew hs hgr hF2 (fun b o e => ?_) r1 hsub, hs.grew hgr hF2 (fun b o e => ?_) r1 hobj (fun id r ro es hr ho o hle e => ?_), .pure hv2⟩
      · rcases hnew b o e with (e | ⟨id, r, ro, es, _, hr, ho, rfl, _⟩) | e
        · exact .inl e
        · exact .inr (.inr ⟨id, r, _, hr, ho, rfl⟩)
        · exact .inr (.inl e)
      · rcases e with e | e
        · exact s.old b o e
        · exact lv_lt s e
      · rcases hnew _ o e with (e | ⟨id', r', ro', es', hid', hr', ho', hblk, hlt⟩) | e
        · exact e
        · exfalso
          by_cases hne : id' = id
          · subst hne
            rw [hr] at hr'
            cases hr'
            obtain ⟨ro2, es2, q1, _, q3⟩ := r2 id' hid'
            rw [ho] at q3
            cases q3
            obtain ⟨arr, ty, hb, hp, hnn, _⟩ := (hs.obj id' r _ hr q1).cells_inv
            rw [hnn] at hle
            omega
          · obtain ⟨o2, h2⟩ := hsub _ _ ho
            exact hs.apart id' id r' r _ o2 hr' ho' hr h2 hne hblk
        · obtain ⟨o2, h2⟩ := hsub _ _ ho
          have := lv_lt hs ⟨id, r, o2, hr, h2, rfl⟩
          omega
  · simp only [Option.bind_eq_some_iff] at h
    obtain ⟨⟨v0, τ⟩, hc, h⟩ := h
    simp only at h
    split at h
    · rename_i hown
      rw [Bool.and_eq_true] at hown
      obtain ⟨hov, hoo⟩ := hown
      cases h
      have hnx0 : ∀ id, σ.next ≤ id → id < τ.next → ρ id = none := hn
      let F0 : Froz := fun b o => F b o ∨ Lv ρ σ b
      have hargs : VPs F0 w (args.map (fz fuelFz σ)) us := map_vps (R := VR ρ F w) hu.1 hu.2 fun c u _ hh => fz_vr (Good := fun _ => True) hs (fun b o e => .inl e)
        (fun id r ro es _ hr ho => ⟨fun i e he j x hx => .inr ⟨id, r, _, hr, ho, rfl⟩, fun _ _ _ _ _ _ => trivial⟩) fuelFz c u hh fun _ _ => trivial
      have hold0 : ∀ b o, F0 b o → b < w.heap.size := fun b o e => by
        rcases e with e | e
        · exact hs.old b o e
        · exact lv_lt hs e
      refine (hC f _ _ v τ hc (fun _ => none) F0 w us (SR.empty hold0 σ.next) ⟨hargs.1, fun i c u e e' => .pure (hargs.2 i c u e e')⟩ fun _ _ _ => rfl).mono fun e w' ⟨vc, ρ', F', he, g, s, hv⟩ => ?_
      have hgr := g.grew
      have hnx : σ.next ≤ τ.next := g.nx
      let ρ2 : Where := fun id => match ρ id with | some r => some r | none => ρ' id
      have h1 : ∀ id r, ρ id = some r → ρ2 id = some r := fun id r e => by simp [ρ2, e]
      have h2 : ∀ id r, ρ' id = some r → ρ2 id = some r := fun id r e => by
        have := g.rng id r e rfl
        simp only [Store.at_] at this
        simp [ρ2, hnx0 id this.1 this.2, e]
      have h3 : ∀ id r, ρ2 id = some r → ρ id = some r ∨ (ρ id = none ∧ ρ' id = some r) := fun id r e => by
        cases hq : ρ id with
        | none => simp [ρ2, hq] at e; exact .inr ⟨rfl, e⟩
        | some r' => simp [ρ2, hq] at e; exact .inl (by rw [e])
      have hL : ∀ b, Lv ρ' τ b → w.heap.size ≤ b := fun b e => by
        rcases g.live b e with e | e
        · exact e
        · exact absurd e (Lv.empty b)
      have objs : ∀ id r o, ρ2 id = some r → (σ.join τ).objs id = some o → (id < σ.next ∧ ρ id = some r ∧ σ.objs id = some o) ∨ (σ.next ≤ id ∧ ρ' id = some r ∧ τ.objs id = some o) := fun id r o e e2 => by
        simp only [Store.join] at e2
        by_cases hlt : id < σ.next
        · rw [if_pos hlt] at e2
          rcases h3 id r e with h | ⟨_, h⟩
          · exact .inl ⟨hlt, h, e2⟩
          · have := (g.rng id r h rfl).1
            simp only [Store.at_] at this
            omega
        · rw [if_neg hlt] at e2
          rcases h3 id r e with h | ⟨_, h⟩
          · exfalso
            rcases Nat.lt_or_ge id τ.next with hq | hq
            · rw [hnx0 id (by omega) hq] at h; cases h
            · rw [s.new id hq] at e2; cases e2
          · exact .inr ⟨by omega, h, e2⟩
      have m1 : ∀ {x : PV} {c : Value}, VR ρ F w x c → VR ρ2 F w' x c := fun h => h.mono h1 (fun _ _ e => e) (fun b o e => hgr.cell b o (hs.old b o e))
      have m2 : ∀ {x : PV} {c : Value}, VR ρ' F' w' x c → x.own = true → VR ρ2 F w' x c := fun h ho => (h.own (F' := F) ho).mono h2 (fun _ _ e => e) (fun _ _ _ => rfl)
      refine ⟨vc, ρ2, F, he, ⟨h1, fun id r e e0 => ?_, hnx, fun _ _ e => e, fun b o e => hgr.cell b o (hs.old b o e), hgr.size, fun b hb _ => hgr.blk b hb, fun b o e => .inl e, fun b hb => ?_, hgr.os, hgr.tape, hgr.out⟩, ⟨fun id r o e e2 => ?_, fun i j r r' o o' a b c d hne => ?_, fun b o e => Nat.lt_of_lt_of_le (hs.old b o e) hgr.size, fun id hid => ?_⟩, m2 hv hov⟩
      · rcases h3 id r e with h | ⟨_, h⟩
        · rw [e0] at h; cases h
        · exact g.rng id r h rfl
      · obtain ⟨id, r, o, e1, e2, rfl⟩ := hb
        rcases objs id r o e1 e2 with ⟨_, a, b⟩ | ⟨_, a, b⟩
        · exact .inr ⟨id, r, o, a, b, rfl⟩
        · exact .inl (hL _ ⟨id, r, o, a, b, rfl⟩)
      · rcases objs id r o e e2 with ⟨_, a, b⟩ | ⟨_, a, b⟩
        · have hlt := lv_lt hs ⟨id, r, o, a, b, rfl⟩
          cases hs.obj id r o a b with
          | cells ro es arr ty hb hp hn' hs' hf hro hz' hFF hcs =>
            exact .cells ro es arr ty (by rw [hgr.blk _ hlt]; exact hb) hp hn' hs' hf hro hz' hFF fun i e he j x hx => let ⟨v, q1, q2⟩ := hcs i e he j x hx; ⟨v, q1, m1 q2⟩
        · rename_i hge
          have hge' := hL _ ⟨id, r, o, a, b, rfl⟩
          cases s.obj id r o a b with
          | cells ro es arr ty hb hp hn' hs' hf hro hz' hFF hcs =>
            have hown := ownObjs_get hoo hge b (by
              rcases Nat.lt_or_ge id τ.next with hq | hq
              · exact hq
              · rw [s.new id hq] at b; cases b)
            exact .cells ro es arr ty hb hp hn' hs' hf hro hz' (fun o _ hq => absurd (hs.old _ o hq) (by omega)) fun i e he j x hx => let ⟨v, q1, q2⟩ := hcs i e he j x hx; ⟨v, q1, m2 q2 (hown e (List.mem_of_getElem? he) x (List.mem_of_getElem? hx))⟩
      · rcases objs i r o a b with ⟨_, p1, p2⟩ | ⟨_, p1, p2⟩ <;> rcases objs j r' o' c d with ⟨_, q1, q2⟩ | ⟨_, q1, q2⟩
        · exact hs.apart i j r r' o o' p1 p2 q1 q2 hne
        · have e1 := lv_lt hs ⟨i, r, o, p1, p2, rfl⟩
          have e2 := hL _ ⟨j, r', o', q1, q2, rfl⟩
          omega
        · have e1 := lv_lt hs ⟨j, r', o', q1, q2, rfl⟩
          have e2 := hL _ ⟨i, r, o, p1, p2, rfl⟩
          omega
        · exact s.apart i j r r' o o' p1 p2 q1 q2 hne
      · have hid' : τ.next ≤ id := hid
        show (if id < σ.next then σ.objs id else τ.objs id) = none
        rw [if_neg (by omega)]
        exact s.new id hid'
    · cases h

  · -- without a look at the store
    simp only [Option.bind_eq_some_iff] at h
    obtain ⟨⟨v0, τ⟩, hc, h⟩ := h
    simp only at h
    split at h
    · rename_i h0
      cases h
      refine (hC f _ _ v τ hc ρ F w us ⟨fun _ _ _ _ h => by (cases h), fun _ _ _ _ _ _ _ h => by (cases h), hs.old, fun _ _ => rfl⟩ hu fun id _ hid => by rw [h0] at hid; exact absurd hid (Nat.not_lt_zero _)).mono fun e w' ⟨vc, ρ', F', he, g, s, hv⟩ => ?_
      have hρ : ρ' = ρ := by
        funext id
        cases hq : ρ id with
        | some r => exact g.rec_ id r hq
        | none =>
          cases hq' : ρ' id with
          | none => rfl
          | some r => have := (g.rng id r hq' hq).2; rw [h0] at this; exact absurd this (Nat.not_lt_zero _)
      subst hρ
      have hLe : ∀ b, ¬ Lv ρ' Store.empty b := fun b ⟨_, _, _, _, h, _⟩ => by cases h
      have hgr : Grew w w' := ⟨g.size, fun b hb => g.frame b hb (hLe b), g.os, g.tape, g.out⟩
      have hN : ∀ b o, F' b o → F b o ∨ w.heap.size ≤ b := fun b o e => by
        rcases g.froN b o e with e | e | e
        · exact .inl e
        · exact .inr e
        · exact absurd e (hLe b)
      refine ⟨vc, ρ', F', he, Go1.of_grew hs hgr g.fro (fun b o e => (hN b o e).imp id .inl) rfl (fun _ o e => ⟨o, e⟩), hs.grew hgr g.fro s.old rfl (fun _ => .inl rfl) (fun id r ro es hr ho o _ e => ?_), hv⟩
      rcases hN _ o e with e | e
      · exact e
      · have := lv_lt hs ⟨id, r, _, hr, ho, rfl⟩
        omega
    · cases h

end
end Go.Pvm
