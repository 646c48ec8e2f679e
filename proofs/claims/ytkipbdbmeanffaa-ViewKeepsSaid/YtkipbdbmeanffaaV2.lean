/- Part of the proof: what reads alone: parts of structs, cells of memory, addresses, comparisons. -/
import Derived.Test.YtkipbdbmeanffaaV1
import Derived.Laws.AppendOwn
import Derived.Laws.CopyRow
import Derived.Laws.Build
namespace Go.Pvm
section
variable {P : Program} {ρ : Where} {F : Froz} {w : World}

theorem ad_add (b o n : Nat) : (⟨b, o, none⟩ : Addr).add n = ⟨b, o + n, none⟩ := by unfold Addr.add; split <;> simp_all

theorem szOf_info {t : TypeId} {n : Nat} (h : szOf P t = some n) : ∃ i, P.info? t = some i ∧ i.size = n := by
  unfold szOf at h
  cases hi : P.info? t with
  | none => rw [hi] at h; cases h
  | some i => rw [hi] at h; exact ⟨i, rfl, by simpa using h⟩
theorem run_szOf {t : TypeId} {n : Nat} (h : szOf P t = some n) (w : World) : (sizeOf t).run P w = .ok n w := by
  obtain ⟨i, hi, rfl⟩ := szOf_info h
  simp [sizeOf, typeInfo, hi]

/-- Cells from a place on, each standing for a value. -/
def CellsAt (ρ : Where) (F : Froz) (w : World) (b o : Nat) (cs : List PV) : Prop := ∀ i x, cs[i]? = some x → ∃ v, w.cell? ⟨b, o + i, none⟩ = some v ∧ VR ρ F w x v

theorem CellsAt.drop {b o : Nat} {cs : List PV} (h : CellsAt ρ F w b o cs) (k : Nat) : CellsAt ρ F w b (o + k) (cs.drop k) := fun i x e => by
  rw [List.getElem?_drop] at e
  obtain ⟨v, h1, h2⟩ := h _ _ e
  exact ⟨v, by rw [Nat.add_assoc]; exact h1, h2⟩
theorem CellsAt.take {b o : Nat} {cs : List PV} (h : CellsAt ρ F w b o cs) (k : Nat) : CellsAt ρ F w b o (cs.take k) := fun i x e => by
  rw [List.getElem?_take] at e
  split at e
  · exact h _ _ e
  · cases e

theorem CellsAt.list {b o : Nat} {cs : List PV} (h : CellsAt ρ F w b o cs) : ∃ us : List Value, VRs ρ F w cs us ∧ ∀ j v, us[j]? = some v → w.cell? ⟨b, o + j, none⟩ = some v := by
  refine ⟨(List.range cs.length).map fun i => (w.cell? ⟨b, o + i, none⟩).getD undef, ⟨by simp, fun i c u e e' => ?_⟩, fun j v e => ?_⟩
  · obtain ⟨v, h1, h2⟩ := h i c e
    simp only [List.getElem?_map, Option.map_eq_some_iff, List.getElem?_range, (List.getElem?_eq_some_iff.1 e).1] at e'
    obtain ⟨a, ha, rfl⟩ := e'
    cases ha
    rw [h1]
    exact h2
  · simp only [List.getElem?_map, Option.map_eq_some_iff] at e
    obtain ⟨a, ha, rfl⟩ := e
    have hj : j < cs.length := by
      have := (List.getElem?_eq_some_iff.1 ha).1
      simpa using this
    rw [List.getElem?_range hj] at ha
    cases ha
    obtain ⟨v, h1, _⟩ := h j _ (List.getElem?_eq_getElem hj)
    rw [h1]; rfl

theorem VRs.drop {cs : List PV} {us : List Value} (h : VRs ρ F w cs us) (k : Nat) : VRs ρ F w (cs.drop k) (us.drop k) :=
  ⟨by simp [h.1], fun i c u e e' => by rw [List.getElem?_drop] at e e'; exact h.2 _ _ _ e e'⟩
theorem VRs.take {cs : List PV} {us : List Value} (h : VRs ρ F w cs us) (k : Nat) : VRs ρ F w (cs.take k) (us.take k) :=
  ⟨by simp [h.1], fun i c u e e' => by
    rw [List.getElem?_take] at e e'
    split at e
    · rename_i hk
      rw [if_pos hk] at e'
      exact h.2 _ _ _ e e'
    · cases e⟩
theorem VRs.get {cs : List PV} {us : List Value} (h : VRs ρ F w cs us) {i : Nat} {c : PV} (e : cs[i]? = some c) : ∃ u, us[i]? = some u ∧ VR ρ F w c u := by
  have hi : i < us.length := by rw [h.1]; exact (List.getElem?_eq_some_iff.1 e).1
  exact ⟨us[i], List.getElem?_eq_getElem hi, h.2 _ _ _ e (List.getElem?_eq_getElem hi)⟩
theorem VRs.nil : VRs ρ F w [] [] := ⟨rfl, fun i c u e => by simp at e⟩
theorem VRs.cons {c : PV} {u : Value} {cs : List PV} {us : List Value} (h : VR ρ F w c u) (k : VRs ρ F w cs us) : VRs ρ F w (c :: cs) (u :: us) :=
  ⟨by simp [k.1], fun i x y e e' => by
    cases i with
    | zero => simp at e e'; subst e; subst e'; exact h
    | succ i => exact k.2 i x y (by simpa using e) (by simpa using e')⟩
theorem VRs.cons_inv {c : PV} {cs : List PV} {us : List Value} (h : VRs ρ F w (c :: cs) us) : ∃ u us', us = u :: us' ∧ VR ρ F w c u ∧ VRs ρ F w cs us' := by
  cases us with
  | nil => have := h.1; simp at this
  | cons u us' => exact ⟨u, us', rfl, h.2 0 c u rfl rfl, by have := h.1; simpa using this, fun i x y e e' => h.2 (i + 1) x y (by simpa using e) (by simpa using e')⟩
theorem VRs.nil_inv {us : List Value} (h : VRs ρ F w [] us) : us = [] := List.length_eq_zero_iff.1 h.1
theorem VRs.append {cs ds : List PV} {us vs : List Value} (h : VRs ρ F w cs us) (k : VRs ρ F w ds vs) : VRs ρ F w (cs ++ ds) (us ++ vs) :=
  ⟨by simp [h.1, k.1], fun i c u e e' => by
    rw [List.getElem?_append] at e e'
    rw [h.1] at e'
    split at e
    · rename_i hi; rw [if_pos hi] at e'; exact h.2 _ _ _ e e'
    · rename_i hi; rw [if_neg hi] at e'; exact k.2 _ _ _ e e'⟩
theorem VRs.one {c : PV} {u : Value} (h : VR ρ F w c u) : VRs ρ F w [c] [u] := .cons h .nil

/-- The cells of a value that is known. -/
theorem VR.cells {v : PV} {c : Value} (h : VR ρ F w v c) (hk : v.known = true) : VRs ρ F w v.cells c.cells.toList := by
  cases v with
  | undef => cases hk
  | agg cs => obtain ⟨us, rfl, hs⟩ := h.agg_inv; exact hs
  | tuple cs => obtain ⟨us, rfl, hs⟩ := h.tuple_inv; exact .one h
  | bool b => obtain rfl := h.bool_inv; exact .one h
  | int k n => obtain rfl := h.int_inv; exact .one h
  | float k n => obtain rfl := h.float_inv; exact .one h
  | str s => obtain rfl := h.str_inv; exact .one h
  | nilptr => obtain rfl := h.nilptr_inv; exact .one h
  | nilsl => obtain rfl := h.nilsl_inv; exact .one h
  | nilmap => obtain rfl := h.nilmap_inv; exact .one h
  | nilfunc => obtain rfl := h.nilfunc_inv; exact .one h
  | niliface =>
    cases h with
    | pure h => cases h; exact .one (.pure .niliface)
  | ref a b c => obtain ⟨r, _, rfl⟩ := h.ref_inv; exact .one h
  | pref cs => obtain ⟨b, o, rfl, _⟩ := h.pref_inv; exact .one h
  | psl f es => obtain ⟨sz, b, o, sp, k, rfl, _⟩ := h.psl_inv; exact .one h
  | lsl a b c d e => obtain ⟨r, b, o, k, _, _, rfl, _⟩ := h.lsl_inv; exact .one h
  | mref a =>
    cases h with
    | pure h => cases h
  | func f cs => obtain ⟨us, rfl, _⟩ := h.func_inv; exact .one h

theorem VR.one {v : PV} {c : Value} (h : VR ρ F w v c) (hk : v.one = true) : c.oneCell' = true := by
  cases v with
  | undef => cases hk
  | agg cs => cases hk
  | tuple cs => cases hk
  | bool b => obtain rfl := h.bool_inv; rfl
  | int k n => obtain rfl := h.int_inv; rfl
  | float k n => obtain rfl := h.float_inv; rfl
  | str s => obtain rfl := h.str_inv; rfl
  | nilptr => obtain rfl := h.nilptr_inv; rfl
  | nilsl => obtain rfl := h.nilsl_inv; rfl
  | nilmap => obtain rfl := h.nilmap_inv; rfl
  | nilfunc => obtain rfl := h.nilfunc_inv; rfl
  | niliface =>
    cases h with
    | pure h => cases h; rfl
  | ref a b c => obtain ⟨r, _, rfl⟩ := h.ref_inv; rfl
  | pref cs => obtain ⟨b, o, rfl, _⟩ := h.pref_inv; rfl
  | psl f es => obtain ⟨sz, b, o, sp, k, rfl, _⟩ := h.psl_inv; rfl
  | lsl a b c d e => obtain ⟨r, b, o, k, _, _, rfl, _⟩ := h.lsl_inv; rfl
  | mref a =>
    cases h with
    | pure h => cases h
  | func f cs => obtain ⟨us, rfl, _⟩ := h.func_inv; rfl

/-! ### A part of a struct, a variable in memory -/
theorem run_isAgg {t : TypeId} {d : TypeDesc} (h : P.underlying t = some d) (w : World) : (isAgg t).run P w = .ok (aggD d) w := by
  simp only [isAgg, Sem.run_bind, run_underlying h, Result.andThen_ok]
  cases d <;> rfl

theorem run_partOf {t : TypeId} {cs : List PV} {off : Nat} {v : PV} (h : partOf P t cs off = some v) {us : List Value} (hs : VRs ρ F w cs us) :
    ∃ c, (part t us.toArray off).run P w = .ok c w ∧ VR ρ F w v c := by
  unfold partOf at h
  simp only [Option.bind_eq_some_iff] at h
  obtain ⟨n, hn, d, hd, h⟩ := h
  split at h
  · rename_i ha
    split at h
    · cases h
      refine ⟨.agg ((us.drop off).take n).toArray, ?_, .agg' ((hs.drop off).take n)⟩
      simp only [part, Sem.run_bind, run_isAgg hd, Result.andThen_ok, ha, if_true, run_szOf hn, Sem.run_pure]
      congr 2
      apply Array.ext'
      simp [List.extract_eq_take_drop]
    · cases h
  · rename_i ha
    obtain ⟨u, hu, hv⟩ := hs.get h
    refine ⟨u, ?_, hv⟩
    simp [part, Sem.run_bind, run_isAgg hd, Result.andThen_ok, hu, ha]

theorem run_loadVar_of {t : TypeId} {cs : List PV} {off : Nat} {v : PV} (h : partOf P t cs off = some v) {b o : Nat} (hs : CellsAt ρ F w b o cs) :
    ∃ c, (loadVar t ⟨b, o + off, none⟩).run P w = .ok c w ∧ VR ρ F w v c := by
  unfold partOf at h
  simp only [Option.bind_eq_some_iff] at h
  obtain ⟨n, hn, d, hd, h⟩ := h
  split at h
  · rename_i ha
    split at h
    · rename_i hle
      cases h
      obtain ⟨us, h1, h2⟩ := ((hs.drop off).take n).list
      have hl : us.length = n := by rw [h1.1]; simp; omega
      refine ⟨.agg us.toArray, ?_, .agg' h1⟩
      have hr := run_loadCells_list (P := P) w ⟨b, o + off, none⟩ us (fun j v e => by rw [ad_add]; exact h2 j v e)
      rw [hl] at hr
      simp only [loadVar, Sem.run_bind, run_isAgg hd, Result.andThen_ok, ha, if_true, run_szOf hn, hr, Sem.run_pure]
    · cases h
  · rename_i ha
    obtain ⟨u, hu, hv⟩ := hs off v h
    refine ⟨u, ?_, hv⟩
    simp [loadVar, Sem.run_bind, run_isAgg hd, Result.andThen_ok, run_load, hu, ha]

theorem VP.cellsAt {cs : List PV} {b o : Nat} (h : ∀ i x, cs[i]? = some x → ∃ v, F b (o + i) ∧ w.cell? ⟨b, o + i, none⟩ = some v ∧ VP F w x v) : CellsAt ρ F w b o cs :=
  fun i x e => let ⟨v, _, h2, h3⟩ := h i x e; ⟨v, h2, .pure h3⟩

theorem OR.cells_inv {r : Rec} {ro : Nat} {es : List (List PV)} (h : OR ρ F w r (.cells ro es)) : ∃ (arr : Array Value) (ty : TypeId), w.heap[r.block]? = some (.cells arr ty (0, 0)) ∧ arr.size = r.phys ∧ es.length = r.n ∧
    (∀ e ∈ es, e.length = r.sz) ∧ r.sh + r.n * r.sz ≤ r.phys ∧ ro ≤ r.n ∧ 0 < r.sz ∧ (∀ o, r.sh + ro * r.sz ≤ o → ¬ F r.block o) ∧
    ∀ i e, es[i]? = some e → ∀ j x, e[j]? = some x → ∃ v, arr[r.sh + i * r.sz + j]? = some v ∧ VR ρ F w x v := by
  cases h with
  | cells _ _ arr ty hb hp hn hs hf hro hz hF hc => exact ⟨arr, ty, hb, hp, hn, hs, hf, hro, hz, hF, hc⟩

theorem OR.elem {r : Rec} {ro : Nat} {es : List (List PV)} (h : OR ρ F w r (.cells ro es)) {i : Nat} {e : List PV} (he : es[i]? = some e) : CellsAt ρ F w r.block (r.sh + i * r.sz) e := fun j x hx => by
  obtain ⟨arr, ty, hb, _, _, _, _, _, _, _, hc⟩ := h.cells_inv
  obtain ⟨v, h1, h2⟩ := hc i e he j x hx
  exact ⟨v, by simp [World.cell?, hb, h1], h2⟩

theorem run_loadv {σ : Store} {t : TypeId} {a v : PV} (h : loadv P σ t a = some v) (hs : SR ρ F σ w) {c : Value} (ha : VR ρ F w a c) :
    ∃ u, (Instr.loadAt t c).run P w = .ok u w ∧ VR ρ F w v u := by
  unfold loadv at h
  split at h
  · obtain ⟨b, o, rfl, h1⟩ := ha.pref_inv
    obtain ⟨u, h2, h3⟩ := run_loadVar_of h (VP.cellsAt h1)
    refine ⟨u, ?_, h3⟩
    simpa [Instr.loadAt, Instr.sureAddr] using h2
  · rename_i id idx off
    split at h
    · rename_i ro es ho
      simp only [Option.bind_eq_some_iff] at h
      obtain ⟨e, he, h⟩ := h
      obtain ⟨r, hr, rfl⟩ := ha.ref_inv
      obtain ⟨u, h2, h3⟩ := run_loadVar_of h ((hs.obj id r _ hr ho).elem he)
      refine ⟨u, ?_, h3⟩
      simpa [Instr.loadAt, Instr.sureAddr] using h2
    · cases h
  · cases h

/-! ### Addresses -/
theorem run_fieldAddrv {s : TypeId} {x v : PV} {f : Nat} (h : fieldAddrv P s x f = some v) {c : Value} (hx : VR ρ F w x c) :
    ∃ u, (Instr.fieldAt s c f).run P w = .ok u w ∧ VR ρ F w v u := by
  unfold fieldAddrv at h
  split at h
  · rename_i fs hu
    simp only [Option.bind_eq_some_iff] at h
    obtain ⟨fd, hf, n, hn, h⟩ := h
    split at h
    · cases h
    · rename_i hn0
      have hp : ∀ b o, (Instr.fieldAt s (.pointer (some ⟨b, o, none⟩)) f).run P w = .ok (.pointer (some ⟨b, o + fd.offset, none⟩)) w := by
        intro b o
        simp [Instr.fieldAt, run_underlying hu, hf, Instr.sureAddr, fieldPlace, run_szOf hn, hn0, ad_add]
      split at h
      · rename_i id idx off
        cases h
        obtain ⟨r, hr, rfl⟩ := hx.ref_inv
        exact ⟨_, hp _ _, by have := VR.ref (ρ := ρ) (F := F) (w := w) id idx (off + fd.offset) r hr; rwa [← Nat.add_assoc] at this⟩
      · rename_i cs
        cases h
        obtain ⟨b, o, rfl, h1⟩ := hx.pref_inv
        refine ⟨_, hp _ _, .pure ?_⟩
        have : ∀ i c, (cs.drop fd.offset)[i]? = some c → ∃ v, F b (o + fd.offset + i) ∧ w.cell? ⟨b, o + fd.offset + i, none⟩ = some v ∧ VP F w c v := fun i c e => by
          rw [List.getElem?_drop] at e
          rw [Nat.add_assoc]
          exact h1 _ _ e
        refine .pref _ _ _ (fun i => (w.cell? ⟨b, o + fd.offset + i, none⟩).getD undef) (fun i c e => ?_) (fun i c e => ?_)
        · obtain ⟨v, h2, h3, _⟩ := this i c e
          exact ⟨h2, by rw [h3]; rfl⟩
        · obtain ⟨v, h2, h3, h4⟩ := this i c e
          rw [h3]; exact h4
      · cases h
  · cases h

theorem VP.pref' {cs : List PV} {b o : Nat} (h : ∀ i x, cs[i]? = some x → ∃ v, F b (o + i) ∧ w.cell? ⟨b, o + i, none⟩ = some v ∧ VP F w x v) : VP F w (.pref cs) (.pointer (some ⟨b, o, none⟩)) := by
  refine .pref _ _ _ (fun i => (w.cell? ⟨b, o + i, none⟩).getD Go.undef) (fun i c e => ?_) (fun i c e => ?_)
  · obtain ⟨v, h2, h3, _⟩ := h i c e
    exact ⟨h2, by rw [h3]; rfl⟩
  · obtain ⟨v, h2, h3, h4⟩ := h i c e
    rw [h3]; exact h4

theorem intOf_inv {i : PV} {n : Int} (h : intOf? i = some n) {c : Value} (hi : VR ρ F w i c) : ∃ k, c = .int k n := by
  unfold intOf? at h
  split at h
  · cases h; exact ⟨_, hi.int_inv⟩
  · cases h

theorem run_indexAddrv {t : TypeId} {x i v : PV} (h : indexAddrv P t x i = some v) {c ci : Value} (hx : VR ρ F w x c) (hi : VR ρ F w i ci) :
    ∃ u, (Instr.indexAt t c ci).run P w = .ok u w ∧ VR ρ F w v u := by
  unfold indexAddrv at h
  simp only [Option.bind_eq_some_iff] at h
  obtain ⟨n, hn, h⟩ := h
  obtain ⟨k, rfl⟩ := intOf_inv hn hi
  split at h
  · rename_i el hu
    simp only [Option.bind_eq_some_iff] at h
    obtain ⟨sz, hsz, h⟩ := h
    split at h
    · rename_i full es
      split at h
      · rename_i h0
        simp only [Option.bind_eq_some_iff] at h
        obtain ⟨e, he, h⟩ := h
        split at h
        · rename_i hel
          cases h
          obtain ⟨sz', b, o, sp, cap, rfl, hs, hc, hf, hcell, hsp⟩ := hx.psl_inv
          obtain rfl := hsp (by have := (List.getElem?_eq_some_iff.1 he).1; omega)
          have hz : sz' = sz := by rw [← hs e (List.mem_of_getElem? he)]; exact hel
          subst hz
          have hlt : n.toNat < es.length := (List.getElem?_eq_some_iff.1 he).1
          have hlt' : n < (es.length : Int) := by omega
          refine ⟨.pointer (some ⟨b, o + n.toNat * sz', none⟩), ?_, .pure (.pref' fun j x hx => hcell _ _ he _ _ hx)⟩
          simp [Instr.indexAt, asIntOf, run_underlying hu, run_szOf hsz, h0, hlt', ad_add]
        · cases h
      · cases h
    · rename_i id sz' idx len cap
      split at h
      · rename_i hh
        obtain ⟨h0, hlt, rfl⟩ := hh
        cases h
        obtain ⟨r, b, o, kk, hr, rfl, rfl, ha, hl, _, _, _⟩ := hx.lsl_inv
        obtain ⟨rfl, rfl⟩ := ha (by omega)
        refine ⟨.pointer (some ⟨r.block, r.sh + idx * r.sz + n.toNat * r.sz, none⟩), ?_, ?_⟩
        · simp [Instr.indexAt, asIntOf, run_underlying hu, run_szOf hsz, h0, hlt, ad_add]
        · have := VR.ref (ρ := ρ) (F := F) (w := w) id (idx + n.toNat) 0 r hr
          rwa [Nat.add_zero, Nat.add_mul, ← Nat.add_assoc] at this
      · cases h
    · cases h
  · rename_i len el hu
    simp only [Option.bind_eq_some_iff] at h
    obtain ⟨sz, hsz, h⟩ := h
    split at h
    · rename_i hh
      obtain ⟨h0, hlt⟩ := hh
      split at h
      · rename_i id idx off
        cases h
        obtain ⟨r, hr, rfl⟩ := hx.ref_inv
        refine ⟨.pointer (some ⟨r.block, r.sh + idx * r.sz + off + n.toNat * sz, none⟩), ?_, ?_⟩
        · simp [Instr.indexAt, asIntOf, run_underlying hu, run_szOf hsz, h0, hlt, ad_add, Instr.sureAddr]
        · have := VR.ref (ρ := ρ) (F := F) (w := w) id idx (off + n.toNat * sz) r hr
          rwa [← Nat.add_assoc] at this
      · rename_i cs
        cases h
        obtain ⟨b, o, rfl, h1⟩ := hx.pref_inv
        refine ⟨.pointer (some ⟨b, o + n.toNat * sz, none⟩), ?_, .pure (.pref' fun j x hx => ?_)⟩
        · simp [Instr.indexAt, asIntOf, run_underlying hu, run_szOf hsz, h0, hlt, ad_add, Instr.sureAddr]
        · rw [List.getElem?_drop] at hx
          rw [Nat.add_assoc]
          exact h1 _ _ hx
      · cases h
    · cases h
  · cases h

theorem run_fieldv {s : TypeId} {x v : PV} {f : Nat} (h : fieldv P s x f = some v) {c : Value} (hx : VR ρ F w x c) :
    ∃ u, (Instr.field s c f).run P w = .ok u w ∧ VR ρ F w v u := by
  unfold fieldv at h
  split at h
  · rename_i fs cs hu
    simp only [Option.bind_eq_some_iff] at h
    obtain ⟨fd, hf, h⟩ := h
    obtain ⟨us, rfl, hs⟩ := hx.agg_inv
    obtain ⟨u, h1, h2⟩ := run_partOf h hs
    refine ⟨u, ?_, h2⟩
    simpa [Instr.field, run_underlying hu, hf, asAgg] using h1
  · cases h

theorem run_indexv {t : TypeId} {x i v : PV} (h : indexv P t x i = some v) {c ci : Value} (hx : VR ρ F w x c) (hi : VR ρ F w i ci) :
    ∃ u, (Instr.index t c ci).run P w = .ok u w ∧ VR ρ F w v u := by
  unfold indexv at h
  simp only [Option.bind_eq_some_iff] at h
  obtain ⟨n, hn, h⟩ := h
  obtain ⟨k, rfl⟩ := intOf_inv hn hi
  split at h
  · rename_i len el cs hu
    simp only [Option.bind_eq_some_iff] at h
    obtain ⟨sz, hsz, h⟩ := h
    split at h
    · rename_i hh
      obtain ⟨h0, hlt⟩ := hh
      obtain ⟨us, rfl, hs⟩ := hx.agg_inv
      obtain ⟨u, h1, h2⟩ := run_partOf h hs
      refine ⟨u, ?_, h2⟩
      simpa [Instr.index, asIntOf, run_underlying hu, run_szOf hsz, h0, hlt] using h1
    · cases h
  · rename_i s hu
    split at h
    · rename_i h0
      simp only [Option.map_eq_some_iff] at h
      obtain ⟨b, hb, rfl⟩ := h
      obtain rfl := hx.str_inv
      refine ⟨_, ?_, .pure (.int _ _)⟩
      have : s[n.toNat]? = some b := by
        obtain ⟨hlt, he⟩ := Array.getElem?_eq_some_iff.1 hb
        have hlt' : n.toNat < s.size := hlt
        rw [getElem?_pos s n.toNat hlt', ← he]
        rfl
      simp [Instr.index, asIntOf, run_underlying hu, h0, this]
    · cases h
  · cases h

end
end Go.Pvm
