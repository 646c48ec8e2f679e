/- Part of the proof: the operations that lay and write memory: literals, 'make', stores, 'append', 'copy', 'clear'. -/
import Derived.Test.YtkipbdbmeanffaaV4
import Derived.Laws.Tables
set_option linter.unusedSimpArgs false
set_option linter.unusedVariables false
namespace Go.Pvm
section
variable {P : Program} {ρ : Where} {F : Froz} {w : World} {σ : Store}

/-- What an operation comes to. -/
def Res (P : Program) (ρ : Where) (F : Froz) (σ : Store) (w : World) (σ' : Store) (v : PV) (s : Sem Value) : Prop :=
  ∃ u ρ' F' w', s.run P w = .ok u w' ∧ Go1 ρ F σ w ρ' F' σ' w' ∧ SR ρ' F' σ' w' ∧ VR ρ' F' w' v u

theorem Res.read {v : PV} {s : Sem Value} (hs : SR ρ F σ w) (h : ∃ u, s.run P w = .ok u w ∧ VR ρ F w v u) : Res P ρ F σ w σ v s :=
  let ⟨u, h1, h2⟩ := h; ⟨u, ρ, F, w, h1, .refl _ _ _ _, hs, h2⟩

theorem zeroOf_spec {t : TypeId} {z : PV} (h : zeroOf P t = some z) : ∃ i v, P.info? t = some i ∧ i.zero = some v ∧ z = ofValue v := by
  unfold zeroOf at h
  cases hi : P.info? t with
  | none => simp [hi] at h
  | some i =>
    cases hz : i.zero with
    | none => simp [hi, hz] at h
    | some v => simp [hi, hz] at h; exact ⟨i, v, rfl, hz, h.symm⟩
theorem run_zeroValue {t : TypeId} {i : TypeInfo} {v : Value} (h : P.info? t = some i) (hz : i.zero = some v) (w : World) : (zeroValue t).run P w = .ok v w := by
  simp [zeroValue, typeInfo, h, hz]
theorem zero_vr (v : Value) : VR ρ F w (ofValue v) v := .pure (ofValue_vp F w v)

theorem put_here (r : Rec) (id : Nat) : (ρ.put id r) id = some r := by simp [Where.put]

/-- A value in a new variable. -/
theorem newVar_res (hs : SR ρ F σ w) (hn : ρ σ.next = none) (el : TypeId) {v : PV} {c : Value} (hv : VR ρ F w v c) (hk : v.known = true) (hl : v.cells.length ≠ 0) :
    Res P ρ F σ w (σ.push (.cells 0 [v.cells])) (.ref σ.next 0 0) (do pure (.pointer (some (← newVar el c)))) := by
  have hc := hv.cells hk
  obtain ⟨g, s⟩ := push_sound (w1 := w.alloc (.cells c.cells el)) hs rfl rfl rfl rfl hn (sz := v.cells.length) (es := [v.cells]) 0 (by simp) (by omega) (by simp)
    (by have := hc.1; simp at this; simp; omega) (fun i e he j x hx => by
      cases i with
      | zero =>
        simp at he; subst he
        obtain ⟨u, h1, h2⟩ := hc.get hx
        exact ⟨u, by simpa using h1, h2⟩
      | succ i => simp at he)
  refine ⟨_, _, _, _, by simp [newVar, newRow]; rfl, g, s, ?_⟩
  have := VR.ref (ρ := ρ.put σ.next ⟨w.heap.size, 0, v.cells.length, [v.cells].length, c.cells.size⟩) (F := F) (w := w.alloc (.cells c.cells el)) σ.next 0 0 _ (put_here _ _)
  simpa using this

theorem alloc_res (hs : SR ρ F σ w) (hn : ρ σ.next = none) {el : TypeId} {z : PV} (hz : zeroOf P el = some z) (hk : z.known = true) (hl : z.cells.length ≠ 0) :
    Res P ρ F σ w (σ.push (.cells 0 [z.cells])) (.ref σ.next 0 0) (Instr.alloc el true (.tuple #[])) := by
  obtain ⟨i, v, hi, hv, rfl⟩ := zeroOf_spec hz
  obtain ⟨u, ρ', F', w', h, r⟩ := newVar_res (P := P) hs hn el (zero_vr v) hk hl
  exact ⟨u, ρ', F', w', by simpa [Instr.alloc, run_zeroValue hi hv] using h, r⟩

theorem box_res (hs : SR ρ F σ w) (hn : ρ σ.next = none) {el : TypeId} {v : PV} {c : Value} (hv : VR ρ F w v c) (hk : v.known = true) (hl : v.cells.length ≠ 0) :
    Res P ρ F σ w (σ.push (.cells 0 [v.cells])) (.ref σ.next 0 0) (Instr.box el c) := newVar_res hs hn el hv hk hl

/-! ### Composite values -/
theorem over_get {cs new : List PV} {off i : Nat} (h : off + new.length ≤ cs.length) : (over cs off new)[i]? = if i < off then cs[i]? else if i < off + new.length then new[i - off]? else cs[i]? := by
  unfold over
  rw [List.getElem?_append, List.getElem?_append]
  simp only [List.length_append, List.length_take, List.getElem?_take, List.getElem?_drop]
  rw [Nat.min_eq_left (by omega)]
  by_cases h1 : i < off
  · simp [h1, show i < off + new.length by omega]
  · by_cases h2 : i < off + new.length
    · simp [h1, h2]
    · simp [h1, h2]
      congr 1
      omega
theorem over_length {cs new : List PV} {off : Nat} (h : off + new.length ≤ cs.length) : (over cs off new).length = cs.length := by
  unfold over; simp; omega

theorem zip_fold : ∀ (l : List Value) (k off : Nat) (arr : Array Value), off + k + l.length ≤ arr.size →
    (((l.zipIdx k).foldl (fun (cs : Array Value) (x : Value × Nat) => cs.setIfInBounds (off + x.2) x.1) arr).size = arr.size) ∧
    ∀ i, ((l.zipIdx k).foldl (fun (cs : Array Value) (x : Value × Nat) => cs.setIfInBounds (off + x.2) x.1) arr)[i]? = if i < off + k then arr[i]? else if i < off + k + l.length then l[i - (off + k)]? else arr[i]?
  | [], k, off, arr, _ => by
    refine ⟨by simp, fun i => ?_⟩
    simp
    intros
    omega
  | a :: l, k, off, arr, h => by
    simp only [List.zipIdx_cons, List.foldl_cons, List.length_cons] at h ⊢
    obtain ⟨h1, h2⟩ := zip_fold l (k + 1) off (arr.setIfInBounds (off + k) a) (by simp; omega)
    refine ⟨by rw [h1]; simp, fun i => ?_⟩
    rw [h2 i]
    by_cases c1 : i < off + k
    · rw [if_pos (by omega), if_pos c1]
      simp [show off + k ≠ i by omega]
    · by_cases c2 : i = off + k
      · subst c2
        have hin : off + k < arr.size := by omega
        rw [if_pos (by omega), if_neg (by omega), if_pos (by omega)]
        simp [hin]
      · rw [if_neg (by omega), if_neg c1]
        by_cases c3 : i < off + k + (l.length + 1)
        · rw [if_pos (by omega), if_pos c3, show i - (off + k) = (i - (off + (k + 1))) + 1 by omega, List.getElem?_cons_succ]
        · rw [if_neg (by omega), if_neg c3]
          simp [show off + k ≠ i by omega]

theorem fold_cells (c : Array Value) (off : Nat) (arr : Array Value) :
    (c.zipIdx.foldl (fun cs (x : Value × Nat) => cs.setIfInBounds (off + x.2) x.1) arr) = (c.toList.zipIdx 0).foldl (fun cs (x : Value × Nat) => cs.setIfInBounds (off + x.2) x.1) arr := by
  rw [← Array.foldl_toList, Array.toList_zipIdx]

/-- Parts that stand one by one. -/
def Parts (ρ : Where) (F : Froz) (w : World) : List (Nat × PV) → List (Nat × Value) → Prop
  | [], [] => True
  | (i, v) :: r, (j, c) :: s => i = j ∧ VR ρ F w v c ∧ Parts ρ F w r s
  | _, _ => False

theorem Parts.map {f : Operand → PV} {g : Operand → Value} (h : ∀ x, VR ρ F w (f x) (g x)) : ∀ l : List (Nat × Operand), Parts ρ F w (l.map fun (i, x) => (i, f x)) (l.map fun (i, x) => (i, g x))
  | [] => trivial
  | (i, x) :: r => ⟨rfl, h x, Parts.map h r⟩

theorem fill_run {place : Nat → Option (Nat × Nat)} : ∀ (parts : List (Nat × PV)) (vs : List (Nat × Value)) (cs cs' : List PV) (arr : Array Value), Parts ρ F w parts vs → fillv place cs parts = some cs' →
    VRs ρ F w cs arr.toList → ∃ arr', Instr.fill place arr vs = some arr' ∧ VRs ρ F w cs' arr'.toList
  | [], [], cs, cs', arr, _, h, hr => by simp [fillv] at h; subst h; exact ⟨arr, rfl, hr⟩
  | [], _ :: _, _, _, _, h, _, _ => h.elim
  | _ :: _, [], _, _, _, h, _, _ => by
    simp [Parts] at h
  | (i, v) :: parts, (j, c) :: vs, cs, cs', arr, hp, h, hr => by
    obtain ⟨rfl, hv, hp⟩ := hp
    simp only [fillv, Option.bind_eq_some_iff] at h
    obtain ⟨⟨off, size⟩, hpl, h⟩ := h
    simp only at h
    split at h
    · rename_i hh
      obtain ⟨h1, h2, h3⟩ := hh
      have hc := hv.cells h3
      have hcl : c.cells.size = size := by have := hc.1; simp at this; omega
      have hal : arr.size = cs.length := by have := hr.1; simpa using this
      obtain ⟨z1, z2⟩ := zip_fold c.cells.toList 0 off arr (by simp; omega)
      have hnew : VRs ρ F w (over cs off v.cells) ((c.cells.zipIdx.foldl (fun cs (x : Value × Nat) => cs.setIfInBounds (off + x.2) x.1) arr)).toList := by
        rw [fold_cells]
        refine ⟨by rw [over_length (by omega)]; simpa [hal] using z1, fun k x u e e' => ?_⟩
        rw [over_get (by omega)] at e
        rw [Array.getElem?_toList, z2 k] at e'
        simp only [Nat.add_zero, Array.length_toList, hcl, h1] at e e'
        split at e
        · rename_i q; rw [if_pos q] at e'; exact hr.2 k x u e (by simpa using e')
        · rename_i q
          rw [if_neg q] at e'
          split at e
          · rename_i q2; rw [if_pos q2] at e'; exact hc.2 _ x u e e'
          · rename_i q2; rw [if_neg q2] at e'; exact hr.2 k x u e (by simpa using e')
      obtain ⟨arr', h4, h5⟩ := fill_run parts vs _ cs' _ hp h hnew
      refine ⟨arr', ?_, h5⟩
      have hg : ¬ (c.cells.size ≠ size ∨ off + c.cells.size > arr.size) := by omega
      simp only [Instr.fill, hpl, Bool.or_eq_true, decide_eq_true_eq]
      rw [if_neg (by simpa using hg)]
      exact h4
    · cases h

theorem build_run {t : TypeId} {parts : List (Nat × PV)} {v : PV} (h : buildv P t parts = some v) {vs : Array (Nat × Value)} (hp : Parts ρ F w parts vs.toList) :
    ∃ u, (Instr.build t vs).run P w = .ok u w ∧ VR ρ F w v u := by
  unfold buildv at h
  simp only [Option.bind_eq_some_iff] at h
  obtain ⟨z, hz, h⟩ := h
  split at h
  · cases h
  · rename_i hk
    obtain ⟨i, zv, hi, hzv, rfl⟩ := zeroOf_spec hz
    have hz0 := (zero_vr (ρ := ρ) (F := F) (w := w) zv).cells (by simpa using hk)
    split at h
    · rename_i fs hu
      simp only [Option.bind_eq_some_iff, Option.map_eq_some_iff] at h
      obtain ⟨pl, hpl, cs, hf, rfl⟩ := h
      obtain ⟨arr', h1, h2⟩ := fill_run _ _ _ _ _ hp hf hz0
      refine ⟨.agg arr', run_build w t vs arr' ?_, by have := VR.agg' h2; simpa using this⟩
      simp only [Program.built, hi, hu, hzv, hpl]
      simpa using h1
    · rename_i n el hu
      simp only [Option.bind_eq_some_iff, Option.map_eq_some_iff] at h
      obtain ⟨sz, hsz, cs, hf, rfl⟩ := h
      obtain ⟨ie, hie, rfl⟩ := szOf_info hsz
      obtain ⟨arr', h1, h2⟩ := fill_run _ _ _ _ _ hp hf hz0
      refine ⟨.agg arr', run_build w t vs arr' ?_, by have := VR.agg' h2; simpa using this⟩
      simp only [Program.built, hi, hu, hzv, hie]
      exact h1
    · cases h

/-- Elements, as cells one behind the other. -/
def Flat (ρ : Where) (F : Froz) (w : World) (sz : Nat) (es : List (List PV)) (arr : Array Value) : Prop :=
  (∀ e ∈ es, e.length = sz) ∧ es.length * sz ≤ arr.size ∧ ∀ (i : Nat) (e : List PV), es[i]? = some e → ∀ (j : Nat) (x : PV), e[j]? = some x → ∃ v, arr[i * sz + j]? = some v ∧ VR ρ F w x v

theorem Flat.replicate {sz n : Nat} {z : List PV} {zs : Array Value} (hz : VRs ρ F w z zs.toList) (hl : z.length = sz) (h0 : sz ≠ 0) :
    Flat ρ F w sz (List.replicate n z) ((Array.range (n * sz)).map (zs[· % zs.size]!)) := by
  have hzs : zs.size = sz := by have := hz.1; simp at this; omega
  refine ⟨fun e he => by rw [List.eq_of_mem_replicate he]; exact hl, by simp, fun i e he j x hx => ?_⟩
  have hi : i < n := by have := (List.getElem?_eq_some_iff.1 he).1; simpa using this
  obtain rfl : z = e := by
    rw [List.getElem?_replicate, if_pos hi] at he
    simpa using he
  obtain ⟨u, h1, h2⟩ := hz.get hx
  have hj : j < sz := by rw [← hl]; exact (List.getElem?_eq_some_iff.1 hx).1
  refine ⟨u, ?_, h2⟩
  have hlt : i * sz + j < n * sz := by
    have : (i + 1) * sz ≤ n * sz := Nat.mul_le_mul_right _ hi
    rw [Nat.add_mul] at this
    omega
  rw [Array.getElem?_map, Array.getElem?_range, if_pos hlt, Option.map_some, hzs, Nat.mul_add_mod_of_lt hj]
  have h3 : zs[j]? = some u := by simpa using h1
  congr 1
  obtain ⟨hj2, h4⟩ := Array.getElem?_eq_some_iff.1 h3
  simp [hj2, h4]

theorem setAll_run {sz : Nat} : ∀ (parts : List (Nat × PV)) (vs : List (Nat × Value)) (es es' : List (List PV)) (arr : Array Value), Parts ρ F w parts vs → setAll es sz parts = some es' →
    Flat ρ F w sz es arr → ∃ arr', Instr.fill (fun i => some (i * sz, sz)) arr vs = some arr' ∧ Flat ρ F w sz es' arr' ∧ es'.length = es.length ∧ arr'.size = arr.size
  | [], [], es, es', arr, _, h, hr => by simp [setAll] at h; subst h; exact ⟨arr, rfl, hr, rfl, rfl⟩
  | [], _ :: _, _, _, _, h, _, _ => h.elim
  | _ :: _, [], _, _, _, h, _, _ => by simp [Parts] at h
  | (i, v) :: parts, (j, c) :: vs, es, es', arr, hp, h, hr => by
    obtain ⟨rfl, hv, hp⟩ := hp
    simp only [setAll] at h
    split at h
    · rename_i hh
      obtain ⟨h1, h2, h3⟩ := hh
      have hc := hv.cells h3
      have hcl : c.cells.size = sz := by have := hc.1; simp at this; omega
      have hin : i * sz + sz ≤ es.length * sz := by
        have : (i + 1) * sz ≤ es.length * sz := Nat.mul_le_mul_right _ h2
        rw [Nat.add_mul] at this; omega
      have hfit : i * sz + sz ≤ arr.size := Nat.le_trans hin hr.2.1
      obtain ⟨z1, z2⟩ := zip_fold c.cells.toList 0 (i * sz) arr (by simp; omega)
      have hnew : Flat ρ F w sz (es.set i v.cells) ((c.cells.zipIdx.foldl (fun cs (x : Value × Nat) => cs.setIfInBounds (i * sz + x.2) x.1) arr)) := by
        rw [fold_cells]
        refine ⟨fun e he => ?_, by rw [List.length_set, z1]; exact hr.2.1, fun k e he m x hx => ?_⟩
        · rcases List.mem_or_eq_of_mem_set he with he | rfl
          · exact hr.1 e he
          · exact h1
        · have hml : m < sz := by
            have hm := (List.getElem?_eq_some_iff.1 hx).1
            have : e.length = sz := by
              rcases List.mem_or_eq_of_mem_set (List.mem_of_getElem? he) with he | rfl
              · exact hr.1 e he
              · exact h1
            omega
          rw [z2]
          simp only [Nat.add_zero, Array.length_toList, hcl]
          by_cases hk : k = i
          · subst hk
            rw [List.getElem?_set_self (by omega)] at he
            cases he
            rw [if_neg (by omega), if_pos (by omega)]
            obtain ⟨u, e1, e2⟩ := hc.get hx
            exact ⟨u, by rw [← e1]; congr 1; omega, e2⟩
          · rw [List.getElem?_set_ne (Ne.symm hk)] at he
            obtain ⟨u, e1, e2⟩ := hr.2.2 k e he m x hx
            refine ⟨u, ?_, e2⟩
            by_cases hlt : k < i
            · have : (k + 1) * sz ≤ i * sz := Nat.mul_le_mul_right _ hlt
              rw [Nat.add_mul] at this
              rw [if_pos (by omega)]; exact e1
            · have : (i + 1) * sz ≤ k * sz := Nat.mul_le_mul_right _ (by omega)
              rw [Nat.add_mul] at this
              rw [if_neg (by omega), if_neg (by omega)]; exact e1
      obtain ⟨arr', h4, h5, h6, h7⟩ := setAll_run parts vs _ es' _ hp h hnew
      refine ⟨arr', ?_, h5, by rw [h6, List.length_set], by rw [h7, fold_cells, z1]⟩
      have hg : ¬ (c.cells.size ≠ sz ∨ i * sz + c.cells.size > arr.size) := by omega
      simp only [Instr.fill, Bool.or_eq_true, decide_eq_true_eq]
      rw [if_neg (by simpa using hg)]
      exact h4
    · cases h

/-- A new row of elements. -/
theorem newRow_res (hs : SR ρ F σ w) (hn : ρ σ.next = none) {w1 : World} {arr : Array Value} {ty : TypeId} (hh : w1.heap = w.heap.push (.cells arr ty)) (h1 : w1.os = w.os) (h2 : w1.tape = w.tape) (h3 : w1.output = w.output)
    {sz : Nat} {es : List (List PV)} (ro : Nat) (hro : ro ≤ es.length) (hz : sz ≠ 0) (hf : Flat ρ F w sz es arr) (n c : Nat) (cap : Option Nat) (hne : n ≤ es.length) (hnc : n ≤ c) (hcap : ∀ k, cap = some k → c = k ∧ k ≤ es.length) (hcn : cap = none → es.length ≤ c) (hfit : c * sz ≤ arr.size) :
    ∃ ρ', Go1 ρ F σ w ρ' F (σ.push (.cells ro es)) w1 ∧ SR ρ' F (σ.push (.cells ro es)) w1 ∧ VR ρ' F w1 (.lsl σ.next sz 0 n cap) (.slice (some ⟨w.heap.size, 0, none⟩) n c) := by
  obtain ⟨g, s⟩ := push_sound hs hh h1 h2 h3 hn ro hro (by omega) hf.1 hf.2.1 hf.2.2
  refine ⟨_, g, s, ?_⟩
  exact VR.lsl σ.next 0 n cap ⟨w.heap.size, 0, sz, es.length, arr.size⟩ w.heap.size 0 c (put_here _ _) (fun _ => ⟨rfl, by simp⟩) hnc (fun k hk => ⟨(hcap k hk).1, by simpa using (hcap k hk).2⟩)
    (fun hk => by simpa using hcn hk) (by simpa using hfit) (by simpa using hne)

theorem range0 (f : Nat → Value) : (Array.range 0).map f = #[] := by apply Array.ext'; simp

theorem buildSl_res (hs : SR ρ F σ w) {t : TypeId} {len : Nat} {parts : List (Nat × PV)} {v : PV} {σ' : Store} (h : buildSlv P σ t len parts = some (v, σ')) (hn : ∀ id, σ.next ≤ id → id < σ'.next → ρ id = none)
    {vs : Array (Nat × Value)} (hp : Parts ρ F w parts vs.toList) : Res P ρ F σ w σ' v (Instr.buildSlice t len vs) := by
  unfold buildSlv at h
  split at h
  · rename_i el hu
    simp only [Option.bind_eq_some_iff] at h
    obtain ⟨sz, hsz, z, hz, h⟩ := h
    split at h
    · rename_i hh
      obtain ⟨h0, hk, hl, hle⟩ := hh
      simp only [Option.map_eq_some_iff] at h
      obtain ⟨es, hes, heq⟩ := h
      cases heq
      obtain ⟨i, zv, hi, hzv, rfl⟩ := zeroOf_spec hz
      have hz0 := (zero_vr (ρ := ρ) (F := F) (w := w) zv).cells hk
      have hzs : zv.cells.size = sz := by have := hz0.1; simp at this; omega
      obtain ⟨arr', f1, f2, f3, f4⟩ := setAll_run _ _ _ _ _ hp hes (Flat.replicate (n := len) hz0 hl h0)
      have hel : es.length = len := by rw [f3]; simp
      obtain ⟨ρ', g, s, hv⟩ := newRow_res (w1 := w.alloc (.cells arr' el)) hs (hn _ (Nat.le_refl _) (by simp [Store.push])) rfl rfl rfl rfl 0 (Nat.zero_le _) h0 f2 len len (some len) (by omega) (Nat.le_refl _) (fun k hk => by cases hk; exact ⟨rfl, by omega⟩) (fun hk => by cases hk) (by rw [← hel]; exact f2.2.1)
      refine ⟨_, ρ', F, _, ?_, g, s, hv⟩
      have hle' : ¬ (len * sz > 2 ^ 24) := by omega
      rcases Nat.eq_zero_or_pos (len * sz) with hq | hq
      · have f1' := f1
        rw [hq, range0] at f1'
        simp only [Instr.buildSlice, Sem.run_bind, run_underlying hu, run_szOf hsz, Result.andThen_ok, hq]
        simp [newRow, range0, f1']
      · simp [Instr.buildSlice, run_underlying hu, run_szOf hsz, hle', Nat.ne_of_gt hq, newRow, run_zeroValue hi hzv, f1]
    · cases h
  · cases h

theorem makeSl_res (hs : SR ρ F σ w) {t : TypeId} {len cap v : PV} {σ' : Store} (h : makeSlv P σ t len cap = some (v, σ')) (hn : ∀ id, σ.next ≤ id → id < σ'.next → ρ id = none)
    {cl cc : Value} (hl : VR ρ F w len cl) (hc : VR ρ F w cap cc) : Res P ρ F σ w σ' v (Instr.makeSlice t cl cc) := by
  unfold makeSlv at h
  split at h
  · rename_i el l c hu
    obtain rfl := hl.int_inv
    obtain rfl := hc.int_inv
    simp only [Option.bind_eq_some_iff] at h
    obtain ⟨sz, hsz, by_, hby, z, hz, h⟩ := h
    split at h
    · rename_i hh
      obtain ⟨h0, hk, hzl, hl0, hlc, hb, hc63⟩ := hh
      cases h
      obtain ⟨i, zv, hi, hzv, rfl⟩ := zeroOf_spec hz
      have hz0 := (zero_vr (ρ := ρ) (F := F) (w := w) zv).cells hk
      have hf := Flat.replicate (n := c.toNat) hz0 hzl h0
      obtain ⟨ρ', g, s, hv⟩ := newRow_res (w1 := w.alloc (.cells ((Array.range (c.toNat * sz)).map (zv.cells[· % zv.cells.size]!)) el)) hs (hn _ (Nat.le_refl _) (by simp [Store.push])) rfl rfl rfl rfl 0 (Nat.zero_le _) h0 hf l.toNat c.toNat (some c.toNat) (by simp; omega) (by omega)
        (fun k hk => by cases hk; exact ⟨rfl, by simp⟩) (fun hk => by cases hk) (by simp)
      refine ⟨_, ρ', F, _, ?_, g, s, hv⟩
      have hby' : i.bytes = by_ := by unfold byOf at hby; rw [hi] at hby; simpa using hby
      have hsz' : i.size = sz := by unfold szOf at hsz; rw [hi] at hsz; simpa using hsz
      have w1 : IntKind.i64.wrap l = l := by simp only [IntKind.wrap, IntKind.signed, IntKind.bits]; simp; omega
      have w2 : IntKind.i64.wrap c = c := by simp only [IntKind.wrap, IntKind.signed, IntKind.bits]; simp; omega
      have t1 : ¬ (c < 0) := by omega
      have t2 : ¬ ((by_ : Int) * c > 2 ^ 48) := by omega
      have t3 : ¬ (l < 0) := by omega
      have t4 : ¬ (l > c) := by omega
      have t5 : (askRoom (c.toNat * by_)).run P w = .ok () w := by unfold askRoom; split <;> rfl
      have e1 : (zeroValue el).run P w = .ok zv w := run_zeroValue hi hzv w
      simp only [Instr.makeSlice, Sem.run_bind, run_underlying hu, Result.andThen_ok, asInt, asIntOf, Sem.run_pure, typeInfo, run_program, hi, hby', w1, w2, t1, t2, t3, t4, decide_false, Bool.or_self, Bool.false_eq_true, if_false, t5, run_szOf hsz]
      rcases Nat.eq_zero_or_pos (c.toNat * sz) with hq | hq
      · simp [hq, newRow, range0]
      · simp [Nat.ne_of_gt hq, newRow, e1]
    · cases h
  · cases h

end
end Go.Pvm
