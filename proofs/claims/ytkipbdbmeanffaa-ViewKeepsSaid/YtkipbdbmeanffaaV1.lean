/- Part of the proof: how a plain value stands in the machine's memory, and what stays so. -/
import Derived.Test.YtkipbdbmeanffaaV0
namespace Go.Pvm

/-- Memory that is written no more: cells, by block and place. -/
abbrev Froz := Nat → Nat → Prop

/-- A value that names nothing of the store, as it stands in memory. -/
inductive VP (F : Froz) (w : World) : PV → Value → Prop where
  | undef (v : Value) : VP F w .undef v
  | bool (b : Bool) : VP F w (.bool b) (.bool b)
  | int (k : IntKind) (n : Int) : VP F w (.int k n) (.int k n)
  | float (k : FloatKind) (n : Nat) : VP F w (.float k n) (.float k n)
  | str (s : ByteArray) : VP F w (.str s) (.string s)
  | nilptr : VP F w .nilptr (.pointer none)
  | pref (cs : List PV) (b o : Nat) (vs : Nat → Value) (h1 : ∀ i c, cs[i]? = some c → F b (o + i) ∧ w.cell? ⟨b, o + i, none⟩ = some (vs i))
      (h2 : ∀ i c, cs[i]? = some c → VP F w c (vs i)) : VP F w (.pref cs) (.pointer (some ⟨b, o, none⟩))
  | nilsl : VP F w .nilsl (.slice none 0 0)
  | psl (full : Bool) (es : List (List PV)) (sz b o : Nat) (sp : Option Nat) (c : Nat) (vs : Nat → Nat → Value) (hsp : c ≠ 0 → sp = none) (hs : ∀ e ∈ es, e.length = sz) (hc : es.length ≤ c) (hf : full = true → c = es.length)
      (h1 : ∀ i e, es[i]? = some e → ∀ j x, e[j]? = some x → F b (o + i * sz + j) ∧ w.cell? ⟨b, o + i * sz + j, none⟩ = some (vs i j))
      (h2 : ∀ i e, es[i]? = some e → ∀ j x, e[j]? = some x → VP F w x (vs i j)) : VP F w (.psl full es) (.slice (some ⟨b, o, sp⟩) es.length c)
  | nilmap : VP F w .nilmap (.map none)
  | nilfunc : VP F w .nilfunc .nilFunc
  | niliface : VP F w .niliface .nilIface
  | func (f : FuncId) (cs : List PV) (us : List Value) (vs : Nat → Value) (hl : us.length = cs.length) (h1 : ∀ i c, cs[i]? = some c → us[i]? = some (vs i))
      (h2 : ∀ i c, cs[i]? = some c → VP F w c (vs i)) : VP F w (.func f cs) (.func (.func f) #[] us.toArray)
  | agg (cs : List PV) (us : List Value) (vs : Nat → Value) (hl : us.length = cs.length) (h1 : ∀ i c, cs[i]? = some c → us[i]? = some (vs i))
      (h2 : ∀ i c, cs[i]? = some c → VP F w c (vs i)) : VP F w (.agg cs) (.agg us.toArray)
  | tuple (cs : List PV) (us : List Value) (vs : Nat → Value) (hl : us.length = cs.length) (h1 : ∀ i c, cs[i]? = some c → us[i]? = some (vs i))
      (h2 : ∀ i c, cs[i]? = some c → VP F w c (vs i)) : VP F w (.tuple cs) (.tuple us.toArray)

/-- Where an object of the store lies: the block, the first cell, the cells of an element, how many elements, how many cells the block has. -/
structure Rec where
  block : Nat
  sh : Nat
  sz : Nat
  n : Nat
  phys : Nat

abbrev Where := Nat → Option Rec

/-- Any value, as it stands in memory. -/
inductive VR (ρ : Where) (F : Froz) (w : World) : PV → Value → Prop where
  | pure {v : PV} {c : Value} (h : VP F w v c) : VR ρ F w v c
  | ref (id idx off : Nat) (r : Rec) (h : ρ id = some r) : VR ρ F w (.ref id idx off) (.pointer (some ⟨r.block, r.sh + idx * r.sz + off, none⟩))
  | lsl (id idx len : Nat) (cap : Option Nat) (r : Rec) (b o c : Nat) (h : ρ id = some r) (ha : c ≠ 0 → b = r.block ∧ o = r.sh + idx * r.sz) (hl : len ≤ c)
      (hk : ∀ k, cap = some k → c = k ∧ idx + k ≤ r.n) (hn : cap = none → r.n ≤ idx + c) (hp : r.sh + (idx + c) * r.sz ≤ r.phys) (hi : idx + len ≤ r.n) :
      VR ρ F w (.lsl id r.sz idx len cap) (.slice (some ⟨b, o, none⟩) len c)
  | func (f : FuncId) (cs : List PV) (us : List Value) (vs : Nat → Value) (hl : us.length = cs.length) (h1 : ∀ i c, cs[i]? = some c → us[i]? = some (vs i))
      (h2 : ∀ i c, cs[i]? = some c → VR ρ F w c (vs i)) : VR ρ F w (.func f cs) (.func (.func f) #[] us.toArray)
  | agg (cs : List PV) (us : List Value) (vs : Nat → Value) (hl : us.length = cs.length) (h1 : ∀ i c, cs[i]? = some c → us[i]? = some (vs i))
      (h2 : ∀ i c, cs[i]? = some c → VR ρ F w c (vs i)) : VR ρ F w (.agg cs) (.agg us.toArray)
  | tuple (cs : List PV) (us : List Value) (vs : Nat → Value) (hl : us.length = cs.length) (h1 : ∀ i c, cs[i]? = some c → us[i]? = some (vs i))
      (h2 : ∀ i c, cs[i]? = some c → VR ρ F w c (vs i)) : VR ρ F w (.tuple cs) (.tuple us.toArray)

/-- An object of the store, as it lies in memory. -/
inductive OR (ρ : Where) (F : Froz) (w : World) (r : Rec) : Obj → Prop where
  | cells (ro : Nat) (es : List (List PV)) (arr : Array Value) (ty : TypeId) (hb : w.heap[r.block]? = some (.cells arr ty (0, 0))) (hp : arr.size = r.phys) (hn : es.length = r.n)
      (hs : ∀ e ∈ es, e.length = r.sz) (hf : r.sh + r.n * r.sz ≤ r.phys) (hro : ro ≤ r.n) (hz : 0 < r.sz) (hF : ∀ o, r.sh + ro * r.sz ≤ o → ¬ F r.block o)
      (hc : ∀ i e, es[i]? = some e → ∀ j x, e[j]? = some x → ∃ v, arr[r.sh + i * r.sz + j]? = some v ∧ VR ρ F w x v) : OR ρ F w r (.cells ro es)

/-- The blocks of what is in the store. -/
def Lv (ρ : Where) (σ : Store) (b : Nat) : Prop := ∃ id r o, ρ id = some r ∧ σ.objs id = some o ∧ r.block = b

structure SR (ρ : Where) (F : Froz) (σ : Store) (w : World) : Prop where
  obj : ∀ id r o, ρ id = some r → σ.objs id = some o → OR ρ F w r o
  apart : ∀ id id' r r' o o', ρ id = some r → σ.objs id = some o → ρ id' = some r' → σ.objs id' = some o' → id ≠ id' → r.block ≠ r'.block
  old : ∀ b o, F b o → b < w.heap.size
  new : ∀ id, σ.next ≤ id → σ.objs id = none

/-- From one store and memory to another. -/
structure Go1 (ρ : Where) (F : Froz) (σ : Store) (w : World) (ρ' : Where) (F' : Froz) (σ' : Store) (w' : World) : Prop where
  rec_ : ∀ id r, ρ id = some r → ρ' id = some r
  rng : ∀ id r, ρ' id = some r → ρ id = none → σ.next ≤ id ∧ id < σ'.next
  nx : σ.next ≤ σ'.next
  fro : ∀ b o, F b o → F' b o
  cell : ∀ b o, F b o → w'.cell? ⟨b, o, none⟩ = w.cell? ⟨b, o, none⟩
  size : w.heap.size ≤ w'.heap.size
  frame : ∀ b, b < w.heap.size → ¬ Lv ρ σ b → w'.heap[b]? = w.heap[b]?
  froN : ∀ b o, F' b o → F b o ∨ w.heap.size ≤ b ∨ Lv ρ σ b
  live : ∀ b, Lv ρ' σ' b → w.heap.size ≤ b ∨ Lv ρ σ b
  os : w'.os = w.os
  tape : w'.tape = w.tape
  out : w'.output = w.output

theorem Go1.refl (ρ : Where) (F : Froz) (σ : Store) (w : World) : Go1 ρ F σ w ρ F σ w :=
  ⟨fun _ _ h => h, fun _ _ h h' => absurd (h.symm.trans h') (by simp), Nat.le_refl _, fun _ _ h => h, fun _ _ _ => rfl, Nat.le_refl _, fun _ _ _ => rfl, fun _ _ h => .inl h, fun _ h => .inr h, rfl, rfl, rfl⟩

theorem Go1.trans {ρ ρ1 ρ2 : Where} {F F1 F2 : Froz} {σ σ1 σ2 : Store} {w w1 w2 : World} (h : Go1 ρ F σ w ρ1 F1 σ1 w1) (k : Go1 ρ1 F1 σ1 w1 ρ2 F2 σ2 w2) : Go1 ρ F σ w ρ2 F2 σ2 w2 where
  rec_ id r e := k.rec_ id r (h.rec_ id r e)
  rng id r e e0 := by
    cases h1 : ρ1 id with
    | none => have := k.rng id r e h1; have := h.nx; omega
    | some r1 => have := h.rng id r1 h1 e0; have := k.nx; omega
  nx := Nat.le_trans h.nx k.nx
  fro b o e := k.fro b o (h.fro b o e)
  cell b o e := (k.cell b o (h.fro b o e)).trans (h.cell b o e)
  size := Nat.le_trans h.size k.size
  frame b hb hn := by
    rw [k.frame b (Nat.lt_of_lt_of_le hb h.size) (fun hl => ?_), h.frame b hb hn]
    rcases h.live b hl with h1 | h1
    · omega
    · exact hn h1
  froN b o e := by
    rcases k.froN b o e with h1 | h1 | h1
    · exact h.froN b o h1
    · exact .inr (.inl (Nat.le_trans h.size h1))
    · exact .inr (h.live b h1)
  live b hl := by
    rcases k.live b hl with h1 | h1
    · exact .inl (Nat.le_trans h.size h1)
    · exact h.live b h1
  os := k.os.trans h.os
  tape := k.tape.trans h.tape
  out := k.out.trans h.out

theorem VP.mono {F F' : Froz} {w w' : World} (hF : ∀ b o, F b o → F' b o) (hc : ∀ b o, F b o → w'.cell? ⟨b, o, none⟩ = w.cell? ⟨b, o, none⟩) {v : PV} {c : Value} (h : VP F w v c) : VP F' w' v c := by
  induction h with
  | undef v => exact .undef v
  | bool b => exact .bool b
  | int k n => exact .int k n
  | float k n => exact .float k n
  | str s => exact .str s
  | nilptr => exact .nilptr
  | pref cs b o vs h1 h2 ih => exact .pref cs b o vs (fun i c e => ⟨hF _ _ (h1 i c e).1, (hc _ _ (h1 i c e).1).trans (h1 i c e).2⟩) ih
  | nilsl => exact .nilsl
  | psl full es sz b o sp c vs hsp hs hc' hf h1 h2 ih => exact .psl full es sz b o sp c vs hsp hs hc' hf (fun i e he j x hx => ⟨hF _ _ (h1 i e he j x hx).1, (hc _ _ (h1 i e he j x hx).1).trans (h1 i e he j x hx).2⟩) ih
  | nilmap => exact .nilmap
  | nilfunc => exact .nilfunc
  | niliface => exact .niliface
  | func f cs us vs hl h1 h2 ih => exact .func f cs us vs hl h1 ih
  | agg cs us vs hl h1 h2 ih => exact .agg cs us vs hl h1 ih
  | tuple cs us vs hl h1 h2 ih => exact .tuple cs us vs hl h1 ih

theorem VR.mono {ρ ρ' : Where} {F F' : Froz} {w w' : World} (hρ : ∀ id r, ρ id = some r → ρ' id = some r) (hF : ∀ b o, F b o → F' b o)
    (hc : ∀ b o, F b o → w'.cell? ⟨b, o, none⟩ = w.cell? ⟨b, o, none⟩) {v : PV} {c : Value} (h : VR ρ F w v c) : VR ρ' F' w' v c := by
  induction h with
  | pure h => exact .pure (h.mono hF hc)
  | ref id idx off r h => exact .ref id idx off r (hρ _ _ h)
  | lsl id idx len cap r b o c h ha hl hk hn hp hi => exact .lsl id idx len cap r b o c (hρ _ _ h) ha hl hk hn hp hi
  | func f cs us vs hl h1 h2 ih => exact .func f cs us vs hl h1 ih
  | agg cs us vs hl h1 h2 ih => exact .agg cs us vs hl h1 ih
  | tuple cs us vs hl h1 h2 ih => exact .tuple cs us vs hl h1 ih

theorem Go1.vr {ρ ρ' : Where} {F F' : Froz} {σ σ' : Store} {w w' : World} (h : Go1 ρ F σ w ρ' F' σ' w') {v : PV} {c : Value} (k : VR ρ F w v c) : VR ρ' F' w' v c := k.mono h.rec_ h.fro h.cell

/-- What names nothing stands by itself. -/
theorem lfs_get {cs : List PV} (h : PV.lf.lfs cs = true) : ∀ (i : Nat) (c : PV), cs[i]? = some c → c.lf = true := by
  induction cs with
  | nil => intro i c e; simp at e
  | cons v r ih =>
    simp only [PV.lf.lfs, Bool.and_eq_true] at h
    intro i c e
    cases i with
    | zero => simp at e; subst e; exact h.1
    | succ i => exact ih h.2 i c (by simpa using e)

theorem VR.lf {ρ : Where} {F : Froz} {w : World} {v : PV} {c : Value} (h : VR ρ F w v c) : v.lf = true → VP F w v c := by
  induction h with
  | pure h => exact fun _ => h
  | ref id idx off r h => intro k; simp [PV.lf] at k
  | lsl id idx len cap r b o c h ha hl hk hn hp hi => intro k; simp [PV.lf] at k
  | func f cs us vs hl h1 h2 ih => intro k; exact .func f cs us vs hl h1 fun i c e => ih i c e (lfs_get (by simpa [PV.lf] using k) i c e)
  | agg cs us vs hl h1 h2 ih => intro k; exact .agg cs us vs hl h1 fun i c e => ih i c e (lfs_get (by simpa [PV.lf] using k) i c e)
  | tuple cs us vs hl h1 h2 ih => intro k; exact .tuple cs us vs hl h1 fun i c e => ih i c e (lfs_get (by simpa [PV.lf] using k) i c e)

/-- What is made of numbers and texts stands anywhere. -/
theorem scalars_get {cs : List PV} (h : PV.scalar.scalars cs = true) : ∀ (i : Nat) (c : PV), cs[i]? = some c → c.scalar = true := by
  induction cs with
  | nil => intro i c e; simp at e
  | cons v r ih =>
    simp only [PV.scalar.scalars, Bool.and_eq_true] at h
    intro i c e
    cases i with
    | zero => simp at e; subst e; exact h.1
    | succ i => exact ih h.2 i c (by simpa using e)

theorem VP.scalar {F F' : Froz} {w w' : World} {v : PV} {c : Value} (h : VP F w v c) : v.scalar = true → VP F' w' v c := by
  induction h with
  | bool b => exact fun _ => .bool b
  | int k n => exact fun _ => .int k n
  | float k n => exact fun _ => .float k n
  | str s => exact fun _ => .str s
  | nilptr => exact fun _ => .nilptr
  | nilsl => exact fun _ => .nilsl
  | nilmap => exact fun _ => .nilmap
  | nilfunc => exact fun _ => .nilfunc
  | niliface => exact fun _ => .niliface
  | agg cs us vs hl h1 h2 ih => intro k; exact .agg cs us vs hl h1 fun i c e => ih i c e (scalars_get (by simpa [PV.scalar] using k) i c e)
  | tuple cs us vs hl h1 h2 ih => intro k; exact .tuple cs us vs hl h1 fun i c e => ih i c e (scalars_get (by simpa [PV.scalar] using k) i c e)
  | undef v => intro k; simp [PV.scalar] at k
  | pref cs b o vs h1 h2 ih => intro k; simp [PV.scalar] at k
  | psl full es sz b o sp c vs hsp hs hc' hf h1 h2 ih => intro k; simp [PV.scalar] at k
  | func f cs us vs hl h1 h2 ih => intro k; simp [PV.scalar] at k

/-! ### Constants -/
theorem ofCell_vp (F : Froz) (w : World) (v : Value) : VP F w (ofCell v) v := by
  unfold ofCell
  split <;> constructor

theorem ofValue_vp (F : Froz) (w : World) (v : Value) : VP F w (ofValue v) v := by
  unfold ofValue
  split
  · rename_i cs
    have := VP.agg (F := F) (w := w) (cs.toList.map ofCell) cs.toList (fun i => cs.toList.getD i (.tuple #[])) (by simp)
      (fun i c e => by
        simp only [List.getElem?_map, Option.map_eq_some_iff] at e
        obtain ⟨a, h1, _⟩ := e
        simp [h1])
      (fun i c e => by
        simp only [List.getElem?_map, Option.map_eq_some_iff] at e
        obtain ⟨a, h1, rfl⟩ := e
        rw [List.getD_eq_getElem?_getD, h1]
        exact ofCell_vp F w a)
    simpa using this
  · rename_i f fs cs
    split
    · rename_i h
      obtain ⟨h1, h2⟩ := h
      obtain rfl : fs = #[] := by simpa using h1
      obtain rfl : cs = #[] := by simpa using h2
      exact .func _ [] [] (fun _ => .nilFunc) rfl (fun i c e => by simp at e) (fun i c e => by simp at e)
    · exact .undef _
  · rename_i vs
    split
    · rename_i h
      obtain rfl : vs = #[] := by simpa using h
      exact .tuple [] [] (fun _ => .nilFunc) rfl (fun i c e => by simp at e) (fun i c e => by simp at e)
    · exact .undef _
  · exact ofCell_vp F w v

/-! ### Lists of values that stand -/
/-- Values stand one by one. -/
def VRs (ρ : Where) (F : Froz) (w : World) (cs : List PV) (us : List Value) : Prop := us.length = cs.length ∧ ∀ (i : Nat) (c : PV) (u : Value), cs[i]? = some c → us[i]? = some u → VR ρ F w c u
def VPs (F : Froz) (w : World) (cs : List PV) (us : List Value) : Prop := us.length = cs.length ∧ ∀ (i : Nat) (c : PV) (u : Value), cs[i]? = some c → us[i]? = some u → VP F w c u

theorem fn_of {cs : List PV} {us : List Value} (hl : us.length = cs.length) {Q : PV → Value → Prop} (h : ∀ (i : Nat) (c : PV) (u : Value), cs[i]? = some c → us[i]? = some u → Q c u) :
    ∃ vs : Nat → Value, (∀ (i : Nat) (c : PV), cs[i]? = some c → us[i]? = some (vs i)) ∧ ∀ (i : Nat) (c : PV), cs[i]? = some c → Q c (vs i) := by
  refine ⟨fun i => us.getD i (.tuple #[]), fun i c e => ?_, fun i c e => ?_⟩ <;>
  · have hi : i < us.length := by rw [hl]; exact (List.getElem?_eq_some_iff.1 e).1
    have e2 : us[i]? = some (us.getD i (.tuple #[])) := by rw [List.getD_eq_getElem?_getD, List.getElem?_eq_getElem hi]; rfl
    first | exact e2 | exact h i c _ e e2

theorem VR.agg' {ρ : Where} {F : Froz} {w : World} {cs : List PV} {us : List Value} (h : VRs ρ F w cs us) : VR ρ F w (.agg cs) (.agg us.toArray) := by
  obtain ⟨vs, h1, h2⟩ := fn_of h.1 h.2
  exact .agg cs us vs h.1 h1 h2
theorem VR.tuple' {ρ : Where} {F : Froz} {w : World} {cs : List PV} {us : List Value} (h : VRs ρ F w cs us) : VR ρ F w (.tuple cs) (.tuple us.toArray) := by
  obtain ⟨vs, h1, h2⟩ := fn_of h.1 h.2
  exact .tuple cs us vs h.1 h1 h2
theorem VR.func' {ρ : Where} {F : Froz} {w : World} {f : FuncId} {cs : List PV} {us : List Value} (h : VRs ρ F w cs us) : VR ρ F w (.func f cs) (.func (.func f) #[] us.toArray) := by
  obtain ⟨vs, h1, h2⟩ := fn_of h.1 h.2
  exact .func f cs us vs h.1 h1 h2

/-! ### What a value is, if it is known -/
section
variable {ρ : Where} {F : Froz} {w : World} {c : Value}
theorem VR.bool_inv {b : Bool} (h : VR ρ F w (.bool b) c) : c = .bool b := by cases h with | pure h => cases h; rfl
theorem VR.int_inv {k : IntKind} {n : Int} (h : VR ρ F w (.int k n) c) : c = .int k n := by cases h with | pure h => cases h; rfl
theorem VR.float_inv {k : FloatKind} {n : Nat} (h : VR ρ F w (.float k n) c) : c = .float k n := by cases h with | pure h => cases h; rfl
theorem VR.str_inv {s : ByteArray} (h : VR ρ F w (.str s) c) : c = .string s := by cases h with | pure h => cases h; rfl
theorem VR.nilptr_inv (h : VR ρ F w .nilptr c) : c = .pointer none := by cases h with | pure h => cases h; rfl
theorem VR.nilsl_inv (h : VR ρ F w .nilsl c) : c = .slice none 0 0 := by cases h with | pure h => cases h; rfl
theorem VR.nilmap_inv (h : VR ρ F w .nilmap c) : c = .map none := by cases h with | pure h => cases h; rfl
theorem VR.nilfunc_inv (h : VR ρ F w .nilfunc c) : c = .nilFunc := by cases h with | pure h => cases h; rfl
theorem VR.agg_inv {cs : List PV} (h : VR ρ F w (.agg cs) c) : ∃ us : List Value, c = .agg us.toArray ∧ VRs ρ F w cs us := by
  cases h with
  | pure h =>
    cases h with
    | agg _ us vs hl h1 h2 => exact ⟨us, rfl, hl, fun i c u e e' => by have := h1 i c e; rw [e'] at this; cases this; exact .pure (h2 i c e)⟩
  | agg _ us vs hl h1 h2 => exact ⟨us, rfl, hl, fun i c u e e' => by have := h1 i c e; rw [e'] at this; cases this; exact h2 i c e⟩
theorem VR.tuple_inv {cs : List PV} (h : VR ρ F w (.tuple cs) c) : ∃ us : List Value, c = .tuple us.toArray ∧ VRs ρ F w cs us := by
  cases h with
  | pure h =>
    cases h with
    | tuple _ us vs hl h1 h2 => exact ⟨us, rfl, hl, fun i c u e e' => by have := h1 i c e; rw [e'] at this; cases this; exact .pure (h2 i c e)⟩
  | tuple _ us vs hl h1 h2 => exact ⟨us, rfl, hl, fun i c u e e' => by have := h1 i c e; rw [e'] at this; cases this; exact h2 i c e⟩
theorem VR.func_inv {f : FuncId} {cs : List PV} (h : VR ρ F w (.func f cs) c) : ∃ us : List Value, c = .func (.func f) #[] us.toArray ∧ VRs ρ F w cs us := by
  cases h with
  | pure h =>
    cases h with
    | func _ _ us vs hl h1 h2 => exact ⟨us, rfl, hl, fun i c u e e' => by have := h1 i c e; rw [e'] at this; cases this; exact .pure (h2 i c e)⟩
  | func _ _ us vs hl h1 h2 => exact ⟨us, rfl, hl, fun i c u e e' => by have := h1 i c e; rw [e'] at this; cases this; exact h2 i c e⟩
theorem VR.ref_inv {id idx off : Nat} (h : VR ρ F w (.ref id idx off) c) : ∃ r, ρ id = some r ∧ c = .pointer (some ⟨r.block, r.sh + idx * r.sz + off, none⟩) := by
  cases h with
  | pure h => cases h
  | ref _ _ _ r h => exact ⟨r, h, rfl⟩
theorem VR.pref_inv {cs : List PV} (h : VR ρ F w (.pref cs) c) : ∃ b o, c = .pointer (some ⟨b, o, none⟩) ∧ ∀ i x, cs[i]? = some x → ∃ v, F b (o + i) ∧ w.cell? ⟨b, o + i, none⟩ = some v ∧ VP F w x v := by
  cases h with
  | pure h =>
    cases h with
    | pref _ b o vs h1 h2 => exact ⟨b, o, rfl, fun i x e => ⟨vs i, (h1 i x e).1, (h1 i x e).2, h2 i x e⟩⟩
theorem VR.psl_inv {full : Bool} {es : List (List PV)} (h : VR ρ F w (.psl full es) c) : ∃ sz b o sp k, c = .slice (some ⟨b, o, sp⟩) es.length k ∧ (∀ e ∈ es, e.length = sz) ∧ es.length ≤ k ∧ (full = true → k = es.length) ∧
    (∀ i e, es[i]? = some e → ∀ j x, e[j]? = some x → ∃ v, F b (o + i * sz + j) ∧ w.cell? ⟨b, o + i * sz + j, none⟩ = some v ∧ VP F w x v) ∧ (k ≠ 0 → sp = none) := by
  cases h with
  | pure h =>
    cases h with
    | psl _ _ sz b o sp k vs hsp hs hc hf h1 h2 => exact ⟨sz, b, o, sp, k, rfl, hs, hc, hf, fun i e he j x hx => ⟨vs i j, (h1 i e he j x hx).1, (h1 i e he j x hx).2, h2 i e he j x hx⟩, hsp⟩
theorem VR.lsl_inv {id sz idx len : Nat} {cap : Option Nat} (h : VR ρ F w (.lsl id sz idx len cap) c) : ∃ r b o k, ρ id = some r ∧ sz = r.sz ∧ c = .slice (some ⟨b, o, none⟩) len k ∧
    (k ≠ 0 → b = r.block ∧ o = r.sh + idx * r.sz) ∧ len ≤ k ∧ (∀ j, cap = some j → k = j ∧ idx + j ≤ r.n) ∧ (cap = none → r.n ≤ idx + k) ∧ r.sh + (idx + k) * r.sz ≤ r.phys ∧ idx + len ≤ r.n := by
  cases h with
  | pure h => cases h
  | lsl _ _ _ _ r b o k h ha hl hk hn hp hi => exact ⟨r, b, o, k, h, rfl, rfl, ha, hl, hk, hn, hp, hi⟩
end

end Go.Pvm
