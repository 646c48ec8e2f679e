/- Part of the proof: how values of the evaluator over values alone stand for those of the one with a store. -/
import Derived.Test.YtkipbdbmeanffaaK0
set_option linter.unusedSimpArgs false
set_option linter.unusedVariables false
namespace Go.Pvm

def PV.base : PV → Bool
  | .bool _ | .int .. | .float .. | .str _ | .nilptr | .nilsl | .nilmap | .nilfunc | .niliface => true
  | _ => false

mutual
/-- What is read whole: a slice stands for a slice of the same elements, or, of none, for nil. -/
inductive VF : PV → PV → Prop
  | undef (p : PV) : VF .undef p
  | base (v : PV) (h : v.base = true) : VF v v
  | psl (b b' : Bool) {es ps : List (List PV)} (h : VFss es ps) : VF (.psl b es) (.psl b' ps)
  | nl (b : Bool) : VF (.psl b []) .nilsl
  | pref {cs ps : List PV} (h : VFs cs ps) : VF (.pref cs) (.pref ps)
  | agg {cs ps : List PV} (h : VFs cs ps) : VF (.agg cs) (.agg ps)
  | tuple {cs ps : List PV} (h : VFs cs ps) : VF (.tuple cs) (.tuple ps)
  | func (f : FuncId) {cs ps : List PV} (h : VFs cs ps) : VF (.func f cs) (.func f ps)
inductive VFs : List PV → List PV → Prop
  | nil : VFs [] []
  | cons {v p : PV} {vs ps : List PV} (h : VF v p) (t : VFs vs ps) : VFs (v :: vs) (p :: ps)
inductive VFss : List (List PV) → List (List PV) → Prop
  | nil : VFss [] []
  | cons {e p : List PV} {es ps : List (List PV)} (h : VFs e p) (t : VFss es ps) : VFss (e :: es) (p :: ps)
end

def refAt : PV → Nat → Nat → Option PV
  | .ref id _ _, i, o => some (.ref id i o)
  | .lsl id _ _ _ _, i, o => some (.ref id i o)
  | _, _, _ => none
def cutP : PV → Nat → Nat → PV
  | .lsl id sz _ _ cap, a, n => .lsl id sz a n (cap.map (· - a))
  | v, _, _ => v
def viewOk : PV → Nat → Nat → Prop
  | .lsl _ _ _ len _, a, n => a + n ≤ len
  | _, a, n => a = 0 ∧ n = 0

/-- What a slice that was made stands for. -/
def hdl : PV → Bool
  | .nilsl | .lsl .. => true
  | _ => false
mutual
inductive VK (ρ : Nat → PV) (m : Nat) : PV → PV → Prop
  | fr {v p : PV} (h : VF v p) : VK ρ m v p
  | ref {k i o : Nat} {p : PV} (h : k < m) (h2 : refAt (ρ k) i o = some p) : VK ρ m (.ref k i o) p
  | whole {k sz : Nat} (h : k < m) (hh : hdl (ρ k) = true) : VK ρ m (.lsl k sz 0 0 none) (ρ k)
  | view {k sz a n : Nat} (h : k < m) (hh : hdl (ρ k) = true) (h2 : viewOk (ρ k) a n) : VK ρ m (.lsl k sz a n (some 0)) (cutP (ρ k) a n)
  | agg {cs ps : List PV} (h : VKs ρ m cs ps) : VK ρ m (.agg cs) (.agg ps)
  | tuple {cs ps : List PV} (h : VKs ρ m cs ps) : VK ρ m (.tuple cs) (.tuple ps)
  | func (f : FuncId) {cs ps : List PV} (h : VKs ρ m cs ps) : VK ρ m (.func f cs) (.func f ps)
inductive VKs (ρ : Nat → PV) (m : Nat) : List PV → List PV → Prop
  | nil : VKs ρ m [] []
  | cons {v p : PV} {vs ps : List PV} (h : VK ρ m v p) (t : VKs ρ m vs ps) : VKs ρ m (v :: vs) (p :: ps)
end

theorem VFs.all2 {cs ps : List PV} (h : VFs cs ps) : All2 VF cs ps := by
  match h with
  | .nil => exact .nil
  | .cons h t => exact .cons h t.all2
theorem VFs.of {cs ps : List PV} (h : All2 VF cs ps) : VFs cs ps := by
  induction h with
  | nil => exact .nil
  | cons h _ ih => exact .cons h ih
theorem VFss.all2 {cs ps : List (List PV)} (h : VFss cs ps) : All2 VFs cs ps := by
  match h with
  | .nil => exact .nil
  | .cons h t => exact .cons h t.all2
theorem VFss.of {cs ps : List (List PV)} (h : All2 VFs cs ps) : VFss cs ps := by
  induction h with
  | nil => exact .nil
  | cons h _ ih => exact .cons h ih
section
variable {ρ ρ' : Nat → PV} {m m' : Nat}
theorem VKs.all2 {cs ps : List PV} (h : VKs ρ m cs ps) : All2 (VK ρ m) cs ps := by
  match h with
  | .nil => exact .nil
  | .cons h t => exact .cons h t.all2
theorem VKs.of {cs ps : List PV} (h : All2 (VK ρ m) cs ps) : VKs ρ m cs ps := by
  induction h with
  | nil => exact .nil
  | cons h _ ih => exact .cons h ih
theorem VFs.k {cs ps : List PV} (h : VFs cs ps) : VKs ρ m cs ps := .of (h.all2.mono fun _ _ h => .fr h)

/-! ### Lists -/
theorem VFs.len {cs ps : List PV} (h : VFs cs ps) : cs.length = ps.length := h.all2.len
theorem VFs.app {a b x y : List PV} (h : VFs a x) (h' : VFs b y) : VFs (a ++ b) (x ++ y) := .of (h.all2.app h'.all2)
theorem VFs.drop {a x : List PV} (h : VFs a x) (n : Nat) : VFs (a.drop n) (x.drop n) := .of (h.all2.drop n)
theorem VFs.take {a x : List PV} (h : VFs a x) (n : Nat) : VFs (a.take n) (x.take n) := .of (h.all2.take n)
theorem VFss.len {cs ps : List (List PV)} (h : VFss cs ps) : cs.length = ps.length := h.all2.len
theorem VFss.app {a b x y : List (List PV)} (h : VFss a x) (h' : VFss b y) : VFss (a ++ b) (x ++ y) := .of (h.all2.app h'.all2)
theorem VFss.drop {a x : List (List PV)} (h : VFss a x) (n : Nat) : VFss (a.drop n) (x.drop n) := .of (h.all2.drop n)
theorem VFss.take {a x : List (List PV)} (h : VFss a x) (n : Nat) : VFss (a.take n) (x.take n) := .of (h.all2.take n)
theorem VFss.set {a x : List (List PV)} (h : VFss a x) {e p : List PV} (he : VFs e p) (n : Nat) : VFss (a.set n e) (x.set n p) := .of (h.all2.set he n)
theorem VKs.len {cs ps : List PV} (h : VKs ρ m cs ps) : cs.length = ps.length := h.all2.len
theorem VKs.app {a b x y : List PV} (h : VKs ρ m a x) (h' : VKs ρ m b y) : VKs ρ m (a ++ b) (x ++ y) := .of (h.all2.app h'.all2)
theorem VKs.drop {a x : List PV} (h : VKs ρ m a x) (n : Nat) : VKs ρ m (a.drop n) (x.drop n) := .of (h.all2.drop n)
theorem VKs.take {a x : List PV} (h : VKs ρ m a x) (n : Nat) : VKs ρ m (a.take n) (x.take n) := .of (h.all2.take n)
theorem VKs.set {a x : List PV} (h : VKs ρ m a x) {v p : PV} (hv : VK ρ m v p) (n : Nat) : VKs ρ m (a.set n v) (x.set n p) := .of (h.all2.set hv n)
theorem VKs.one {v p : PV} (h : VK ρ m v p) : VKs ρ m [v] [p] := .cons h .nil
theorem VKs.over {a x b y : List PV} (h : VKs ρ m a x) (h' : VKs ρ m b y) (o : Nat) : VKs ρ m (over a o b) (Pvm.over x o y) := by
  unfold Pvm.over
  rw [← h'.len]
  exact ((h.take o).app h').app (h.drop _)
theorem VFs.over {a x b y : List PV} (h : VFs a x) (h' : VFs b y) (o : Nat) : VFs (over a o b) (Pvm.over x o y) := by
  unfold Pvm.over
  rw [← h'.len]
  exact ((h.take o).app h').app (h.drop _)
theorem VK.undef (p : PV) : VK ρ m .undef p := .fr (.undef p)
theorem VKs.getD {a x : List PV} (h : VKs ρ m a x) (i : Nat) : VK ρ m (a.getD i .undef) (x.getD i .undef) := by
  rw [List.getD_eq_getElem?_getD, List.getD_eq_getElem?_getD]
  cases ha : a[i]? with
  | none => exact .undef _
  | some v =>
    obtain ⟨p, hp, hv⟩ := h.all2.get' ha
    rw [hp]
    exact hv
theorem VKs.get {a x : List PV} (h : VKs ρ m a x) {i : Nat} {v : PV} (ha : a[i]? = some v) : ∃ p, x[i]? = some p ∧ VK ρ m v p := h.all2.get' ha
theorem VFs.get {a x : List PV} (h : VFs a x) {i : Nat} {v : PV} (ha : a[i]? = some v) : ∃ p, x[i]? = some p ∧ VF v p := h.all2.get' ha
theorem VFss.get {a x : List (List PV)} (h : VFss a x) {i : Nat} {v : List PV} (ha : a[i]? = some v) : ∃ p, x[i]? = some p ∧ VFs v p := h.all2.get' ha
theorem VKs.map {α : Type} {f g : α → PV} (l : List α) (h : ∀ a ∈ l, VK ρ m (f a) (g a)) : VKs ρ m (l.map f) (l.map g) := by
  induction l with
  | nil => exact .nil
  | cons a l ih => exact .cons (h a (.head _)) (ih fun b hb => h b (.tail _ hb))

/-! ### What is known by sight -/
theorem VF.base_eq {v p : PV} (h : VF v p) (hb : v.base = true) : p = v := by
  cases h <;> first | rfl | (cases hb; done)
theorem VK.base_eq {v p : PV} (h : VK ρ m v p) (hb : v.base = true) : p = v := by
  cases h with
  | fr h => exact h.base_eq hb
  | _ => cases hb
theorem VK.int_eq {κ : IntKind} {n : Int} {p : PV} (h : VK ρ m (.int κ n) p) : p = .int κ n := h.base_eq rfl
theorem VK.bool_eq {b : Bool} {p : PV} (h : VK ρ m (.bool b) p) : p = .bool b := h.base_eq rfl
theorem VK.str_eq {b : ByteArray} {p : PV} (h : VK ρ m (.str b) p) : p = .str b := h.base_eq rfl
theorem VK.nilsl_eq {p : PV} (h : VK ρ m .nilsl p) : p = .nilsl := h.base_eq rfl
theorem VK.agg_inv {cs : List PV} {p : PV} (h : VK ρ m (.agg cs) p) : ∃ ps, p = .agg ps ∧ VKs ρ m cs ps := by
  cases h with
  | fr h =>
    cases h with
    | base h => cases ‹PV.base _ = true›
    | agg h => exact ⟨_, rfl, h.k⟩
  | agg h => exact ⟨_, rfl, h⟩
theorem VK.tuple_inv {cs : List PV} {p : PV} (h : VK ρ m (.tuple cs) p) : ∃ ps, p = .tuple ps ∧ VKs ρ m cs ps := by
  cases h with
  | fr h =>
    cases h with
    | base h => cases ‹PV.base _ = true›
    | tuple h => exact ⟨_, rfl, h.k⟩
  | tuple h => exact ⟨_, rfl, h⟩
theorem VK.func_inv {f : FuncId} {cs : List PV} {p : PV} (h : VK ρ m (.func f cs) p) : ∃ ps, p = .func f ps ∧ VKs ρ m cs ps := by
  cases h with
  | fr h =>
    cases h with
    | base h => cases ‹PV.base _ = true›
    | func _ h => exact ⟨_, rfl, h.k⟩
  | func _ h => exact ⟨_, rfl, h⟩
theorem VK.pref_inv {cs : List PV} {p : PV} (h : VK ρ m (.pref cs) p) : ∃ ps, p = .pref ps ∧ VFs cs ps := by
  cases h with
  | fr h =>
    cases h with
    | base h => cases ‹PV.base _ = true›
    | pref h => exact ⟨_, rfl, h⟩
theorem VK.psl_inv {b : Bool} {es : List (List PV)} {p : PV} (h : VK ρ m (.psl b es) p) : (p = .nilsl ∧ es = []) ∨ ∃ b' ps, p = .psl b' ps ∧ VFss es ps := by
  cases h with
  | fr h =>
    cases h with
    | base h => cases ‹PV.base _ = true›
    | nl => exact .inl ⟨rfl, rfl⟩
    | psl _ _ h => exact .inr ⟨_, _, rfl, h⟩
theorem VK.ref_inv {k i o : Nat} {p : PV} (h : VK ρ m (.ref k i o) p) : k < m ∧ refAt (ρ k) i o = some p := by
  cases h with
  | fr h => cases h with | base h => cases ‹PV.base _ = true›
  | ref h h2 => exact ⟨h, h2⟩
theorem VK.lsl_inv {k sz a n : Nat} {c : Option Nat} {p : PV} (h : VK ρ m (.lsl k sz a n c) p) : k < m ∧ hdl (ρ k) = true ∧ ((c = none ∧ a = 0 ∧ n = 0 ∧ p = ρ k) ∨ (c = some 0 ∧ viewOk (ρ k) a n ∧ p = cutP (ρ k) a n)) := by
  cases h with
  | fr h => cases h with | base h => cases ‹PV.base _ = true›
  | whole h hh => exact ⟨h, hh, .inl ⟨rfl, rfl, rfl, rfl⟩⟩
  | view h hh h2 => exact ⟨h, hh, .inr ⟨rfl, h2, rfl⟩⟩
theorem VKs.base_eq : ∀ {cs ps : List PV}, VKs ρ m cs ps → cs.all PV.base = true → ps = cs
  | _, _, .nil, _ => rfl
  | _, _, .cons h t, hb => by
    rw [List.all_cons, Bool.and_eq_true] at hb
    rw [h.base_eq hb.1, t.base_eq hb.2]
theorem VFs.base_eq : ∀ {cs ps : List PV}, VFs cs ps → cs.all PV.base = true → ps = cs
  | _, _, .nil, _ => rfl
  | _, _, .cons h t, hb => by
    rw [List.all_cons, Bool.and_eq_true] at hb
    rw [h.base_eq hb.1, t.base_eq hb.2]
theorem flat_cases {v : PV} (h : v.flat = true) : v.base = true ∨ ∃ cs, v = .agg cs ∧ cs.all PV.base = true := by
  cases v <;> first | exact .inl rfl | (cases h; done) | skip
  refine .inr ⟨_, rfl, ?_⟩
  simp only [PV.flat, List.all_eq_true] at h ⊢
  intro c hc
  have := h c hc
  cases c <;> first | rfl | (cases this; done)
theorem VK.flat_eq {v p : PV} (h : VK ρ m v p) (hf : v.flat = true) : p = v := by
  rcases flat_cases hf with hb | ⟨cs, rfl, hb⟩
  · exact h.base_eq hb
  · obtain ⟨ps, rfl, hp⟩ := h.agg_inv
    rw [hp.base_eq hb]
theorem VKs.flat_eq : ∀ {cs ps : List PV}, VKs ρ m cs ps → cs.all PV.flat = true → ps = cs
  | _, _, .nil, _ => rfl
  | _, _, .cons h t, hb => by
    rw [List.all_cons, Bool.and_eq_true] at hb
    rw [h.flat_eq hb.1, t.flat_eq hb.2]
/-- Plain cells are read whole, and stay plain. -/
theorem VK.plain {v p : PV} (h : VK ρ m v p) (hp : v.plain = true) : VF v p := by
  cases h <;> first | assumption | (cases hp; done)
theorem VF.plain {v p : PV} (h : VF v p) (hp : v.plain = true) : p.plain = true := by
  cases h <;> first | exact hp | rfl | (cases hp; done)
theorem VKs.plain : ∀ {cs ps : List PV}, VKs ρ m cs ps → cs.all PV.plain = true → VFs cs ps ∧ ps.all PV.plain = true
  | _, _, .nil, _ => ⟨.nil, rfl⟩
  | _, _, .cons h t, hb => by
    rw [List.all_cons, Bool.and_eq_true] at hb
    obtain ⟨h1, h2⟩ := t.plain hb.2
    have h3 := h.plain hb.1
    exact ⟨.cons h3 h1, by rw [List.all_cons, h3.plain hb.1, h2]; rfl⟩
theorem VFs.plain {cs ps : List PV} (h : VFs cs ps) (hb : cs.all PV.plain = true) : ps.all PV.plain = true := ((h.k (ρ := fun _ => .undef) (m := 0)).plain hb).2
theorem rowsPl_p {sz : Nat} : ∀ {es ps : List (List PV)}, VFss es ps → rowsPl sz es = true → rowsPl sz ps = true
  | _, _, .nil, _ => rfl
  | _, _, .cons h t, hb => by
    unfold rowsPl at hb ⊢
    rw [List.all_cons, Bool.and_eq_true, Bool.and_eq_true] at hb
    rw [List.all_cons, Bool.and_eq_true, Bool.and_eq_true]
    exact ⟨⟨by rw [← h.len]; exact hb.1.1, h.plain hb.1.2⟩, rowsPl_p t hb.2⟩
theorem rowsPl_get {sz : Nat} {es : List (List PV)} (h : rowsPl sz es = true) {e : List PV} (he : e ∈ es) : e.length = sz ∧ e.all PV.plain = true := by
  unfold rowsPl at h
  rw [List.all_eq_true] at h
  have := h e he
  rw [Bool.and_eq_true] at this
  exact ⟨by simpa using this.1, this.2⟩
theorem rowsPl_els {sz : Nat} {es : List (List PV)} : rowsPl sz es = true ↔ Els sz es := by
  unfold rowsPl Els
  rw [List.all_eq_true]
  refine forall_congr' fun e => forall_congr' fun _ => ?_
  rw [Bool.and_eq_true, List.all_eq_true]
  simp
theorem VFss.str (l : List UInt8) : VFss (l.map fun b => [PV.int .u8 b.toNat]) (l.map fun b => [PV.int .u8 b.toNat]) := by
  induction l with
  | nil => exact .nil
  | cons b l ih => exact .cons (.cons (.base _ rfl) .nil) ih

/-! ### Fewer, and other numbers -/
mutual
theorem VF.rnm (f : Nat → Option Nat) : ∀ {v p : PV}, VF v p → VF (rnm f v) p
  | _, _, .undef _ => .undef _
  | _, _, .base v h => by cases v <;> first | exact .base _ rfl | (cases h; done)
  | _, _, .psl _ _ h => .psl _ _ h
  | _, _, .nl _ => .nl _
  | _, _, .pref h => .pref h
  | _, _, .agg h => .agg (VFs.rnms f h)
  | _, _, .tuple h => .tuple (VFs.rnms f h)
  | _, _, .func _ h => .func _ (VFs.rnms f h)
theorem VFs.rnms (f : Nat → Option Nat) : ∀ {v p : List PV}, VFs v p → VFs (rnm.rnms f v) p
  | _, _, .nil => .nil
  | _, _, .cons h t => .cons (VF.rnm f h) (VFs.rnms f t)
end
mutual
theorem VK.rnm {f : Nat → Option Nat} (hf : ∀ k k', k < m → f k = some k' → k' < m' ∧ ρ' k' = ρ k) : ∀ {v p : PV}, VK ρ m v p → VK ρ' m' (rnm f v) p
  | _, _, .fr h => .fr (h.rnm f)
  | _, _, .ref (k := k) h h2 => by
    unfold Pvm.rnm
    split
    · rename_i k' hk
      obtain ⟨q1, q2⟩ := hf k k' h hk
      exact .ref q1 (by rw [q2]; exact h2)
    · exact .undef _
  | _, _, .whole (k := k) h hh => by
    unfold Pvm.rnm
    split
    · rename_i k' hk
      obtain ⟨q1, q2⟩ := hf k k' h hk
      rw [← q2] at hh ⊢
      exact .whole q1 hh
    · exact .undef _
  | _, _, .view (k := k) h hh h2 => by
    unfold Pvm.rnm
    split
    · rename_i k' hk
      obtain ⟨q1, q2⟩ := hf k k' h hk
      rw [← q2] at hh h2 ⊢
      exact .view q1 hh h2
    · exact .undef _
  | _, _, .agg h => .agg (VKs.rnms hf h)
  | _, _, .tuple h => .tuple (VKs.rnms hf h)
  | _, _, .func _ h => .func _ (VKs.rnms hf h)
theorem VKs.rnms {f : Nat → Option Nat} (hf : ∀ k k', k < m → f k = some k' → k' < m' ∧ ρ' k' = ρ k) : ∀ {v p : List PV}, VKs ρ m v p → VKs ρ' m' (rnm.rnms f v) p
  | _, _, .nil => .nil
  | _, _, .cons h t => .cons (VK.rnm hf h) (VKs.rnms hf t)
end
mutual
theorem VK.mono (hm : m ≤ m') (hr : ∀ k, k < m → ρ' k = ρ k) : ∀ {v p : PV}, VK ρ m v p → VK ρ' m' v p
  | _, _, .fr h => .fr h
  | _, _, .ref (k := k) h h2 => .ref (Nat.lt_of_lt_of_le h hm) (by rw [hr k h]; exact h2)
  | _, _, .whole (k := k) h hh => by rw [← hr k h] at hh ⊢; exact .whole (Nat.lt_of_lt_of_le h hm) hh
  | _, _, .view (k := k) h hh h2 => by rw [← hr k h] at hh h2 ⊢; exact .view (Nat.lt_of_lt_of_le h hm) hh h2
  | _, _, .agg h => .agg (VKs.mono hm hr h)
  | _, _, .tuple h => .tuple (VKs.mono hm hr h)
  | _, _, .func _ h => .func _ (VKs.mono hm hr h)
theorem VKs.mono (hm : m ≤ m') (hr : ∀ k, k < m → ρ' k = ρ k) : ∀ {v p : List PV}, VKs ρ m v p → VKs ρ' m' v p
  | _, _, .nil => .nil
  | _, _, .cons h t => .cons (VK.mono hm hr h) (VKs.mono hm hr t)
end
end

/-! ### Objects -/
def KOR (ρ : Nat → PV) (m : Nat) (σ : Store) (u : PV) : KO → Prop
  | .dead => True
  | .box w _ cells => ∃ id pcs ro, u = .ref id 0 0 ∧ σ.objs id = some (.cells ro [pcs]) ∧ VKs ρ m cells pcs ∧ (w = true → ro = 0) ∧ id < σ.next
  | .made w sz es => sz ≠ 0 ∧ rowsPl sz es = true ∧ ((u = .nilsl ∧ es = []) ∨ ∃ id cap ro ps, u = .lsl id sz 0 es.length cap ∧ σ.objs id = some (.cells ro ps) ∧ VFss es ps ∧ (cap = none ∨ cap = some es.length) ∧ ro ≤ es.length ∧ (w = true → ro = 0) ∧ id < σ.next)
def idsO (A : List KO) (ρ : Nat → PV) (k : Nat) : List Nat := if isDead (A.getD k .dead) = true then [] else tops (ρ k)
structure KS (ρ : Nat → PV) (A : List KO) (env penv : List PV) (σ : Store) : Prop where
  env : VKs ρ A.length env penv
  obj : ∀ k, k < A.length → KOR ρ A.length σ (ρ k) (A.getD k .dead)
  dis : ∀ k k' i, i ∈ idsO A ρ k → i ∈ idsO A ρ k' → k = k'
structure Go2 (n0 : Nat) (ρ : Nat → PV) (A : List KO) (σ : Store) (ρ' : Nat → PV) (A' : List KO) (σ' : Store) : Prop where
  nx : σ.next ≤ σ'.next
  fr : ∀ i, i < σ.next → (∀ k, i ∉ idsO A ρ k) → σ'.objs i = σ.objs i
  own : ∀ k i, i ∈ idsO A' ρ' k → (∃ k', i ∈ idsO A ρ k') ∨ σ.next ≤ i
  bx : n0 ≤ A.length → n0 ≤ A'.length ∧ ∀ k, k < n0 → (isBox (A.getD k .dead) = true → isBox (A'.getD k .dead) = true) ∧ (isDead (A'.getD k .dead) = false → isDead (A.getD k .dead) = false ∧ ρ' k = ρ k)

section
variable {ρ ρ' ρ'' : Nat → PV} {A A' A'' : List KO} {env penv : List PV} {σ σ' σ'' : Store} {n0 : Nat}
theorem Go2.refl (n0 : Nat) (ρ : Nat → PV) (A : List KO) (σ : Store) : Go2 n0 ρ A σ ρ A σ := ⟨Nat.le_refl _, fun _ _ _ => rfl, fun k _ h => .inl ⟨k, h⟩, fun hn => ⟨hn, fun k _ => ⟨fun h => h, fun h => ⟨h, rfl⟩⟩⟩⟩
theorem Go2.trans (h : Go2 n0 ρ A σ ρ' A' σ') (h' : Go2 n0 ρ' A' σ' ρ'' A'' σ'') : Go2 n0 ρ A σ ρ'' A'' σ'' where
  nx := Nat.le_trans h.nx h'.nx
  fr := fun i hi hn => by
    rw [h'.fr i (Nat.lt_of_lt_of_le hi h.nx) fun k hk => ?_, h.fr i hi hn]
    rcases h.own k i hk with ⟨k', e⟩ | e
    · exact hn k' e
    · omega
  own := fun k i hk => by
    rcases h'.own k i hk with ⟨k', e⟩ | e
    · exact h.own k' i e
    · exact .inr (Nat.le_trans h.nx e)
  bx := fun hn => by
    obtain ⟨q1, q2⟩ := h.bx hn
    obtain ⟨q3, q4⟩ := h'.bx q1
    refine ⟨q3, fun k hk => ⟨fun hb => (q4 k hk).1 ((q2 k hk).1 hb), fun hd => ?_⟩⟩
    obtain ⟨a, b⟩ := (q4 k hk).2 hd
    obtain ⟨c, d⟩ := (q2 k hk).2 a
    exact ⟨c, b.trans d⟩
theorem KS.withEnv (h : KS ρ A env penv σ) {e pe : List PV} (he : VKs ρ A.length e pe) : KS ρ A e pe σ := ⟨he, h.obj, h.dis⟩
theorem getD_lt {k : Nat} (h : isDead (A.getD k .dead) = false) : k < A.length := by
  rw [List.getD_eq_getElem?_getD] at h
  cases hq : A[k]? with
  | none => rw [hq] at h; cases h
  | some o => exact (List.getElem?_eq_some_iff.1 hq).1
theorem KS.lt (h : KS ρ A env penv σ) {k i : Nat} (hi : i ∈ idsO A ρ k) : i < σ.next := by
  unfold idsO at hi
  cases hd : isDead (A.getD k .dead) with
  | true => rw [hd, if_pos rfl] at hi; cases hi
  | false =>
    rw [hd, if_neg (by decide)] at hi
    have ho := h.obj k (getD_lt hd)
    cases hq : A.getD k .dead with
    | dead => rw [hq] at hd; cases hd
    | box w t cs =>
      rw [hq] at ho
      obtain ⟨id, pcs, ro, e, _, _, _, hl⟩ := ho
      rw [e] at hi
      rw [List.mem_singleton.1 hi]
      exact hl
    | made w sz es =>
      rw [hq] at ho
      obtain ⟨_, _, ⟨e, _⟩ | ⟨id, cap, ro, ps, e, _, _, _, _, _, hl⟩⟩ := ho
      · rw [e] at hi; cases hi
      · rw [e] at hi
        rw [List.mem_singleton.1 hi]
        exact hl
/-- An object stays when what it names stays. -/
theorem KOR.stay {m m' : Nat} {u : PV} {o : KO} (h : KOR ρ m σ u o) (hm : m ≤ m') (hr : ∀ k, k < m → ρ' k = ρ k) (hn : σ.next ≤ σ'.next) (hs : isDead o = false → ∀ i ∈ tops u, σ'.objs i = σ.objs i) : KOR ρ' m' σ' u o := by
  cases o with
  | dead => trivial
  | box w t cs =>
    obtain ⟨id, pcs, ro, rfl, h1, h2, h3, h4⟩ := h
    exact ⟨id, pcs, ro, rfl, (hs rfl id (.head _)).trans h1, h2.mono hm hr, h3, Nat.lt_of_lt_of_le h4 hn⟩
  | made w sz es =>
    obtain ⟨q0, q1, ⟨rfl, q2⟩ | ⟨id, cap, ro, ps, rfl, h1, h2, h3, h4, h5, h6⟩⟩ := h
    · exact ⟨q0, q1, .inl ⟨rfl, q2⟩⟩
    · exact ⟨q0, q1, .inr ⟨id, cap, ro, ps, rfl, (hs rfl id (.head _)).trans h1, h2, h3, h4, h5, Nat.lt_of_lt_of_le h6 hn⟩⟩
/-- The same, numbered anew (or known less). -/
theorem KOR.rnm {m m' : Nat} {u : PV} {o : KO} {f : Nat → Option Nat} (h : KOR ρ m σ u o) (hf : ∀ k k', k < m → f k = some k' → k' < m' ∧ ρ' k' = ρ k) (hn : σ.next ≤ σ'.next) (hs : isDead o = false → ∀ i ∈ tops u, σ'.objs i = σ.objs i) : KOR ρ' m' σ' u (rnmO f o) := by
  cases o with
  | dead => trivial
  | box w t cs =>
    obtain ⟨id, pcs, ro, rfl, h1, h2, h3, h4⟩ := h
    exact ⟨id, pcs, ro, rfl, (hs rfl id (.head _)).trans h1, h2.rnms hf, h3, Nat.lt_of_lt_of_le h4 hn⟩
  | made w sz es =>
    obtain ⟨q0, q1, ⟨rfl, q2⟩ | ⟨id, cap, ro, ps, rfl, h1, h2, h3, h4, h5, h6⟩⟩ := h
    · exact ⟨q0, q1, .inl ⟨rfl, q2⟩⟩
    · exact ⟨q0, q1, .inr ⟨id, cap, ro, ps, rfl, (hs rfl id (.head _)).trans h1, h2, h3, h4, h5, Nat.lt_of_lt_of_le h6 hn⟩⟩

def upd (ρ : Nat → PV) (k : Nat) (u : PV) : Nat → PV := fun j => if j = k then u else ρ j
theorem upd_same (ρ : Nat → PV) (k : Nat) (u : PV) : upd ρ k u k = u := by simp [upd]
theorem upd_other {k j : Nat} (u : PV) (h : j ≠ k) : upd ρ k u j = ρ j := by simp [upd, h]
theorem upd_id (ρ : Nat → PV) (k : Nat) : upd ρ k (ρ k) = ρ := by
  funext j
  by_cases h : j = k
  · subst h; exact upd_same _ _ _
  · exact upd_other _ h
theorem getD_app {o : KO} {k : Nat} (h : k < A.length) : (A ++ [o]).getD k .dead = A.getD k .dead := by
  simp [List.getD_eq_getElem?_getD, List.getElem?_append_left h]
theorem getD_new {o : KO} : (A ++ [o]).getD A.length .dead = o := by simp [List.getD_eq_getElem?_getD]
theorem getD_out {k : Nat} (h : A.length ≤ k) : A.getD k .dead = .dead := by simp [List.getD_eq_getElem?_getD, List.getElem?_eq_none h]
theorem getD_set {j : Nat} {o : KO} (h : j < A.length) : (A.set j o).getD j .dead = o := by simp [List.getD_eq_getElem?_getD, h]
theorem getD_set_ne {j k : Nat} {o : KO} (h : k ≠ j) : (A.set j o).getD k .dead = A.getD k .dead := by
  simp only [List.getD_eq_getElem?_getD]
  rw [List.getElem?_set_ne (Ne.symm h)]
theorem getD_map {f : KO → KO} (hf : f .dead = .dead) (k : Nat) : (A.map f).getD k .dead = f (A.getD k .dead) := by
  simp only [List.getD_eq_getElem?_getD, List.getElem?_map]
  cases A[k]? with
  | none => exact hf.symm
  | some o => rfl
theorem rnmO_dead (f : Nat → Option Nat) (o : KO) : isDead (rnmO f o) = isDead o := by cases o <;> rfl
theorem rnmO_box (f : Nat → Option Nat) (o : KO) : isBox (rnmO f o) = isBox o := by cases o <;> rfl

/-- One more. -/
theorem KS.more (h : KS ρ A env penv σ) {u : PV} {o : KO} (hn : σ.next ≤ σ'.next) (hs : ∀ i, i < σ.next → σ'.objs i = σ.objs i) (ht : ∀ i ∈ tops u, σ.next ≤ i) (ho : KOR (upd ρ A.length u) (A.length + 1) σ' u o) (n0 : Nat) :
    KS (upd ρ A.length u) (A ++ [o]) env penv σ' ∧ Go2 n0 ρ A σ (upd ρ A.length u) (A ++ [o]) σ' := by
  have hr : ∀ k, k < A.length → upd ρ A.length u k = ρ k := fun k hk => upd_other _ (by omega)
  have hids : ∀ k i, i ∈ idsO (A ++ [o]) (upd ρ A.length u) k → (k < A.length ∧ i ∈ idsO A ρ k) ∨ (k = A.length ∧ i ∈ tops u) := by
    intro k i hi
    unfold idsO at hi
    by_cases hk : k < A.length
    · rw [getD_app hk, hr k hk] at hi
      exact .inl ⟨hk, hi⟩
    · by_cases hk2 : k = A.length
      · subst hk2
        rw [getD_new, upd_same] at hi
        split at hi
        · cases hi
        · exact .inr ⟨rfl, hi⟩
      · rw [getD_out (by simp; omega)] at hi
        cases hi
  refine ⟨⟨?_, fun k hk => ?_, fun k k' i hi hi' => ?_⟩, hn, fun i hi _ => hs i hi, fun k i hi => ?_, fun hle => ⟨by simp; omega, fun k hk => ?_⟩⟩
  · rw [List.length_append]
    exact h.env.mono (Nat.le_add_right _ _) hr
  · rw [List.length_append]
    show KOR _ (A.length + 1) _ _ _
    by_cases hk2 : k < A.length
    · rw [getD_app hk2, hr k hk2]
      refine (h.obj k hk2).stay (Nat.le_succ _) hr hn fun hd i hi => hs i (h.lt (k := k) (by unfold idsO; rw [if_neg (by rw [hd]; decide)]; exact hi))
    · have : k = A.length := by simp at hk; omega
      subst this
      rw [getD_new, upd_same]
      exact ho
  · rcases hids k i hi with ⟨h1, h2⟩ | ⟨h1, h2⟩
    · rcases hids k' i hi' with ⟨h3, h4⟩ | ⟨h3, h4⟩
      · exact h.dis k k' i h2 h4
      · have := h.lt h2; have := ht i h4; omega
    · rcases hids k' i hi' with ⟨h3, h4⟩ | ⟨h3, h4⟩
      · have := h.lt h4; have := ht i h2; omega
      · omega
  · rcases hids k i hi with ⟨h1, h2⟩ | ⟨h1, h2⟩
    · exact .inl ⟨k, h2⟩
    · exact .inr (ht i h2)
  · have hk2 : k < A.length := by omega
    rw [getD_app hk2, hr k hk2]
    exact ⟨fun h => h, fun h => ⟨h, rfl⟩⟩

/-- One is gone, another one stands for it; others are known less. -/
theorem KS.renew (h : KS ρ A env penv σ) {f : Nat → Option Nat} {j : Nat} {u : PV} {o : KO} (hj : isDead (A.getD j .dead) = false) (hjb : isBox (A.getD j .dead) = false) (hf : ∀ k k', k < A.length → f k = some k' → k' < A.length + 1 ∧ upd ρ A.length u k' = ρ k)
    (hn : σ.next ≤ σ'.next) (hs : ∀ i, i < σ.next → i ∉ tops (ρ j) → σ'.objs i = σ.objs i) (ht : ∀ i ∈ tops u, i ∈ tops (ρ j) ∨ σ.next ≤ i)
    (ho : KOR (upd ρ A.length u) (A.length + 1) σ' u o) (n0 : Nat) :
    KS (upd ρ A.length u) ((A.map (rnmO f)).set j .dead ++ [o]) (rnm.rnms f env) penv σ' ∧ Go2 n0 ρ A σ (upd ρ A.length u) ((A.map (rnmO f)).set j .dead ++ [o]) σ' := by
  have hjl := getD_lt hj
  have hjids : idsO A ρ j = tops (ρ j) := by unfold idsO; rw [if_neg (by rw [hj]; decide)]
  have hlen : ((A.map (rnmO f)).set j .dead).length = A.length := by simp
  have hlen' : ((A.map (rnmO f)).set j .dead ++ [o]).length = A.length + 1 := by simp
  have hg : ∀ k, k ≠ j → k < A.length → ((A.map (rnmO f)).set j .dead ++ [o]).getD k .dead = rnmO f (A.getD k .dead) := fun k hk hkl => by rw [getD_app (by rw [hlen]; exact hkl), getD_set_ne hk, getD_map rfl]
  have hgj : ((A.map (rnmO f)).set j .dead ++ [o]).getD j .dead = .dead := by rw [getD_app (by rw [hlen]; exact hjl)]; exact getD_set (by simpa using hjl)
  have hgn : ((A.map (rnmO f)).set j .dead ++ [o]).getD A.length .dead = o := by
    have := getD_new (A := (A.map (rnmO f)).set j .dead) (o := o)
    rw [hlen] at this
    exact this
  have hids : ∀ k i, i ∈ idsO ((A.map (rnmO f)).set j .dead ++ [o]) (upd ρ A.length u) k → (k ≠ j ∧ k < A.length ∧ i ∈ idsO A ρ k) ∨ (k = A.length ∧ i ∈ tops u) := by
    intro k i hi
    unfold idsO at hi
    by_cases hk : k = j
    · subst hk
      rw [hgj] at hi
      cases hi
    · by_cases hkl : k < A.length
      · rw [hg k hk hkl, rnmO_dead, upd_other _ (by omega)] at hi
        exact .inl ⟨hk, hkl, hi⟩
      · by_cases hkn : k = A.length
        · subst hkn
          rw [upd_same] at hi
          split at hi
          · cases hi
          · exact .inr ⟨rfl, hi⟩
        · rw [getD_out (by rw [hlen']; omega)] at hi
          cases hi
  have hmem : ∀ {k i}, isDead (A.getD k .dead) = false → i ∈ tops (ρ k) → i ∈ idsO A ρ k := fun hd hi => by unfold idsO; rw [if_neg (by rw [hd]; decide)]; exact hi
  refine ⟨⟨?_, fun k hk => ?_, fun k k' i hi hi' => ?_⟩, hn, fun i hi hne => hs i hi (by rw [← hjids]; exact hne j), fun k i hi => ?_, fun hle => ⟨by rw [hlen']; omega, fun k hk => ?_⟩⟩
  · rw [hlen']; exact h.env.rnms hf
  · rw [hlen'] at hk ⊢
    by_cases hkj : k = j
    · subst hkj; rw [hgj]; trivial
    · by_cases hkl : k < A.length
      · rw [hg k hkj hkl, upd_other _ (by omega)]
        refine (h.obj k hkl).rnm hf hn fun hd i hi => ?_
        have hik := hmem hd hi
        exact hs i (h.lt hik) fun hij => hkj (h.dis k j i hik (by rw [hjids]; exact hij))
      · have : k = A.length := by omega
        subst this
        rw [hgn, upd_same]
        exact ho
  · rcases hids k i hi with ⟨h1, h1', h2⟩ | ⟨h1, h2⟩
    · rcases hids k' i hi' with ⟨h3, h3', h4⟩ | ⟨h3, h4⟩
      · exact h.dis k k' i h2 h4
      · rcases ht i h4 with h5 | h5
        · exact absurd (h.dis k j i h2 (by rw [hjids]; exact h5)) h1
        · have := h.lt h2; omega
    · rcases hids k' i hi' with ⟨h3, h3', h4⟩ | ⟨h3, h4⟩
      · rcases ht i h2 with h5 | h5
        · exact absurd (h.dis k' j i h4 (by rw [hjids]; exact h5)) h3
        · have := h.lt h4; omega
      · omega
  · rcases hids k i hi with ⟨h1, h1', h2⟩ | ⟨h1, h2⟩
    · exact .inl ⟨k, h2⟩
    · rcases ht i h2 with h5 | h5
      · exact .inl ⟨j, by rw [hjids]; exact h5⟩
      · exact .inr h5
  · by_cases hkj : k = j
    · subst hkj
      rw [hgj]
      exact ⟨(fun h => by rw [hjb] at h; cases h), (fun h => by cases h)⟩
    · rw [hg k hkj (by omega), rnmO_box, rnmO_dead, upd_other _ (by omega)]
      exact ⟨fun h => h, fun h => ⟨h, rfl⟩⟩
/-- One is other than it was, and stands where it stood. -/
theorem KS.put (h : KS ρ A env penv σ) {j : Nat} {o : KO} (hj : isDead (A.getD j .dead) = false)
    (hn : σ.next ≤ σ'.next) (hs : ∀ i, i < σ.next → i ∉ tops (ρ j) → σ'.objs i = σ.objs i)
    (ho : KOR ρ A.length σ' (ρ j) o) (hb : isBox (A.getD j .dead) = true → isBox o = true) (n0 : Nat) :
    KS ρ (A.set j o) env penv σ' ∧ Go2 n0 ρ A σ ρ (A.set j o) σ' := by
  have hjl := getD_lt hj
  have hjids : idsO A ρ j = tops (ρ j) := by unfold idsO; rw [if_neg (by rw [hj]; decide)]
  have hg : ∀ k, k ≠ j → (A.set j o).getD k .dead = A.getD k .dead := fun k hk => getD_set_ne hk
  have hgj : (A.set j o).getD j .dead = o := getD_set hjl
  have hlen : (A.set j o).length = A.length := by simp
  have hids : ∀ k i, i ∈ idsO (A.set j o) ρ k → i ∈ idsO A ρ k := by
    intro k i hi
    by_cases hk : k = j
    · subst hk
      rw [hjids]
      unfold idsO at hi
      split at hi
      · cases hi
      · exact hi
    · unfold idsO at hi ⊢
      rw [hg k hk] at hi
      exact hi
  refine ⟨⟨?_, fun k hk => ?_, fun k k' i hi hi' => h.dis k k' i (hids k i hi) (hids k' i hi')⟩, hn, fun i hi hne => hs i hi (by rw [← hjids]; exact hne j), fun k i hi => .inl ⟨k, hids k i hi⟩, fun hle => ⟨by rw [hlen]; exact hle, fun k hk => ⟨fun hbx => ?_, fun hd => ⟨?_, rfl⟩⟩⟩⟩
  · rw [hlen]; exact h.env
  · rw [hlen] at hk ⊢
    by_cases hkj : k = j
    · subst hkj; rw [hgj]; exact ho
    · rw [hg k hkj]
      refine (h.obj k hk).stay (Nat.le_refl _) (fun _ _ => rfl) hn fun hd i hi => ?_
      have hik : i ∈ idsO A ρ k := by unfold idsO; rw [if_neg (by rw [hd]; decide)]; exact hi
      exact hs i (h.lt hik) fun hij => hkj (h.dis k j i hik (by rw [hjids]; exact hij))
  · by_cases hkj : k = j
    · subst hkj; rw [hgj]; exact hb hbx
    · rw [hg k hkj]; exact hbx
  · by_cases hkj : k = j
    · subst hkj; exact hj
    · rw [hg k hkj] at hd; exact hd
/-- Numbered anew. -/
theorem KS.pack (h : KS ρ A env penv σ) {l : List Nat} (hd : nodupB l = true) (hl : ∀ j ∈ l, j < A.length) :
    KS (fun i => ρ (l.getD i 0)) (l.map fun j => rnmO (idxN l) (A.getD j .dead)) (rnm.rnms (idxN l) env) penv σ := by
  have hidx : ∀ (l : List Nat) (k i : Nat), idxN l k = some i → l[i]? = some k := by
    intro l
    induction l with
    | nil => intro k i e; cases e
    | cons j r ih =>
      intro k i e
      unfold idxN at e
      split at e
      · rename_i hjk; cases e; simp [hjk]
      · rw [Option.map_eq_some_iff] at e
        obtain ⟨i', e1, rfl⟩ := e
        simpa using ih k i' e1
  have hnd : ∀ (l : List Nat), nodupB l = true → ∀ (i i' k : Nat), l[i]? = some k → l[i']? = some k → i = i' := by
    intro l
    induction l with
    | nil => intro _ i i' k e; simp at e
    | cons j r ih =>
      intro hb i i' k e e'
      unfold nodupB at hb
      rw [Bool.and_eq_true] at hb
      have hj : j ∉ r := by
        intro hm
        have := hb.1
        simp [hm] at this
      cases i with
      | zero =>
        cases i' with
        | zero => rfl
        | succ i' => simp at e e'; subst e; exact absurd (List.mem_of_getElem? e') hj
      | succ i =>
        cases i' with
        | zero => simp at e e'; subst e'; exact absurd (List.mem_of_getElem? e) hj
        | succ i' => rw [ih hb.2 i i' k (by simpa using e) (by simpa using e')]
  have hlen : (l.map fun j => rnmO (idxN l) (A.getD j .dead)).length = l.length := by simp
  have hf : ∀ k k', k < A.length → idxN l k = some k' → k' < l.length ∧ ρ (l.getD k' 0) = ρ k := fun k k' _ e => by
    have := hidx l k k' e
    exact ⟨(List.getElem?_eq_some_iff.1 this).1, by rw [List.getD_eq_getElem?_getD, this]; rfl⟩
  have hg : ∀ i, (l.map fun j => rnmO (idxN l) (A.getD j .dead)).getD i .dead = match l[i]? with | some j => rnmO (idxN l) (A.getD j .dead) | none => .dead := fun i => by
    rw [List.getD_eq_getElem?_getD, List.getElem?_map]
    cases l[i]? <;> rfl
  have hids : ∀ i x, x ∈ idsO (l.map fun j => rnmO (idxN l) (A.getD j .dead)) (fun i => ρ (l.getD i 0)) i → ∃ j, l[i]? = some j ∧ x ∈ idsO A ρ j := fun i x hx => by
    unfold idsO at hx
    rw [hg i] at hx
    cases hq : l[i]? with
    | none => rw [hq] at hx; cases hx
    | some j =>
      rw [hq] at hx
      simp only [rnmO_dead] at hx
      refine ⟨j, rfl, ?_⟩
      unfold idsO
      have : l.getD i 0 = j := by rw [List.getD_eq_getElem?_getD, hq]; rfl
      rw [this] at hx
      exact hx
  refine ⟨?_, fun i hi => ?_, fun i i' x hx hx' => ?_⟩
  · rw [hlen]; exact h.env.rnms hf
  · rw [hlen] at hi ⊢
    rw [hg i, List.getElem?_eq_getElem hi]
    have hm := List.getElem_mem hi
    have : l.getD i 0 = l[i] := by rw [List.getD_eq_getElem?_getD, List.getElem?_eq_getElem hi]; rfl
    show KOR _ _ _ (ρ (l.getD i 0)) _
    rw [this]
    exact (h.obj _ (hl _ hm)).rnm hf (Nat.le_refl _) fun _ _ _ => rfl
  · obtain ⟨j, e, h1⟩ := hids i x hx
    obtain ⟨j', e', h2⟩ := hids i' x hx'
    have := h.dis j j' x h1 h2
    subst this
    exact hnd l hd i i' j e e'
end
end Go.Pvm
