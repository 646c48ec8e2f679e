/- Part of the proof: elements of slices: laid in variables, read, written in place. -/
import Derived.Test.YtkipbdbmeanffaaV24
set_option linter.unusedSimpArgs false
set_option linter.unusedVariables false
namespace Go.Pvm

/-- Elements of a size, of plain cells. -/
def Els (sz : Nat) (es : List (List PV)) : Prop := ∀ e ∈ es, e.length = sz ∧ ∀ c ∈ e, c.plain = true
theorem Els.plain {sz : Nat} {es : List (List PV)} (h : Els sz es) : Plain es := fun e he => (h e he).2
theorem Els.len {sz : Nat} {es : List (List PV)} (h : Els sz es) : ∀ e ∈ es, e.length = sz := fun e he => (h e he).1
theorem Els.sub {sz : Nat} {a b : List (List PV)} (h : Els sz b) (hs : ∀ e ∈ a, e ∈ b) : Els sz a := fun e he => h e (hs e he)
theorem Els.app {sz : Nat} {a b : List (List PV)} (h : Els sz a) (h' : Els sz b) : Els sz (a ++ b) := fun e he => (List.mem_append.1 he).elim (h e) (h' e)
theorem Els.map {α : Type} {sz : Nat} {enc : α → List PV} (h : ∀ a, (enc a).length = sz ∧ ∀ c ∈ enc a, c.plain = true) (l : List α) : Els sz (l.map enc) := fun e he => by
  obtain ⟨a, _, rfl⟩ := List.mem_map.1 he
  exact h a
theorem one_plain {v : PV} (h : v.plain = true) : v.one = true := by cases v <;> first | rfl | cases h
theorem ones_plain {e : List PV} (h : ∀ c ∈ e, c.plain = true) : e.all PV.one = true := by
  rw [List.all_eq_true]
  exact fun c hc => one_plain (h c hc)
theorem Els.all1 {sz : Nat} {es : List (List PV)} (h : Els sz es) : all1 sz es = true := by
  unfold Pvm.all1
  rw [List.all_eq_true]
  intro e he
  simp [(h e he).1, ones_plain (h e he).2]

theorem push_put (σ : Store) (o o' : Obj) : (σ.push o).put σ.next o' = σ.push o' := by
  unfold Store.push Store.put
  congr 1
  funext i
  by_cases h : i = σ.next <;> simp [h]
theorem put_put (σ : Store) (id : Nat) (o o' : Obj) : (σ.put id o).put id o' = σ.put id o' := by
  unfold Store.put
  congr 1
  funext i
  by_cases h : i = id <;> simp [h]

section
variable {P : Program} {σ : Store} {t : TypeId} {n : Nat} {e : List PV}
/-- Is it a struct (or an array) of so many cells? -/
def AggT (P : Program) (t : TypeId) (n : Nat) : Prop := szOf P t = some n ∧ ∃ d, P.underlying t = some d ∧ aggD d = true
def OneT (P : Program) (t : TypeId) : Prop := szOf P t = some 1 ∧ ∃ d, P.underlying t = some d ∧ aggD d = false
theorem AggT.of (h : szOf P t = some n) (h2 : (P.underlying t).map aggD = some true) : AggT P t n := by
  rw [Option.map_eq_some_iff] at h2
  exact ⟨h, h2⟩
theorem OneT.of (h : szOf P t = some 1) (h2 : (P.underlying t).map aggD = some false) : OneT P t := by
  rw [Option.map_eq_some_iff] at h2
  exact ⟨h, h2⟩
theorem AggT.part (h : AggT P t n) (he : e.length = n) : partOf P t e 0 = some (.agg e) := by
  obtain ⟨h1, d, h2, h3⟩ := h
  simp only [partOf, h1, h2, h3, if_true, Option.bind_some, Nat.zero_add, List.drop_zero]
  rw [if_pos (by omega), List.take_of_length_le (by omega)]
theorem OneT.part (h : OneT P t) (off : Nat) : partOf P t e off = e[off]? := by
  obtain ⟨h1, d, h2, h3⟩ := h
  simp only [partOf, h1, h2, h3, Bool.false_eq_true, if_false, Option.bind_some]
theorem over_all {cs new : List PV} (h : new.length = cs.length) : over cs 0 new = new := by
  unfold over
  simp [h]
/-- A variable just laid is written. -/
theorem stNew (h : szOf P t = some n) {z : List PV} (hz : z.length = n) {v : PV} (hv : v.cells.length = n) (ho : v.cells.all PV.one = true) : storev P (σ.push (.cells 0 [z])) t (.ref σ.next 0 0) v = some (σ.push (.cells 0 [v.cells])) := by
  simp only [storev, push_obj, List.getElem?_cons_zero, Option.bind_some, h]
  rw [if_pos ⟨hv, by omega, ho, Nat.le_refl _⟩, push_put, over_all (by omega)]
  rfl
theorem ldPush (off : Nat) : loadv P (σ.push (.cells 0 [e])) t (.ref σ.next 0 off) = partOf P t e off := by
  simp only [loadv, push_obj, List.getElem?_cons_zero, Option.bind_some]
theorem ldRef {id k off ro : Nat} {es : List (List PV)} (ho : σ.objs id = some (.cells ro es)) (hk : es[k]? = some e) : loadv P σ t (.ref id k off) = partOf P t e off := by
  simp only [loadv, ho, hk, Option.bind_some]
/-- An element is written whole. -/
theorem stRef {id k ro : Nat} {es : List (List PV)} (h : szOf P t = some n) (ho : σ.objs id = some (.cells ro es)) (hr : ro ≤ k) (hk : es[k]? = some e) (he : e.length = n) {v : PV} (hv : v.cells.length = n) (h1 : v.cells.all PV.one = true) :
    storev P σ t (.ref id k 0) v = some (σ.put id (.cells ro (es.set k v.cells))) := by
  simp only [storev, ho, hk, h, Option.bind_some]
  rw [if_pos ⟨hv, by omega, h1, hr⟩, over_all (by omega)]
/-- A part of an element is written. -/
theorem stRefOff {id k off ro : Nat} {es : List (List PV)} (h : szOf P t = some n) (ho : σ.objs id = some (.cells ro es)) (hr : ro ≤ k) (hk : es[k]? = some e) {v : PV} (hv : v.cells.length = n) (he : off + n ≤ e.length) (h1 : v.cells.all PV.one = true) :
    storev P σ t (.ref id k off) v = some (σ.put id (.cells ro (es.set k (over e off v.cells)))) := by
  simp only [storev, ho, hk, h, Option.bind_some]
  rw [if_pos ⟨hv, he, h1, hr⟩]
theorem ia_lsl {el : TypeId} {sz id idx len i : Nat} {cap : Option Nat} (hu : P.underlying t = some (.slice el)) (hs : szOf P el = some sz) (hi : i < len) (κ : IntKind) : indexAddrv P t (.lsl id sz idx len cap) (.int κ (i : Nat)) = some (.ref id (idx + i) 0) := by
  simp only [indexAddrv, intOf?, hu, hs, Option.bind_some]
  rw [if_pos ⟨by omega, by omega, trivial⟩, Int.toNat_natCast]
theorem len_lsl {el : TypeId} (hu : P.underlying t = some (.slice el)) (id sz idx len : Nat) (cap : Option Nat) : pureB P .len [t] [.lsl id sz idx len cap] = some (.int .i64 (len : Nat)) := by simp [pureB, hu]
theorem cut_lsl {el : TypeId} {sz id idx len a b : Nat} {cap : Option Nat} {lo hi : Option PV} (hu : P.underlying t = some (.slice el)) (hs : szOf P el = some sz) (hl : numOf lo 0 = some a) (hh : numOf hi len = some b) (h1 : a ≤ b) (h2 : b ≤ len) (h3 : ∀ c, cap = some c → len ≤ c) :
    cutv P t (.lsl id sz idx len cap) lo hi none = some (.lsl id sz (idx + a) (b - a) (cap.map (· - a))) := by
  have hm : numOf none (cap.getD len) = some (cap.getD len) := rfl
  simp only [cutv, hu, hs, Option.bind_some, hl, hh, hm]
  have hb : b ≤ cap.getD len := by
    cases cap with
    | none => exact h2
    | some c => exact Nat.le_trans h2 (h3 c rfl)
  rw [if_neg (by simp), if_neg (by simp), if_pos ⟨h1, hb, Nat.le_refl _⟩]
  rfl
theorem clear_lsl {el : TypeId} {sz id idx len ro : Nat} {cap : Option Nat} {es : List (List PV)} {z : PV} (hu : P.underlying t = some (.slice el)) (hs : szOf P el = some sz) (hp : sz ≠ 0) (hz : zeroOf P el = some z) (hk : z.known = true) (hl : z.cells.length = sz) (h1 : z.cells.all PV.one = true)
    (ho : σ.objs id = some (.cells ro es)) (hi : idx + len ≤ es.length) (hr : ro ≤ idx) :
    writeB P σ .clear [t] [.lsl id sz idx len cap] = some (.tuple [], σ.put id (.cells ro (es.take idx ++ List.replicate len z.cells ++ es.drop (idx + len)))) := by
  simp only [writeB, hu, clearv, hs, hz, Option.bind_some, ho]
  rw [if_neg (by simp [hp, hk, hl, h1]), if_neg (by simp), if_pos ⟨hi, hr⟩]
end

/-- A place, or -1. -/
def idxI (o : Option Nat) : Int := match o with | some j => (j : Nat) | none => -1
/-- The variable of a closure: what it has captured, read whole. -/
theorem fz_ref {σ : Store} {id ro : Nat} {e : List PV} (ho : σ.objs id = some (.cells ro [e])) (hp : ∀ c ∈ e, c.plain = true) (n : Nat) : fz (n + 2) σ (.ref id 0 0) = .pref e := by
  rw [show n + 2 = (n + 1) + 1 from rfl]
  unfold fz
  simp only [ho, List.getElem?_cons_zero, List.drop_zero]
  rw [fz_plains hp]
end Go.Pvm
