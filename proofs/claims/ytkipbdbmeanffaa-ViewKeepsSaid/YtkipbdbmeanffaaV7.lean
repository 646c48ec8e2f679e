/- Part of the proof: 'append', 'copy', 'clear'. -/
import Derived.Test.YtkipbdbmeanffaaV6
set_option linter.unusedSimpArgs false
set_option linter.unusedVariables false
namespace Go.Pvm
section
variable {P : Program} {ρ : Where} {F : Froz} {w : World} {σ : Store}

theorem flatten_idx {α : Type} {sz : Nat} (h0 : 0 < sz) : ∀ (es : List (List α)), (∀ e ∈ es, e.length = sz) → ∀ k : Nat, es.flatten[k]? = (es[k / sz]?).bind fun e => e[k % sz]?
  | [], _, k => by simp
  | e :: r, hs, k => by
    have he : e.length = sz := hs e (by simp)
    rw [List.flatten_cons, List.getElem?_append, he]
    split
    · rename_i h
      rw [Nat.div_eq_of_lt h, Nat.mod_eq_of_lt h]
      rfl
    · rename_i h
      have e1 : k / sz = (k - sz) / sz + 1 := Nat.div_eq_sub_div h0 (by omega)
      have e2 : k % sz = (k - sz) % sz := Nat.mod_eq_sub_mod (by omega)
      rw [flatten_idx h0 r (fun x hx => hs x (by simp [hx])), e1, e2, List.getElem?_cons_succ]

theorem Flat.vrs {sz : Nat} {es : List (List PV)} {arr : Array Value} (h : Flat ρ F w sz es arr) (h0 : 0 < sz) (hl : arr.size = es.length * sz) : VRs ρ F w es.flatten arr.toList := by
  refine ⟨by rw [flatten_length es h.1]; simpa using hl, fun k x u e e' => ?_⟩
  rw [flatten_idx h0 es h.1, Option.bind_eq_some_iff] at e
  obtain ⟨l, h1, h2⟩ := e
  obtain ⟨v, h3, h4⟩ := h.2.2 _ _ h1 _ _ h2
  rw [Nat.div_add_mod' k sz] at h3
  have : arr[k]? = some u := by simpa using e'
  rw [this] at h3
  cases h3
  exact h4

theorem Flat.of_vrs {sz : Nat} {es : List (List PV)} {us rest : List Value} (hs : ∀ e ∈ es, e.length = sz) (h : VRs ρ F w es.flatten us) : Flat ρ F w sz es (us ++ rest).toArray := by
  have hl := flatten_length es hs
  refine ⟨hs, by have := h.1; simp; omega, fun i e he j x hx => ?_⟩
  obtain ⟨u, h1, h2⟩ := h.get (flatten_get es hs i j e x he hx)
  refine ⟨u, ?_, h2⟩
  rw [List.getElem?_toArray, List.getElem?_append_left (List.getElem?_eq_some_iff.1 h1).1]
  exact h1

theorem same_cell {w' : World} (h : w'.heap = w.heap) (a : Addr) : w'.cell? a = w.cell? a := by simp [World.cell?, h]

/-- What an 'append' or a 'copy' takes. -/
theorem src_run (hs : SR ρ F σ w) {x : PV} {new : List (List PV)} (h : elemsOf σ x = some new) {c : Value} (hx : VR ρ F w x c) {sz : Nat} (hz : ∀ e ∈ new, e.length = sz) :
    ∃ us, VRs ρ F w new.flatten us ∧ (Builtin.lenOf c).run P w = .ok new.length w ∧
      ∀ m, m ≤ new.length → ∀ w' : World, w'.heap = w.heap → (Builtin.firstCells sz m c).run P w' = .ok (us.take (m * sz)).toArray w' := by
  by_cases hstr : ∃ s, x = .str s
  · obtain ⟨s, rfl⟩ := hstr
    obtain rfl := hx.str_inv
    simp only [elemsOf, Option.some.injEq] at h
    subst h
    refine ⟨s.data.toList.map fun b => .int .u8 b.toNat, ?_, by simp [Builtin.lenOf], fun m hm w' hh => ?_⟩
    · have hf : (s.data.toList.map fun b => [PV.int .u8 (b.toNat : Int)]).flatten = s.data.toList.map fun b => PV.int .u8 (b.toNat : Int) := by
        generalize s.data.toList = l
        induction l with
        | nil => rfl
        | cons a r ih => rw [List.map_cons, List.flatten_cons, ih]; rfl
      rw [hf]
      refine ⟨by simp, fun i c u e e' => ?_⟩
      rw [List.getElem?_map, Option.map_eq_some_iff] at e e'
      obtain ⟨a, h1, rfl⟩ := e
      obtain ⟨b, h2, rfl⟩ := e'
      rw [h1] at h2
      cases h2
      exact .pure (.int _ _)
    · have hsz : m * sz = m ∨ m = 0 := by
        cases hl : s.data.toList with
        | nil => rw [hl] at hm; simp at hm; exact .inr hm
        | cons a r =>
          have := hz [.int .u8 (a.toNat : Int)] (by rw [hl]; simp)
          simp at this
          subst this
          exact .inl (Nat.mul_one m)
      have hsz' : m * sz = m := by rcases hsz with h | h; exact h; subst h; simp
      rw [hsz']
      simp only [Builtin.firstCells, Sem.run_pure]
      congr 1
      apply Array.ext'
      simp [List.extract_eq_take_drop]
  · obtain ⟨a, k, us, rfl, h1, h2⟩ := elems_run h (fun s e => hstr ⟨s, e⟩) hs hx hz
    refine ⟨us, h1, by simp [Builtin.lenOf], fun m hm w' hh => ?_⟩
    have hl : us.length = new.length * sz := by rw [h1.1, flatten_length new hz]
    rcases Nat.eq_zero_or_pos new.length with h0 | h0
    · have : m = 0 := by omega
      subst this
      cases a with
      | none => simp [Builtin.firstCells]
      | some a => simp [Builtin.firstCells, loadCells, loadCellsFrom]
    · obtain ⟨b, o, rfl, h3⟩ := h2 h0
      refine run_firstCells_some (P := P) w' sz m ⟨b, o, none⟩ new.length k (us.take (m * sz)) ?_ fun j v e => ?_
      · have : m * sz ≤ new.length * sz := Nat.mul_le_mul_right _ hm
        simp; omega
      · rw [List.getElem?_take] at e
        split at e
        · rw [ad_add, same_cell hh]; exact h3 j v e
        · cases e

/-- A slice's type, or a text's. -/
def SrcT (d : TypeDesc) : Prop := (∃ e, d = .slice e) ∨ d = .string

/-- The road with room. -/
theorem room_run {t u ty el : TypeId} {d : TypeDesc} (ht : P.underlying t = some (.slice el)) (hu : P.underlying u = some d) (hd : SrcT d) {i : TypeInfo} (hi : P.info? el = some i)
    {a : Option Addr} {sLen sCap n : Nat} {cx : Value} {us : List Value} (hlen : (Builtin.lenOf cx).run P w = .ok n w) (hnew : (Builtin.firstCells i.size n cx).run P w = .ok us.toArray w) (hroom : sLen + n ≤ sCap)
    {w' : World} (hst : ∀ b, a = some b → (storeCells (b.add (sLen * i.size)) us).run P w = .ok () w') (hno : a = none → w' = w) :
    (Builtin.append_ #[t, u] ty #[.slice a sLen sCap, cx]).run P w = .ok (.slice a (sLen + n) sCap) w' := by
  rcases hd with ⟨e, rfl⟩ | rfl <;>
  · cases a with
    | none =>
      obtain rfl := hno rfl
      simp [Builtin.append_, run_underlying ht, run_underlying hu, sizeOf, typeInfo, hi, hlen, hnew, hroom]
    | some b =>
      have := hst b rfl
      simp [Builtin.append_, run_underlying ht, run_underlying hu, sizeOf, typeInfo, hi, hlen, hnew, hroom, this]

/-- The road without room. -/
theorem grow_run {t u ty el : TypeId} {d : TypeDesc} (ht : P.underlying t = some (.slice el)) (hu : P.underlying u = some d) (hd : SrcT d) {i : TypeInfo} {z : Value} (hi : P.info? el = some i) (hz : i.zero = some z)
    {a : Option Addr} {sLen sCap n : Nat} {cx : Value} {us0 us : List Value} (hlen : (Builtin.lenOf cx).run P w = .ok n w) (hnew : (Builtin.firstCells i.size n cx).run P w.drew = .ok us.toArray w.drew)
    (hold : (Builtin.firstCells i.size sLen (.slice a sLen sCap)).run P w.drew = .ok us0.toArray w.drew)
    (hroom : sCap < sLen + n) (hb0 : i.bytes ≠ 0) (hb : (sLen + n) * i.bytes ≤ 140737488355328) :
    (Builtin.append_ #[t, u] ty #[.slice a sLen sCap, cx]).run P w = .ok (.slice (some ⟨w.heap.size, 0, none⟩) (sLen + n) (grownCap w (sLen + n) sCap el))
      (w.drew.alloc (.cells (us0 ++ us ++ (Builtin.zeroCells z.cells (grownCap w (sLen + n) sCap el - (sLen + n))).toList).toArray el)) := by
  have hn : ¬ (sLen + n ≤ sCap) := by omega
  have hle : sLen + n ≤ 140737488355328 := Nat.le_trans (Nat.le_mul_of_pos_right _ (Nat.pos_of_ne_zero hb0)) hb
  have h63' : ¬ (9223372036854775807 < ((sLen : Int) + (n : Int))) := by omega
  have h48' : ¬ (281474976710656 < Builtin.nextslicecap (sLen + n) sCap * i.bytes) := by have := growslice_fits hroom hb; omega
  rcases hd with ⟨e, rfl⟩ | rfl <;>
  · simp [Builtin.append_, run_underlying ht, run_underlying hu, sizeOf, typeInfo, zeroValue, hi, hz, hlen, hn, h63', h48', Question.forced, hold, hnew, newRow, grownCap]
    congr 2
    apply Array.ext'
    simp [List.append_assoc]

end
end Go.Pvm
