/- Part of the proof: what a row's argument reads as is a plain value, known by its type. -/
import Derived.Test.YtkipbdbmeanffaaV19
import Derived.ProofKit
set_option linter.unusedSimpArgs false
set_option linter.unusedVariables false
namespace Go.Pvm

/-- Cells of a type: 'top': what is handed over itself. -/
def WT (P : Program) : Bool → Nat → TypeId → List PV → Prop
  | _, 0, _, _ => False
  | top, n + 1, t, cs => match P.underlying t with
    | some .bool => ∃ b, cs = [.bool b]
    | some (.int k) => ∃ x, cs = [.int k x] ∧ k.min ≤ x ∧ x ≤ k.max
    | some (.float k) => ∃ x, cs = [.float k x] ∧ (Lit.float k x).wf = true
    | some .string => ∃ s, cs = [.str s] ∧ s.size ≤ reachBytes
    | some (.slice e) => cs = [.nilsl] ∨ (∃ es, cs = [.psl false es] ∧ es.length ≤ maxLen ∧ es.length * P.bytesOf e ≤ reachBytes ∧ ∀ c ∈ es, c.length = P.cellsOf e ∧ WT P false n e c) ∨ (top = false ∧ P.cellsOf e = 0 ∧ cs = [.undef])
    | some (.struct fs) => ∃ parts : List (List PV), cs = parts.flatten ∧ parts.length = fs.size ∧ ∀ (i : Nat) (f : Field) (p : List PV), fs[i]? = some f → parts[i]? = some p → p.length = P.cellsOf f.type ∧ WT P top n f.type p
    | some (.array m e) => ∃ parts : List (List PV), cs = parts.flatten ∧ parts.length = m ∧ ∀ p ∈ parts, p.length = P.cellsOf e ∧ WT P top n e p
    | some (.pointer e) => cs = [.nilptr] ∨ (∃ c, cs = [.pref c] ∧ c.length = P.cellsOf e ∧ WT P false n e c) ∨ (P.cellsOf e = 0 ∧ cs = [.undef])
    | some (.interface _) => cs = [.niliface] ∨ cs = [.undef]
    | some (.map _ _) => cs = [.nilmap] ∨ cs = [.undef]
    | _ => cs.length = 1

def spotless : Value → Prop
  | .slice (some a) _ _ => a.spot = none
  | _ => True

def olds (w : World) : Froz := fun b _ => b < w.heap.size

section
variable {H : Type} {enc : TypeId × Value → H} {P : Program} {w : World}

theorem VPs.append {F : Froz} {w : World} {a b : List PV} {x y : List Value} (h : VPs F w a x) (k : VPs F w b y) : VPs F w (a ++ b) (x ++ y) := by
  refine ⟨by simp [h.1, k.1], fun i c u e e' => ?_⟩
  have h1 := h.1
  rcases Nat.lt_or_ge i a.length with hi | hi
  · rw [List.getElem?_append_left hi] at e
    rw [List.getElem?_append_left (by omega)] at e'
    exact h.2 i c u e e'
  · rw [List.getElem?_append_right hi] at e
    rw [List.getElem?_append_right (by omega), h1] at e'
    exact k.2 _ c u e e'
theorem VPs.nil' {F : Froz} {w : World} : VPs F w [] [] := ⟨rfl, fun i c u e => by simp at e⟩
theorem VPs.one {F : Froz} {w : World} {c : PV} {u : Value} (h : VP F w c u) : VPs F w [c] [u] := ⟨rfl, fun i c' u' e e' => by
  cases i with
  | zero => simp at e e'; subst e; subst e'; exact h
  | succ i => simp at e⟩

/-- Parts one behind the other. -/
theorem asm {α : Type} (off size : α → Nat) (R : α → List PV → Prop) {F : Froz} (cs : List Value) : ∀ (l : List α) (o : Nat), (∀ (j : Nat) (a : α), l[j]? = some a → off a = o + ((l.take j).map size).sum) → cs.length = o + (l.map size).sum →
    (∀ a ∈ l, ∃ p, R a p ∧ VPs F w p ((cs.drop (off a)).take (size a))) →
    ∃ parts : List (List PV), parts.length = l.length ∧ (∀ (i : Nat) (a : α) (p : List PV), l[i]? = some a → parts[i]? = some p → p.length = size a ∧ R a p) ∧ VPs F w parts.flatten (cs.drop o)
  | [], o, h1, h2, h3 => ⟨[], rfl, fun i a p e => by simp at e, by
    simp at h2
    rw [List.drop_eq_nil_of_le (by omega)]
    exact VPs.nil'⟩
  | a :: r, o, h1, h2, h3 => by
    have h0 : off a = o := by simpa using h1 0 a rfl
    simp only [List.map_cons, List.sum_cons] at h2
    obtain ⟨p, hR, hp⟩ := h3 a (.head _)
    obtain ⟨parts, k1, k2, k3⟩ := asm off size R cs r (o + size a) (fun j b hb => by
      have := h1 (j + 1) b (by simpa using hb)
      simp only [List.take_succ_cons, List.map_cons, List.sum_cons] at this
      omega) (by omega) (fun b hb => h3 b (.tail _ hb))
    rw [h0] at hp
    have hlen : p.length = size a := by
      have := hp.1
      simp at this
      omega
    refine ⟨p :: parts, by simp [k1], fun i b q e e' => ?_, ?_⟩
    · cases i with
      | zero => simp at e e'; subst e; subst e'; exact ⟨hlen, hR⟩
      | succ i => exact k2 i b q (by simpa using e) (by simpa using e')
    · have : cs.drop o = (cs.drop o).take (size a) ++ cs.drop (o + size a) := by
        rw [← List.drop_drop, List.take_append_drop]
      rw [this, List.flatten_cons]
      exact hp.append k3

theorem isVar_lt {t : TypeId} (h : isVar P t = true) : t < P.types.size := by
  unfold isVar at h
  simp at h
  exact h.1

theorem addr_add {a : Addr} (h : a.spot = none) (n : Nat) : a.add n = ⟨a.block, a.off + n, none⟩ := by
  cases a
  simp only at h
  subst h
  exact ad_add _ _ _

theorem cells_at {a : Addr} {n : Nat} {cs : List Value} (h : w.cells? 0 a n = some cs) : cs.length = n ∧ ∀ (i : Nat) (v : Value), cs[i]? = some v → w.cell? (a.add i) = some v := by
  unfold World.cells? at h
  rw [if_pos (Nat.zero_le _)] at h
  have hl := mapM_some_length h
  refine ⟨by simpa using hl, fun i v hv => ?_⟩
  have hi : i < n := by
    have := (List.getElem?_eq_some_iff.1 hv).1
    simp at hl; omega
  have := mapM_some_get h i i (List.getElem?_range hi)
  rw [hv] at this
  exact this

theorem cell_spot {a : Addr} {v : Value} (h : w.cell? a = some v) : a.spot = none ∧ a.block < w.heap.size := by
  unfold World.cell? at h
  split at h
  · rename_i c _ _ hb
    refine ⟨?_, (Array.getElem?_eq_some_iff.1 hb).1⟩
    cases hs : a.spot with
    | none => rfl
    | some x => rw [hs] at h; simp at h
  · cases h

theorem weights_mem {e : TypeId} {k : Nat} : ∀ (ds : List (DataW H)) (d : DataW H), d ∈ ds → k ∈ d.weights P e → k ∈ DataW.weightsAll P e ds
  | x :: r, d, hm, hk => by
    unfold DataW.weightsAll
    rcases List.mem_cons.1 hm with rfl | hm
    · exact List.mem_append_left _ hk
    · exact List.mem_append_right _ (weights_mem r d hm hk)
theorem weightsE_mem {k : Nat} : ∀ (ts : List TypeId) (ds : List (DataW H)) (i : Nat) (t : TypeId) (d : DataW H), ts[i]? = some t → ds[i]? = some d → k ∈ d.weights P t → k ∈ DataW.weightsEach P ts ds
  | t :: ts, d :: ds, 0, t', d', h1, h2, hk => by
    simp at h1 h2; subst h1; subst h2
    unfold DataW.weightsEach
    exact List.mem_append_left _ hk
  | t :: ts, d :: ds, i + 1, t', d', h1, h2, hk => by
    unfold DataW.weightsEach
    exact List.mem_append_right _ (weightsE_mem ts ds i t' d' (by simpa using h1) (by simpa using h2) hk)
  | [], _, i, _, _, h1, _, _ => by simp at h1
  | _ :: _, [], i, _, _, _, h2, _ => by simp at h2

theorem dec (hl : laidOutB P = true) : ∀ (n : Nat) (t : TypeId) (cs : List Value) (x : DataW H × List MemPlace) (top : Bool), DataW.trod enc P w 0 (fun _ => true) true n t cs = some x → isVar P t = true →
    (top = true → ∀ v ∈ cs, spotless v) → (∀ k ∈ x.1.weights P t, k ≤ reachBytes) → ∃ pvs, WT P top n t pvs ∧ VPs (olds w) w pvs cs
  | 0, t, cs, x, top, h, _, _, _ => by simp [DataW.trod] at h
  | n + 1, t, cs, x, top, h, hv, hs, hw => by
    have hrow := rowFine_of_laidOut hl (isVar_lt hv)
    unfold rowFine at hrow
    rw [hv] at hrow
    simp only [Bool.not_true, Bool.false_or] at hrow
    have one : ∀ {c : PV}, cs.length = 1 → c = .undef → VPs (olds w) w [c] cs := fun h1 h2 => by
      obtain ⟨v, rfl⟩ := List.length_eq_one_iff.1 h1
      subst h2
      exact .one (.undef v)
    cases hu : P.underlying t with
    | none => unfold DataW.trod at h; rw [hu] at h; simp at h
    | some d =>
      rw [hu] at hrow
      cases d
      case bool =>
        obtain ⟨b, rfl, _⟩ := DataW.trod_bool hu h
        exact ⟨[.bool b], by unfold WT; rw [hu]; exact ⟨b, rfl⟩, .one (.bool b)⟩
      case int k =>
        obtain ⟨b, rfl, _, hwf⟩ := DataW.trod_int hu h
        refine ⟨[.int k b], ?_, .one (.int k b)⟩
        unfold WT; rw [hu]
        simp [Lit.wf] at hwf
        exact ⟨b, rfl, hwf.1, hwf.2⟩
      case float k =>
        unfold DataW.trod at h; rw [hu] at h
        split at h <;> simp only [Option.some.injEq, TypeDesc.float.injEq, reduceCtorEq] at * <;> try (cases h; done)
        rename_i k1 k' b' e1 e2
        subst e2
        split at h
        · rename_i hk
          obtain ⟨rfl, hk⟩ := hk
          refine ⟨[.float _ e1], ?_, .one (.float _ e1)⟩
          unfold WT; rw [hu]
          exact ⟨e1, rfl, hk⟩
        · cases h
      case string =>
        obtain ⟨s, rfl, rfl, _⟩ := DataW.trod_string hu h
        refine ⟨[.str s], ?_, .one (.str s)⟩
        unfold WT; rw [hu]
        refine ⟨s, rfl, ?_⟩
        have := hw s.data.toList.length (by simp [DataW.weights])
        simpa using this
      case slice e =>
        rcases DataW.trod_slice hu h with ⟨rfl, _⟩ | ⟨a, len, cap, elems, rest, m, hm, rfl, rfl, _, hlc, hcm, hel, hget, hspare, _⟩
        · exact ⟨[.nilsl], by unfold WT; rw [hu]; exact .inl rfl, .one .nilsl⟩
        · obtain rfl : n = m := by omega
          simp only [Bool.and_eq_true] at hrow
          have hve : isVar P e = true := hrow.1
          -- the elements' cells
          have each : ∀ i, i < len → ∃ vs pv, w.cells? 0 (a.add (i * P.cellsOf e)) (P.cellsOf e) = some vs ∧ WT P false n e pv ∧ VPs (olds w) w pv vs := fun i hi => by
            have h1 := hget i hi
            have hy := List.getElem?_eq_getElem (l := elems) (i := i) (by omega)
            rw [hy, Option.bind_eq_some_iff] at h1
            obtain ⟨vs, h2, h3⟩ := h1
            obtain ⟨pv, h4, h5⟩ := dec hl n e vs _ false h3 hve (fun h => by cases h) (fun k hk => hw k (by
              simp only [DataW.weights, hu]
              refine List.mem_cons_of_mem _ (List.mem_append_left _ (weights_mem _ _ (List.mem_map.2 ⟨_, List.getElem_mem _, rfl⟩) hk))))
            exact ⟨vs, pv, h2, h4, h5⟩
          obtain ⟨vf, hvf⟩ := Classical.axiomOfChoice (fun i : Nat => (Classical.em (i < len)).elim (fun hi => let ⟨vs, pv, h⟩ := each i hi; (⟨(vs, pv), fun _ => h⟩ : ∃ q : List Value × List PV, i < len → w.cells? 0 (a.add (i * P.cellsOf e)) (P.cellsOf e) = some q.1 ∧ WT P false n e q.2 ∧ VPs (olds w) w q.2 q.1)) (fun hi => ⟨([], []), fun h => absurd h hi⟩))
          by_cases hsp : a.spot = none
          · refine ⟨[.psl false ((List.range len).map fun i => (vf i).2)], ?_, .one ?_⟩
            · unfold WT; rw [hu]
              refine .inr (.inl ⟨_, rfl, by simp; exact Nat.le_trans hlc hcm, ?_, fun c hc => ?_⟩)
              · have := hw ((elems.length + rest.length) * P.bytesOf e) (by simp [DataW.weights, hu])
                simp only [List.length_map, List.length_range]
                exact Nat.le_trans (Nat.mul_le_mul_right _ (by omega)) this
              · obtain ⟨i, hi, rfl⟩ := List.mem_map.1 hc
                have hi' : i < len := by simpa using hi
                obtain ⟨h1, h2, h3⟩ := hvf i hi'
                exact ⟨by have := (cells_at h1).1; rw [← h3.1]; exact this, h2⟩
            · have hcell : ∀ (i : Nat) (c : List PV), ((List.range len).map fun i => (vf i).2)[i]? = some c → ∀ (j : Nat) (x : PV), c[j]? = some x → ∃ v, w.cell? ⟨a.block, a.off + i * P.cellsOf e + j, none⟩ = some v ∧ VP (olds w) w x v := fun i c hc j x hx => by
                rw [List.getElem?_map, Option.map_eq_some_iff] at hc
                obtain ⟨i', hi, rfl⟩ := hc
                have hlt := (List.getElem?_eq_some_iff.1 hi).1
                have : i' = i := by have := List.getElem?_range (n := len) (i := i) (by simpa using hlt); rw [this] at hi; exact (Option.some.inj hi).symm
                subst this
                obtain ⟨h1, h2, h3⟩ := hvf i' (by simpa using hlt)
                obtain ⟨k1, k2⟩ := cells_at h1
                have hj := (List.getElem?_eq_some_iff.1 hx).1
                have hj' := List.getElem?_eq_getElem (l := (vf i').1) (i := j) (by rw [h3.1]; exact hj)
                refine ⟨_, ?_, h3.2 j x _ hx hj'⟩
                have := k2 j _ hj'
                rw [← this, addr_add hsp, ad_add]
              have hlen : ((List.range len).map fun i => (vf i).2).length = len := by simp
              have ha : (Value.slice (some a) len cap) = .slice (some ⟨a.block, a.off, none⟩) ((List.range len).map fun i => (vf i).2).length cap := by
                rw [hlen]
                cases a
                simp at hsp
                subst hsp
                rfl
              rw [ha]
              refine .psl false _ (P.cellsOf e) a.block a.off none cap (fun i j => (w.cell? ⟨a.block, a.off + i * P.cellsOf e + j, none⟩).getD undef) (fun _ => rfl) (fun c hc => ?_) (by rw [hlen]; exact hlc) (fun h => by cases h) (fun i c hc j x hx => ?_) (fun i c hc j x hx => ?_)
              · obtain ⟨i, hi, rfl⟩ := List.mem_map.1 hc
                obtain ⟨h1, h2, h3⟩ := hvf i (by simpa using hi)
                rw [← h3.1]; exact (cells_at h1).1
              · obtain ⟨v, q1, q2⟩ := hcell i c hc j x hx
                exact ⟨(cell_spot q1).2, by rw [q1]; rfl⟩
              · obtain ⟨v, q1, q2⟩ := hcell i c hc j x hx
                rw [q1]; exact q2
          · cases top with
            | true => exact absurd (hs rfl _ (.head _)) hsp
            | false =>
              by_cases hce : P.cellsOf e = 0
              · exact ⟨[.undef], by unfold WT; rw [hu]; exact .inr (.inr ⟨rfl, hce, rfl⟩), .one (.undef _)⟩
              -- without room, at a place of its own
              have noCell : ∀ vs, w.cells? 0 (a.add (0 * P.cellsOf e)) (P.cellsOf e) ≠ some vs := fun vs hvs => by
                obtain ⟨k1, k2⟩ := cells_at hvs
                cases vs with
                | nil => exact hce k1.symm
                | cons v r =>
                  have h6 := k2 0 v rfl
                  have h7 : a.add 0 = a := by unfold Addr.add; simp
                  rw [Nat.zero_mul, h7, h7] at h6
                  exact hsp (cell_spot h6).1
              have hlen0 : len = 0 := by
                rcases Nat.eq_zero_or_pos len with h0 | h0
                · exact h0
                · obtain ⟨vs, _, h1, _⟩ := each 0 h0
                  exact absurd h1 (noCell vs)
              have hcap0 : cap = 0 := by
                rcases Nat.eq_zero_or_pos cap with h0 | h0
                · exact h0
                · obtain ⟨hr1, hr2⟩ := hspare rfl
                  have h1 := hr2 0 (by omega)
                  have hy := List.getElem?_eq_getElem (l := rest) (i := 0) (by omega)
                  rw [hy, Option.bind_eq_some_iff] at h1
                  obtain ⟨vs, h2, _⟩ := h1
                  rw [hlen0, Nat.zero_add] at h2
                  exact absurd h2 (noCell vs)
              subst hlen0
              subst hcap0
              refine ⟨[.psl false []], ?_, .one ?_⟩
              · unfold WT; rw [hu]
                exact .inr (.inl ⟨[], rfl, by simp, by simp, fun c hc => by cases hc⟩)
              · exact .psl false [] 0 a.block a.off a.spot 0 (fun _ _ => undef) (fun h => absurd rfl h) (by simp) (Nat.le_refl _) (fun _ => rfl) (fun i e he => by simp at he) (fun i e he => by simp at he)
      case pointer e =>
        rcases DataW.trod_pointer hu h with ⟨rfl, _⟩ | ⟨a, vs, y, m, hm, rfl, rfl, hc, hy⟩
        · exact ⟨[.nilptr], by unfold WT; rw [hu]; exact .inl rfl, .one .nilptr⟩
        · obtain rfl : n = m := by omega
          simp only [Bool.and_eq_true] at hrow
          obtain ⟨pv, h4, h5⟩ := dec hl n e vs _ false hy hrow.1 (fun h => by cases h) (fun k hk => hw k (by simpa [DataW.weights, hu] using hk))
          obtain ⟨k1, k2⟩ := cells_at hc
          by_cases hsp : a.spot = none
          · refine ⟨[.pref pv], ?_, .one ?_⟩
            · unfold WT; rw [hu]; exact .inr (.inl ⟨pv, rfl, by rw [← k1]; exact h5.1.symm, h4⟩)
            · have ha : (Value.pointer (some a)) = .pointer (some ⟨a.block, a.off, none⟩) := by
                cases a
                simp at hsp
                subst hsp
                rfl
              rw [ha]
              have hcell : ∀ (j : Nat) (x : PV), pv[j]? = some x → ∃ v, w.cell? ⟨a.block, a.off + j, none⟩ = some v ∧ VP (olds w) w x v := fun j x hx => by
                have hj := (List.getElem?_eq_some_iff.1 hx).1
                have hj' := List.getElem?_eq_getElem (l := vs) (i := j) (by rw [h5.1]; exact hj)
                refine ⟨_, ?_, h5.2 j x _ hx hj'⟩
                have := k2 j _ hj'
                rw [← this, addr_add hsp]
              refine .pref pv a.block a.off (fun j => (w.cell? ⟨a.block, a.off + j, none⟩).getD undef) (fun j x hx => ?_) (fun j x hx => ?_)
              · obtain ⟨v, q1, q2⟩ := hcell j x hx
                exact ⟨(cell_spot q1).2, by rw [q1]; rfl⟩
              · obtain ⟨v, q1, q2⟩ := hcell j x hx
                rw [q1]; exact q2
          · have h0 : P.cellsOf e = 0 := by
              cases vs with
              | nil => exact k1.symm
              | cons v r =>
                exfalso
                have h6 := k2 0 v rfl
                have h7 : a.add 0 = a := by unfold Addr.add; simp
                rw [h7] at h6
                exact hsp (cell_spot h6).1
            exact ⟨[.undef], by unfold WT; rw [hu]; exact .inr (.inr ⟨h0, rfl⟩), .one (.undef _)⟩
      case struct fs =>
        obtain ⟨xs, m, hm, rfl, hlen, hxl, hx⟩ := DataW.trod_struct hu h
        obtain rfl : n = m := by omega
        simp only [Bool.and_eq_true, List.all_eq_true, beq_iff_eq, List.mem_range] at hrow
        obtain ⟨⟨r1, r2⟩, r3⟩ := hrow
        obtain ⟨parts, p1, p2, p3⟩ := asm (w := w) (F := olds w) (fun f : Field => f.offset) (fun f : Field => P.cellsOf f.type) (fun f p => WT P top n f.type p) cs fs.toList 0
          (fun j f hf => by
            have := r3 j (List.getElem?_eq_some_iff.1 hf).1
            rw [hf] at this
            simpa using this)
          (by rw [hlen, r2]; simp)
          (fun f hf => by
            obtain ⟨i, hi⟩ := List.getElem?_of_mem hf
            have h1 := hx i f (by rw [← Array.getElem?_toList]; exact hi)
            have hil := (List.getElem?_eq_some_iff.1 hi).1
            have hy := List.getElem?_eq_getElem (l := xs) (i := i) (by simpa [hxl] using hil)
            rw [hy] at h1
            refine dec hl n f.type _ _ top h1 (r1 f hf) (fun ht v hv => hs ht v (List.mem_of_mem_drop (List.mem_of_mem_take hv))) (fun k hk => hw k ?_)
            simp only [DataW.weights, hu]
            exact weightsE_mem _ _ i f.type _ (by rw [List.getElem?_map, hi]; rfl) (by rw [List.getElem?_map, hy]; rfl) hk)
        refine ⟨parts.flatten, ?_, by simpa using p3⟩
        unfold WT; rw [hu]
        exact ⟨parts, rfl, by simpa using p1, fun i f p hf hp => p2 i f p (by rw [Array.getElem?_toList]; exact hf) hp⟩
      case array m e =>
        unfold DataW.trod at h; rw [hu] at h
        simp only at h
        split at h
        · rename_i hlen
          rw [Option.map_eq_some_iff] at h
          obtain ⟨xs, hxs, rfl⟩ := h
          simp only [Bool.and_eq_true, beq_iff_eq] at hrow
          have hxl : xs.length = m := by simpa using mapM_some_length hxs
          have sumr : ∀ k, ((List.range k).map fun _ => P.cellsOf e).sum = k * P.cellsOf e := fun k => by
            induction k with
            | zero => simp
            | succ k ih => rw [List.range_succ, List.map_append, List.sum_append, ih]; simp [Nat.succ_mul]
          obtain ⟨parts, p1, p2, p3⟩ := asm (w := w) (F := olds w) (fun i : Nat => i * P.cellsOf e) (fun _ : Nat => P.cellsOf e) (fun _ p => WT P top n e p) cs (List.range m) 0
            (fun j i hj => by
              have hjl := (List.getElem?_eq_some_iff.1 hj).1
              have : i = j := by have := List.getElem?_range (n := m) (i := j) (by simpa using hjl); rw [this] at hj; exact (Option.some.inj hj).symm
              subst this
              rw [List.take_range, Nat.min_eq_left (by simp at hjl; omega), sumr]
              omega)
            (by rw [hlen, hrow.2, sumr]; omega)
            (fun i hi => by
              have hi' : i < m := by simpa using hi
              have h1 := mapM_some_get hxs i i (List.getElem?_range hi')
              have hy := List.getElem?_eq_getElem (l := xs) (i := i) (by omega)
              rw [hy] at h1
              refine dec hl n e _ _ top h1 hrow.1 (fun ht v hv => hs ht v (List.mem_of_mem_drop (List.mem_of_mem_take hv))) (fun k hk => hw k ?_)
              simp only [DataW.weights, hu]
              exact weights_mem _ _ (List.mem_map.2 ⟨_, List.getElem_mem _, rfl⟩) hk)
          refine ⟨parts.flatten, ?_, by simpa using p3⟩
          unfold WT; rw [hu]
          refine ⟨parts, rfl, by simpa using p1, fun p hp => ?_⟩
          obtain ⟨i, hi⟩ := List.getElem?_of_mem hp
          have hil := (List.getElem?_eq_some_iff.1 hi).1
          exact p2 i i p (by rw [List.getElem?_range (by simpa [p1] using hil)]) hi
        · cases h
      case interface ms =>
        have h1 : cs.length = 1 := by
          unfold DataW.trod at h; rw [hu] at h
          split at h <;> simp_all
        exact ⟨[.undef], by unfold WT; rw [hu]; exact .inr rfl, one h1 rfl⟩
      case map k e =>
        have h1 : cs.length = 1 := by
          unfold DataW.trod at h; rw [hu] at h
          split at h <;> simp_all
        exact ⟨[.undef], by unfold WT; rw [hu]; exact .inr rfl, one h1 rfl⟩
      all_goals
        have h1 : cs.length = 1 := by
          unfold DataW.trod at h; rw [hu] at h
          split at h <;> simp_all
        exact ⟨[.undef], by unfold WT; rw [hu]; rfl, one h1 rfl⟩
end
end Go.Pvm
