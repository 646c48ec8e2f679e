/- Part of the proof: small laws for telling what a function comes to. -/
import Derived.Test.YtkipbdbmeanffaaV22
set_option linter.unusedSimpArgs false
set_option linter.unusedVariables false
namespace Go.Pvm
section
variable {β : Type}
theorem asInt_int (κ : IntKind) (n : Int) (k : Int → Option β) : asInt κ (.int κ n) k = k n := by simp [asInt]
theorem asBool_bool (b : Bool) (k : Bool → Option β) : asBool (.bool b) k = k b := rfl
theorem asStr_str (s : ByteArray) (k : ByteArray → Option β) : asStr (.str s) k = k s := rfl
theorem onEx_exit (i : Nat) (e : Nat → Option β) (r : Option β) : onEx (.exit i) e r = e i := rfl
theorem onEx_ret (e : Nat → Option β) (r : Option β) : onEx .ret e r = r := rfl
theorem bind_some' {α : Type} (a : α) (f : α → Option β) : (some a).bind f = f a := rfl
theorem fnv_func (g : FuncId) (cs : List PV) : fnv (.func g cs) = some (g, cs) := rfl
theorem tupv_0 (a : PV) (l : List PV) : tupv (.tuple (a :: l)) 0 = some a := rfl
theorem tupv_1 (a b : PV) (l : List PV) : tupv (.tuple (a :: b :: l)) 1 = some b := rfl
theorem tupv_2 (a b c : PV) (l : List PV) : tupv (.tuple (a :: b :: c :: l)) 2 = some c := rfl
end

theorem wrap_i64 {x : Int} (h1 : -9223372036854775808 ≤ x) (h2 : x < 9223372036854775808) : IntKind.wrap .i64 x = x := by
  have e1 : ((2 : Int) ^ IntKind.bits .i64) = 18446744073709551616 := by decide
  have e2 : ((2 : Int) ^ (IntKind.bits .i64 - 1)) = 9223372036854775808 := by decide
  have e3 : IntKind.signed .i64 = true := rfl
  simp only [IntKind.wrap, e1, e2, e3, Bool.true_and, decide_eq_true_eq]
  split <;> omega
theorem wrap_u8 {x : Int} (h1 : 0 ≤ x) (h2 : x < 256) : IntKind.wrap .u8 x = x := by
  have e1 : ((2 : Int) ^ IntKind.bits .u8) = 256 := by decide
  have e3 : IntKind.signed .u8 = false := rfl
  simp only [IntKind.wrap, e1, e3, Bool.false_and]
  simp only [Bool.false_eq_true, if_false]
  omega

/-! Freezing. -/
theorem frz_func (σ : Store) (g : FuncId) (cs : List PV) : fz fuelFz σ (.func g cs) = .func g (cs.map (fz 7 σ)) := rfl
theorem frz_int (σ : Store) (κ : IntKind) (n : Int) : fz fuelFz σ (.int κ n) = .int κ n := rfl
theorem frz_bool (σ : Store) (b : Bool) : fz fuelFz σ (.bool b) = .bool b := rfl
theorem frz_str (σ : Store) (b : ByteArray) : fz fuelFz σ (.str b) = .str b := rfl
theorem frz_pref (σ : Store) (cs : List PV) : fz fuelFz σ (.pref cs) = .pref cs := rfl
theorem frz_lsl {σ : Store} {id sz idx len ro : Nat} {cap : Option Nat} {es : List (List PV)} (ho : σ.objs id = some (.cells ro es)) (h : idx + len ≤ es.length) (n : Nat) :
    fz (n + 1) σ (.lsl id sz idx len cap) = .psl (cap == some len) (((es.drop idx).take len).map fun e => e.map (fz n σ)) := by
  unfold fz
  simp only [ho]
  exact if_pos h
theorem frz_tuple2 (σ : Store) (a b : PV) : fz fuelFz σ (.tuple [a, b]) = .tuple [fz 7 σ a, fz 7 σ b] := rfl
theorem frz_new (σ : Store) (κ : IntKind) (n : Int) : fz 7 (Store.push σ (.cells 0 [[.int κ n]])) (.ref σ.next 0 0) = .pref [.int κ n] := by
  have h : (Store.push σ (.cells 0 [[.int κ n]])).objs σ.next = some (.cells 0 [[.int κ n]]) := by simp [Store.push]
  simp only [fz, h]
  rfl

/-- What a call made by itself hands back. -/
noncomputable def pureω (cfg : Cfg) (f : FuncId) (args : List PV) : Option PV := (callω cfg f args .empty).map fun r => fz fuelFz r.2 r.1

theorem pureω_of {cfg : Cfg} (hT : ∀ f, cfg.told f = none) {f : FuncId} {args : List PV} {v : PV} {τ : Store} (h : stepK cfg (callω cfg) (loopω cfg) f args .empty = some (v, τ)) {v' : PV} (hf : fz fuelFz τ v = v') : pureω cfg f args = some v' := by
  unfold pureω
  rw [callω_ofK hT h]
  exact congrArg some hf

theorem callE_pure {cfg c2 : Cfg} {f : FuncId} {args args' : List PV} {σ : Store} {v : PV} (hm : c2.mode f = .pure) (he : enters c2.P f = true) (ha : args.map (fz fuelFz σ) = args') (hv : pureω cfg f args' = some v)
    (hs : v.scalar = true ∨ PV.lf.lfs args = true) : callE c2 (callω cfg) f args σ = some (v, σ) := by
  unfold callE callv
  rw [if_pos he, hm]
  simp only
  unfold pureω at hv
  rw [Option.map_eq_some_iff] at hv
  obtain ⟨⟨u, τ⟩, h1, h2⟩ := hv
  rw [ha, h1]
  simp only [Option.bind_some] at h2 ⊢
  rw [h2]
  rcases hs with hs | hs
  · rw [if_pos hs]
  · by_cases hsc : v.scalar = true
    · rw [if_pos hsc]
    · rw [if_neg hsc]
      by_cases hst : c2.strict = true
      · rw [if_pos hst, if_pos hs]
      · rw [if_neg hst, topss_lf args hs]
        rfl

theorem callE_live {cfg c2 : Cfg} {f : FuncId} {args : List PV} {σ : Store} (hm : c2.mode f = .live) (he : enters c2.P f = true) : callE c2 (callω cfg) f args σ = callω cfg f args σ := by
  unfold callE callv
  rw [if_pos he, hm]

theorem callE_own {cfg c2 : Cfg} {f : FuncId} {args args' : List PV} {σ τ : Store} {v : PV} (hm : c2.mode f = .own) (he : enters c2.P f = true) (ha : args.map (fz fuelFz σ) = args') (hv : callω cfg f args' (.at_ σ.next) = some (v, τ))
    (ho : v.own = true) (hoo : ownObjs τ σ.next = true) : callE c2 (callω cfg) f args σ = some (v, σ.join τ) := by
  unfold callE callv
  rw [if_pos he, hm]
  simp only
  rw [ha, hv]
  simp only [Option.bind_some, ho, hoo, Bool.and_self, if_true]

theorem callE_blind {cfg c2 : Cfg} {f : FuncId} {args : List PV} {σ τ : Store} {v : PV} (hm : c2.mode f = .blind) (he : enters c2.P f = true) (hv : callω cfg f args .empty = some (v, τ)) (h0 : τ.next = 0) : callE c2 (callω cfg) f args σ = some (v, σ) := by
  unfold callE callv
  rw [if_pos he, hm]
  simp only
  rw [hv]
  simp only [Option.bind_some, h0, if_true]

/-! Appending. -/
structure El (P : Program) (el : TypeId) (sz by_ : Nat) : Prop where
  hsz : szOf P el = some sz
  hby : byOf P el = some by_
  z : ∃ z, zeroOf P el = some z ∧ z.known = true ∧ z.cells.length = sz
  pos : sz ≠ 0 ∧ by_ ≠ 0

section
variable {P : Program} {σ : Store} {el : TypeId} {sz by_ : Nat} {x : PV} {new es : List (List PV)} {id ro idx len : Nat}
theorem appendv_start (E : El P el sz by_) (hx : elemsOf σ x = some new) (ha : all1 sz new = true) (s : PV) : appendv P σ el s x = (match s with
  | .nilsl => if new.length = 0 then some (.nilsl, σ) else
      if new.length * by_ ≤ 140737488355328 then some (.lsl σ.next sz 0 new.length none, σ.push (.cells 0 new)) else none
  | .psl full es => if new.length = 0 then some (.psl full es, σ) else
      if full = true then
        (if (es.length + new.length) * by_ ≤ 140737488355328 then
          (if (es.all fun e => e.length == sz) = true then some (.lsl σ.next sz 0 (es.length + new.length) none, σ.push (.cells 0 (es ++ new))) else none)
        else none)
      else none
  | .lsl id sz' idx len cap => if new.length = 0 then some (.lsl id sz' idx len cap, σ) else
      if sz' ≠ sz then none else
      match σ.objs id with
      | some (.cells ro es) =>
        if idx + len + new.length ≤ es.length ∧ len + new.length ≤ cap.getD (len + new.length) then
          (if ro ≤ idx + len then some (.lsl id sz idx (len + new.length) cap, σ.put id (.cells ro (es.take (idx + len) ++ new ++ es.drop (idx + len + new.length)))) else none)
        else if idx + len ≤ es.length then
          (if (len + new.length) * by_ ≤ 140737488355328 then
            (match cap with
            | some c => if c < len + new.length then
                some (.lsl σ.next sz 0 (len + new.length) none, σ.push (.cells 0 ((es.drop idx).take len ++ new))) else none
            | none => if ro ≤ idx + len then some (.lsl σ.next sz 0 (len + new.length) none, (σ.kill id).push (.cells (ro - idx) ((es.drop idx).take len ++ new))) else none)
          else none)
        else none
      | _ => none
  | _ => none) := by
  obtain ⟨z, hz, hk, hl⟩ := E.z
  unfold appendv
  simp only [E.hsz, E.hby, hz, hx, Option.bind_some]
  rw [if_neg (by rw [hk, hl]; simp [E.pos.1, E.pos.2]), if_neg (by rw [ha]; decide)]
  cases s <;> rfl

/-- A slice that is full is laid anew. -/
theorem appendv_full (E : El P el sz by_) (hx : elemsOf σ x = some new) (ha : all1 sz new = true) (hn : new ≠ []) (ho : σ.objs id = some (.cells ro es)) (hi : idx + len ≤ es.length) (hb : (len + new.length) * by_ ≤ 140737488355328) :
    appendv P σ el (.lsl id sz idx len (some len)) x = some (.lsl σ.next sz 0 (len + new.length) none, σ.push (.cells 0 ((es.drop idx).take len ++ new))) := by
  have h0 : 0 < new.length := List.length_pos_iff.2 hn
  rw [appendv_start E hx ha]
  simp only [ho]
  rw [if_neg (by omega), if_neg (by simp), if_neg (by simp only [Option.getD_some]; omega), if_pos hi, if_pos hb, if_pos (by omega)]
/-- A slice of unknown room, its last element the row's last that is known. -/
theorem appendv_open (E : El P el sz by_) (hx : elemsOf σ x = some new) (ha : all1 sz new = true) (hn : new ≠ []) (ho : σ.objs id = some (.cells ro es)) (hi : idx + len = es.length) (hr : ro ≤ idx + len) (hb : (len + new.length) * by_ ≤ 140737488355328) :
    appendv P σ el (.lsl id sz idx len none) x = some (.lsl σ.next sz 0 (len + new.length) none, (σ.kill id).push (.cells (ro - idx) ((es.drop idx).take len ++ new))) := by
  have h0 : 0 < new.length := List.length_pos_iff.2 hn
  rw [appendv_start E hx ha]
  simp only [ho]
  rw [if_neg (by omega), if_neg (by simp), if_neg (by omega), if_pos (by omega), if_pos hb, if_pos hr]
theorem appendv_none (E : El P el sz by_) (hx : elemsOf σ x = some []) {cap : Option Nat} : appendv P σ el (.lsl id sz idx len cap) x = some (.lsl id sz idx len cap, σ) := by
  rw [appendv_start E hx rfl]
  rfl
theorem appendv_nil (E : El P el sz by_) (hx : elemsOf σ x = some new) (ha : all1 sz new = true) (hn : new ≠ []) (hb : new.length * by_ ≤ 140737488355328) :
    appendv P σ el .nilsl x = some (.lsl σ.next sz 0 new.length none, σ.push (.cells 0 new)) := by
  have h0 : 0 < new.length := List.length_pos_iff.2 hn
  rw [appendv_start E hx ha]
  simp only
  rw [if_neg (by omega), if_pos hb]
theorem writeB_append {t u e2 : TypeId} (ht : P.underlying t = some (.slice el)) (hu : P.underlying u = some (.slice e2)) (hs : isStr x = false) (s : PV) : writeB P σ .append [t, u] [s, x] = appendv P σ el s x := by
  simp only [writeB, ht, hu]
  cases x <;> first | rfl | cases hs
end

/-! Arguments of a row. -/
theorem wtv_int {P : Program} {t : TypeId} {k : IntKind} {v : PV} (ht : P.underlying t = some (.int k)) (h : WTV P t v) : ∃ x, v = .int k x ∧ k.min ≤ x ∧ x ≤ k.max := by
  obtain ⟨n, h⟩ := h
  rw [ht] at h
  simp only [Option.getD_some, aggD] at h
  cases n with
  | zero => exact h.elim
  | succ n =>
    unfold WT at h
    rw [ht] at h
    obtain ⟨x, h1, h2⟩ := h
    exact ⟨x, by simpa using h1, h2⟩
theorem wtv_slice {P : Program} {t e : TypeId} {v : PV} (ht : P.underlying t = some (.slice e)) (h : WTV P t v) :
    v = .nilsl ∨ ∃ es n, v = .psl false es ∧ es.length ≤ maxLen ∧ es.length * P.bytesOf e ≤ reachBytes ∧ ∀ c ∈ es, c.length = P.cellsOf e ∧ WT P false n e c := by
  obtain ⟨n, h⟩ := h
  rw [ht] at h
  simp only [Option.getD_some, aggD] at h
  cases n with
  | zero => exact h.elim
  | succ n =>
    unfold WT at h
    rw [ht] at h
    rcases h with h | ⟨es, h1, h2⟩ | ⟨h, _⟩
    · exact .inl (by simpa using h)
    · exact .inr ⟨es, n, by simpa using h1, h2⟩
    · cases h
theorem wt_int {P : Program} {top : Bool} {n : Nat} {t : TypeId} {k : IntKind} {cs : List PV} (ht : P.underlying t = some (.int k)) (h : WT P top n t cs) : ∃ x, cs = [.int k x] ∧ k.min ≤ x ∧ x ≤ k.max := by
  cases n with
  | zero => exact h.elim
  | succ n => unfold WT at h; rw [ht] at h; exact h
theorem wt_struct {P : Program} {top : Bool} {n : Nat} {t : TypeId} {fs : Array Field} {cs : List PV} (ht : P.underlying t = some (.struct fs)) (h : WT P top n t cs) : ∃ m, ∃ parts : List (List PV), cs = parts.flatten ∧ parts.length = fs.size ∧ ∀ (i : Nat) (f : Field) (p : List PV), fs[i]? = some f → parts[i]? = some p → p.length = P.cellsOf f.type ∧ WT P top m f.type p := by
  cases n with
  | zero => exact h.elim
  | succ n => unfold WT at h; rw [ht] at h; exact ⟨n, h⟩
theorem wt_array {P : Program} {top : Bool} {n k : Nat} {t e : TypeId} {cs : List PV} (ht : P.underlying t = some (.array k e)) (h : WT P top n t cs) : ∃ m, ∃ parts : List (List PV), cs = parts.flatten ∧ parts.length = k ∧ ∀ p ∈ parts, p.length = P.cellsOf e ∧ WT P top m e p := by
  cases n with
  | zero => exact h.elim
  | succ n => unfold WT at h; rw [ht] at h; exact ⟨n, h⟩
end Go.Pvm
