/- Part of the proof: ways of the proofs over values alone: loops over lists, numbers. -/
import Derived.Test.YtpilgmnhkgcgkaaEqK
import Derived.Test.YtpilgmnhkgcgkaaP4
set_option linter.unusedSimpArgs false
set_option linter.unusedVariables false
namespace Go.Pvm.S
open Go.Pvm Go.Proofs
noncomputable abbrev Cω : CallK := callωK cfg kcfg
noncomputable abbrev Lω : LoopK := loopωK cfg kcfg
theorem lw {f : FuncId} {cd : Code} {n0 : Nat} {e : List PV} {A : List KO} {r : Ex × List PV × List KO} (h : stepLKK cfg kcfg Cω Lω f cd n0 e A = some r) : Lω f cd n0 e A = some r := loopωK_of h
theorem cw {f : FuncId} {e : List PV} {A : List KO} {r : PV × List KO} (h : stepKK cfg kcfg Cω Lω f e A = some r) : Cω f e A = some r := callωK_of h
theorem pc {f : FuncId} {a : List PV} {v w : PV} {A : List KO} (h : stepKK cfg kcfg Cω Lω f a [] = some (v, A)) (hf : fzK fuelFz A v = w) : pcall Cω f a = some w := pcall_of h hf

/-! ### Loops over a list -/
abbrev Out := Ex × List PV × List KO
inductive Rnd (S : Type) where
  | out (r : Out)
  | on (s : S)
def runL {α S : Type} (step : Nat → α → S → Rnd S) (fin : S → Out) : List α → Nat → S → Out
  | [], _, s => fin s
  | a :: l, i, s => match step i a s with
    | .out r => r
    | .on s' => runL step fin l (i + 1) s'
theorem loopG {α S : Type} {f : FuncId} {cd : Code} {n0 : Nat} (E : Nat → S → List PV) (O : Nat → S → List KO) (l : List α) (step : Nat → α → S → Rnd S) (fin : S → Out) (Inv : Nat → S → Prop)
    (h1 : ∀ i a s, l[i]? = some a → i < l.length → Inv i s → match step i a s with
      | .out r => stepLKK cfg kcfg Cω Lω f cd n0 (E i s) (O i s) = some r
      | .on s' => Inv (i + 1) s' ∧ stepLKK cfg kcfg Cω Lω f cd n0 (E i s) (O i s) = Lω f cd n0 (E (i + 1) s') (O (i + 1) s'))
    (h2 : ∀ s, Inv l.length s → stepLKK cfg kcfg Cω Lω f cd n0 (E l.length s) (O l.length s) = some (fin s)) :
    ∀ (k i : Nat) (s : S), i + k = l.length → Inv i s → Lω f cd n0 (E i s) (O i s) = some (runL step fin (l.drop i) i s)
  | 0, i, s, hk, hi => by
    have : i = l.length := by omega
    subst this
    rw [List.drop_length]
    exact lw (h2 s hi)
  | k + 1, i, s, hk, hi => by
    have hil : i < l.length := by omega
    have hg := List.getElem?_eq_getElem hil
    rw [List.drop_eq_getElem_cons hil]
    unfold runL
    have := h1 i _ s hg hil hi
    cases hs : step i l[i] s with
    | out r =>
      rw [hs] at this
      exact lw this
    | on s' =>
      rw [hs] at this
      refine lw ?_
      rw [this.2]
      exact loopG E O l step fin Inv h1 h2 k (i + 1) s' (by omega) this.1
theorem loopL {α S : Type} {f : FuncId} {cd : Code} {n0 : Nat} (E : Nat → S → List PV) (O : Nat → S → List KO) (l : List α) (step : Nat → α → S → Rnd S) (fin : S → Out) (Inv : Nat → S → Prop)
    (h1 : ∀ i a s, l[i]? = some a → i < l.length → Inv i s → match step i a s with
      | .out r => stepLKK cfg kcfg Cω Lω f cd n0 (E i s) (O i s) = some r
      | .on s' => Inv (i + 1) s' ∧ stepLKK cfg kcfg Cω Lω f cd n0 (E i s) (O i s) = Lω f cd n0 (E (i + 1) s') (O (i + 1) s'))
    (h2 : ∀ s, Inv l.length s → stepLKK cfg kcfg Cω Lω f cd n0 (E l.length s) (O l.length s) = some (fin s)) (s : S) (h0 : Inv 0 s) :
    Lω f cd n0 (E 0 s) (O 0 s) = some (runL step fin l 0 s) := by
  have := loopG E O l step fin Inv h1 h2 l.length 0 s (by omega) h0
  rwa [List.drop_zero] at this

/-- All, each with its number. -/
def allI {α : Type} (p : Nat → α → Bool) : List α → Nat → Bool
  | [], _ => true
  | a :: l, i => p i a && allI p l (i + 1)
theorem allI_iff {α : Type} {p : Nat → α → Bool} : ∀ {l : List α} {i : Nat}, allI p l i = true ↔ ∀ j a, l[j]? = some a → p (i + j) a = true
  | [], i => by simp [allI]
  | b :: l, i => by
    simp only [allI, Bool.and_eq_true, allI_iff (l := l)]
    constructor
    · rintro ⟨h1, h2⟩ j a h
      cases j with
      | zero => cases h; exact h1
      | succ j => have := h2 j a h; rwa [show i + 1 + j = i + (j + 1) by omega] at this
    · intro h
      refine ⟨h 0 b rfl, fun j a hj => ?_⟩
      have := h (j + 1) a hj
      rwa [show i + (j + 1) = i + 1 + j by omega] at this
/-- The first that is so, with its number. -/
def findI {α : Type} (p : α → Bool) : List α → Nat → Option (Nat × α)
  | [], _ => none
  | a :: l, i => if p a = true then some (i, a) else findI p l (i + 1)
def fndO {α β : Type} (r : Option (Nat × α)) (g : Nat → α → β) (fin : β) : β := match r with
  | some x => g x.1 x.2
  | none => fin
theorem fndO_some {α β : Type} (x : Nat × α) (g : Nat → α → β) (fin : β) : fndO (some x) g fin = g x.1 x.2 := rfl
theorem fndO_none {α β : Type} (g : Nat → α → β) (fin : β) : fndO none g fin = fin := rfl
/-- One behind the other. -/
def foldI {α S : Type} (g : Nat → α → S → S) : List α → Nat → S → S
  | [], _, s => s
  | a :: l, i, s => foldI g l (i + 1) (g i a s)
theorem runL_check {α : Type} {p : Nat → α → Bool} {bad : Out} {fin : Unit → Out} : ∀ (l : List α) (i : Nat), runL (fun i a _ => if p i a = true then .on () else .out bad) fin l i () = if allI p l i = true then fin () else bad
  | [], i => by simp [runL, allI]
  | a :: l, i => by
    simp only [runL, allI, Bool.and_eq_true]
    by_cases h : p i a = true
    · rw [if_pos h]
      simp only
      rw [runL_check l (i + 1)]
      simp [h]
    · rw [if_neg h, if_neg (by simp [h])]
theorem runL_find {α : Type} {p : α → Bool} {g : Nat → α → Out} {fin : Unit → Out} : ∀ (l : List α) (i : Nat), runL (fun i a _ => if p a = true then .out (g i a) else .on ()) fin l i () = fndO (findI p l i) g (fin ())
  | [], i => rfl
  | a :: l, i => by
    simp only [runL, findI]
    by_cases h : p a = true
    · rw [if_pos h, if_pos h]; rfl
    · rw [if_neg h, if_neg h]
      exact runL_find l (i + 1)
theorem runL_fold {α S : Type} {g : Nat → α → S → S} {fin : S → Out} : ∀ (l : List α) (i : Nat) (s : S), runL (fun i a s => .on (g i a s)) fin l i s = fin (foldI g l i s)
  | [], i, s => rfl
  | a :: l, i, s => runL_fold l (i + 1) _
/-- A loop that looks whether all are so. -/
theorem loopCheck {α : Type} {f : FuncId} {cd : Code} {n0 : Nat} (E : Nat → List PV) (O : List KO) (l : List α) (p : Nat → α → Bool) (bad fin : Out)
    (h1 : ∀ i a, l[i]? = some a → i < l.length → stepLKK cfg kcfg Cω Lω f cd n0 (E i) O = if p i a = true then Lω f cd n0 (E (i + 1)) O else some bad)
    (h2 : stepLKK cfg kcfg Cω Lω f cd n0 (E l.length) O = some fin) : Lω f cd n0 (E 0) O = some (if allI p l 0 = true then fin else bad) := by
  have := loopL (fun i (_ : Unit) => E i) (fun _ _ => O) l (fun i a _ => if p i a = true then .on () else .out bad) (fun _ => fin) (fun _ _ => True) (fun i a s hg hi _ => by
    rw [h1 i a hg hi]
    cases h : p i a
    · rfl
    · exact ⟨trivial, rfl⟩) (fun _ _ => h2) () trivial
  rw [this, runL_check]
/-- A loop that looks for one. -/
theorem loopFind {α : Type} {f : FuncId} {cd : Code} {n0 : Nat} (E : Nat → List PV) (O : List KO) (l : List α) (p : α → Bool) (g : Nat → α → Out) (fin : Out)
    (h1 : ∀ i a, l[i]? = some a → i < l.length → stepLKK cfg kcfg Cω Lω f cd n0 (E i) O = if p a = true then some (g i a) else Lω f cd n0 (E (i + 1)) O)
    (h2 : stepLKK cfg kcfg Cω Lω f cd n0 (E l.length) O = some fin) : Lω f cd n0 (E 0) O = some (fndO (findI p l 0) g fin) := by
  have := loopL (fun i (_ : Unit) => E i) (fun _ _ => O) l (fun i a _ => if p a = true then .out (g i a) else .on ()) (fun _ => fin) (fun _ _ => True) (fun i a s hg hi _ => by
    rw [h1 i a hg hi]
    cases h : p a
    · exact ⟨trivial, rfl⟩
    · rfl) (fun _ _ => h2) () trivial
  rw [this, runL_find]
/-- A loop that goes through all, something growing. -/
theorem loopFold {α S : Type} {f : FuncId} {cd : Code} {n0 : Nat} (E : Nat → S → List PV) (O : Nat → S → List KO) (l : List α) (g : Nat → α → S → S) (fin : S → Out) (Inv : Nat → S → Prop)
    (h1 : ∀ i a s, l[i]? = some a → i < l.length → Inv i s → Inv (i + 1) (g i a s) ∧ stepLKK cfg kcfg Cω Lω f cd n0 (E i s) (O i s) = Lω f cd n0 (E (i + 1) (g i a s)) (O (i + 1) (g i a s)))
    (h2 : ∀ s, Inv l.length s → stepLKK cfg kcfg Cω Lω f cd n0 (E l.length s) (O l.length s) = some (fin s)) (s : S) (h0 : Inv 0 s) : Lω f cd n0 (E 0 s) (O 0 s) = some (fin (foldI g l 0 s)) := by
  rw [loopL E O l (fun i a s => .on (g i a s)) fin Inv (fun i a s hg hi hs => h1 i a s hg hi hs) h2 s h0, runL_fold]
theorem prev {α : Type} {l : List α} {i : Nat} {a : α} (hi : i < l.length) (h0 : 0 < i) : l[i - 1]? = some (l.getD (i - 1) a) := by
  rw [List.getD_eq_getElem?_getD, List.getElem?_eq_getElem (show i - 1 < l.length by omega)]; rfl
theorem findI_any {α : Type} {p : α → Bool} : ∀ (l : List α) (i : Nat), (findI p l i).isSome = l.any p
  | [], i => rfl
  | a :: l, i => by
    unfold findI
    rw [List.any_cons]
    by_cases h : p a = true
    · rw [if_pos h, h]; rfl
    · rw [if_neg h, findI_any l (i + 1)]; simp [h]
theorem findI_find {α : Type} {p : α → Bool} : ∀ (l : List α) (i : Nat), (findI p l i).map (·.2) = l.find? p
  | [], i => rfl
  | a :: l, i => by
    unfold findI
    rw [List.find?_cons]
    by_cases h : p a = true
    · rw [if_pos h, h]; rfl
    · have h' : p a = false := by simpa using h
      rw [if_neg h, h', findI_find l (i + 1)]
theorem findI_idx {α : Type} {p : α → Bool} : ∀ (l : List α) (i : Nat), (findI p l i).map (·.1) = (l.findIdx? p).map (i + ·)
  | [], i => rfl
  | a :: l, i => by
    unfold findI
    rw [List.findIdx?_cons]
    by_cases h : p a = true
    · rw [if_pos h, if_pos h]; rfl
    · rw [if_neg h, if_neg h, findI_idx l (i + 1), Option.map_map]
      congr 1
      funext j
      simp only [Function.comp]
      omega
theorem foldI_filter {α : Type} {p : α → Bool} : ∀ (l : List α) (i : Nat) (s : List α), foldI (fun _ a s => if p a = true then s ++ [a] else s) l i s = s ++ l.filter p
  | [], i, s => by simp [foldI]
  | a :: l, i, s => by
    unfold foldI
    rw [foldI_filter l (i + 1)]
    by_cases h : p a = true
    · rw [if_pos h, List.filter_cons_of_pos h, List.append_assoc]; rfl
    · rw [if_neg h, List.filter_cons_of_neg h]
theorem foldI_inv {α S : Type} {g : Nat → α → S → S} (Q : Nat → S → Prop) : ∀ (l : List α) (i : Nat) (s : S), Q i s → (∀ j a s, Q j s → Q (j + 1) (g j a s)) → Q (i + l.length) (foldI g l i s)
  | [], i, s, h, _ => h
  | a :: l, i, s, h, hg => by
    have := foldI_inv Q l (i + 1) _ (hg i a s h) hg
    rwa [show i + 1 + l.length = i + (a :: l).length by simp; omega] at this

/-! ### Slots -/
theorem mkS_hit {n i : Nat} (v : PV) (r : List (Nat × PV)) (h : i < n) : List.getD (mkS n ((i, v) :: r)) i .undef = v := by rw [getD_mkS h, List.lookup_cons]; simp
theorem mkS_miss {n i j : Nat} (v : PV) (r : List (Nat × PV)) (h : i < n) (h2 : i ≠ j) : List.getD (mkS n ((j, v) :: r)) i .undef = List.getD (mkS n r) i .undef := by
  rw [getD_mkS h, getD_mkS h, List.lookup_cons]
  have : (i == j) = false := by simpa using h2
  rw [this]

/-! ### Numbers, elements -/
theorem mapGet {α : Type} {f : α → List PV} {l : List α} {i : Nat} {a : α} (h : l[i]? = some a) : (l.map f)[i]? = some (f a) := by rw [List.getElem?_map, h]; rfl
theorem mapGetD {α : Type} {f : α → List PV} {l : List α} {i : Nat} {a : α} (h : l[i]? = some a) : (l.map f).getD i [] = f a := by rw [List.getD_eq_getElem?_getD, mapGet h]; rfl
theorem wrap_pred {i : Nat} (h0 : 0 < i) (h : i < 4611686018427387904) : IntKind.wrap .i64 (((i : Nat) : Int) - 1) = ((i - 1 : Nat) : Int) := by rw [wrap_i64 (by omega) (by omega)]; omega
theorem nn (i : Nat) : (0 : Int) ≤ ((i : Nat) : Int) := Int.natCast_nonneg i
theorem numNat (i d : Nat) : numOf (some (.int .i64 (i : Nat))) d = some i := by simp [numOf]
theorem numOfNil (d : Nat) : numOf none d = some d := rfl
theorem map_set {α : Type} {f : α → List PV} (l : List α) (i : Nat) (a : α) : (l.map f).set i (f a) = (l.set i a).map f := by rw [List.map_set]
theorem map_app1 {α : Type} {f : α → List PV} (l : List α) (a : α) : l.map f ++ [f a] = (l ++ [a]).map f := by rw [List.map_append]; rfl
theorem decI {p : Prop} [Decidable p] (h : p) : decide p = true := decide_eq_true h
theorem remI (t : TypeId) {x y : Int} (h : y ≠ 0) : binv Try.prog .rem t (.int .i64 x) (.int .i64 y) = some (.int .i64 (x.tmod y)) := by
  simp [binv, arith, h]
def ie (n : Int) : List PV := [.int .i64 n]
theorem ie_ok (n : Int) : (ie n).length = 1 ∧ (ie n).all PV.plain = true ∧ PV.own.owns (ie n) = true := ⟨rfl, rfl, rfl⟩
theorem ie_row : intRow = ie := rfl
theorem intsOf_map : ∀ l : List Int, intsOf (l.map ie) = some l
  | [] => rfl
  | n :: l => by
    show (intsOf (l.map ie)).map (n :: ·) = _
    rw [intsOf_map l]; rfl
theorem plain_of {α : Type} {e : α → List PV} {sz : Nat} (h : ∀ a, (e a).length = sz ∧ (e a).all PV.plain = true ∧ PV.own.owns (e a) = true) (l : List α) : rowsPl sz (l.map e) = true := rowsPl_map l fun a => ⟨(h a).1, (h a).2.1⟩
theorem half {i j : Nat} (h : i + j < 4611686018427387904) : IntKind.wrap .i64 (Int.fdiv (IntKind.wrap .u64 (IntKind.wrap .i64 (((i : Nat) : Int) + ((j : Nat) : Int)))) (2 ^ (min (Int.toNat 1) (IntKind.bits .u64)))) = (((i + j) / 2 : Nat) : Int) := by
  have e : (2 : Int) ^ (min (Int.toNat 1) (IntKind.bits .u64)) = 2 := by decide
  rw [e, wrap_i64 (x := ((i : Nat) : Int) + ((j : Nat) : Int)) (by omega) (by omega), wrap_u64 (by omega) (by omega), Int.fdiv_eq_ediv_of_nonneg _ (by decide), wrap_i64 (by omega) (by omega)]
  omega
theorem prevAt {α : Type} {e : α → List PV} {l : List α} {i : Nat} (a : α) (hi : i < l.length) (hl : l.length < 4611686018427387904) (h0 : 0 < i) : (l.map e)[Int.toNat (IntKind.wrap .i64 (((i : Nat) : Int) - 1))]? = some (e (l.getD (i - 1) a)) ∧ (0 : Int) ≤ IntKind.wrap .i64 (((i : Nat) : Int) - 1) := by
  rw [wrap_pred h0 (by omega), Int.toNat_natCast, mapGet (prev (a := a) hi h0)]
  exact ⟨rfl, nn _⟩
theorem posNat (i : Nat) : ((0 : Int) < ((i : Nat) : Int)) = (0 < i) := by simp
theorem findI_spec {α : Type} {p : α → Bool} : ∀ {l : List α} {i : Nat} {x : Nat × α}, findI p l i = some x → i ≤ x.1 ∧ x.1 < i + l.length ∧ l[x.1 - i]? = some x.2 ∧ p x.2 = true ∧ ∀ k a, k < x.1 - i → l[k]? = some a → p a = false
  | [], i, x, h => by cases h
  | a :: l, i, x, h => by
    unfold findI at h
    by_cases hp : p a = true
    · rw [if_pos hp] at h
      cases h
      refine ⟨Nat.le_refl _, by simp, by simp, hp, fun k b hk _ => by omega⟩
    · rw [if_neg hp] at h
      obtain ⟨h1, h2, h3, h4, h5⟩ := findI_spec h
      refine ⟨by omega, by simp; omega, ?_, h4, fun k b hk hb => ?_⟩
      · rw [show x.1 - i = (x.1 - (i + 1)) + 1 by omega, List.getElem?_cons_succ]; exact h3
      · cases k with
        | zero => cases hb; simpa using hp
        | succ k => exact h5 k b (by omega) hb
theorem eqAll {α : Type} [DecidableEq α] : ∀ {a : List α} {c : List α} {k : Nat}, k + a.length = c.length → allI (fun i x => decide (c[i]? = some x)) a k = decide (a = c.drop k)
  | [], c, k, h => by
    rw [List.drop_of_length_le (by simp at h; omega)]; rfl
  | x :: a, c, k, h => by
    have hk : k < c.length := by simp at h; omega
    unfold allI
    rw [eqAll (a := a) (c := c) (k := k + 1) (by simp at h ⊢; omega), List.drop_eq_getElem_cons hk, List.getElem?_eq_getElem hk]
    by_cases h1 : c[k] = x
    · by_cases h2 : a = c.drop (k + 1)
      · rw [decide_eq_true (congrArg some h1), decide_eq_true h2, decide_eq_true (by rw [← h2, h1])]; rfl
      · rw [decide_eq_false h2, decide_eq_false (fun e => h2 (List.cons.inj e).2), Bool.and_false]
    · rw [decide_eq_false (fun e => h1 (Option.some.inj e)), decide_eq_false (fun e => h1 (List.cons.inj e).1.symm), Bool.false_and]
theorem eqAll0 {α : Type} [DecidableEq α] {a b : List α} (h : a.length = b.length) : allI (fun i x => decide (b[i]? = some x)) a 0 = decide (a = b) := by
  rw [eqAll (by omega), List.drop_zero]
theorem neLen {a b : Nat} : ((((a : Nat) : Int) != ((b : Nat) : Int)) = true) = (a ≠ b) := by
  rw [bne_iff_ne]; simp [Int.natCast_inj]
/-! ### Laid in order -/
/-- Laid ahead of the first that is so. -/
def insB {α : Type} (bf : α → Bool) (x : α) : List α → List α
  | [] => [x]
  | a :: l => if bf a = true then x :: a :: l else a :: insB bf x l
def insG {α : Type} (bf : α → Bool) (x : α) : Nat → α → Bool × List α → Bool × List α := fun _ a s => if (!s.1 && bf a) = true then (true, s.2 ++ [x] ++ [a]) else (s.1, s.2 ++ [a])
theorem foldI_done {α : Type} {bf : α → Bool} {x : α} : ∀ (l : List α) (i : Nat) (acc : List α), foldI (insG bf x) l i (true, acc) = (true, acc ++ l)
  | [], i, acc => by simp [foldI]
  | a :: l, i, acc => by
    unfold foldI
    show foldI (insG bf x) l (i + 1) (if (!true && bf a) = true then _ else (true, acc ++ [a])) = _
    rw [if_neg (by simp), foldI_done l, List.append_assoc]; rfl
theorem foldI_ins {α : Type} {bf : α → Bool} {x : α} : ∀ (l : List α) (i : Nat) (acc : List α), (if (foldI (insG bf x) l i (false, acc)).1 = true then (foldI (insG bf x) l i (false, acc)).2 else (foldI (insG bf x) l i (false, acc)).2 ++ [x]) = acc ++ insB bf x l
  | [], i, acc => rfl
  | a :: l, i, acc => by
    unfold foldI insB
    by_cases h : bf a = true
    · have : insG bf x i a (false, acc) = (true, acc ++ [x] ++ [a]) := by unfold insG; rw [if_pos (by simp [h])]
      rw [this, foldI_done, if_pos h, if_pos rfl]
      simp
    · have : insG bf x i a (false, acc) = (false, acc ++ [a]) := by unfold insG; rw [if_neg (by simp [h])]
      rw [this, if_neg h, foldI_ins l, List.append_assoc]; rfl
theorem insB_at {α : Type} {bf : α → Bool} {x : α} : ∀ {l : List α} {p : Nat}, p ≤ l.length → (∀ k a, l[k]? = some a → k < p → bf a = false) → (∀ a, l[p]? = some a → bf a = true) → insB bf x l = l.take p ++ x :: l.drop p
  | [], p, h, _, _ => by
    have : p = 0 := by simpa using h
    subst this; rfl
  | a :: l, 0, h, _, h2 => by
    unfold insB
    rw [if_pos (h2 a rfl)]; rfl
  | a :: l, p + 1, h, h1, h2 => by
    unfold insB
    have h9 : bf a = false := h1 0 a rfl (Nat.succ_pos p)
    have ih : insB bf x l = l.take p ++ x :: l.drop p := insB_at (Nat.le_of_succ_le_succ h) (fun k b hb hk => h1 (k + 1) b hb (Nat.succ_lt_succ hk)) (fun b hb => h2 b hb)
    rw [if_neg (by rw [h9]; decide), ih]
    rfl
theorem chain_all {α : Type} {lt : α → α → Prop} (tr : ∀ a b c, lt a b → lt b c → lt a c) {l : List α} (h : ∀ i a b, l[i]? = some a → l[i + 1]? = some b → lt a b) : ∀ (d i : Nat) (a b : α), l[i]? = some a → l[i + d + 1]? = some b → lt a b
  | 0, i, a, b, h1, h2 => h i a b h1 h2
  | d + 1, i, a, b, h1, h2 => by
    have hlt : i + d + 1 < l.length := by have := (List.getElem?_eq_some_iff.1 h2).1; omega
    have hg := List.getElem?_eq_getElem hlt
    exact tr _ _ _ (chain_all tr h d i a _ h1 hg) (h (i + d + 1) _ b hg h2)
theorem chain_lt {α : Type} {lt : α → α → Prop} (tr : ∀ a b c, lt a b → lt b c → lt a c) {l : List α} (h : ∀ i a b, l[i]? = some a → l[i + 1]? = some b → lt a b) {i j : Nat} {a b : α} (hij : i < j) (h1 : l[i]? = some a) (h2 : l[j]? = some b) : lt a b :=
  chain_all tr h (j - i - 1) i a b h1 (by rw [show i + (j - i - 1) + 1 = j by omega]; exact h2)
/-- Where those end that are so, if they stand ahead of all others. -/
theorem front_spec {α : Type} {q : α → Bool} {l : List α} (h : ∀ (i j : Nat) (a b : α), i < j → l[i]? = some a → l[j]? = some b → q b = true → q a = true) : (l.takeWhile q).length ≤ l.length ∧ ∀ (k : Nat) (a : α), l[k]? = some a → (q a = true ↔ k < (l.takeWhile q).length) := by
  induction l with
  | nil => exact ⟨Nat.le_refl _, fun k a h => by simp at h⟩
  | cons x l ih =>
    obtain ⟨h1, h2⟩ := ih fun i j a b hij ha hb => h (i + 1) (j + 1) a b (by omega) ha hb
    by_cases hx : q x = true
    · rw [List.takeWhile_cons_of_pos hx]
      refine ⟨by simpa using h1, fun k a hk => ?_⟩
      cases k with
      | zero => cases hk; simp [hx]
      | succ k => rw [h2 k a hk]; simp
    · rw [List.takeWhile_cons_of_neg hx]
      refine ⟨by simp, fun k a hk => ⟨fun hq => ?_, fun hk => by simp at hk⟩⟩
      cases k with
      | zero => cases hk; exact absurd hq hx
      | succ k => exact absurd (h 0 (k + 1) x a (by omega) rfl hk hq) hx
theorem zcast : ((0 : Nat) : Int) = 0 := rfl
end Go.Pvm.S
