/- Part of the proof: lists of waits: what the readers of the program come to. -/
import Derived.Test.YtmmjkeiophcjcaaWaitEq
import Derived.Test.YtmmjkeiophcjcaaV23
set_option linter.unusedSimpArgs false
set_option linter.unusedVariables false
set_option maxRecDepth 100000
namespace Go.Pvm.Wait
open Go.Pvm Go.Proofs

abbrev W := Int × Int
def cW (w : W) : List PV := [.int .i64 w.1, .int .i64 w.2]
def IsW (v : PV) (l : List W) : Prop := (v = .nilsl ∧ l = []) ∨ ∃ b, v = .psl b (l.map cW)

theorem hT (f : FuncId) : cfg.told f = none := rfl

section
variable {v : PV} {l : List W} {σ : Store}
theorem IsW.len (h : IsW v l) : pureB Try.prog .len [22] [v] = some (.int .i64 (l.length : Nat)) := by
  rcases h with ⟨rfl, rfl⟩ | ⟨b, rfl⟩
  · have : pureB Try.prog .len [22] [.nilsl] = some (.int .i64 0) := by kernel_rfl
    rw [this]; rfl
  · have : ∀ es : List (List PV), pureB Try.prog .len [22] [.psl b es] = some (.int .i64 (es.length : Nat)) := by intro es; kernel_rfl
    rw [this]; simp
theorem ia (b : Bool) (es : List (List PV)) (i : Int) : indexAddrv Try.prog 22 (.psl b es) (.int .i64 i) = if 0 ≤ i then (es[i.toNat]?).bind fun e => if e.length = 2 then some (.pref e) else none else none := by kernel_rfl
theorem IsW.idx (h : IsW v l) {i : Nat} {w : W} (hi : l[i]? = some w) : indexAddrv Try.prog 22 v (.int .i64 (i : Nat)) = some (.pref (cW w)) := by
  rcases h with ⟨rfl, rfl⟩ | ⟨b, rfl⟩
  · simp at hi
  · rw [ia]
    simp [hi, cW]
theorem ld38 (σ : Store) (w : W) : loadv Try.prog σ 38 (.pref (cW w)) = some (.agg (cW w)) := by
  have : ∀ a b : PV, loadv Try.prog σ 38 (.pref [a, b]) = some (.agg [a, b]) := by intro a b; kernel_rfl
  exact this _ _
theorem fa0 (w : W) : fieldAddrv Try.prog 38 (.pref (cW w)) 0 = some (.pref (cW w)) := by
  have : ∀ a b : PV, fieldAddrv Try.prog 38 (.pref [a, b]) 0 = some (.pref [a, b]) := by intro a b; kernel_rfl
  exact this _ _
theorem fa1 (w : W) : fieldAddrv Try.prog 38 (.pref (cW w)) 1 = some (.pref [.int .i64 w.2]) := by
  have : ∀ a b : PV, fieldAddrv Try.prog 38 (.pref [a, b]) 1 = some (.pref [b]) := by intro a b; kernel_rfl
  exact this _ _
theorem ld3 (σ : Store) (c : PV) (r : List PV) : loadv Try.prog σ 3 (.pref (c :: r)) = some c := by kernel_rfl
theorem ld3w (σ : Store) (w : W) : loadv Try.prog σ 3 (.pref (cW w)) = some (.int .i64 w.1) := ld3 _ _ _
theorem IsW.frz (h : IsW v l) (σ : Store) : fz fuelFz σ v = v := by rcases h with ⟨rfl, rfl⟩ | ⟨b, rfl⟩ <;> rfl
theorem IsW.lf (h : IsW v l) : v.lf = true := by rcases h with ⟨rfl, rfl⟩ | ⟨b, rfl⟩ <;> rfl

theorem en7 : enters Try.prog 7 = true := by kernel_rfl
theorem en17 : enters Try.prog 17 = true := by kernel_rfl
theorem en19 : enters Try.prog 19 = true := by kernel_rfl
theorem en20 : enters Try.prog 20 = true := by kernel_rfl
theorem en26 : enters Try.prog 26 = true := by kernel_rfl
theorem en27 : enters Try.prog 27 = true := by kernel_rfl
theorem en28 : enters Try.prog 28 = true := by kernel_rfl

/-- A cell of a variable just laid. -/
theorem ldNew (σ : Store) (x : Int) : loadv Try.prog (Store.push σ (.cells 0 [[.int .i64 x]])) 3 (.ref σ.next 0 (0 + 0)) = some (.int .i64 x) := by
  have h : (Store.push σ (.cells 0 [[.int .i64 x]])).objs σ.next = some (.cells 0 [[.int .i64 x]]) := by simp [Store.push]
  have h2 : partOf Try.prog 3 [.int .i64 x] (0 + 0) = some (.int .i64 x) := by kernel_rfl
  simp only [loadv, h]
  simpa using h2

theorem sp28 (w : W) (n : Int) : pureω cfg 28 [.agg (cW w), .pref [.int .i64 n]] = some (.bool (w.1 == n)) := by
  refine pureω_of hT (v := .bool (w.1 == n)) (τ := Store.push .empty (.cells 0 [cW w])) ((eq28 _ _ _ _ _ _).trans ?_) rfl
  have h : (Store.push Store.empty (.cells 0 [cW w])).objs Store.empty.next = some (.cells 0 [cW w]) := by simp [Store.push]
  have h2 : ∀ a b : PV, partOf Try.prog 3 [a, b] (0 + 0) = some a := by intro a b; kernel_rfl
  have h3 : loadv Try.prog (Store.push Store.empty (.cells 0 [cW w])) 3 (.ref Store.empty.next 0 (0 + 0)) = some (.int .i64 w.1) := by
    simp only [loadv, h]
    exact h2 _ _
  show (loadv Try.prog (Store.push Store.empty (.cells 0 [cW w])) 3 (.ref Store.empty.next 0 (0 + 0))).bind _ = _
  rw [h3]
  simp only [bind_some', asInt_int, ld3]
  rfl

/-- The first element that a closure takes. -/
theorem lp27 (h : IsW v l) {g : FuncId} {cs : List PV} {p : W → Bool} (hp : ∀ w ∈ l, ∀ σ, callE cfg (callω cfg) g ([.agg (cW w)] ++ cs) σ = some (.bool (p w), σ)) (hl : l.length < 4611686018427387904) (σ : Store) :
    ∀ (k i : Nat), i + k = l.length → loopω cfg 27 lc27_2 (st27_2 v (.func g cs) (l.length : Nat) (i : Nat)) σ = some (match (l.drop i).findIdx? p with | some j => (.ret, ret27_2 ((i + j : Nat) : Int), σ) | none => (.exit 0, out27_2, σ))
  | 0, i, hi => by
    refine loopω_ofK ((lq27_2 _ _ _ _ _ _ _).trans ?_)
    have : ¬ ((i : Nat) : Int) < (l.length : Nat) := by omega
    simp only [this, decide_false, Bool.false_eq_true, if_false]
    rw [List.drop_eq_nil_of_le (by omega)]
    rfl
  | k + 1, i, hi => by
    refine loopω_ofK ((lq27_2 _ _ _ _ _ _ _).trans ?_)
    have hlt : ((i : Nat) : Int) < (l.length : Nat) := by omega
    have hw := List.getElem?_eq_getElem (show i < l.length by omega)
    have hx := hp _ (List.mem_of_getElem? hw) σ
    simp only [hlt, decide_true, if_true, h.idx hw, ld38, bind_some', fnv_func, hx, asBool_bool]
    have hd : l.drop i = l[i]'(by omega) :: l.drop (i + 1) := (List.drop_eq_getElem_cons (by omega))
    rw [hd, List.findIdx?_cons]
    by_cases hb : p (l[i]'(by omega)) = true
    · rw [if_pos hb, if_pos hb]
      rfl
    · rw [if_neg hb, if_neg hb]
      have hwr : IntKind.wrap .i64 (((i : Nat) : Int) + 1) = ((i + 1 : Nat) : Int) := by rw [wrap_i64 (by omega) (by omega)]; rfl
      rw [hwr, lp27 h hp hl σ k (i + 1) (by omega)]
      cases (l.drop (i + 1)).findIdx? p with
      | none => rfl
      | some j => simp only [Option.map_some]; rw [show i + 1 + j = i + (j + 1) by omega]

def idxI (o : Option Nat) : Int := match o with | some j => (j : Nat) | none => -1

theorem sp27 (h : IsW v l) {g : FuncId} {cs : List PV} {p : W → Bool} (hp : ∀ w ∈ l, ∀ σ, callE cfg (callω cfg) g ([.agg (cW w)] ++ cs) σ = some (.bool (p w), σ)) (hl : l.length < 4611686018427387904) :
    pureω cfg 27 [v, .func g cs] = some (.int .i64 (idxI (l.findIdx? p))) := by
  refine pureω_of hT (v := .int .i64 (idxI (l.findIdx? p))) (τ := .empty) ((eq27 _ _ _ _ _).trans ?_) rfl
  have h0 := lp27 h hp hl .empty l.length 0 (by omega)
  simp only [h.len, bind_some', asInt_int]
  have hz : ((0 : Nat) : Int) = 0 := rfl
  rw [hz] at h0
  rw [h0, List.drop_zero]
  cases l.findIdx? p with
  | none => simp [onEx_exit, idxI]
  | some j => simp only [onEx_ret, idxI, ret27_2_4, asInt_int, Nat.zero_add]; rfl

/-- Where a wait's first part is n. -/
def at_ (l : List W) (n : Int) : Option Nat := l.findIdx? fun w => w.1 == n

theorem sp19 (h : IsW v l) (n : Int) (hl : l.length < 4611686018427387904) : pureω cfg 19 [v, .int .i64 n] = some (.int .i64 (idxI (at_ l n))) := by
  refine pureω_of hT (v := .int .i64 (idxI (at_ l n))) (τ := Store.push .empty (.cells 0 [[.int .i64 n]])) ((eq19 _ _ _ _ _).trans ?_) rfl
  have hc := callE_pure (c2 := cfg) (cfg := cfg) (σ := Store.push .empty (.cells 0 [[.int .i64 n]])) (f := 27) (args := [v, .func 28 [.ref (Store.next .empty) 0 0]]) (args' := [v, .func 28 [.pref [.int .i64 n]]]) rfl en27 (by
    simp only [List.map_cons, List.map_nil, h.frz, frz_func, frz_new]) (sp27 h (p := fun w => w.1 == n) (fun w _ σ => callE_pure rfl en28 (by simp [Pvm.fz, fuelFz, cW]) (sp28 w n) (.inl rfl)) hl) (.inl rfl)
  rw [hc]
  simp only [bind_some', asInt_int]
  rfl
end
end Go.Pvm.Wait
