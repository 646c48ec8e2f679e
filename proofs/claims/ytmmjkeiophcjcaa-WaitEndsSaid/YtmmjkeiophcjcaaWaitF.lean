/- Part of the proof: the reference's readers of waits. -/
import Derived.Test.YtmmjkeiophcjcaaWaitE
set_option linter.unusedSimpArgs false
set_option linter.unusedVariables false
set_option maxRecDepth 100000
namespace Go.Pvm.Wait
open Go.Pvm Go.Proofs

theorem en9 : enters Try.prog 9 = true := by kernel_rfl
theorem en10 : enters Try.prog 10 = true := by kernel_rfl
theorem en11 : enters Try.prog 11 = true := by kernel_rfl
theorem en12 : enters Try.prog 12 = true := by kernel_rfl
theorem en13 : enters Try.prog 13 = true := by kernel_rfl
theorem en22 : enters Try.prog 22 = true := by kernel_rfl
theorem en23 : enters Try.prog 23 = true := by kernel_rfl
theorem en24 : enters Try.prog 24 = true := by kernel_rfl
theorem en29 : enters Try.prog 29 = true := by kernel_rfl

section
variable {v : PV} {l : List W} {σ : Store}
theorem sp10 (n : Int) : pureω cfg 10 [.int .i64 n] = some (.bool (inR n)) := by
  refine pureω_of hT (v := .bool (inR n)) (τ := .empty) ((eq10 _ _ _ _).trans ?_) rfl
  unfold inR
  by_cases h : 1 ≤ n
  · have : decide (n < 2147483648) = decide (n ≤ 2147483647) := by rw [decide_eq_decide]; omega
    simp [h, this]
  · simp [h]
theorem cE10 {c2 : Cfg} (hm : c2.mode 10 = .pure) (hP : c2.P = Try.prog) (n : Int) (σ : Store) : callE c2 (callω cfg) 10 [.int .i64 n] σ = some (.bool (inR n), σ) :=
  callE_pure hm (by rw [hP]; exact en10) rfl (sp10 n) (.inl rfl)

def has (l : List W) (n : Int) : Bool := l.any fun w => w.1 == n

theorem lp22 (h : IsW v l) (n : Int) (hl : l.length < 4611686018427387904) (σ : Store) : ∀ (r i : Nat), i + r = l.length →
    loopω cfg 22 lc22_2 (st22_2 v n (i : Nat)) σ = some (if has (l.drop i) n = true then (.ret, ret22_2 true, σ) else (.exit 0, out22_2, σ))
  | 0, i, hi => by
    refine loopω_ofK ((lq22_2 _ _ _ _ _ _).trans ?_)
    have : ¬ ((i : Nat) : Int) < (l.length : Nat) := by omega
    simp only [h.len, bind_some', asInt_int, this, decide_false, Bool.false_eq_true, if_false]
    rw [List.drop_eq_nil_of_le (by omega)]
    rfl
  | r + 1, i, hi => by
    refine loopω_ofK ((lq22_2 _ _ _ _ _ _).trans ?_)
    have hlt : ((i : Nat) : Int) < (l.length : Nat) := by omega
    have hw := List.getElem?_eq_getElem (show i < l.length by omega)
    have hd : l.drop i = l[i]'(by omega) :: l.drop (i + 1) := (List.drop_eq_getElem_cons (by omega))
    have hwr : IntKind.wrap .i64 (((i : Nat) : Int) + 1) = ((i + 1 : Nat) : Int) := by rw [wrap_i64 (by omega) (by omega)]; rfl
    simp only [h.len, bind_some', asInt_int, hlt, decide_true, if_true, h.idx hw, fa0, ld3w]
    rw [hd]
    by_cases hb : (l[i]'(by omega)).1 = n
    · have hb' : ((l[i]'(by omega)).1 == n) = true := by simpa using hb
      simp [has, hb', hb]
    · have hb' : ((l[i]'(by omega)).1 == n) = false := by simpa using hb
      simp only [hb', Bool.false_eq_true, if_false, hwr, lp22 h n hl σ r (i + 1) (by omega)]
      have hh : has (l[i]'(by omega) :: l.drop (i + 1)) n = has (l.drop (i + 1)) n := by
        show (((l[i]'(by omega)).1 == n) || has (l.drop (i + 1)) n) = _
        rw [hb']; rfl
      rw [hh]

theorem sp22 (h : IsW v l) (n : Int) (hl : l.length < 4611686018427387904) : pureω cfg 22 [v, .int .i64 n] = some (.bool (has l n)) := by
  refine pureω_of hT (v := .bool (has l n)) (τ := .empty) ((eq22 _ _ _ _ _).trans ?_) rfl
  have h0 := lp22 h n hl .empty l.length 0 (by omega)
  have hz : ((0 : Nat) : Int) = 0 := rfl
  rw [hz, List.drop_zero] at h0
  rw [h0]
  cases hq : has l n with
  | true => simp only [if_true, bind_some', onEx_ret, ret22_2_4, asBool_bool]
  | false => simp only [Bool.false_eq_true, if_false, bind_some', onEx_exit, if_true]
theorem cE22 {c2 : Cfg} (hm : c2.mode 22 = .pure) (hP : c2.P = Try.prog) (h : IsW v l) (n : Int) (hl : l.length < 4611686018427387904) (σ : Store) : callE c2 (callω cfg) 22 [v, .int .i64 n] σ = some (.bool (has l n), σ) :=
  callE_pure hm (by rw [hP]; exact en22) (by simp only [List.map_cons, List.map_nil, h.frz, frz_int]) (sp22 h n hl) (.inl rfl)

/-- The second part of the first wait whose first part is n. -/
def next_ (l : List W) (n : Int) : Int := match l.find? (fun w => w.1 == n) with | some w => w.2 | none => 0

theorem lp29 (h : IsW v l) (n : Int) (hl : l.length < 4611686018427387904) (σ : Store) : ∀ (r i : Nat), i + r = l.length →
    loopω cfg 29 lc29_2 (st29_2 v n (i : Nat)) σ = some (match (l.drop i).find? (fun w => w.1 == n) with | some w => (.ret, ret29_2 w.2, σ) | none => (.exit 0, out29_2, σ))
  | 0, i, hi => by
    refine loopω_ofK ((lq29_2 _ _ _ _ _ _).trans ?_)
    have : ¬ ((i : Nat) : Int) < (l.length : Nat) := by omega
    simp only [h.len, bind_some', asInt_int, this, decide_false, Bool.false_eq_true, if_false]
    rw [List.drop_eq_nil_of_le (by omega)]
    rfl
  | r + 1, i, hi => by
    refine loopω_ofK ((lq29_2 _ _ _ _ _ _).trans ?_)
    have hlt : ((i : Nat) : Int) < (l.length : Nat) := by omega
    have hw := List.getElem?_eq_getElem (show i < l.length by omega)
    have hd : l.drop i = l[i]'(by omega) :: l.drop (i + 1) := (List.drop_eq_getElem_cons (by omega))
    have hwr : IntKind.wrap .i64 (((i : Nat) : Int) + 1) = ((i + 1 : Nat) : Int) := by rw [wrap_i64 (by omega) (by omega)]; rfl
    simp only [h.len, bind_some', asInt_int, hlt, decide_true, if_true, h.idx hw, fa0, fa1, ld3, ld3w]
    rw [hd, List.find?_cons]
    cases hb : ((l[i]'(by omega)).1 == n) with
    | true => simp only [if_true]
    | false => simp only [Bool.false_eq_true, if_false, hwr, lp29 h n hl σ r (i + 1) (by omega)]

theorem sp29 (h : IsW v l) (n : Int) (hl : l.length < 4611686018427387904) : pureω cfg 29 [v, .int .i64 n] = some (.int .i64 (next_ l n)) := by
  refine pureω_of hT (v := .int .i64 (next_ l n)) (τ := .empty) ((eq29 _ _ _ _ _).trans ?_) rfl
  have h0 := lp29 h n hl .empty l.length 0 (by omega)
  have hz : ((0 : Nat) : Int) = 0 := rfl
  rw [hz, List.drop_zero] at h0
  rw [h0]
  unfold next_
  cases l.find? (fun w => w.1 == n) with
  | none => simp only [bind_some', onEx_exit, if_true]
  | some w => simp only [bind_some', onEx_ret, ret29_2_4, asInt_int]
theorem cE29 {c2 : Cfg} (hm : c2.mode 29 = .pure) (hP : c2.P = Try.prog) (h : IsW v l) (n : Int) (hl : l.length < 4611686018427387904) (σ : Store) : callE c2 (callω cfg) 29 [v, .int .i64 n] σ = some (.int .i64 (next_ l n), σ) :=
  callE_pure hm (by rw [hP]; exact en29) (by simp only [List.map_cons, List.map_nil, h.frz, frz_int]) (sp29 h n hl) (.inl rfl)
end
end Go.Pvm.Wait
