/- Part of the proof: the evaluator without a count: what some count of rounds yields. -/
import Derived.Test.YtkipbdbmeanffaaV17
set_option linter.unusedSimpArgs false
set_option linter.unusedVariables false
namespace Go.Pvm

def CLe (C C' : CallO) : Prop := ∀ f a σ r, C f a σ = some r → C' f a σ = some r
def LLe (L L' : LoopO) : Prop := ∀ f c e σ r, L f c e σ = some r → L' f c e σ = some r

section
variable {cfg : Cfg} {C C' : CallO} {L L' : LoopO} {f : FuncId}

theorem callv_mono (hC : CLe C C') {g : FuncId} {args : List PV} {σ : Store} {r : PV × Store} (h : callv cfg C g args σ = some r) : callv cfg C' g args σ = some r := by
  unfold callv at h ⊢
  split
  · rename_i hm; rw [hm] at h; exact hC _ _ _ _ h
  · rename_i hm
    rw [hm] at h
    simp only [Option.bind_eq_some_iff] at h
    obtain ⟨⟨v, τ⟩, h1, h2⟩ := h
    simp only [hC _ _ _ _ h1, Option.bind_some]
    exact h2
  · rename_i hm
    rw [hm] at h
    simp only [Option.bind_eq_some_iff] at h
    obtain ⟨⟨v, τ⟩, h1, h2⟩ := h
    simp only [hC _ _ _ _ h1, Option.bind_some]
    exact h2
  · rename_i hm
    rw [hm] at h
    simp only [Option.bind_eq_some_iff] at h
    obtain ⟨⟨v, τ⟩, h1, h2⟩ := h
    simp only [hC _ _ _ _ h1, Option.bind_some]
    exact h2

theorem evalOp_mono (hC : CLe C C') {env : List PV} {σ : Store} {o : Oper} {r : PV × Store} (h : evalOp cfg C env σ o = some r) : evalOp cfg C' env σ o = some r := by
  obtain ⟨dst, op, type, pos, after, guard⟩ := o
  cases op
  case call c =>
    obtain ⟨callee, args, ts⟩ := c
    cases callee
    case builtin b => exact h
    case value x =>
      have h' : (match opd env x with | .func g cs => if enters cfg.P g = true then callv cfg C g (args.toList.map (opd env) ++ cs) σ else none | _ => none) = some r := h
      show (match opd env x with | .func g cs => if enters cfg.P g = true then callv cfg C' g (args.toList.map (opd env) ++ cs) σ else none | _ => none) = some r
      generalize opd env x = z at h' ⊢
      cases z <;> simp only at h' ⊢ <;> first | (cases h'; done) | skip
      split at h'
      · rename_i he
        rw [if_pos he]
        exact callv_mono hC h'
      · cases h'
    case invoke x m => exact h
  case makeFunc fn fs cs => cases fn <;> exact h
  all_goals exact h

theorem evalOps_mono (hC : CLe C C') {all : List Oper} : ∀ (l : List Oper) (env : List PV) (σ : Store) (r : List PV × Store), evalOps cfg C all l env σ = some r → evalOps cfg C' all l env σ = some r
  | [], env, σ, r, h => h
  | o :: l, env, σ, r, h => by
    simp only [evalOps, Option.bind_eq_some_iff] at h ⊢
    obtain ⟨b, hb, h⟩ := h
    refine ⟨b, hb, ?_⟩
    split at h
    · rename_i hbt
      rw [if_pos hbt]
      rw [Option.bind_eq_some_iff] at h ⊢
      obtain ⟨x, h1, h2⟩ := h
      exact ⟨x, evalOp_mono hC h1, evalOps_mono hC l _ _ _ h2⟩
    · rename_i hbt
      rw [if_neg hbt]
      exact evalOps_mono hC l _ _ _ h

theorem evalCode_mono (hC : CLe C C') (hL : LLe L L') : ∀ (c : Code) (env : List PV) (σ : Store) (r : Ex × List PV × Store), evalCode cfg C L f c env σ = some r → evalCode cfg C' L' f c env σ = some r
  | .skip, _, _, _, h | .label _, _, _, _, h | .exit _, _, _, _, h | .ret, _, _, _, h => h
  | .region _ ops draw, env, σ, r, h => by
    simp only [evalCode, Option.bind_eq_some_iff, Option.map_eq_some_iff] at h ⊢
    obtain ⟨p, h0, x, h1, h2⟩ := h
    refine ⟨p, h0, x, ?_, h2⟩
    unfold evalReg at h1 ⊢
    split at h1
    · rename_i hd
      rw [if_pos hd]
      split at h1
      · rename_i hk
        rw [if_pos hk]
        exact evalOps_mono hC _ _ _ _ h1
      · cases h1
    · rename_i hd
      rw [if_neg hd]
      exact evalOps_mono hC _ _ _ _ h1
  | .seq a b, env, σ, r, h => by
    simp only [evalCode, Option.bind_eq_some_iff] at h ⊢
    obtain ⟨⟨y, e, s⟩, h1, h2⟩ := h
    refine ⟨(y, e, s), evalCode_mono hC hL a _ _ _ h1, ?_⟩
    cases y with
    | normal => exact evalCode_mono hC hL b _ _ _ h2
    | exit i => exact h2
    | ret => exact h2
  | .cond c a b, env, σ, r, h => by
    simp only [evalCode] at h ⊢
    generalize opd env c = z at h ⊢
    cases z <;> simp only at h ⊢ <;> first | (cases h; done) | skip
    rename_i t
    cases t
    · exact evalCode_mono hC hL b _ _ _ h
    · exact evalCode_mono hC hL a _ _ _ h
  | .block id c, env, σ, r, h => by
    simp only [evalCode, Option.map_eq_some_iff] at h ⊢
    obtain ⟨x, h1, h2⟩ := h
    exact ⟨x, evalCode_mono hC hL c _ _ _ h1, h2⟩
  | .loop c, env, σ, r, h => by
    simp only [evalCode, Option.map_eq_some_iff] at h ⊢
    obtain ⟨x, h1, h2⟩ := h
    exact ⟨x, hL _ _ _ _ _ h1, h2⟩
  | .rangeFunc .., _, _, _, h | .scope _, _, _, _, h | .goto _, _, _, _, h | .refuse _, _, _, _, h => by simp only [evalCode] at h; cases h

theorem stepC_mono (hC : CLe C C') (hL : LLe L L') : CLe (stepC cfg C L) (stepC cfg C' L') := by
  intro g a σ r h
  unfold stepC at h ⊢
  split
  · rename_i g' hg; rw [hg] at h; exact h
  · rename_i hg
    rw [hg] at h
    simp only at h
    split
    · rename_i fn hf
      rw [hf] at h
      simp only at h
      split
      · rename_i c hc
        rw [hc] at h
        simp only [Option.bind_eq_some_iff] at h ⊢
        obtain ⟨x, h1, h2⟩ := h
        exact ⟨x, evalCode_mono hC hL _ _ _ _ h1, h2⟩
      · rename_i hc; rw [hc] at h; cases h
    · rename_i hf; rw [hf] at h; cases h

theorem stepL_mono (hC : CLe C C') (hL : LLe L L') : LLe (stepL cfg C L) (stepL cfg C' L') := by
  intro g c e σ r h
  unfold stepL at h ⊢
  simp only [Option.bind_eq_some_iff] at h ⊢
  obtain ⟨⟨y, e', s⟩, h1, h2⟩ := h
  refine ⟨(y, e', s), evalCode_mono hC hL _ _ _ _ h1, ?_⟩
  cases y with
  | normal => exact hL _ _ _ _ _ h2
  | exit i => exact h2
  | ret => exact h2

theorem callN_up (cfg : Cfg) : ∀ n, CLe (callN cfg n) (callN cfg (n + 1)) ∧ LLe (loopN cfg n) (loopN cfg (n + 1))
  | 0 => ⟨fun _ _ _ _ h => by (cases h), fun _ _ _ _ _ h => by (cases h)⟩
  | n + 1 => let ⟨h1, h2⟩ := callN_up cfg n; ⟨stepC_mono h1 h2, stepL_mono h1 h2⟩
theorem callN_le (cfg : Cfg) {m : Nat} : ∀ n, m ≤ n → CLe (callN cfg m) (callN cfg n) ∧ LLe (loopN cfg m) (loopN cfg n)
  | 0, h => by have : m = 0 := by omega
               subst this; exact ⟨fun _ _ _ _ h => h, fun _ _ _ _ _ h => h⟩
  | n + 1, h => by
    rcases Nat.eq_or_lt_of_le h with h1 | h1
    · subst h1; exact ⟨fun _ _ _ _ h => h, fun _ _ _ _ _ h => h⟩
    · obtain ⟨h2, h3⟩ := callN_le cfg (m := m) n (by omega)
      obtain ⟨h4, h5⟩ := callN_up cfg n
      exact ⟨fun _ _ _ _ h => h4 _ _ _ _ (h2 _ _ _ _ h), fun _ _ _ _ _ h => h5 _ _ _ _ _ (h3 _ _ _ _ _ h)⟩

/-! ### The limit -/
open Classical in
noncomputable def callω (cfg : Cfg) : CallO := fun f a σ => if h : ∃ n r, callN cfg n f a σ = some r then callN cfg (Classical.choose h) f a σ else none
open Classical in
noncomputable def loopω (cfg : Cfg) : LoopO := fun f c e σ => if h : ∃ n r, loopN cfg n f c e σ = some r then loopN cfg (Classical.choose h) f c e σ else none

theorem callω_iff {g : FuncId} {a : List PV} {σ : Store} {r : PV × Store} : callω cfg g a σ = some r ↔ ∃ n, callN cfg n g a σ = some r := by
  unfold callω
  constructor
  · intro h
    split at h
    · exact ⟨_, h⟩
    · cases h
  · intro ⟨n, h⟩
    have hex : ∃ n r, callN cfg n g a σ = some r := ⟨n, r, h⟩
    rw [dif_pos hex]
    obtain ⟨r', h'⟩ := Classical.choose_spec hex
    rw [h']
    have h1 := (callN_le cfg (max n (Classical.choose hex)) (Nat.le_max_left _ _)).1 _ _ _ _ h
    have h2 := (callN_le cfg (max n (Classical.choose hex)) (Nat.le_max_right _ _)).1 _ _ _ _ h'
    rw [h1] at h2
    exact h2.symm

theorem loopω_iff {g : FuncId} {c : Code} {e : List PV} {σ : Store} {r : Ex × List PV × Store} : loopω cfg g c e σ = some r ↔ ∃ n, loopN cfg n g c e σ = some r := by
  unfold loopω
  constructor
  · intro h
    split at h
    · exact ⟨_, h⟩
    · cases h
  · intro ⟨n, h⟩
    have hex : ∃ n r, loopN cfg n g c e σ = some r := ⟨n, r, h⟩
    rw [dif_pos hex]
    obtain ⟨r', h'⟩ := Classical.choose_spec hex
    rw [h']
    have h1 := (callN_le cfg (max n (Classical.choose hex)) (Nat.le_max_left _ _)).2 _ _ _ _ _ h
    have h2 := (callN_le cfg (max n (Classical.choose hex)) (Nat.le_max_right _ _)).2 _ _ _ _ _ h'
    rw [h1] at h2
    exact h2.symm

theorem omega_ok (hT : ∀ f, cfg.told f = none) (hm : cfg.P.follows .mixedOrders = true) : AllOk cfg.P (callω cfg) (loopω cfg) where
  ok _ _ _ _ _ h := let ⟨n, h⟩ := callω_iff.1 h; (all_ok hT hm n).ok _ _ _ _ _ h
  next _ _ _ _ _ h := let ⟨n, h⟩ := callω_iff.1 h; (all_ok hT hm n).next _ _ _ _ _ h
  clean _ _ _ _ _ h := let ⟨n, h⟩ := callω_iff.1 h; (all_ok hT hm n).clean _ _ _ _ _ h
  lok _ _ _ _ _ _ _ h := let ⟨n, h⟩ := loopω_iff.1 h; (all_ok hT hm n).lok _ _ _ _ _ _ _ h
  lnext _ _ _ _ _ _ _ h := let ⟨n, h⟩ := loopω_iff.1 h; (all_ok hT hm n).lnext _ _ _ _ _ _ _ h
  lclean _ _ _ _ _ _ _ h := let ⟨n, h⟩ := loopω_iff.1 h; (all_ok hT hm n).lclean _ _ _ _ _ _ _ h
  llen _ _ _ _ _ _ _ h := let ⟨n, h⟩ := loopω_iff.1 h; (all_ok hT hm n).llen _ _ _ _ _ _ _ h

/-! ### A step of the limit is a step -/
theorem evalOp_cont {c2 : Cfg} (hc : ∀ g args σ r, callv c2 (callω cfg) g args σ = some r → ∃ n, callv c2 (callN cfg n) g args σ = some r) {env : List PV} {σ : Store} {o : Oper} {r : PV × Store} (h : evalOp c2 (callω cfg) env σ o = some r) : ∃ n, evalOp c2 (callN cfg n) env σ o = some r := by
  obtain ⟨dst, op, type, pos, after, guard⟩ := o
  cases op
  case call c =>
    obtain ⟨callee, args, ts⟩ := c
    cases callee
    case builtin b => exact ⟨0, h⟩
    case value x =>
      have h' : (match opd env x with | .func g cs => if enters c2.P g = true then callv c2 (callω cfg) g (args.toList.map (opd env) ++ cs) σ else none | _ => none) = some r := h
      show ∃ n, (match opd env x with | .func g cs => if enters c2.P g = true then callv c2 (callN cfg n) g (args.toList.map (opd env) ++ cs) σ else none | _ => none) = some r
      generalize opd env x = z at h' ⊢
      cases z <;> simp only at h' ⊢ <;> first | (cases h'; done) | skip
      split at h'
      · rename_i he
        simp only [if_pos he]
        exact hc _ _ _ _ h'
      · cases h'
    case invoke x m => exact ⟨0, h⟩
  case makeFunc fn fs cs => cases fn <;> exact ⟨0, h⟩
  all_goals exact ⟨0, h⟩

theorem evalOps_cont {c2 : Cfg} (hc : ∀ g args σ r, callv c2 (callω cfg) g args σ = some r → ∃ n, callv c2 (callN cfg n) g args σ = some r) {all : List Oper} : ∀ (l : List Oper) (env : List PV) (σ : Store) (r : List PV × Store), evalOps c2 (callω cfg) all l env σ = some r → ∃ n, evalOps c2 (callN cfg n) all l env σ = some r
  | [], env, σ, r, h => ⟨0, h⟩
  | o :: l, env, σ, r, h => by
    simp only [evalOps, Option.bind_eq_some_iff] at h ⊢
    obtain ⟨b, hb, h⟩ := h
    split at h
    · rename_i hbt
      rw [Option.bind_eq_some_iff] at h
      obtain ⟨x, h1, h2⟩ := h
      obtain ⟨n, h1⟩ := evalOp_cont hc h1
      obtain ⟨m, h2⟩ := evalOps_cont hc l _ _ _ h2
      refine ⟨max n m, b, hb, ?_⟩
      rw [if_pos hbt, Option.bind_eq_some_iff]
      exact ⟨x, evalOp_mono (callN_le cfg _ (Nat.le_max_left _ _)).1 h1, evalOps_mono (callN_le cfg _ (Nat.le_max_right _ _)).1 _ _ _ _ h2⟩
    · rename_i hbt
      obtain ⟨n, h⟩ := evalOps_cont hc l _ _ _ h
      exact ⟨n, b, hb, by rw [if_neg hbt]; exact h⟩

theorem callv_contC {c2 : Cfg} {g : FuncId} {args : List PV} {σ : Store} {r : PV × Store} (h : callv c2 (callω cfg) g args σ = some r) : ∃ n, callv c2 (callN cfg n) g args σ = some r := by
  unfold callv at h ⊢
  split at h
  · exact callω_iff.1 h
  · simp only [Option.bind_eq_some_iff] at h
    obtain ⟨⟨v, τ⟩, h1, h2⟩ := h
    obtain ⟨n, h1⟩ := callω_iff.1 h1
    exact ⟨n, by simp only [h1, Option.bind_some]; exact h2⟩
  · simp only [Option.bind_eq_some_iff] at h
    obtain ⟨⟨v, τ⟩, h1, h2⟩ := h
    obtain ⟨n, h1⟩ := callω_iff.1 h1
    exact ⟨n, by simp only [h1, Option.bind_some]; exact h2⟩
  · simp only [Option.bind_eq_some_iff] at h
    obtain ⟨⟨v, τ⟩, h1, h2⟩ := h
    obtain ⟨n, h1⟩ := callω_iff.1 h1
    exact ⟨n, by simp only [h1, Option.bind_some]; exact h2⟩

theorem evalCode_cont : ∀ (c : Code) (env : List PV) (σ : Store) (r : Ex × List PV × Store), evalCode cfg (callω cfg) (loopω cfg) f c env σ = some r → ∃ n, evalCode cfg (callN cfg n) (loopN cfg n) f c env σ = some r
  | .skip, _, _, _, h | .label _, _, _, _, h | .exit _, _, _, _, h | .ret, _, _, _, h => ⟨0, h⟩
  | .region id ops draw, env, σ, r, h => by
    simp only [evalCode, Option.bind_eq_some_iff, Option.map_eq_some_iff] at h ⊢
    obtain ⟨p, h0, x, h1, h2⟩ := h
    have : ∃ n, evalReg (cfg.at_ f) (callN cfg n) p.1 (calmOf cfg f id ops.toList) ops.toList draw p.2.1 p.2.2 = some x := by
      unfold evalReg at h1 ⊢
      split at h1
      · rename_i hd
        simp only [if_pos hd]
        split at h1
        · rename_i hk
          simp only [if_pos hk]
          exact evalOps_cont (fun g args σ r h => callv_contC h) _ _ _ _ h1
        · cases h1
      · rename_i hd
        simp only [if_neg hd]
        exact evalOps_cont (fun g args σ r h => callv_contC h) _ _ _ _ h1
    obtain ⟨n, hn⟩ := this
    exact ⟨n, p, h0, x, hn, h2⟩
  | .seq a b, env, σ, r, h => by
    simp only [evalCode, Option.bind_eq_some_iff] at h ⊢
    obtain ⟨⟨y, e, s⟩, h1, h2⟩ := h
    obtain ⟨n, h1⟩ := evalCode_cont a _ _ _ h1
    cases y with
    | normal =>
      obtain ⟨m, h2⟩ := evalCode_cont b _ _ _ h2
      obtain ⟨p1, p2⟩ := callN_le cfg _ (Nat.le_max_left n m)
      obtain ⟨q1, q2⟩ := callN_le cfg _ (Nat.le_max_right n m)
      exact ⟨max n m, _, evalCode_mono p1 p2 a _ _ _ h1, evalCode_mono q1 q2 b _ _ _ h2⟩
    | exit i => exact ⟨n, _, h1, h2⟩
    | ret => exact ⟨n, _, h1, h2⟩
  | .cond c a b, env, σ, r, h => by
    simp only [evalCode] at h ⊢
    generalize opd env c = z at h ⊢
    cases z <;> simp only at h ⊢ <;> first | (cases h; done) | skip
    rename_i t
    cases t
    · exact evalCode_cont b _ _ _ h
    · exact evalCode_cont a _ _ _ h
  | .block id c, env, σ, r, h => by
    simp only [evalCode, Option.map_eq_some_iff] at h ⊢
    obtain ⟨x, h1, h2⟩ := h
    obtain ⟨n, h1⟩ := evalCode_cont c _ _ _ h1
    exact ⟨n, x, h1, h2⟩
  | .loop c, env, σ, r, h => by
    simp only [evalCode, Option.map_eq_some_iff] at h ⊢
    obtain ⟨x, h1, h2⟩ := h
    obtain ⟨n, h1⟩ := loopω_iff.1 h1
    exact ⟨n, x, h1, h2⟩
  | .rangeFunc .., _, _, _, h | .scope _, _, _, _, h | .goto _, _, _, _, h | .refuse _, _, _, _, h => by simp only [evalCode] at h; cases h

/-- A step of the limit's. -/
theorem callω_of (hT : ∀ f, cfg.told f = none) {g : FuncId} {a : List PV} {σ : Store} {r : PV × Store} (h : stepC cfg (callω cfg) (loopω cfg) g a σ = some r) : callω cfg g a σ = some r := by
  unfold stepC at h
  rw [hT g] at h
  simp only at h
  split at h
  · rename_i fn hf
    split at h
    · rename_i c hc
      simp only [Option.bind_eq_some_iff] at h
      obtain ⟨x, h1, h2⟩ := h
      obtain ⟨n, h1⟩ := evalCode_cont _ _ _ _ h1
      refine callω_iff.2 ⟨n + 1, ?_⟩
      show stepC cfg (callN cfg n) (loopN cfg n) g a σ = some r
      unfold stepC
      rw [hT g]
      simp only [hf, hc, h1, Option.bind_some]
      exact h2
    · cases h
  · cases h

theorem loopω_of {c : Code} {E0 : List PV} {σ : Store} {r : Ex × List PV × Store} (h : stepL cfg (callω cfg) (loopω cfg) f c E0 σ = some r) : loopω cfg f c E0 σ = some r := by
  unfold stepL at h
  simp only [Option.bind_eq_some_iff] at h
  obtain ⟨⟨y, e', s⟩, h1, h2⟩ := h
  obtain ⟨n, h1⟩ := evalCode_cont _ _ _ _ h1
  have done : ∀ m, n ≤ m → ((some (y, e', s)).bind fun (x : Ex × List PV × Store) => match x with | (x, e, s') => (match x with | .normal => loopN cfg m f c (headM cfg f c (List.length E0) e) s' | x => some (x, outM cfg f c x (List.length E0) e, s'))) = some r → loopω cfg f c E0 σ = some r := fun m hm h2 => by
    refine loopω_iff.2 ⟨m + 1, ?_⟩
    show stepL cfg (callN cfg m) (loopN cfg m) f c E0 σ = some r
    unfold stepL
    rw [evalCode_mono (callN_le cfg m hm).1 (callN_le cfg m hm).2 _ _ _ _ h1]
    exact h2
  cases y with
  | normal =>
    obtain ⟨m, h2⟩ := loopω_iff.1 h2
    exact done (max n m) (Nat.le_max_left _ _) ((callN_le cfg _ (Nat.le_max_right n m)).2 _ _ _ _ _ h2)
  | exit i => exact done n (Nat.le_refl _) h2
  | ret => exact done n (Nat.le_refl _) h2
end
end Go.Pvm
