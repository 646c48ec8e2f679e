import Derived.Test.YtpilgmnhkgcgkaaP3
import Derived.ProofKit
import Derived.KernelRfl
import Derived.Laws.Strings
/- Part of the proof: the evaluator without a count: what some count of rounds yields. -/
set_option linter.unusedSimpArgs false
set_option linter.unusedVariables false
namespace Go.Pvm

def CLe (C C' : CallO) : Prop := ∀ f a σ r, C f a σ = some r → C' f a σ = some r
def LLe (L L' : LoopO) : Prop := ∀ f c e σ r, L f c e σ = some r → L' f c e σ = some r

section
variable {cfg : Cfg} {C C' : CallO} {L L' : LoopO} {f : FuncId}

theorem callv_mono (hC : CLe C C') {g : FuncId} {args : List PV} {σ : Store} {r : PV × Store} (h : callv cfg C g args σ = some r) : callv cfg C' g args σ = some r := by
  unfold callv at h ⊢
  split
  · rename_i hm; rw [hm] at h; exact hC _ _ _ _ h
  · rename_i hm
    rw [hm] at h
    simp only [Option.bind_eq_some_iff] at h
    obtain ⟨⟨v, τ⟩, h1, h2⟩ := h
    simp only [hC _ _ _ _ h1, Option.bind_some]
    exact h2
  · rename_i hm
    rw [hm] at h
    simp only [Option.bind_eq_some_iff] at h
    obtain ⟨⟨v, τ⟩, h1, h2⟩ := h
    simp only [hC _ _ _ _ h1, Option.bind_some]
    exact h2
  · rename_i hm
    rw [hm] at h
    simp only [Option.bind_eq_some_iff] at h
    obtain ⟨⟨v, τ⟩, h1, h2⟩ := h
    simp only [hC _ _ _ _ h1, Option.bind_some]
    exact h2

theorem evalOp_mono (hC : CLe C C') {env : List PV} {σ : Store} {o : Oper} {r : PV × Store} (h : evalOp cfg C env σ o = some r) : evalOp cfg C' env σ o = some r := by
  obtain ⟨dst, op, type, pos, after, guard⟩ := o
  cases op
  case call c =>
    obtain ⟨callee, args, ts⟩ := c
    cases callee
    case builtin b => exact h
    case value x =>
      have h' : (match opd env x with | .func g cs => callE cfg C g (args.toList.map (opd env) ++ cs) σ | _ => none) = some r := h
      show (match opd env x with | .func g cs => callE cfg C' g (args.toList.map (opd env) ++ cs) σ | _ => none) = some r
      generalize opd env x = z at h' ⊢
      cases z <;> simp only at h' ⊢ <;> first | (cases h'; done) | skip
      unfold callE at h' ⊢
      split at h'
      · rename_i he
        rw [if_pos he]
        exact callv_mono hC h'
      · rename_i he
        rw [if_neg he]
        exact h'
    case invoke x m => exact h
  case makeFunc fn fs cs => cases fn <;> exact h
  all_goals exact h

theorem evalOps_mono (hC : CLe C C') {all : List Oper} : ∀ (l : List Oper) (env : List PV) (σ : Store) (r : List PV × Store), evalOps cfg C all l env σ = some r → evalOps cfg C' all l env σ = some r
  | [], env, σ, r, h => h
  | o :: l, env, σ, r, h => by
    simp only [evalOps, Option.bind_eq_some_iff] at h ⊢
    obtain ⟨b, hb, h⟩ := h
    refine ⟨b, hb, ?_⟩
    split at h
    · rename_i hbt
      rw [if_pos hbt]
      rw [Option.bind_eq_some_iff] at h ⊢
      obtain ⟨x, h1, h2⟩ := h
      exact ⟨x, by rw [evalG_of (evalG_some h1).1]; exact evalOp_mono hC (evalG_some h1).2, evalOps_mono hC l _ _ _ h2⟩
    · rename_i hbt
      rw [if_neg hbt]
      exact evalOps_mono hC l _ _ _ h

theorem evalCode_mono (hC : CLe C C') (hL : LLe L L') : ∀ (c : Code) (env : List PV) (σ : Store) (r : Ex × List PV × Store), evalCode cfg C L f c env σ = some r → evalCode cfg C' L' f c env σ = some r
  | .skip, _, _, _, h | .label _, _, _, _, h | .exit _, _, _, _, h | .ret, _, _, _, h => h
  | .region _ ops draw, env, σ, r, h => by
    simp only [evalCode, Option.bind_eq_some_iff, Option.map_eq_some_iff] at h ⊢
    obtain ⟨p, h0, x, h1, h2⟩ := h
    refine ⟨p, h0, x, ?_, h2⟩
    unfold evalReg at h1 ⊢
    split at h1
    · rename_i hd
      rw [if_pos hd]
      split at h1
      · rename_i hk
        rw [if_pos hk]
        exact evalOps_mono hC _ _ _ _ h1
      · cases h1
    · rename_i hd
      rw [if_neg hd]
      exact evalOps_mono hC _ _ _ _ h1
  | .seq a b, env, σ, r, h => by
    simp only [evalCode, Option.bind_eq_some_iff] at h ⊢
    obtain ⟨⟨y, e, s⟩, h1, h2⟩ := h
    refine ⟨(y, e, s), evalCode_mono hC hL a _ _ _ h1, ?_⟩
    cases y with
    | normal => exact evalCode_mono hC hL b _ _ _ h2
    | exit i => exact h2
    | ret => exact h2
  | .cond c a b, env, σ, r, h => by
    simp only [evalCode] at h ⊢
    generalize opd env c = z at h ⊢
    cases z <;> simp only at h ⊢ <;> first | (cases h; done) | skip
    rename_i t
    cases t
    · exact evalCode_mono hC hL b _ _ _ h
    · exact evalCode_mono hC hL a _ _ _ h
  | .block id c, env, σ, r, h => by
    simp only [evalCode, Option.map_eq_some_iff] at h ⊢
    obtain ⟨x, h1, h2⟩ := h
    exact ⟨x, evalCode_mono hC hL c _ _ _ h1, h2⟩
  | .loop c, env, σ, r, h => by
    simp only [evalCode, Option.map_eq_some_iff] at h ⊢
    obtain ⟨x, h1, h2⟩ := h
    exact ⟨x, hL _ _ _ _ _ h1, h2⟩
  | .rangeFunc .., _, _, _, h | .scope _, _, _, _, h | .goto _, _, _, _, h | .refuse _, _, _, _, h => by simp only [evalCode] at h; cases h

theorem stepC_mono (hC : CLe C C') (hL : LLe L L') : CLe (stepC cfg C L) (stepC cfg C' L') := by
  intro g a σ r h
  unfold stepC at h ⊢
  split
  · rename_i g' hg; rw [hg] at h; exact h
  · rename_i hg
    rw [hg] at h
    simp only at h
    split
    · rename_i fn hf
      rw [hf] at h
      simp only at h
      split
      · rename_i c hc
        rw [hc] at h
        simp only [Option.bind_eq_some_iff] at h ⊢
        obtain ⟨x, h1, h2⟩ := h
        exact ⟨x, evalCode_mono hC hL _ _ _ _ h1, h2⟩
      · rename_i hc; rw [hc] at h; cases h
    · rename_i hf; rw [hf] at h; cases h

theorem stepL_mono (hC : CLe C C') (hL : LLe L L') : LLe (stepL cfg C L) (stepL cfg C' L') := by
  intro g c e σ r h
  unfold stepL at h ⊢
  simp only [Option.bind_eq_some_iff] at h ⊢
  obtain ⟨⟨y, e', s⟩, h1, h2⟩ := h
  refine ⟨(y, e', s), evalCode_mono hC hL _ _ _ _ h1, ?_⟩
  cases y with
  | normal => exact hL _ _ _ _ _ h2
  | exit i => exact h2
  | ret => exact h2

theorem callN_up (cfg : Cfg) : ∀ n, CLe (callN cfg n) (callN cfg (n + 1)) ∧ LLe (loopN cfg n) (loopN cfg (n + 1))
  | 0 => ⟨fun _ _ _ _ h => by (cases h), fun _ _ _ _ _ h => by (cases h)⟩
  | n + 1 => let ⟨h1, h2⟩ := callN_up cfg n; ⟨stepC_mono h1 h2, stepL_mono h1 h2⟩
theorem callN_le (cfg : Cfg) {m : Nat} : ∀ n, m ≤ n → CLe (callN cfg m) (callN cfg n) ∧ LLe (loopN cfg m) (loopN cfg n)
  | 0, h => by have : m = 0 := by omega
               subst this; exact ⟨fun _ _ _ _ h => h, fun _ _ _ _ _ h => h⟩
  | n + 1, h => by
    rcases Nat.eq_or_lt_of_le h with h1 | h1
    · subst h1; exact ⟨fun _ _ _ _ h => h, fun _ _ _ _ _ h => h⟩
    · obtain ⟨h2, h3⟩ := callN_le cfg (m := m) n (by omega)
      obtain ⟨h4, h5⟩ := callN_up cfg n
      exact ⟨fun _ _ _ _ h => h4 _ _ _ _ (h2 _ _ _ _ h), fun _ _ _ _ _ h => h5 _ _ _ _ _ (h3 _ _ _ _ _ h)⟩

/-! ### The limit -/
open Classical in
noncomputable def callω (cfg : Cfg) : CallO := fun f a σ => if h : ∃ n r, callN cfg n f a σ = some r then callN cfg (Classical.choose h) f a σ else none
open Classical in
noncomputable def loopω (cfg : Cfg) : LoopO := fun f c e σ => if h : ∃ n r, loopN cfg n f c e σ = some r then loopN cfg (Classical.choose h) f c e σ else none

theorem callω_iff {g : FuncId} {a : List PV} {σ : Store} {r : PV × Store} : callω cfg g a σ = some r ↔ ∃ n, callN cfg n g a σ = some r := by
  unfold callω
  constructor
  · intro h
    split at h
    · exact ⟨_, h⟩
    · cases h
  · intro ⟨n, h⟩
    have hex : ∃ n r, callN cfg n g a σ = some r := ⟨n, r, h⟩
    rw [dif_pos hex]
    obtain ⟨r', h'⟩ := Classical.choose_spec hex
    rw [h']
    have h1 := (callN_le cfg (max n (Classical.choose hex)) (Nat.le_max_left _ _)).1 _ _ _ _ h
    have h2 := (callN_le cfg (max n (Classical.choose hex)) (Nat.le_max_right _ _)).1 _ _ _ _ h'
    rw [h1] at h2
    exact h2.symm

theorem loopω_iff {g : FuncId} {c : Code} {e : List PV} {σ : Store} {r : Ex × List PV × Store} : loopω cfg g c e σ = some r ↔ ∃ n, loopN cfg n g c e σ = some r := by
  unfold loopω
  constructor
  · intro h
    split at h
    · exact ⟨_, h⟩
    · cases h
  · intro ⟨n, h⟩
    have hex : ∃ n r, loopN cfg n g c e σ = some r := ⟨n, r, h⟩
    rw [dif_pos hex]
    obtain ⟨r', h'⟩ := Classical.choose_spec hex
    rw [h']
    have h1 := (callN_le cfg (max n (Classical.choose hex)) (Nat.le_max_left _ _)).2 _ _ _ _ _ h
    have h2 := (callN_le cfg (max n (Classical.choose hex)) (Nat.le_max_right _ _)).2 _ _ _ _ _ h'
    rw [h1] at h2
    exact h2.symm

theorem omega_ok (hT : Tolds cfg) (hm : cfg.P.follows .mixedOrders = true) : AllOk cfg.P (callω cfg) (loopω cfg) where
  ok _ _ _ _ _ h := let ⟨n, h⟩ := callω_iff.1 h; (all_ok hT hm n).ok _ _ _ _ _ h
  next _ _ _ _ _ h := let ⟨n, h⟩ := callω_iff.1 h; (all_ok hT hm n).next _ _ _ _ _ h
  clean _ _ _ _ _ h := let ⟨n, h⟩ := callω_iff.1 h; (all_ok hT hm n).clean _ _ _ _ _ h
  lok _ _ _ _ _ _ _ h := let ⟨n, h⟩ := loopω_iff.1 h; (all_ok hT hm n).lok _ _ _ _ _ _ _ h
  lnext _ _ _ _ _ _ _ h := let ⟨n, h⟩ := loopω_iff.1 h; (all_ok hT hm n).lnext _ _ _ _ _ _ _ h
  lclean _ _ _ _ _ _ _ h := let ⟨n, h⟩ := loopω_iff.1 h; (all_ok hT hm n).lclean _ _ _ _ _ _ _ h
  llen _ _ _ _ _ _ _ h := let ⟨n, h⟩ := loopω_iff.1 h; (all_ok hT hm n).llen _ _ _ _ _ _ _ h

/-! ### A step of the limit is a step -/
theorem evalOp_cont {c2 : Cfg} (hc : ∀ g args σ r, callv c2 (callω cfg) g args σ = some r → ∃ n, callv c2 (callN cfg n) g args σ = some r) {env : List PV} {σ : Store} {o : Oper} {r : PV × Store} (h : evalOp c2 (callω cfg) env σ o = some r) : ∃ n, evalOp c2 (callN cfg n) env σ o = some r := by
  obtain ⟨dst, op, type, pos, after, guard⟩ := o
  cases op
  case call c =>
    obtain ⟨callee, args, ts⟩ := c
    cases callee
    case builtin b => exact ⟨0, h⟩
    case value x =>
      have h' : (match opd env x with | .func g cs => callE c2 (callω cfg) g (args.toList.map (opd env) ++ cs) σ | _ => none) = some r := h
      show ∃ n, (match opd env x with | .func g cs => callE c2 (callN cfg n) g (args.toList.map (opd env) ++ cs) σ | _ => none) = some r
      generalize opd env x = z at h' ⊢
      cases z <;> simp only at h' ⊢ <;> first | (cases h'; done) | skip
      unfold callE at h' ⊢
      split at h'
      · rename_i he
        simp only [if_pos he]
        exact hc _ _ _ _ h'
      · rename_i he
        simp only [if_neg he]
        exact ⟨0, h'⟩
    case invoke x m => exact ⟨0, h⟩
  case makeFunc fn fs cs => cases fn <;> exact ⟨0, h⟩
  all_goals exact ⟨0, h⟩

theorem evalOps_cont {c2 : Cfg} (hc : ∀ g args σ r, callv c2 (callω cfg) g args σ = some r → ∃ n, callv c2 (callN cfg n) g args σ = some r) {all : List Oper} : ∀ (l : List Oper) (env : List PV) (σ : Store) (r : List PV × Store), evalOps c2 (callω cfg) all l env σ = some r → ∃ n, evalOps c2 (callN cfg n) all l env σ = some r
  | [], env, σ, r, h => ⟨0, h⟩
  | o :: l, env, σ, r, h => by
    simp only [evalOps, Option.bind_eq_some_iff] at h ⊢
    obtain ⟨b, hb, h⟩ := h
    split at h
    · rename_i hbt
      rw [Option.bind_eq_some_iff] at h
      obtain ⟨x, h1, h2⟩ := h
      have hgd := (evalG_some h1).1
      obtain ⟨n, h1⟩ := evalOp_cont hc (evalG_some h1).2
      obtain ⟨m, h2⟩ := evalOps_cont hc l _ _ _ h2
      refine ⟨max n m, b, hb, ?_⟩
      rw [if_pos hbt, Option.bind_eq_some_iff]
      exact ⟨x, by rw [evalG_of hgd]; exact evalOp_mono (callN_le cfg _ (Nat.le_max_left _ _)).1 h1, evalOps_mono (callN_le cfg _ (Nat.le_max_right _ _)).1 _ _ _ _ h2⟩
    · rename_i hbt
      obtain ⟨n, h⟩ := evalOps_cont hc l _ _ _ h
      exact ⟨n, b, hb, by rw [if_neg hbt]; exact h⟩

theorem callv_contC {c2 : Cfg} {g : FuncId} {args : List PV} {σ : Store} {r : PV × Store} (h : callv c2 (callω cfg) g args σ = some r) : ∃ n, callv c2 (callN cfg n) g args σ = some r := by
  unfold callv at h ⊢
  split at h
  · exact callω_iff.1 h
  · simp only [Option.bind_eq_some_iff] at h
    obtain ⟨⟨v, τ⟩, h1, h2⟩ := h
    obtain ⟨n, h1⟩ := callω_iff.1 h1
    exact ⟨n, by simp only [h1, Option.bind_some]; exact h2⟩
  · simp only [Option.bind_eq_some_iff] at h
    obtain ⟨⟨v, τ⟩, h1, h2⟩ := h
    obtain ⟨n, h1⟩ := callω_iff.1 h1
    exact ⟨n, by simp only [h1, Option.bind_some]; exact h2⟩
  · simp only [Option.bind_eq_some_iff] at h
    obtain ⟨⟨v, τ⟩, h1, h2⟩ := h
    obtain ⟨n, h1⟩ := callω_iff.1 h1
    exact ⟨n, by simp only [h1, Option.bind_some]; exact h2⟩

theorem evalCode_cont : ∀ (c : Code) (env : List PV) (σ : Store) (r : Ex × List PV × Store), evalCode cfg (callω cfg) (loopω cfg) f c env σ = some r → ∃ n, evalCode cfg (callN cfg n) (loopN cfg n) f c env σ = some r
  | .skip, _, _, _, h | .label _, _, _, _, h | .exit _, _, _, _, h | .ret, _, _, _, h => ⟨0, h⟩
  | .region id ops draw, env, σ, r, h => by
    simp only [evalCode, Option.bind_eq_some_iff, Option.map_eq_some_iff] at h ⊢
    obtain ⟨p, h0, x, h1, h2⟩ := h
    have : ∃ n, evalReg (cfg.at_ f) (callN cfg n) p.1 (calmOf cfg f id ops.toList) (cfg.flo f id) ops.toList draw p.2.1 p.2.2 = some x := by
      unfold evalReg at h1 ⊢
      split at h1
      · rename_i hd
        simp only [if_pos hd]
        split at h1
        · rename_i hk
          simp only [if_pos hk]
          exact evalOps_cont (fun g args σ r h => callv_contC h) _ _ _ _ h1
        · cases h1
      · rename_i hd
        simp only [if_neg hd]
        exact evalOps_cont (fun g args σ r h => callv_contC h) _ _ _ _ h1
    obtain ⟨n, hn⟩ := this
    exact ⟨n, p, h0, x, hn, h2⟩
  | .seq a b, env, σ, r, h => by
    simp only [evalCode, Option.bind_eq_some_iff] at h ⊢
    obtain ⟨⟨y, e, s⟩, h1, h2⟩ := h
    obtain ⟨n, h1⟩ := evalCode_cont a _ _ _ h1
    cases y with
    | normal =>
      obtain ⟨m, h2⟩ := evalCode_cont b _ _ _ h2
      obtain ⟨p1, p2⟩ := callN_le cfg _ (Nat.le_max_left n m)
      obtain ⟨q1, q2⟩ := callN_le cfg _ (Nat.le_max_right n m)
      exact ⟨max n m, _, evalCode_mono p1 p2 a _ _ _ h1, evalCode_mono q1 q2 b _ _ _ h2⟩
    | exit i => exact ⟨n, _, h1, h2⟩
    | ret => exact ⟨n, _, h1, h2⟩
  | .cond c a b, env, σ, r, h => by
    simp only [evalCode] at h ⊢
    generalize opd env c = z at h ⊢
    cases z <;> simp only at h ⊢ <;> first | (cases h; done) | skip
    rename_i t
    cases t
    · exact evalCode_cont b _ _ _ h
    · exact evalCode_cont a _ _ _ h
  | .block id c, env, σ, r, h => by
    simp only [evalCode, Option.map_eq_some_iff] at h ⊢
    obtain ⟨x, h1, h2⟩ := h
    obtain ⟨n, h1⟩ := evalCode_cont c _ _ _ h1
    exact ⟨n, x, h1, h2⟩
  | .loop c, env, σ, r, h => by
    simp only [evalCode, Option.map_eq_some_iff] at h ⊢
    obtain ⟨x, h1, h2⟩ := h
    obtain ⟨n, h1⟩ := loopω_iff.1 h1
    exact ⟨n, x, h1, h2⟩
  | .rangeFunc .., _, _, _, h | .scope _, _, _, _, h | .goto _, _, _, _, h | .refuse _, _, _, _, h => by simp only [evalCode] at h; cases h

/-- A step of the limit's. -/
theorem callω_of {g : FuncId} (hg : cfg.told g = none) {a : List PV} {σ : Store} {r : PV × Store} (h : stepC cfg (callω cfg) (loopω cfg) g a σ = some r) : callω cfg g a σ = some r := by
  unfold stepC at h
  rw [hg] at h
  simp only at h
  split at h
  · rename_i fn hf
    split at h
    · rename_i c hc
      simp only [Option.bind_eq_some_iff] at h
      obtain ⟨x, h1, h2⟩ := h
      obtain ⟨n, h1⟩ := evalCode_cont _ _ _ _ h1
      refine callω_iff.2 ⟨n + 1, ?_⟩
      show stepC cfg (callN cfg n) (loopN cfg n) g a σ = some r
      unfold stepC
      rw [hg]
      simp only [hf, hc, h1, Option.bind_some]
      exact h2
    · cases h
  · cases h
/-- A function that is told. -/
theorem callω_told {g : FuncId} {u : List PV → Store → Option (PV × Store)} (hg : cfg.told g = some u) (a : List PV) (σ : Store) : callω cfg g a σ = u a σ := by
  have h1 : ∀ n, callN cfg (n + 1) g a σ = u a σ := fun n => by
    show stepC cfg (callN cfg n) (loopN cfg n) g a σ = _
    unfold stepC
    rw [hg]
  cases hq : u a σ with
  | some r => exact callω_iff.2 ⟨1, (h1 0).trans hq⟩
  | none =>
    cases hc : callω cfg g a σ with
    | none => rfl
    | some r =>
      obtain ⟨n, hn⟩ := callω_iff.1 hc
      cases n with
      | zero => cases hn
      | succ n => rw [h1 n, hq] at hn; cases hn

theorem loopω_of {c : Code} {E0 : List PV} {σ : Store} {r : Ex × List PV × Store} (h : stepL cfg (callω cfg) (loopω cfg) f c E0 σ = some r) : loopω cfg f c E0 σ = some r := by
  unfold stepL at h
  simp only [Option.bind_eq_some_iff] at h
  obtain ⟨⟨y, e', s⟩, h1, h2⟩ := h
  obtain ⟨n, h1⟩ := evalCode_cont _ _ _ _ h1
  have done : ∀ m, n ≤ m → ((some (y, e', s)).bind fun (x : Ex × List PV × Store) => match x with | (x, e, s') => (match x with | .normal => loopN cfg m f c (headM cfg f c (List.length E0) e) s' | x => some (x, outM cfg f c x (List.length E0) e, s'))) = some r → loopω cfg f c E0 σ = some r := fun m hm h2 => by
    refine loopω_iff.2 ⟨m + 1, ?_⟩
    show stepL cfg (callN cfg m) (loopN cfg m) f c E0 σ = some r
    unfold stepL
    rw [evalCode_mono (callN_le cfg m hm).1 (callN_le cfg m hm).2 _ _ _ _ h1]
    exact h2
  cases y with
  | normal =>
    obtain ⟨m, h2⟩ := loopω_iff.1 h2
    exact done (max n m) (Nat.le_max_left _ _) ((callN_le cfg _ (Nat.le_max_right n m)).2 _ _ _ _ _ h2)
  | exit i => exact done n (Nat.le_refl _) h2
  | ret => exact done n (Nat.le_refl _) h2
end
end Go.Pvm

/- Part of the proof: the evaluator's word, told with what follows at hand: what a function of the program comes to, spelled out. -/
set_option linter.unusedSimpArgs false
set_option linter.unusedVariables false
namespace Go.Pvm
universe u
section
variable {β : Type}

def asInt (κ : IntKind) (v : PV) (k : Int → Option β) : Option β :=
  match v with
  | .int κ' n => if κ' = κ then k n else none
  | _ => none
def asBool (v : PV) (k : Bool → Option β) : Option β :=
  match v with
  | .bool b => k b
  | _ => none
def asStr (v : PV) (k : ByteArray → Option β) : Option β :=
  match v with
  | .str s => k s
  | _ => none
/-- What is known of a value by its type. -/
def asK (d : Option TypeDesc) (v : PV) (k : PV → Option β) : Option β :=
  match d with
  | some (.int κ) => asInt κ v fun n => k (.int κ n)
  | some .bool => asBool v fun b => k (.bool b)
  | some .string => asStr v fun s => k (.str s)
  | _ => k v

theorem asK_ref {d : Option TypeDesc} {v : PV} {k : PV → Option β} {r : β} (h : asK d v k = some r) : k v = some r := by
  unfold asK at h
  split at h
  · unfold asInt at h
    split at h
    · split at h
      · rename_i e; subst e; exact h
      · cases h
    · cases h
  · unfold asBool at h
    split at h
    · exact h
    · cases h
  · unfold asStr at h
    split at h
    · exact h
    · cases h
  · exact h

def onEx (x : Ex) (e : Nat → Option β) (r : Option β) : Option β :=
  match x with
  | .normal => none
  | .exit i => e i
  | .ret => r

def nilv : PV → Option PV
  | .ref a b c => some (.ref a b c)
  | .pref cs => some (.pref cs)
  | .func f cs => some (.func f cs)
  | _ => none
def tupv (x : PV) (i : Nat) : Option PV :=
  match x with
  | .tuple vs => vs[i]?
  | _ => none
def fnv : PV → Option (FuncId × List PV)
  | .func g cs => some (g, cs)
  | _ => none

/-- One operation, what follows at hand. -/
def opK (cfg : Cfg) (C : CallO) (env : List PV) (σ : Store) (o : Oper) (k : PV → Store → Option β) : Option β :=
  let P := cfg.P
  match o.op with
  | .move x | .assign x => k (opd env x) σ
  | .pick c a b => match opd env c with
    | .bool t => if t = true then k (opd env a) σ else k (opd env b) σ
    | _ => none
  | .alloc el => (zeroOf P el).bind fun z => if z.known = true ∧ z.cells.length ≠ 0 then k (.ref σ.next 0 0) (σ.push (.cells 0 [z.cells])) else none
  | .box _ x => if (opd env x).known = true ∧ (opd env x).cells.length ≠ 0 then k (.ref σ.next 0 0) (σ.push (.cells 0 [(opd env x).cells])) else none
  | .build t ps => (buildv P t (ps.toList.map fun (i, x) => (i, opd env x))).bind fun v => k v σ
  | .buildSlice t n ps => (buildSlv P σ t n (ps.toList.map fun (i, x) => (i, opd env x))).bind fun r => k r.1 r.2
  | .load t a => if calmL cfg a = true then (loadcv P t (opd env a)).bind fun v => asK (P.underlying t) v fun v => k v σ else (loadv P σ t (opd env a)).bind fun v => asK (P.underlying t) v fun v => k v σ
  | .store t a x => (storev P σ t (opd env a) (opd env x)).bind fun s => k (.tuple []) s
  | .nilCheck x => (nilv (opd env x)).bind fun v => k v σ
  | .binOp op t x y _ => (binv P op t (opd env x) (opd env y)).bind fun v => asK (P.underlying o.type) v fun v => k v σ
  | .unOp op _ x => (unv op (opd env x)).bind fun v => asK (P.underlying o.type) v fun v => k v σ
  | .convert s d x => (convv P σ s d (opd env x)).bind fun v => asK (P.underlying d) v fun v => k v σ
  | .makeFunc (.func f) fs cs => if fs.size = 0 then k (.func f (cs.toList.map (opd env))) σ else none
  | .makeSlice t l c => (makeSlv P σ t (opd env l) (opd env c)).bind fun r => k r.1 r.2
  | .slice t x lo hi mx => (cutv P t (opd env x) (lo.map (opd env)) (hi.map (opd env)) (mx.map (opd env))).bind fun v => asK (P.underlying o.type) v fun v => k v σ
  | .fieldAddr s x f => (fieldAddrv P s (opd env x) f).bind fun v => k v σ
  | .field s x f => (fieldv P s (opd env x) f).bind fun v => asK (P.underlying o.type) v fun v => k v σ
  | .indexAddr t x i => (indexAddrv P t (opd env x) (opd env i)).bind fun v => k v σ
  | .index t x i => (indexv P t (opd env x) (opd env i)).bind fun v => asK (P.underlying o.type) v fun v => k v σ
  | .extract x i => (tupv (opd env x) i).bind fun v => asK (P.underlying o.type) v fun v => k v σ
  | .makeMap t h => (makeMapv P σ t (h.map (opd env))).bind fun r => k r.1 r.2
  | .lookup t x i ok => (lookupv P σ t (opd env x) (opd env i) ok).bind fun v => asK (P.underlying o.type) v fun v => k v σ
  | .mapUpdate t x i y => (mapUpdv P σ t (opd env x) (opd env i) (opd env y)).bind fun s => k (.tuple []) s
  | .call c => match c.callee with
    | .builtin b => if isMapLen P b c.argTypes.toList = true then (match c.args.toList with | [x] => (mapLenv σ (opd env x)).bind fun v => asK (P.underlying o.type) v fun v => k v σ | _ => none)
      else if calmB b = true then (pureB P b c.argTypes.toList (c.args.toList.map (opd env))).bind fun v => asK (P.underlying o.type) v fun v => k v σ
      else (writeB P σ b c.argTypes.toList (c.args.toList.map (opd env))).bind fun r => asK (P.underlying o.type) r.1 fun v => k v r.2
    | .value f => (fnv (opd env f)).bind fun q => (callE cfg C q.1 (c.args.toList.map (opd env) ++ q.2) σ).bind fun r => asK (P.underlying o.type) r.1 fun v => k v r.2
    | _ => none
  | _ => none

theorem opK_ref {cfg : Cfg} {C : CallO} {env : List PV} {σ : Store} {o : Oper} {k : PV → Store → Option β} {r : β} (h : opK cfg C env σ o k = some r) :
    ∃ v τ, evalOp cfg C env σ o = some (v, τ) ∧ k v τ = some r := by
  obtain ⟨dst, op, type, pos, after, guard⟩ := o
  unfold opK at h
  unfold evalOp
  cases op <;> simp only at h ⊢
  case move x => exact ⟨_, _, rfl, h⟩
  case assign x => exact ⟨_, _, rfl, h⟩
  case pick c x y =>
    generalize opd env c = z at h ⊢
    cases z <;> simp only at h ⊢ <;> first | (cases h; done) | skip
    split at h
    · rename_i ht; exact ⟨_, _, by rw [if_pos ht], h⟩
    · rename_i ht; exact ⟨_, _, by rw [if_neg ht], h⟩
  case alloc el =>
    simp only [Option.bind_eq_some_iff] at h
    obtain ⟨z, h1, h2⟩ := h
    split at h2
    · rename_i hk; exact ⟨_, _, by rw [h1]; simp only [Option.bind_some]; rw [if_pos hk], h2⟩
    · cases h2
  case box el x =>
    split at h
    · rename_i hk; exact ⟨_, _, by rw [if_pos hk], h⟩
    · cases h
  case build t ps =>
    simp only [Option.bind_eq_some_iff] at h
    obtain ⟨z, h1, h2⟩ := h
    exact ⟨_, _, by rw [h1]; rfl, h2⟩
  case buildSlice t n ps =>
    simp only [Option.bind_eq_some_iff] at h
    obtain ⟨z, h1, h2⟩ := h
    exact ⟨_, _, h1, h2⟩
  case load t a =>
    split at h
    · rename_i hc
      rw [if_pos hc]
      simp only [Option.bind_eq_some_iff] at h
      obtain ⟨z, h1, h2⟩ := h
      exact ⟨_, _, by rw [h1]; rfl, asK_ref h2⟩
    · rename_i hc
      rw [if_neg hc]
      simp only [Option.bind_eq_some_iff] at h
      obtain ⟨z, h1, h2⟩ := h
      exact ⟨_, _, by rw [h1]; rfl, asK_ref h2⟩
  case store t a x =>
    simp only [Option.bind_eq_some_iff] at h
    obtain ⟨z, h1, h2⟩ := h
    exact ⟨_, _, by rw [h1]; rfl, h2⟩
  case nilCheck x =>
    simp only [Option.bind_eq_some_iff] at h
    obtain ⟨v, h1, h2⟩ := h
    generalize opd env x = z at h1 ⊢
    cases z <;> simp only [nilv] at h1 ⊢ <;> first | (cases h1; done) | (cases h1; exact ⟨_, _, rfl, h2⟩)
  case binOp op t x y ty =>
    simp only [Option.bind_eq_some_iff] at h
    obtain ⟨z, h1, h2⟩ := h
    exact ⟨_, _, by rw [h1]; rfl, asK_ref h2⟩
  case unOp op t x =>
    simp only [Option.bind_eq_some_iff] at h
    obtain ⟨z, h1, h2⟩ := h
    exact ⟨_, _, by rw [h1]; rfl, asK_ref h2⟩
  case convert s d x =>
    simp only [Option.bind_eq_some_iff] at h
    obtain ⟨z, h1, h2⟩ := h
    exact ⟨_, _, by rw [h1]; rfl, asK_ref h2⟩
  case makeFunc fn fs cs =>
    cases fn <;> simp only at h ⊢
    case func f =>
      split at h
      · rename_i hk; exact ⟨_, _, by rw [if_pos hk], h⟩
      · cases h
    all_goals cases h
  case makeSlice t l c =>
    simp only [Option.bind_eq_some_iff] at h
    obtain ⟨z, h1, h2⟩ := h
    exact ⟨_, _, h1, h2⟩
  case slice t x lo hi mx =>
    simp only [Option.bind_eq_some_iff] at h
    obtain ⟨z, h1, h2⟩ := h
    exact ⟨_, _, by rw [h1]; rfl, asK_ref h2⟩
  case fieldAddr s x f =>
    simp only [Option.bind_eq_some_iff] at h
    obtain ⟨z, h1, h2⟩ := h
    exact ⟨_, _, by rw [h1]; rfl, h2⟩
  case field s x f =>
    simp only [Option.bind_eq_some_iff] at h
    obtain ⟨z, h1, h2⟩ := h
    exact ⟨_, _, by rw [h1]; rfl, asK_ref h2⟩
  case indexAddr t x i =>
    simp only [Option.bind_eq_some_iff] at h
    obtain ⟨z, h1, h2⟩ := h
    exact ⟨_, _, by rw [h1]; rfl, h2⟩
  case index t x i =>
    simp only [Option.bind_eq_some_iff] at h
    obtain ⟨z, h1, h2⟩ := h
    exact ⟨_, _, by rw [h1]; rfl, asK_ref h2⟩
  case extract x i =>
    simp only [Option.bind_eq_some_iff] at h
    obtain ⟨v, h1, h2⟩ := h
    generalize opd env x = z at h1 ⊢
    cases z <;> simp only [tupv] at h1 ⊢ <;> first | (cases h1; done) | skip
    exact ⟨_, _, by rw [h1]; rfl, asK_ref h2⟩
  case makeMap t hnt =>
    simp only [Option.bind_eq_some_iff] at h
    obtain ⟨z, h1, h2⟩ := h
    exact ⟨_, _, h1, h2⟩
  case lookup t x i ok =>
    simp only [Option.bind_eq_some_iff] at h
    obtain ⟨z, h1, h2⟩ := h
    exact ⟨_, _, by rw [h1]; rfl, asK_ref h2⟩
  case mapUpdate t x i y =>
    simp only [Option.bind_eq_some_iff] at h
    obtain ⟨z, h1, h2⟩ := h
    exact ⟨_, _, by rw [h1]; rfl, h2⟩
  case call c =>
    obtain ⟨callee, args, ts⟩ := c
    cases callee <;> simp only at h ⊢
    case builtin b =>
      split at h
      · rename_i hml
        rw [if_pos hml]
        split at h
        · rename_i hx
          simp only [Option.bind_eq_some_iff] at h
          obtain ⟨v, h1, h2⟩ := h
          exact ⟨_, _, by rw [hx]; simp only; rw [h1]; rfl, asK_ref h2⟩
        · cases h
      rename_i hml
      rw [if_neg hml]
      unfold builtinv
      split at h
      · rename_i hb
        rw [if_pos hb]
        simp only [Option.bind_eq_some_iff] at h
        obtain ⟨v, h1, h2⟩ := h
        exact ⟨_, _, by rw [h1]; rfl, asK_ref h2⟩
      · rename_i hb
        rw [if_neg hb]
        simp only [Option.bind_eq_some_iff] at h
        obtain ⟨⟨v, τ⟩, h1, h2⟩ := h
        exact ⟨_, _, h1, asK_ref h2⟩
    case value x =>
      simp only [Option.bind_eq_some_iff] at h
      obtain ⟨⟨g, cs⟩, h0, h⟩ := h
      obtain ⟨⟨v, τ⟩, h1, h2⟩ := h
      generalize opd env x = z at h0 ⊢
      cases z <;> simp only [fnv] at h0 ⊢ <;> first | (cases h0; done) | skip
      cases h0
      unfold callE at h1
      exact ⟨_, _, h1, asK_ref h2⟩
    case invoke x m => cases h
  all_goals cases h

/-- A slot set, the list written out. -/
def setL : List PV → Nat → PV → (List PV → Option β) → Option β
  | [], _, _, k => k []
  | _ :: r, 0, v, k => k (v :: r)
  | x :: r, n + 1, v, k => setL r n v fun r' => k (x :: r')
theorem setL_eq : ∀ (env : List PV) (d : Nat) (v : PV) (k : List PV → Option β), setL env d v k = k (env.set d v)
  | [], _, _, _ => rfl
  | _ :: _, 0, _, _ => rfl
  | x :: r, n + 1, v, k => by simp only [setL, setL_eq r n v, List.set_cons_succ]
def putK (env : List PV) (d : Option Nat) (v : PV) (k : List PV → Option β) : Option β :=
  match d with
  | some t => setL env t v k
  | none => k env
theorem putK_eq (env : List PV) (d : Option Nat) (v : PV) (k : List PV → Option β) : putK env d v k = k (putv env d v) := by
  cases d with
  | none => rfl
  | some t => exact setL_eq _ _ _ _

/-- Operations in order, what follows at hand; a guard is told apart once. -/
def opG (cfg : Cfg) (C : CallO) (env : List PV) (σ : Store) (o : Oper) (k : PV → Store → Option β) : Option β := if guardF cfg env o = true then opK cfg C env σ o k else none
def opsK (cfg : Cfg) (C : CallO) (all : List Oper) : List Oper → List PV → Store → (List PV → Store → Option β) → Option β
  | [], env, σ, k => k env σ
  | o :: rest, env, σ, k => match o.guard with
    | none => opG cfg C env σ o fun v τ => putK env o.dst v fun e => opsK cfg C all rest e τ k
    | some (g, w) => match (all[g]?).bind (·.dst) with
      | none => none
      | some d => match env.getD d .undef with
        | .bool b => if b = true
          then setL env d (.bool true) fun env => (if w = true then opG cfg C env σ o fun v τ => putK env o.dst v fun e => opsK cfg C all rest e τ k
            else putK env o.dst (.tuple []) fun e => opsK cfg C all rest e σ k)
          else setL env d (.bool false) fun env => (if w = false then opG cfg C env σ o fun v τ => putK env o.dst v fun e => opsK cfg C all rest e τ k
            else putK env o.dst (.tuple []) fun e => opsK cfg C all rest e σ k)
        | .tuple _ => putK env o.dst (.tuple []) fun e => opsK cfg C all rest e σ k
        | _ => none

theorem set_same {env : List PV} {d : Nat} {b : Bool} (h : env.getD d .undef = .bool b) : env.set d (.bool b) = env := by
  rw [List.getD_eq_getElem?_getD] at h
  cases hq : env[d]? with
  | none => rw [hq] at h; cases h
  | some v =>
    rw [hq] at h
    simp only [Option.getD_some] at h
    subst h
    refine List.ext_getElem? fun i => ?_
    by_cases hi : d = i
    · subst hi; rw [hq, List.getElem?_set_self (List.getElem?_eq_some_iff.1 hq).1]
    · rw [List.getElem?_set_ne hi]

theorem opG_ref {cfg : Cfg} {C : CallO} {env : List PV} {σ : Store} {o : Oper} {k : PV → Store → Option β} {r : β} (h : opG cfg C env σ o k = some r) : ∃ v τ, evalG cfg C env σ o = some (v, τ) ∧ k v τ = some r := by
  unfold opG at h
  split at h
  · rename_i hg
    rw [evalG_of hg]
    exact opK_ref h
  · cases h
theorem opsK_ref {cfg : Cfg} {C : CallO} {all : List Oper} {r : β} : ∀ (l : List Oper) (env : List PV) (σ : Store) (k : List PV → Store → Option β), opsK cfg C all l env σ k = some r →
    ∃ e s, evalOps cfg C all l env σ = some (e, s) ∧ k e s = some r
  | [], env, σ, k, h => ⟨env, σ, rfl, h⟩
  | o :: l, env, σ, k, h => by
    have go : ∀ b, wants all env o = some b → (if b = true then opG cfg C env σ o fun v τ => opsK cfg C all l (putv env o.dst v) τ k else opsK cfg C all l (putv env o.dst (.tuple [])) σ k) = some r → ∃ e s, evalOps cfg C all (o :: l) env σ = some (e, s) ∧ k e s = some r := by
      intro b hb h
      simp only [evalOps, hb, Option.bind_some]
      split at h
      · rename_i hbt
        simp only [if_pos hbt]
        obtain ⟨v, τ, h1, h2⟩ := opG_ref h
        obtain ⟨e, s, h3, h4⟩ := opsK_ref l _ _ _ h2
        exact ⟨e, s, by rw [h1]; exact h3, h4⟩
      · rename_i hbt
        simp only [if_neg hbt]
        exact opsK_ref l _ _ _ h
    unfold opsK at h
    simp only [setL_eq, putK_eq] at h
    split at h
    · rename_i hg
      exact go true (by unfold wants; rw [hg]) h
    · rename_i g w hg
      split at h
      · cases h
      · rename_i d hd
        split at h
        · rename_i b hb
          have hw : wants all env o = some (b == w) := by unfold wants; rw [hg]; simp only [hd]; rw [hb]
          refine go _ hw ?_
          split at h
          · rename_i hbt
            subst hbt
            rw [set_same hb] at h
            cases w
            · exact h
            · exact h
          · rename_i hbt
            have hbf : b = false := by simpa using hbt
            subst hbf
            rw [set_same hb] at h
            cases w
            · exact h
            · exact h
        · rename_i vs hb
          exact go false (by unfold wants; rw [hg]; simp only [hd]; rw [hb]) h
        · cases h

def setB (env : List PV) (c : Operand) (b : Bool) (k : List PV → Option β) : Option β :=
  match c with
  | .tmp t => setL env t (.bool b) k
  | _ => k env

/-- A list of slots, each known by its type. -/
def pickK (P : Program) (l : List (Nat × TypeId)) (e : List PV) : List Nat → (List PV → Option β) → Option β
  | [], k => k []
  | i :: r, k => match l.find? (fun p => p.1 == i) with
    | some (_, t) => asK (P.underlying t) (e.getD i .undef) fun v => pickK P l e r fun vs => k (v :: vs)
    | none => pickK P l e r fun vs => k (.undef :: vs)

theorem pickK_ref {P : Program} {l : List (Nat × TypeId)} {e : List PV} {r : β} : ∀ (is : List Nat) (k : List PV → Option β), pickK P l e is k = some r →
    k (is.map fun i => if (l.map (·.1)).contains i = true then e.getD i .undef else .undef) = some r
  | [], k, h => h
  | i :: is, k, h => by
    unfold pickK at h
    split at h
    · rename_i j t hf
      have h1 := pickK_ref is _ (asK_ref h)
      have hc : (l.map (·.1)).contains i = true := by
        have h2 := List.find?_some hf
        have h3 := List.mem_of_find?_eq_some hf
        simp at h2
        simp only [List.contains_eq_mem, decide_eq_true_eq]
        exact List.mem_map.2 ⟨(j, t), h3, h2⟩
      simp only [List.map_cons]
      rw [if_pos hc]
      exact h1
    · rename_i hf
      have h1 := pickK_ref is _ h
      have hc : ¬ (l.map (·.1)).contains i = true := by
        simp only [List.contains_eq_mem, decide_eq_true_eq]
        intro hm
        obtain ⟨p, hp, he⟩ := List.mem_map.1 hm
        have := List.find?_eq_none.1 hf p hp
        simp [he] at this
      simp only [List.map_cons]
      rw [if_neg hc]
      exact h1

/-! The check of a region of open order, written out as it goes. -/
def forceN (n : Nat) (k : Nat → Bool) : Bool :=
  match n with
  | 0 => k 0
  | m + 1 => k (m + 1)
theorem forceN_eq (n : Nat) (k : Nat → Bool) : forceN n k = k n := by cases n <;> rfl
def snocK : List Nat → Nat → (List Nat → Bool) → Bool
  | [], p, k => k [p]
  | x :: r, p, k => snocK r p fun r' => k (x :: r')
theorem snocK_eq : ∀ (l : List Nat) (p : Nat) (k : List Nat → Bool), snocK l p k = k (l ++ [p])
  | [], _, _ => rfl
  | x :: r, p, k => by simp only [snocK, snocK_eq r p, List.cons_append]
def beforeK : List Oper → List Nat → (List Nat → Bool) → Bool
  | [], acc, k => k acc
  | o :: r, acc, k => forceN (preds acc o) fun p => snocK acc p fun acc => beforeK r acc k
theorem beforeK_eq : ∀ (l : List Oper) (acc : List Nat) (k : List Nat → Bool), beforeK l acc k = k (l.foldl (fun acc o => acc ++ [preds acc o]) acc)
  | [], _, _ => rfl
  | o :: r, acc, k => by simp only [beforeK, forceN_eq, snocK_eq, beforeK_eq r, List.foldl_cons]

def pairOk (cfg : Cfg) (ops : List Oper) (bi : Nat) (x : Oper) : Nat → List Oper → Nat → Bool
  | _, [], _ => true
  | 0, _ :: _, _ => true
  | n + 1, y :: r, j => (bi.testBit j ||
      ((match y.dst with | some d => !(namesOf ops x).contains d | none => true) &&
       (match x.dst with | some d => !(namesOf ops y).contains d | none => true) &&
       !(touch cfg x == 3 && touch cfg y != 0) && (!(touch cfg y == 3 && decide (2 ≤ touch cfg x)) || floL cfg x && isApp y))) && pairOk cfg ops bi x n r (j + 1)
def rowsOk (cfg : Cfg) (ops : List Oper) : List Oper → List Nat → Nat → Bool
  | x :: r, b :: bs, i => pairOk cfg ops b x i ops 0 && rowsOk cfg ops r bs (i + 1)
  | [], _, _ => true
  | _ :: _, [], _ => false
def drawOkK (cfg : Cfg) (ops : List Oper) : Bool := beforeK ops [] fun b => rowsOk cfg ops ops b 0

theorem pairOk_get {cfg : Cfg} {ops : List Oper} {bi : Nat} {x : Oper} : ∀ (n : Nat) (l : List Oper) (j0 : Nat), pairOk cfg ops bi x n l j0 = true → ∀ j y, j < n → l[j]? = some y → (bi.testBit (j0 + j) ||
      ((match y.dst with | some d => !(namesOf ops x).contains d | none => true) &&
       (match x.dst with | some d => !(namesOf ops y).contains d | none => true) &&
       !(touch cfg x == 3 && touch cfg y != 0) && (!(touch cfg y == 3 && decide (2 ≤ touch cfg x)) || floL cfg x && isApp y))) = true
  | 0, _, _, _, _, _, hj, _ => absurd hj (Nat.not_lt_zero _)
  | n + 1, [], _, _, _, _, _, hy => by simp at hy
  | n + 1, y :: r, j0, h, 0, y', _, hy => by
    simp at hy; subst hy
    rw [pairOk, Bool.and_eq_true] at h
    exact h.1
  | n + 1, y :: r, j0, h, j + 1, y', hj, hy => by
    rw [pairOk, Bool.and_eq_true] at h
    have := pairOk_get n r (j0 + 1) h.2 j y' (by omega) (by simpa using hy)
    rw [show j0 + (j + 1) = j0 + 1 + j by omega]
    exact this
theorem rowsOk_get {cfg : Cfg} {ops : List Oper} : ∀ (l : List Oper) (bs : List Nat) (i0 : Nat), rowsOk cfg ops l bs i0 = true → ∀ i x, l[i]? = some x → pairOk cfg ops (bs.getD i 0) x (i0 + i) ops 0 = true
  | [], _, _, _, _, _, hx => by simp at hx
  | x :: r, [], _, h, _, _, _ => by cases h
  | x :: r, b :: bs, i0, h, 0, x', hx => by
    simp at hx; subst hx
    rw [rowsOk, Bool.and_eq_true] at h
    exact h.1
  | x :: r, b :: bs, i0, h, i + 1, x', hx => by
    rw [rowsOk, Bool.and_eq_true] at h
    have := rowsOk_get r bs (i0 + 1) h.2 i x' (by simpa using hx)
    rw [show i0 + (i + 1) = i0 + 1 + i by omega]
    exact this
theorem drawOkK_ok {cfg : Cfg} {ops : List Oper} (h : drawOkK cfg ops = true) : drawOk cfg ops = true := by
  unfold drawOkK at h
  rw [beforeK_eq] at h
  have hb : ops.foldl (fun acc o => acc ++ [preds acc o]) [] = beforeL ops := rfl
  rw [hb] at h
  unfold drawOk
  simp only [List.all_eq_true, List.mem_range]
  intro i hi j hj
  have hx := List.getElem?_eq_getElem hi
  have hy := List.getElem?_eq_getElem (l := ops) (i := j) (by omega)
  rw [hx, hy]
  have h1 := rowsOk_get ops _ 0 h i _ hx
  rw [Nat.zero_add] at h1
  have h2 := pairOk_get i ops 0 h1 j _ hj hy
  rw [Nat.zero_add] at h2
  exact h2

def closeK : List Nat → List PV → Store → (List PV → Store → Option β) → Option β
  | [], e, σ, k => k e σ
  | t :: r, e, σ, k => (roAll (tops (e.getD t .undef)) σ).bind fun σ' => setL e t (fz fuelFz σ (e.getD t .undef)) fun e => closeK r e σ' k
theorem closeK_ref {r : β} : ∀ (l : List Nat) (e : List PV) (σ : Store) (k : List PV → Store → Option β), closeK l e σ k = some r → ∃ e' σ', closeAll l e σ = some (e', σ') ∧ k e' σ' = some r
  | [], e, σ, k, h => ⟨_, _, rfl, h⟩
  | t :: l, e, σ, k, h => by
    unfold closeK at h
    unfold closeAll close1
    rw [Option.bind_eq_some_iff] at h
    obtain ⟨σ1, h1, h2⟩ := h
    rw [setL_eq] at h2
    obtain ⟨e', σ', h3, h4⟩ := closeK_ref l _ _ k h2
    simp only [h1, Option.map_some, Option.bind_some]
    exact ⟨e', σ', h3, h4⟩
def preK (cfg : Cfg) (f : FuncId) (id : Nat) (env : List PV) (σ : Store) (k : Bool → List PV → Store → Option β) : Option β :=
  match cfg.close f id with
  | none => k false env σ
  | some (b, zs) => closeK zs env σ (k b)
theorem preK_ref {cfg : Cfg} {f : FuncId} {id : Nat} {env : List PV} {σ : Store} {k : Bool → List PV → Store → Option β} {r : β} (h : preK cfg f id env σ k = some r) : ∃ b e s, pre cfg f id env σ = some (b, e, s) ∧ k b e s = some r := by
  unfold preK at h
  unfold pre
  split at h
  · rename_i hc; exact ⟨_, _, _, by rw [hc], h⟩
  · rename_i b zs hc
    obtain ⟨e, s, h1, h2⟩ := closeK_ref _ _ _ _ h
    exact ⟨b, e, s, by rw [hc]; simp only [h1, Option.map_some], h2⟩

def evalK (cfg : Cfg) (C : CallO) (L : LoopO) (f : FuncId) : Code → List PV → Store → (Ex → List PV → Store → Option β) → Option β
  | .skip, env, σ, k | .label _, env, σ, k => k .normal env σ
  | .region id ops draw, env, σ, k => preK cfg f id env σ fun b env σ =>
    if draw = true then
      (if (drawOkK { cfg.at_ f with calm := b, calmA := calmOf cfg f id ops.toList, floZ := cfg.flo f id, floA := derived (cfg.flo f id) ops.toList } ops.toList && edgesOk ops.toList && (floD { cfg.at_ f with floZ := cfg.flo f id } ops.toList && floS { cfg.at_ f with floZ := cfg.flo f id } env σ)) = true then opsK { cfg.at_ f with strict := true, calm := b, calmA := calmOf cfg f id ops.toList, floZ := cfg.flo f id, floA := derived (cfg.flo f id) ops.toList } C ops.toList ops.toList env σ (k .normal) else none)
    else opsK (cfg.at_ f) C ops.toList ops.toList env σ (k .normal)
  | .seq a b, env, σ, k => evalK cfg C L f a env σ fun x e s => match x with
    | .normal => evalK cfg C L f b e s k
    | x => k x e s
  | .cond c a b, env, σ, k => match opd env c with
    | .bool t => if t = true then setB env c true fun e => evalK cfg C L f a e σ k else setB env c false fun e => evalK cfg C L f b e σ k
    | _ => none
  | .block id c, env, σ, k => evalK cfg C L f c env σ fun x e s => match x with
    | .exit i => if i = id then k .normal e s else k (.exit i) e s
    | x => k x e s
  | .loop c, env, σ, k => match cfg.mask f (firstRegion c) with
    | some (h, l) => (L f c (keepN env.length h env) σ).bind fun r => onEx r.1
        (fun i => pickK cfg.P l.1 r.2.1 (List.range env.length) fun e => k (.exit i) e r.2.2)
        (match l.2 with
          | [] => none
          | _ :: _ => pickK cfg.P l.2 r.2.1 (List.range env.length) fun e => k .ret e r.2.2)
    | none => none
  | .exit id, env, σ, k => k (.exit id) env σ
  | .ret, env, σ, k => k .ret env σ
  | _, _, _, _ => none

theorem setB_same {env : List PV} {c : Operand} {b : Bool} {k : List PV → Option β} (h : opd env c = .bool b) : setB env c b k = k env := by
  cases c <;> first | rfl | (simp only [setB, setL_eq]; rw [set_same h])

theorem evalK_ref {cfg : Cfg} {C : CallO} {L : LoopO} {f : FuncId} {r : β} : ∀ (c : Code) (env : List PV) (σ : Store) (k : Ex → List PV → Store → Option β), evalK cfg C L f c env σ k = some r →
    ∃ x e s, evalCode cfg C L f c env σ = some (x, e, s) ∧ k x e s = some r
  | .skip, _, _, _, h | .label _, _, _, _, h | .exit _, _, _, _, h | .ret, _, _, _, h => ⟨_, _, _, rfl, h⟩
  | .region id ops draw, env, σ, k, h => by
    simp only [evalK] at h
    obtain ⟨b, e0, s0, h0, h⟩ := preK_ref h
    simp only [evalCode, h0, Option.bind_some]
    unfold evalReg
    split at h
    · rename_i hd
      simp only [if_pos hd]
      split at h
      · rename_i hk
        rw [Bool.and_eq_true, Bool.and_eq_true] at hk
        have hk' : (drawOk { cfg.at_ f with calm := b, calmA := calmOf cfg f id ops.toList, floZ := cfg.flo f id, floA := derived (cfg.flo f id) ops.toList } ops.toList && edgesOk ops.toList && (floD { cfg.at_ f with floZ := cfg.flo f id } ops.toList && floS { cfg.at_ f with floZ := cfg.flo f id } e0 s0)) = true := by rw [drawOkK_ok hk.1.1, hk.1.2, hk.2]; rfl
        simp only [if_pos hk']
        obtain ⟨e, s, h1, h2⟩ := opsK_ref _ _ _ _ h
        exact ⟨_, _, _, by rw [h1]; rfl, h2⟩
      · cases h
    · rename_i hd
      simp only [if_neg hd]
      obtain ⟨e, s, h1, h2⟩ := opsK_ref _ _ _ _ h
      exact ⟨_, _, _, by rw [h1]; rfl, h2⟩
  | .seq a b, env, σ, k, h => by
    simp only [evalK] at h
    obtain ⟨x, e, s, h1, h2⟩ := evalK_ref a _ _ _ h
    simp only [evalCode, h1, Option.bind_some]
    cases x with
    | normal => exact evalK_ref b _ _ _ h2
    | exit i => exact ⟨_, _, _, rfl, h2⟩
    | ret => exact ⟨_, _, _, rfl, h2⟩
  | .cond c a b, env, σ, k, h => by
    simp only [evalK] at h
    simp only [evalCode]
    have hs := fun b (k : List PV → Option β) => setB_same (env := env) (c := c) (b := b) (k := k)
    generalize opd env c = z at h hs ⊢
    cases z <;> simp only at h ⊢ <;> first | (cases h; done) | skip
    rename_i t
    cases t
    · rw [hs false _ rfl] at h
      exact evalK_ref b _ _ _ h
    · rw [hs true _ rfl] at h
      exact evalK_ref a _ _ _ h
  | .block id c, env, σ, k, h => by
    simp only [evalK] at h
    obtain ⟨x, e, s, h1, h2⟩ := evalK_ref c _ _ _ h
    simp only [evalCode, h1, Option.map_some]
    cases x with
    | normal => exact ⟨_, _, _, rfl, h2⟩
    | ret => exact ⟨_, _, _, rfl, h2⟩
    | exit i =>
      refine ⟨_, _, _, rfl, ?_⟩
      simp only at h2 ⊢
      split at h2
      · rename_i hi; rw [if_pos hi]; exact h2
      · rename_i hi; rw [if_neg hi]; exact h2
  | .loop c, env, σ, k, h => by
    simp only [evalK] at h
    simp only [evalCode]
    split at h
    · rename_i hd l hm
      rw [Option.bind_eq_some_iff] at h
      obtain ⟨⟨x, e, s⟩, h1, h2⟩ := h
      have hh : headM cfg f c env.length env = keepN env.length hd env := by unfold headM; rw [hm]
      have ho : outM cfg f c x env.length e = keepN env.length ((outOf l x).map (·.1)) e := by unfold outM; rw [hm]
      rw [hh, h1]
      refine ⟨x, outM cfg f c x env.length e, s, rfl, ?_⟩
      rw [ho]
      cases x with
      | normal => cases h2
      | exit i => exact pickK_ref _ _ h2
      | ret =>
        replace h2 : (match l.2 with | [] => none | _ :: _ => pickK cfg.P l.2 e (List.range env.length) fun e => k .ret e s) = some r := h2
        split at h2
        · cases h2
        · exact pickK_ref _ _ h2
    · cases h
  | .rangeFunc .., _, _, _, h | .scope _, _, _, _, h | .goto _, _, _, _, h | .refuse _, _, _, _, h => by simp only [evalK] at h; cases h
end

def resK {β : Type} (P : Program) (s : Store) (e : List PV) : List ResultVar → (List PV → Option β) → Option β
  | [], k => k []
  | .tmp t :: r, k => resK P s e r fun vs => k (e.getD t .undef :: vs)
  | .cell a t :: r, k => (loadv P s t (e.getD a .undef)).bind fun v => asK (P.underlying t) v fun v => resK P s e r fun vs => k (v :: vs)

theorem resK_ref {β : Type} {P : Program} {s : Store} {e : List PV} {r : β} : ∀ (rs : List ResultVar) (k : List PV → Option β), resK P s e rs k = some r → ∃ vs, resultsv P s e rs = some vs ∧ k vs = some r
  | [], k, h => ⟨[], rfl, h⟩
  | .tmp t :: rs, k, h => by
    obtain ⟨vs, h1, h2⟩ := resK_ref rs _ h
    exact ⟨_, by simp only [resultsv, resultv, Option.bind_some, h1]; rfl, h2⟩
  | .cell a t :: rs, k, h => by
    simp only [resK, Option.bind_eq_some_iff] at h
    obtain ⟨v, h0, h⟩ := h
    obtain ⟨vs, h1, h2⟩ := resK_ref rs _ (asK_ref h)
    exact ⟨_, by simp only [resultsv, resultv, h0, Option.bind_some, h1]; rfl, h2⟩

def retK (P : Program) (fn : Func) (x : Ex) (e : List PV) (s : Store) : Option (PV × Store) :=
  match x with
  | .exit _ => none
  | _ => resK P s e fn.results.toList fun vs => some (tuplev vs, s)

theorem retK_ref {P : Program} {fn : Func} {x : Ex} {e : List PV} {s : Store} {r : PV × Store} (h : retK P fn x e s = some r) :
    (match x with | .exit _ => none | _ => (resultsv P s e fn.results.toList).map fun vs => (tuplev vs, s)) = some r := by
  cases x with
  | exit i => exact h
  | normal => obtain ⟨vs, h1, h2⟩ := resK_ref _ _ h; simp only [h1]; exact h2
  | ret => obtain ⟨vs, h1, h2⟩ := resK_ref _ _ h; simp only [h1]; exact h2

def stepK (cfg : Cfg) (C : CallO) (L : LoopO) (f : FuncId) (args : List PV) (σ : Store) : Option (PV × Store) :=
  match cfg.P.funcs[f]? with
  | some fn => match fn.body with
    | some c => evalK cfg C L f c (enterv fn args) σ (retK cfg.P fn)
    | none => none
  | none => none

def goK (cfg : Cfg) (L : LoopO) (f : FuncId) (c : Code) (n : Nat) (x : Ex) (e : List PV) (s : Store) : Option (Ex × List PV × Store) :=
  match x with
  | .normal => L f c (headM cfg f c n e) s
  | x => some (x, outM cfg f c x n e, s)

def stepKL (cfg : Cfg) (C : CallO) (L : LoopO) (f : FuncId) (c : Code) (env : List PV) (σ : Store) : Option (Ex × List PV × Store) :=
  evalK cfg C L f c env σ (goK cfg L f c env.length)

theorem callω_ofK {cfg : Cfg} {g : FuncId} (hT : cfg.told g = none) {a : List PV} {σ : Store} {r : PV × Store} (h : stepK cfg (callω cfg) (loopω cfg) g a σ = some r) : callω cfg g a σ = some r := by
  refine callω_of hT ?_
  unfold stepK at h
  unfold stepC
  rw [hT]
  simp only
  split at h
  · rename_i fn hf
    split at h
    · rename_i c hc
      obtain ⟨x, e, s, h1, h2⟩ := evalK_ref _ _ _ _ h
      simp only [hf, hc, h1, Option.bind_some]
      have h3 := retK_ref h2
      cases x with
      | normal => exact h3
      | exit i => exact h3
      | ret => exact h3
    · cases h
  · cases h

theorem loopω_ofK {cfg : Cfg} {f : FuncId} {c : Code} {e : List PV} {σ : Store} {r : Ex × List PV × Store} (h : stepKL cfg (callω cfg) (loopω cfg) f c e σ = some r) : loopω cfg f c e σ = some r := by
  refine loopω_of ?_
  obtain ⟨x, e', s, h1, h2⟩ := evalK_ref _ _ _ _ h
  unfold stepL
  simp only [h1, Option.bind_some]
  cases x with
  | normal => exact h2
  | exit i => exact h2
  | ret => exact h2
end Go.Pvm

/- Part of the proof: what a row's argument reads as is a plain value, known by its type. -/
set_option linter.unusedSimpArgs false
set_option linter.unusedVariables false
namespace Go.Pvm

/-- Cells of a type: 'top': what is handed over itself. -/
def WT (P : Program) : Bool → Nat → TypeId → List PV → Prop
  | _, 0, _, _ => False
  | top, n + 1, t, cs => match P.underlying t with
    | some .bool => ∃ b, cs = [.bool b]
    | some (.int k) => ∃ x, cs = [.int k x] ∧ k.min ≤ x ∧ x ≤ k.max
    | some (.float k) => ∃ x, cs = [.float k x] ∧ (Lit.float k x).wf = true
    | some .string => ∃ s, cs = [.str s] ∧ s.size ≤ reachBytes
    | some (.slice e) => cs = [.nilsl] ∨ (∃ es, cs = [.psl false es] ∧ es.length ≤ maxLen ∧ es.length * P.bytesOf e ≤ reachBytes ∧ ∀ c ∈ es, c.length = P.cellsOf e ∧ WT P false n e c) ∨ (top = false ∧ P.cellsOf e = 0 ∧ cs = [.undef])
    | some (.struct fs) => ∃ parts : List (List PV), cs = parts.flatten ∧ parts.length = fs.size ∧ ∀ (i : Nat) (f : Field) (p : List PV), fs[i]? = some f → parts[i]? = some p → p.length = P.cellsOf f.type ∧ WT P top n f.type p
    | some (.array m e) => ∃ parts : List (List PV), cs = parts.flatten ∧ parts.length = m ∧ ∀ p ∈ parts, p.length = P.cellsOf e ∧ WT P top n e p
    | some (.pointer e) => cs = [.nilptr] ∨ (∃ c, cs = [.pref c] ∧ c.length = P.cellsOf e ∧ WT P false n e c) ∨ (P.cellsOf e = 0 ∧ cs = [.undef])
    | some (.interface _) => cs = [.niliface] ∨ cs = [.undef]
    | some (.map _ _) => cs = [.nilmap] ∨ cs = [.undef]
    | _ => cs.length = 1

def spotless : Value → Prop
  | .slice (some a) _ _ => a.spot = none
  | _ => True

def olds (w : World) : Froz := fun b _ => b < w.heap.size

section
variable {H : Type} {enc : TypeId × Value → H} {P : Program} {w : World}

theorem VPs.append {F : Froz} {w : World} {a b : List PV} {x y : List Value} (h : VPs F w a x) (k : VPs F w b y) : VPs F w (a ++ b) (x ++ y) := by
  refine ⟨by simp [h.1, k.1], fun i c u e e' => ?_⟩
  have h1 := h.1
  rcases Nat.lt_or_ge i a.length with hi | hi
  · rw [List.getElem?_append_left hi] at e
    rw [List.getElem?_append_left (by omega)] at e'
    exact h.2 i c u e e'
  · rw [List.getElem?_append_right hi] at e
    rw [List.getElem?_append_right (by omega), h1] at e'
    exact k.2 _ c u e e'
theorem VPs.nil' {F : Froz} {w : World} : VPs F w [] [] := ⟨rfl, fun i c u e => by simp at e⟩
theorem VPs.one {F : Froz} {w : World} {c : PV} {u : Value} (h : VP F w c u) : VPs F w [c] [u] := ⟨rfl, fun i c' u' e e' => by
  cases i with
  | zero => simp at e e'; subst e; subst e'; exact h
  | succ i => simp at e⟩

/-- Parts one behind the other. -/
theorem asm {α : Type} (off size : α → Nat) (R : α → List PV → Prop) {F : Froz} (cs : List Value) : ∀ (l : List α) (o : Nat), (∀ (j : Nat) (a : α), l[j]? = some a → off a = o + ((l.take j).map size).sum) → cs.length = o + (l.map size).sum →
    (∀ a ∈ l, ∃ p, R a p ∧ VPs F w p ((cs.drop (off a)).take (size a))) →
    ∃ parts : List (List PV), parts.length = l.length ∧ (∀ (i : Nat) (a : α) (p : List PV), l[i]? = some a → parts[i]? = some p → p.length = size a ∧ R a p) ∧ VPs F w parts.flatten (cs.drop o)
  | [], o, h1, h2, h3 => ⟨[], rfl, fun i a p e => by simp at e, by
    simp at h2
    rw [List.drop_eq_nil_of_le (by omega)]
    exact VPs.nil'⟩
  | a :: r, o, h1, h2, h3 => by
    have h0 : off a = o := by simpa using h1 0 a rfl
    simp only [List.map_cons, List.sum_cons] at h2
    obtain ⟨p, hR, hp⟩ := h3 a (.head _)
    obtain ⟨parts, k1, k2, k3⟩ := asm off size R cs r (o + size a) (fun j b hb => by
      have := h1 (j + 1) b (by simpa using hb)
      simp only [List.take_succ_cons, List.map_cons, List.sum_cons] at this
      omega) (by omega) (fun b hb => h3 b (.tail _ hb))
    rw [h0] at hp
    have hlen : p.length = size a := by
      have := hp.1
      simp at this
      omega
    refine ⟨p :: parts, by simp [k1], fun i b q e e' => ?_, ?_⟩
    · cases i with
      | zero => simp at e e'; subst e; subst e'; exact ⟨hlen, hR⟩
      | succ i => exact k2 i b q (by simpa using e) (by simpa using e')
    · have : cs.drop o = (cs.drop o).take (size a) ++ cs.drop (o + size a) := by
        rw [← List.drop_drop, List.take_append_drop]
      rw [this, List.flatten_cons]
      exact hp.append k3

theorem isVar_lt {t : TypeId} (h : isVar P t = true) : t < P.types.size := by
  unfold isVar at h
  simp at h
  exact h.1

theorem addr_add {a : Addr} (h : a.spot = none) (n : Nat) : a.add n = ⟨a.block, a.off + n, none⟩ := by
  cases a
  simp only at h
  subst h
  exact ad_add _ _ _

theorem cells_at {a : Addr} {n : Nat} {cs : List Value} (h : w.cells? 0 a n = some cs) : cs.length = n ∧ ∀ (i : Nat) (v : Value), cs[i]? = some v → w.cell? (a.add i) = some v := by
  unfold World.cells? at h
  rw [if_pos (Nat.zero_le _)] at h
  have hl := mapM_some_length h
  refine ⟨by simpa using hl, fun i v hv => ?_⟩
  have hi : i < n := by
    have := (List.getElem?_eq_some_iff.1 hv).1
    simp at hl; omega
  have := mapM_some_get h i i (List.getElem?_range hi)
  rw [hv] at this
  exact this

theorem cell_spot {a : Addr} {v : Value} (h : w.cell? a = some v) : a.spot = none ∧ a.block < w.heap.size := by
  unfold World.cell? at h
  split at h
  · rename_i c _ _ hb
    refine ⟨?_, (Array.getElem?_eq_some_iff.1 hb).1⟩
    cases hs : a.spot with
    | none => rfl
    | some x => rw [hs] at h; simp at h
  · cases h

theorem weights_mem {e : TypeId} {k : Nat} : ∀ (ds : List (DataW H)) (d : DataW H), d ∈ ds → k ∈ d.weights P e → k ∈ DataW.weightsAll P e ds
  | x :: r, d, hm, hk => by
    unfold DataW.weightsAll
    rcases List.mem_cons.1 hm with rfl | hm
    · exact List.mem_append_left _ hk
    · exact List.mem_append_right _ (weights_mem r d hm hk)
theorem weightsE_mem {k : Nat} : ∀ (ts : List TypeId) (ds : List (DataW H)) (i : Nat) (t : TypeId) (d : DataW H), ts[i]? = some t → ds[i]? = some d → k ∈ d.weights P t → k ∈ DataW.weightsEach P ts ds
  | t :: ts, d :: ds, 0, t', d', h1, h2, hk => by
    simp at h1 h2; subst h1; subst h2
    unfold DataW.weightsEach
    exact List.mem_append_left _ hk
  | t :: ts, d :: ds, i + 1, t', d', h1, h2, hk => by
    unfold DataW.weightsEach
    exact List.mem_append_right _ (weightsE_mem ts ds i t' d' (by simpa using h1) (by simpa using h2) hk)
  | [], _, i, _, _, h1, _, _ => by simp at h1
  | _ :: _, [], i, _, _, _, h2, _ => by simp at h2

theorem dec (hl : laidOutB P = true) : ∀ (n : Nat) (t : TypeId) (cs : List Value) (x : DataW H × List MemPlace) (top : Bool), DataW.trod enc P w 0 (fun _ => true) true n t cs = some x → isVar P t = true →
    (top = true → ∀ v ∈ cs, spotless v) → (∀ k ∈ x.1.weights P t, k ≤ reachBytes) → ∃ pvs, WT P top n t pvs ∧ VPs (olds w) w pvs cs
  | 0, t, cs, x, top, h, _, _, _ => by simp [DataW.trod] at h
  | n + 1, t, cs, x, top, h, hv, hs, hw => by
    have hrow := rowFine_of_laidOut hl (isVar_lt hv)
    unfold rowFine at hrow
    rw [hv] at hrow
    simp only [Bool.not_true, Bool.false_or] at hrow
    have one : ∀ {c : PV}, cs.length = 1 → c = .undef → VPs (olds w) w [c] cs := fun h1 h2 => by
      obtain ⟨v, rfl⟩ := List.length_eq_one_iff.1 h1
      subst h2
      exact .one (.undef v)
    cases hu : P.underlying t with
    | none => unfold DataW.trod at h; rw [hu] at h; simp at h
    | some d =>
      rw [hu] at hrow
      cases d
      case bool =>
        obtain ⟨b, rfl, _⟩ := DataW.trod_bool hu h
        exact ⟨[.bool b], by unfold WT; rw [hu]; exact ⟨b, rfl⟩, .one (.bool b)⟩
      case int k =>
        obtain ⟨b, rfl, _, hwf⟩ := DataW.trod_int hu h
        refine ⟨[.int k b], ?_, .one (.int k b)⟩
        unfold WT; rw [hu]
        simp [Lit.wf] at hwf
        exact ⟨b, rfl, hwf.1, hwf.2⟩
      case float k =>
        unfold DataW.trod at h; rw [hu] at h
        split at h <;> simp only [Option.some.injEq, TypeDesc.float.injEq, reduceCtorEq] at * <;> try (cases h; done)
        rename_i k1 k' b' e1 e2
        subst e2
        split at h
        · rename_i hk
          obtain ⟨rfl, hk⟩ := hk
          refine ⟨[.float _ e1], ?_, .one (.float _ e1)⟩
          unfold WT; rw [hu]
          exact ⟨e1, rfl, hk⟩
        · cases h
      case string =>
        obtain ⟨s, rfl, rfl, _⟩ := DataW.trod_string hu h
        refine ⟨[.str s], ?_, .one (.str s)⟩
        unfold WT; rw [hu]
        refine ⟨s, rfl, ?_⟩
        have := hw s.data.toList.length (by simp [DataW.weights])
        simpa using this
      case slice e =>
        rcases DataW.trod_slice hu h with ⟨rfl, _⟩ | ⟨a, len, cap, elems, rest, m, hm, rfl, rfl, _, hlc, hcm, hel, hget, hspare, _⟩
        · exact ⟨[.nilsl], by unfold WT; rw [hu]; exact .inl rfl, .one .nilsl⟩
        · obtain rfl : n = m := by omega
          simp only [Bool.and_eq_true] at hrow
          have hve : isVar P e = true := hrow.1
          -- the elements' cells
          have each : ∀ i, i < len → ∃ vs pv, w.cells? 0 (a.add (i * P.cellsOf e)) (P.cellsOf e) = some vs ∧ WT P false n e pv ∧ VPs (olds w) w pv vs := fun i hi => by
            have h1 := hget i hi
            have hy := List.getElem?_eq_getElem (l := elems) (i := i) (by omega)
            rw [hy, Option.bind_eq_some_iff] at h1
            obtain ⟨vs, h2, h3⟩ := h1
            obtain ⟨pv, h4, h5⟩ := dec hl n e vs _ false h3 hve (fun h => by cases h) (fun k hk => hw k (by
              simp only [DataW.weights, hu]
              refine List.mem_cons_of_mem _ (List.mem_append_left _ (weights_mem _ _ (List.mem_map.2 ⟨_, List.getElem_mem _, rfl⟩) hk))))
            exact ⟨vs, pv, h2, h4, h5⟩
          obtain ⟨vf, hvf⟩ := Classical.axiomOfChoice (fun i : Nat => (Classical.em (i < len)).elim (fun hi => let ⟨vs, pv, h⟩ := each i hi; (⟨(vs, pv), fun _ => h⟩ : ∃ q : List Value × List PV, i < len → w.cells? 0 (a.add (i * P.cellsOf e)) (P.cellsOf e) = some q.1 ∧ WT P false n e q.2 ∧ VPs (olds w) w q.2 q.1)) (fun hi => ⟨([], []), fun h => absurd h hi⟩))
          by_cases hsp : a.spot = none
          · refine ⟨[.psl false ((List.range len).map fun i => (vf i).2)], ?_, .one ?_⟩
            · unfold WT; rw [hu]
              refine .inr (.inl ⟨_, rfl, by simp; exact Nat.le_trans hlc hcm, ?_, fun c hc => ?_⟩)
              · have := hw ((elems.length + rest.length) * P.bytesOf e) (by simp [DataW.weights, hu])
                simp only [List.length_map, List.length_range]
                exact Nat.le_trans (Nat.mul_le_mul_right _ (by omega)) this
              · obtain ⟨i, hi, rfl⟩ := List.mem_map.1 hc
                have hi' : i < len := by simpa using hi
                obtain ⟨h1, h2, h3⟩ := hvf i hi'
                exact ⟨by have := (cells_at h1).1; rw [← h3.1]; exact this, h2⟩
            · have hcell : ∀ (i : Nat) (c : List PV), ((List.range len).map fun i => (vf i).2)[i]? = some c → ∀ (j : Nat) (x : PV), c[j]? = some x → ∃ v, w.cell? ⟨a.block, a.off + i * P.cellsOf e + j, none⟩ = some v ∧ VP (olds w) w x v := fun i c hc j x hx => by
                rw [List.getElem?_map, Option.map_eq_some_iff] at hc
                obtain ⟨i', hi, rfl⟩ := hc
                have hlt := (List.getElem?_eq_some_iff.1 hi).1
                have : i' = i := by have := List.getElem?_range (n := len) (i := i) (by simpa using hlt); rw [this] at hi; exact (Option.some.inj hi).symm
                subst this
                obtain ⟨h1, h2, h3⟩ := hvf i' (by simpa using hlt)
                obtain ⟨k1, k2⟩ := cells_at h1
                have hj := (List.getElem?_eq_some_iff.1 hx).1
                have hj' := List.getElem?_eq_getElem (l := (vf i').1) (i := j) (by rw [h3.1]; exact hj)
                refine ⟨_, ?_, h3.2 j x _ hx hj'⟩
                have := k2 j _ hj'
                rw [← this, addr_add hsp, ad_add]
              have hlen : ((List.range len).map fun i => (vf i).2).length = len := by simp
              have ha : (Value.slice (some a) len cap) = .slice (some ⟨a.block, a.off, none⟩) ((List.range len).map fun i => (vf i).2).length cap := by
                rw [hlen]
                cases a
                simp at hsp
                subst hsp
                rfl
              rw [ha]
              refine .psl false _ (P.cellsOf e) a.block a.off none cap (fun i j => (w.cell? ⟨a.block, a.off + i * P.cellsOf e + j, none⟩).getD undef) (fun _ => rfl) (fun c hc => ?_) (by rw [hlen]; exact hlc) (fun h => by cases h) (fun i c hc j x hx => ?_) (fun i c hc j x hx => ?_)
              · obtain ⟨i, hi, rfl⟩ := List.mem_map.1 hc
                obtain ⟨h1, h2, h3⟩ := hvf i (by simpa using hi)
                rw [← h3.1]; exact (cells_at h1).1
              · obtain ⟨v, q1, q2⟩ := hcell i c hc j x hx
                exact ⟨(cell_spot q1).2, by rw [q1]; rfl⟩
              · obtain ⟨v, q1, q2⟩ := hcell i c hc j x hx
                rw [q1]; exact q2
          · cases top with
            | true => exact absurd (hs rfl _ (.head _)) hsp
            | false =>
              by_cases hce : P.cellsOf e = 0
              · exact ⟨[.undef], by unfold WT; rw [hu]; exact .inr (.inr ⟨rfl, hce, rfl⟩), .one (.undef _)⟩
              -- without room, at a place of its own
              have noCell : ∀ vs, w.cells? 0 (a.add (0 * P.cellsOf e)) (P.cellsOf e) ≠ some vs := fun vs hvs => by
                obtain ⟨k1, k2⟩ := cells_at hvs
                cases vs with
                | nil => exact hce k1.symm
                | cons v r =>
                  have h6 := k2 0 v rfl
                  have h7 : a.add 0 = a := by unfold Addr.add; simp
                  rw [Nat.zero_mul, h7, h7] at h6
                  exact hsp (cell_spot h6).1
              have hlen0 : len = 0 := by
                rcases Nat.eq_zero_or_pos len with h0 | h0
                · exact h0
                · obtain ⟨vs, _, h1, _⟩ := each 0 h0
                  exact absurd h1 (noCell vs)
              have hcap0 : cap = 0 := by
                rcases Nat.eq_zero_or_pos cap with h0 | h0
                · exact h0
                · obtain ⟨hr1, hr2⟩ := hspare rfl
                  have h1 := hr2 0 (by omega)
                  have hy := List.getElem?_eq_getElem (l := rest) (i := 0) (by omega)
                  rw [hy, Option.bind_eq_some_iff] at h1
                  obtain ⟨vs, h2, _⟩ := h1
                  rw [hlen0, Nat.zero_add] at h2
                  exact absurd h2 (noCell vs)
              subst hlen0
              subst hcap0
              refine ⟨[.psl false []], ?_, .one ?_⟩
              · unfold WT; rw [hu]
                exact .inr (.inl ⟨[], rfl, by simp, by simp, fun c hc => by cases hc⟩)
              · exact .psl false [] 0 a.block a.off a.spot 0 (fun _ _ => undef) (fun h => absurd rfl h) (by simp) (Nat.le_refl _) (fun _ => rfl) (fun i e he => by simp at he) (fun i e he => by simp at he)
      case pointer e =>
        rcases DataW.trod_pointer hu h with ⟨rfl, _⟩ | ⟨a, vs, y, m, hm, rfl, rfl, hc, hy⟩
        · exact ⟨[.nilptr], by unfold WT; rw [hu]; exact .inl rfl, .one .nilptr⟩
        · obtain rfl : n = m := by omega
          simp only [Bool.and_eq_true] at hrow
          obtain ⟨pv, h4, h5⟩ := dec hl n e vs _ false hy hrow.1 (fun h => by cases h) (fun k hk => hw k (by simpa [DataW.weights, hu] using hk))
          obtain ⟨k1, k2⟩ := cells_at hc
          by_cases hsp : a.spot = none
          · refine ⟨[.pref pv], ?_, .one ?_⟩
            · unfold WT; rw [hu]; exact .inr (.inl ⟨pv, rfl, by rw [← k1]; exact h5.1.symm, h4⟩)
            · have ha : (Value.pointer (some a)) = .pointer (some ⟨a.block, a.off, none⟩) := by
                cases a
                simp at hsp
                subst hsp
                rfl
              rw [ha]
              have hcell : ∀ (j : Nat) (x : PV), pv[j]? = some x → ∃ v, w.cell? ⟨a.block, a.off + j, none⟩ = some v ∧ VP (olds w) w x v := fun j x hx => by
                have hj := (List.getElem?_eq_some_iff.1 hx).1
                have hj' := List.getElem?_eq_getElem (l := vs) (i := j) (by rw [h5.1]; exact hj)
                refine ⟨_, ?_, h5.2 j x _ hx hj'⟩
                have := k2 j _ hj'
                rw [← this, addr_add hsp]
              refine .pref pv a.block a.off (fun j => (w.cell? ⟨a.block, a.off + j, none⟩).getD undef) (fun j x hx => ?_) (fun j x hx => ?_)
              · obtain ⟨v, q1, q2⟩ := hcell j x hx
                exact ⟨(cell_spot q1).2, by rw [q1]; rfl⟩
              · obtain ⟨v, q1, q2⟩ := hcell j x hx
                rw [q1]; exact q2
          · have h0 : P.cellsOf e = 0 := by
              cases vs with
              | nil => exact k1.symm
              | cons v r =>
                exfalso
                have h6 := k2 0 v rfl
                have h7 : a.add 0 = a := by unfold Addr.add; simp
                rw [h7] at h6
                exact hsp (cell_spot h6).1
            exact ⟨[.undef], by unfold WT; rw [hu]; exact .inr (.inr ⟨h0, rfl⟩), .one (.undef _)⟩
      case struct fs =>
        obtain ⟨xs, m, hm, rfl, hlen, hxl, hx⟩ := DataW.trod_struct hu h
        obtain rfl : n = m := by omega
        simp only [Bool.and_eq_true, List.all_eq_true, beq_iff_eq, List.mem_range] at hrow
        obtain ⟨⟨r1, r2⟩, r3⟩ := hrow
        obtain ⟨parts, p1, p2, p3⟩ := asm (w := w) (F := olds w) (fun f : Field => f.offset) (fun f : Field => P.cellsOf f.type) (fun f p => WT P top n f.type p) cs fs.toList 0
          (fun j f hf => by
            have := r3 j (List.getElem?_eq_some_iff.1 hf).1
            rw [hf] at this
            simpa using this)
          (by rw [hlen, r2]; simp)
          (fun f hf => by
            obtain ⟨i, hi⟩ := List.getElem?_of_mem hf
            have h1 := hx i f (by rw [← Array.getElem?_toList]; exact hi)
            have hil := (List.getElem?_eq_some_iff.1 hi).1
            have hy := List.getElem?_eq_getElem (l := xs) (i := i) (by simpa [hxl] using hil)
            rw [hy] at h1
            refine dec hl n f.type _ _ top h1 (r1 f hf) (fun ht v hv => hs ht v (List.mem_of_mem_drop (List.mem_of_mem_take hv))) (fun k hk => hw k ?_)
            simp only [DataW.weights, hu]
            exact weightsE_mem _ _ i f.type _ (by rw [List.getElem?_map, hi]; rfl) (by rw [List.getElem?_map, hy]; rfl) hk)
        refine ⟨parts.flatten, ?_, by simpa using p3⟩
        unfold WT; rw [hu]
        exact ⟨parts, rfl, by simpa using p1, fun i f p hf hp => p2 i f p (by rw [Array.getElem?_toList]; exact hf) hp⟩
      case array m e =>
        unfold DataW.trod at h; rw [hu] at h
        simp only at h
        split at h
        · rename_i hlen
          rw [Option.map_eq_some_iff] at h
          obtain ⟨xs, hxs, rfl⟩ := h
          simp only [Bool.and_eq_true, beq_iff_eq] at hrow
          have hxl : xs.length = m := by simpa using mapM_some_length hxs
          have sumr : ∀ k, ((List.range k).map fun _ => P.cellsOf e).sum = k * P.cellsOf e := fun k => by
            induction k with
            | zero => simp
            | succ k ih => rw [List.range_succ, List.map_append, List.sum_append, ih]; simp [Nat.succ_mul]
          obtain ⟨parts, p1, p2, p3⟩ := asm (w := w) (F := olds w) (fun i : Nat => i * P.cellsOf e) (fun _ : Nat => P.cellsOf e) (fun _ p => WT P top n e p) cs (List.range m) 0
            (fun j i hj => by
              have hjl := (List.getElem?_eq_some_iff.1 hj).1
              have : i = j := by have := List.getElem?_range (n := m) (i := j) (by simpa using hjl); rw [this] at hj; exact (Option.some.inj hj).symm
              subst this
              rw [List.take_range, Nat.min_eq_left (by simp at hjl; omega), sumr]
              omega)
            (by rw [hlen, hrow.2, sumr]; omega)
            (fun i hi => by
              have hi' : i < m := by simpa using hi
              have h1 := mapM_some_get hxs i i (List.getElem?_range hi')
              have hy := List.getElem?_eq_getElem (l := xs) (i := i) (by omega)
              rw [hy] at h1
              refine dec hl n e _ _ top h1 hrow.1 (fun ht v hv => hs ht v (List.mem_of_mem_drop (List.mem_of_mem_take hv))) (fun k hk => hw k ?_)
              simp only [DataW.weights, hu]
              exact weights_mem _ _ (List.mem_map.2 ⟨_, List.getElem_mem _, rfl⟩) hk)
          refine ⟨parts.flatten, ?_, by simpa using p3⟩
          unfold WT; rw [hu]
          refine ⟨parts, rfl, by simpa using p1, fun p hp => ?_⟩
          obtain ⟨i, hi⟩ := List.getElem?_of_mem hp
          have hil := (List.getElem?_eq_some_iff.1 hi).1
          exact p2 i i p (by rw [List.getElem?_range (by simpa [p1] using hil)]) hi
        · cases h
      case interface ms =>
        have h1 : cs.length = 1 := by
          unfold DataW.trod at h; rw [hu] at h
          split at h <;> simp_all
        exact ⟨[.undef], by unfold WT; rw [hu]; exact .inr rfl, one h1 rfl⟩
      case map k e =>
        have h1 : cs.length = 1 := by
          unfold DataW.trod at h; rw [hu] at h
          split at h <;> simp_all
        exact ⟨[.undef], by unfold WT; rw [hu]; exact .inr rfl, one h1 rfl⟩
      all_goals
        have h1 : cs.length = 1 := by
          unfold DataW.trod at h; rw [hu] at h
          split at h <;> simp_all
        exact ⟨[.undef], by unfold WT; rw [hu]; rfl, one h1 rfl⟩
end
end Go.Pvm

/- Part of the proof: from the evaluator's word to the row: true, the input as it was. -/
set_option linter.unusedSimpArgs false
set_option linter.unusedVariables false
namespace Go.Pvm
open Go.ChangeShapes Go.WideShapes Go.ChangeAt Go.RowKit

/-- A value of a type, as an argument. -/
def WTV (P : Program) (t : TypeId) (v : PV) : Prop :=
  ∃ n, match aggD ((P.underlying t).getD .bool) with
    | true => ∃ cs, v = .agg cs ∧ WT P true n t cs
    | false => WT P true n t [v]

def WTArgs (P : Program) : List TypeId → List PV → Prop
  | [], [] => True
  | t :: ts, v :: vs => WTV P t v ∧ WTArgs P ts vs
  | _, _ => False

section
variable {H : Type} {enc : TypeId × Value → H} {P : Program} {W : World}

theorem spot_cell {P : Program} {base : Nat} {t : TypeId} {v : Value} (h : Cell.okWide P W .any base t v) : spotless v := by
  unfold Cell.okWide at h
  cases v <;> try trivial
  rename_i a len cap
  cases a with
  | none => trivial
  | some a =>
    show a.spot = none
    cases hu : P.underlying t with
    | none => rw [hu] at h; simp [Cell.ok, hu] at h
    | some d =>
      rw [hu] at h
      cases d <;> simp [Cell.ok, hu] at h
      case slice e => exact h.2.2.2.1

theorem row_args (hl : laidOutB P = true) {base : Nat} : ∀ (ts : List TypeId) (vs : List Value) (ds : List (DataW H)) (ps : List MemPlace), DataW.TrodAll enc P W 0 (fun _ => true) true ts vs ds ps →
    (∀ (j : Nat) (t : TypeId) (v : Value), ts[j]? = some t → vs[j]? = some v → Value.okWide P W .any base t v) → (∀ t ∈ ts, isVar P t = true) →
    (∀ k ∈ DataW.weightsEach P ts ds, k ≤ reachBytes) → ∃ pvs, WTArgs P ts pvs ∧ VPs (olds W) W pvs vs
  | [], vs, ds, ps, h, _, _, _ => by
    obtain ⟨rfl, rfl, rfl⟩ := trodAll_nil h
    exact ⟨[], trivial, VPs.nil'⟩
  | t :: ts, vs, ds, ps, h, hok, hv, hw => by
    obtain ⟨v, vs, d, ds, p, q, rfl, rfl, rfl, h1, h2⟩ := trodAll_cons h
    obtain ⟨pvs, k1, k2⟩ := row_args hl ts vs ds q h2 (fun j t v a b => hok (j + 1) t v (by simpa using a) (by simpa using b)) (fun t ht => hv t (.tail _ ht)) (fun k hk => hw k (by unfold DataW.weightsEach; exact List.mem_append_right _ hk))
    obtain ⟨n, hn⟩ := h1
    have hokv := hok 0 t v rfl rfl
    have hw0 : ∀ k ∈ d.weights P t, k ≤ reachBytes := fun k hk => hw k (by unfold DataW.weightsEach; exact List.mem_append_left _ hk)
    have hvt := hv t (.head _)
    have single : aggD ((P.underlying t).getD .bool) = false → ∃ pv, WTV P t pv ∧ VP (olds W) W pv v := fun ha => by
      have hc : Cell.okWide P W .any base t v := by
        unfold Value.okWide at hokv
        cases hu : P.underlying t with
        | none => rw [hu] at hokv; exact hokv
        | some d => rw [hu] at hokv ha; cases d <;> first | exact hokv | (cases ha; done)
      have hone : v.cells.toList = [v] := by
        cases v <;> first | rfl | (exfalso; unfold Cell.okWide at hc; cases hu : P.underlying t with | none => (rw [hu] at hc; simp [Cell.ok, hu] at hc) | some d => (rw [hu] at hc; cases d <;> simp [Cell.ok, hu] at hc))
      rw [hone] at hn
      obtain ⟨pv, a1, a2⟩ := dec hl n t [v] _ true hn hvt (fun _ u hu => by
        simp at hu
        subst hu
        exact spot_cell hc) hw0
      have hl1 := a2.1
      obtain ⟨c, rfl⟩ := List.length_eq_one_iff.1 (show pv.length = 1 by simpa using hl1.symm)
      exact ⟨c, ⟨n, by rw [ha]; exact a1⟩, a2.2 0 c v rfl rfl⟩
    have agg : aggD ((P.underlying t).getD .bool) = true → ∃ pv, WTV P t pv ∧ VP (olds W) W pv v := fun ha => by
      have hc : ∃ cs, v = .agg cs ∧ cs.size = P.cellsOf t ∧ Row.okWide P W .any base t cs := by
        unfold Value.okWide at hokv
        cases hu : P.underlying t with
        | none => rw [hu] at ha; cases ha
        | some d => rw [hu] at hokv ha; cases d <;> first | exact hokv | (cases ha; done)
      obtain ⟨cs, rfl, _, ts', _, _, hcell⟩ := hc
      obtain ⟨pv, a1, a2⟩ := dec hl n t cs.toList _ true hn hvt (fun _ u hu => by
        obtain ⟨i, hi⟩ := List.getElem?_of_mem hu
        obtain ⟨u', _, hk⟩ := hcell i u (by rw [← Array.getElem?_toList]; exact hi)
        exact spot_cell hk) hw0
      refine ⟨.agg pv, ⟨n, by rw [ha]; exact ⟨pv, rfl, a1⟩⟩, ?_⟩
      have := VP.agg' a2
      simpa using this
    obtain ⟨pv, a1, a2⟩ : ∃ pv, WTV P t pv ∧ VP (olds W) W pv v := by
      cases ha : aggD ((P.underlying t).getD .bool) with
      | true => exact agg ha
      | false => exact single ha
    exact ⟨pv :: pvs, ⟨a1, k1⟩, VPs.append (a := [pv]) (x := [v]) (.one a2) k2⟩

theorem all_stays (hl : laidOutB P = true) {W' : World} (hb : Below W.heap.size W W') {sp : Nat → Bool} : ∀ (ts : List TypeId) (vs : List Value) (ds : List (DataW H)) (ps : List MemPlace), DataW.TrodAll enc P W 0 (fun _ => true) true ts vs ds ps →
    (∀ t ∈ ts, isVar P t = true ∧ P.readableRec t = true) → (∀ p ∈ ps, p.block < W.heap.size ∧ sp p.block = true) → DataW.TrodAll enc P W' 0 sp true ts vs ds ps
  | [], vs, ds, ps, h, _, _ => by
    obtain ⟨rfl, rfl, rfl⟩ := trodAll_nil h
    exact rfl
  | t :: ts, vs, ds, ps, h, hr, hp => by
    obtain ⟨v, vs, d, ds, p, q, rfl, rfl, rfl, h1, h2⟩ := trodAll_cons h
    refine ⟨p, q, WideElems.Trod_stays hl (hr t (.head _)).2 (isVar_lt (hr t (.head _)).1) h1 (fun x hx => hb.same (hp x (List.mem_append_left _ hx)).1) (fun x hx => (hp x (List.mem_append_left _ hx)).2), ?_, rfl⟩
    exact all_stays hl hb ts vs ds q h2 (fun t ht => hr t (.tail _ ht)) fun x hx => hp x (List.mem_append_right _ hx)
end

theorem row_lifted {C : Checked} {os : Os} {f : FuncId} {fn : Func} {s : ChangeSpec} {conds : List PathCond} {fresh handsOn : Bool} {H : Type} {enc : TypeId × Value → H} {cfg : Cfg}
    (hP : cfg.P = C.prog) (hT : Tolds cfg) (hl : laidOutB C.prog = true) (own : ownKnob C.prog.godebug = none) (started : os.Started) (noInit : C.prog.inits.idxOf? f = none) (hfn : C.prog.funcs[f]? = some fn)
    {tb : TypeId} (hres : fn.resultTypes = #[tb]) (htb : C.prog.underlying tb = some .bool) (hpar : (fn.params.toList.all fun t => isVar C.prog t && C.prog.readableRec t) = true)
    (hvars : s.vars = []) (hsp : ∀ (H : Type) (ds : List (DataW H)), ds.length = fn.params.size → s.fn H ds = { results := [.lit (.bool true)], args := ds })
    (witness : ∃ (w : World) (tape : Tape) (i : Input), w.os = os ∧ (w.forCall tape i).Shaped C.prog ∧ i.vars = [] ∧ Input.okWide C.prog (w.forCall tape i) .any w.heap.size f i ∧
      s.pre6 enc C.prog fn conds false (w.forCall tape i).memory i.args ∧ ({} : Assume).holds C.prog (lone (Frame.enter C.prog f i.args .normal) [] (w.forCall tape i)))
    (main : ∀ pvs : List PV, WTArgs C.prog fn.params.toList pvs → ∃ σ', callω cfg f pvs .empty = some (.bool true, σ')) :
    ReturnsInHanded {} C os f .any (s.pre6 enc C.prog fn conds false) (s.post enc C.prog fn false fresh handsOn false) := by
  refine returnsInHanded_of_calls own started noInit witness ?_
  intro w tape i _ _ _ hok hpre hholds
  obtain ⟨_, _, _, fn', hfn', _, _, _, _, hval⟩ := hok
  have e : fn' = fn := Option.some.inj (hfn'.symm.trans hfn)
  subst e
  obtain ⟨⟨ds, gs, before, hw, hc⟩, hz⟩ := hpre
  have hwt := hz.weights hw
  have hW := DataW.Whole.of_heap (w' := w.forCall tape i) (by rfl) hw
  generalize w.forCall tape i = W at *
  have hW0 := hW
  obtain ⟨p, q, hA, hV, rfl, hfz, hnd⟩ := hW
  rw [hvars] at hV
  obtain ⟨rfl, rfl⟩ := trodVars_none hV
  simp only [List.all_eq_true, Bool.and_eq_true] at hpar
  have hdl : ∀ (ts : List TypeId) (vs : List Value) (ds : List (DataW H)) (ps : List MemPlace), DataW.TrodAll enc C.prog W 0 (fun _ => true) true ts vs ds ps → ds.length = ts.length := by
    intro ts
    induction ts with
    | nil => intro vs ds ps h; obtain ⟨rfl, rfl, rfl⟩ := trodAll_nil h; rfl
    | cons t ts ih => intro vs ds ps h; obtain ⟨v, vs, d, ds, p, q, rfl, rfl, rfl, h1, h2⟩ := trodAll_cons h; simp [ih _ _ _ h2]
  have hlen : ds.length = fn'.params.size := by simpa using hdl _ _ _ _ hA
  obtain ⟨pvs, k1, k2⟩ := row_args hl (base := w.heap.size) _ _ _ _ hA (fun j t v a b => hval j t v (by rw [← Array.getElem?_toList]; exact a) (by rw [← Array.getElem?_toList]; exact b)) (fun t ht => (hpar t ht).1)
    (fun k hk => by
      have hvt : (OpenSpec.ofChange s).bare.plain.varTypes C.prog = [] := by
        simp [OpenSpec.ofChange, OpenSpec.bare, ChangeSpec.plain, DataSpec.varTypes, hvars]
      rw [hvt, List.append_nil, List.append_nil, List.all_eq_true] at hwt
      simpa using hwt k hk)
  obtain ⟨σ', hm⟩ := main pvs k1
  have ok := (omega_ok (cfg := cfg) hT (by rw [hP]; exact C.mixed)).ok f pvs .empty _ _ hm (fun _ => none) (olds W) W i.args.toList (SR.empty (fun b o h => h) 0) ⟨k2.1, fun i c u a b => .pure (k2.2 i c u a b)⟩ (fun _ _ _ => rfl)
  rw [hP] at ok
  refine ok.mono fun e W' ⟨vc, ρ', F', he, g, s', hv⟩ => ?_
  obtain rfl := hv.bool_inv
  subst he
  have hb : Below W.heap.size W W' := ⟨g.os, g.tape, g.out, g.size, fun k hk => g.frame k hk fun ⟨_, _, _, h, _⟩ => by cases h⟩
  have hlt : ∀ x ∈ p, x.block < W.heap.size := fun x hx => hW0.lt x (by simpa using hx)
  have hp : s.post enc C.prog fn' false fresh handsOn false W i.args (.bool true) W' := by
    refine ⟨ds, [], p ++ [], [], p, [], hW0, ?_, ?_, ?_, hb.frame _, fun h => by cases h⟩
    · rw [List.append_nil, hsp H ds hlen, hres]
      exact trodAll_mk1 (shut_bool htb true)
    · rw [List.append_nil, hsp H ds hlen]
      exact all_stays hl hb _ _ _ _ hA hpar fun x hx => ⟨hlt x hx, by simpa using hlt x hx⟩
    · rw [hvars, List.append_nil, hsp H ds hlen]
      exact rfl
  exact ChangeSpec.post_blind hp
end Go.Pvm

/- Part of the proof: names for loops of the program; small laws for reading what a function comes to. -/
set_option linter.unusedSimpArgs false
set_option linter.unusedVariables false
namespace Go.Pvm

def loopsOf : Code → List Code
  | .seq a b | .cond _ a b => loopsOf a ++ loopsOf b
  | .block _ a => loopsOf a
  | .loop a => a :: loopsOf a
  | _ => []
def loopAt (P : Program) (f n : Nat) : Code := (loopsOf (((P.funcs[f]?).bind (·.body)).getD .skip)).getD n .skip

/-- A state: what stands in some slots. -/
def mkS (n : Nat) (l : List (Nat × PV)) : List PV := (List.range n).map fun i => (l.lookup i).getD .undef

end Go.Pvm

/- Part of the proof: small laws for telling what a function comes to. -/
set_option linter.unusedSimpArgs false
set_option linter.unusedVariables false
namespace Go.Pvm
section
variable {β : Type}
theorem asInt_int (κ : IntKind) (n : Int) (k : Int → Option β) : asInt κ (.int κ n) k = k n := by simp [asInt]
theorem asBool_bool (b : Bool) (k : Bool → Option β) : asBool (.bool b) k = k b := rfl
theorem asStr_str (s : ByteArray) (k : ByteArray → Option β) : asStr (.str s) k = k s := rfl
theorem onEx_exit (i : Nat) (e : Nat → Option β) (r : Option β) : onEx (.exit i) e r = e i := rfl
theorem onEx_ret (e : Nat → Option β) (r : Option β) : onEx .ret e r = r := rfl
theorem bind_some' {α : Type} (a : α) (f : α → Option β) : (some a).bind f = f a := rfl
theorem fnv_func (g : FuncId) (cs : List PV) : fnv (.func g cs) = some (g, cs) := rfl
theorem tupv_0 (a : PV) (l : List PV) : tupv (.tuple (a :: l)) 0 = some a := rfl
theorem tupv_1 (a b : PV) (l : List PV) : tupv (.tuple (a :: b :: l)) 1 = some b := rfl
theorem tupv_2 (a b c : PV) (l : List PV) : tupv (.tuple (a :: b :: c :: l)) 2 = some c := rfl
end

theorem wrap_i64 {x : Int} (h1 : -9223372036854775808 ≤ x) (h2 : x < 9223372036854775808) : IntKind.wrap .i64 x = x := by
  have e1 : ((2 : Int) ^ IntKind.bits .i64) = 18446744073709551616 := by decide
  have e2 : ((2 : Int) ^ (IntKind.bits .i64 - 1)) = 9223372036854775808 := by decide
  have e3 : IntKind.signed .i64 = true := rfl
  simp only [IntKind.wrap, e1, e2, e3, Bool.true_and, decide_eq_true_eq]
  split <;> omega
theorem wrap_u8 {x : Int} (h1 : 0 ≤ x) (h2 : x < 256) : IntKind.wrap .u8 x = x := by
  have e1 : ((2 : Int) ^ IntKind.bits .u8) = 256 := by decide
  have e3 : IntKind.signed .u8 = false := rfl
  simp only [IntKind.wrap, e1, e3, Bool.false_and]
  simp only [Bool.false_eq_true, if_false]
  omega

/-! Freezing. -/
theorem frz_func (σ : Store) (g : FuncId) (cs : List PV) : fz fuelFz σ (.func g cs) = .func g (cs.map (fz 7 σ)) := rfl
theorem frz_int (σ : Store) (κ : IntKind) (n : Int) : fz fuelFz σ (.int κ n) = .int κ n := rfl
theorem frz_bool (σ : Store) (b : Bool) : fz fuelFz σ (.bool b) = .bool b := rfl
theorem frz_str (σ : Store) (b : ByteArray) : fz fuelFz σ (.str b) = .str b := rfl
theorem frz_pref (σ : Store) (cs : List PV) : fz fuelFz σ (.pref cs) = .pref cs := rfl
theorem frz_lsl {σ : Store} {id sz idx len ro : Nat} {cap : Option Nat} {es : List (List PV)} (ho : σ.objs id = some (.cells ro es)) (h : idx + len ≤ es.length) (n : Nat) :
    fz (n + 1) σ (.lsl id sz idx len cap) = .psl (cap == some len) (((es.drop idx).take len).map fun e => e.map (fz n σ)) := by
  unfold fz
  simp only [ho]
  exact if_pos h
theorem frz_tuple2 (σ : Store) (a b : PV) : fz fuelFz σ (.tuple [a, b]) = .tuple [fz 7 σ a, fz 7 σ b] := rfl
theorem frz_new (σ : Store) (κ : IntKind) (n : Int) : fz 7 (Store.push σ (.cells 0 [[.int κ n]])) (.ref σ.next 0 0) = .pref [.int κ n] := by
  have h : (Store.push σ (.cells 0 [[.int κ n]])).objs σ.next = some (.cells 0 [[.int κ n]]) := by simp [Store.push]
  simp only [fz, h]
  rfl

/-- What a call made by itself hands back. -/
noncomputable def pureω (cfg : Cfg) (f : FuncId) (args : List PV) : Option PV := (callω cfg f args .empty).map fun r => fz fuelFz r.2 r.1

theorem pureω_of {cfg : Cfg} {f : FuncId} (hT : cfg.told f = none) {args : List PV} {v : PV} {τ : Store} (h : stepK cfg (callω cfg) (loopω cfg) f args .empty = some (v, τ)) {v' : PV} (hf : fz fuelFz τ v = v') : pureω cfg f args = some v' := by
  unfold pureω
  rw [callω_ofK hT h]
  exact congrArg some hf

theorem callE_pure {cfg c2 : Cfg} {f : FuncId} {args args' : List PV} {σ : Store} {v : PV} (hm : c2.mode f = .pure) (he : enters c2.P f = true) (ha : args.map (fz fuelFz σ) = args') (hv : pureω cfg f args' = some v)
    (hs : v.scalar = true ∨ PV.lf.lfs args = true) : callE c2 (callω cfg) f args σ = some (v, σ) := by
  unfold callE callv
  rw [if_pos he, hm]
  simp only
  unfold pureω at hv
  rw [Option.map_eq_some_iff] at hv
  obtain ⟨⟨u, τ⟩, h1, h2⟩ := hv
  rw [ha, h1]
  simp only [Option.bind_some] at h2 ⊢
  rw [h2]
  rcases hs with hs | hs
  · rw [if_pos hs]
  · by_cases hsc : v.scalar = true
    · rw [if_pos hsc]
    · rw [if_neg hsc]
      by_cases hst : c2.strict = true
      · rw [if_pos hst, if_pos hs]
      · rw [if_neg hst, topss_lf args hs]
        rfl

theorem callE_live {cfg c2 : Cfg} {f : FuncId} {args : List PV} {σ : Store} (hm : c2.mode f = .live) (he : enters c2.P f = true) : callE c2 (callω cfg) f args σ = callω cfg f args σ := by
  unfold callE callv
  rw [if_pos he, hm]

theorem callE_own {cfg c2 : Cfg} {f : FuncId} {args args' : List PV} {σ τ : Store} {v : PV} (hm : c2.mode f = .own) (he : enters c2.P f = true) (ha : args.map (fz fuelFz σ) = args') (hv : callω cfg f args' (.at_ σ.next) = some (v, τ))
    (ho : v.own = true) (hoo : ownObjs τ σ.next = true) : callE c2 (callω cfg) f args σ = some (v, σ.join τ) := by
  unfold callE callv
  rw [if_pos he, hm]
  simp only
  rw [ha, hv]
  simp only [Option.bind_some, ho, hoo, Bool.and_self, if_true]

theorem callE_blind {cfg c2 : Cfg} {f : FuncId} {args : List PV} {σ τ : Store} {v : PV} (hm : c2.mode f = .blind) (he : enters c2.P f = true) (hv : callω cfg f args .empty = some (v, τ)) (h0 : τ.next = 0) : callE c2 (callω cfg) f args σ = some (v, σ) := by
  unfold callE callv
  rw [if_pos he, hm]
  simp only
  rw [hv]
  simp only [Option.bind_some, h0, if_true]

/-! Appending. -/
structure El (P : Program) (el : TypeId) (sz by_ : Nat) : Prop where
  hsz : szOf P el = some sz
  hby : byOf P el = some by_
  z : ∃ z, zeroOf P el = some z ∧ z.known = true ∧ z.cells.length = sz
  pos : sz ≠ 0 ∧ by_ ≠ 0

section
variable {P : Program} {σ : Store} {el : TypeId} {sz by_ : Nat} {x : PV} {new es : List (List PV)} {id ro idx len : Nat}
theorem appendv_start (E : El P el sz by_) (hx : elemsOf σ x = some new) (ha : all1 sz new = true) (s : PV) : appendv P σ el s x = (match s with
  | .nilsl => if new.length = 0 then some (.nilsl, σ) else
      if new.length * by_ ≤ 140737488355328 then some (.lsl σ.next sz 0 new.length none, σ.push (.cells 0 new)) else none
  | .psl full es => if new.length = 0 then some (.psl full es, σ) else
      if full = true then
        (if (es.length + new.length) * by_ ≤ 140737488355328 then
          (if (es.all fun e => e.length == sz) = true then some (.lsl σ.next sz 0 (es.length + new.length) none, σ.push (.cells 0 (es ++ new))) else none)
        else none)
      else none
  | .lsl id sz' idx len cap => if new.length = 0 then some (.lsl id sz' idx len cap, σ) else
      if sz' ≠ sz then none else
      match σ.objs id with
      | some (.cells ro es) =>
        if idx + len + new.length ≤ es.length ∧ len + new.length ≤ cap.getD (len + new.length) then
          (if ro ≤ idx + len then some (.lsl id sz idx (len + new.length) cap, σ.put id (.cells ro (es.take (idx + len) ++ new ++ es.drop (idx + len + new.length)))) else none)
        else if idx + len ≤ es.length then
          (if (len + new.length) * by_ ≤ 140737488355328 then
            (match cap with
            | some c => if c < len + new.length then
                some (.lsl σ.next sz 0 (len + new.length) none, σ.push (.cells 0 ((es.drop idx).take len ++ new))) else none
            | none => if ro ≤ idx + len then some (.lsl σ.next sz 0 (len + new.length) none, (σ.kill id).push (.cells (ro - idx) ((es.drop idx).take len ++ new))) else none)
          else none)
        else none
      | _ => none
  | _ => none) := by
  obtain ⟨z, hz, hk, hl⟩ := E.z
  unfold appendv
  simp only [E.hsz, E.hby, hz, hx, Option.bind_some]
  rw [if_neg (by rw [hk, hl]; simp [E.pos.1, E.pos.2]), if_neg (by rw [ha]; decide)]
  cases s <;> rfl

/-- A slice that is full is laid anew. -/
theorem appendv_full (E : El P el sz by_) (hx : elemsOf σ x = some new) (ha : all1 sz new = true) (hn : new ≠ []) (ho : σ.objs id = some (.cells ro es)) (hi : idx + len ≤ es.length) (hb : (len + new.length) * by_ ≤ 140737488355328) :
    appendv P σ el (.lsl id sz idx len (some len)) x = some (.lsl σ.next sz 0 (len + new.length) none, σ.push (.cells 0 ((es.drop idx).take len ++ new))) := by
  have h0 : 0 < new.length := List.length_pos_iff.2 hn
  rw [appendv_start E hx ha]
  simp only [ho]
  rw [if_neg (by omega), if_neg (by simp), if_neg (by simp only [Option.getD_some]; omega), if_pos hi, if_pos hb, if_pos (by omega)]
/-- A slice of unknown room, its last element the row's last that is known. -/
theorem appendv_open (E : El P el sz by_) (hx : elemsOf σ x = some new) (ha : all1 sz new = true) (hn : new ≠ []) (ho : σ.objs id = some (.cells ro es)) (hi : idx + len = es.length) (hr : ro ≤ idx + len) (hb : (len + new.length) * by_ ≤ 140737488355328) :
    appendv P σ el (.lsl id sz idx len none) x = some (.lsl σ.next sz 0 (len + new.length) none, (σ.kill id).push (.cells (ro - idx) ((es.drop idx).take len ++ new))) := by
  have h0 : 0 < new.length := List.length_pos_iff.2 hn
  rw [appendv_start E hx ha]
  simp only [ho]
  rw [if_neg (by omega), if_neg (by simp), if_neg (by omega), if_pos (by omega), if_pos hb, if_pos hr]
theorem appendv_none (E : El P el sz by_) (hx : elemsOf σ x = some []) {cap : Option Nat} : appendv P σ el (.lsl id sz idx len cap) x = some (.lsl id sz idx len cap, σ) := by
  rw [appendv_start E hx rfl]
  rfl
theorem appendv_nil (E : El P el sz by_) (hx : elemsOf σ x = some new) (ha : all1 sz new = true) (hn : new ≠ []) (hb : new.length * by_ ≤ 140737488355328) :
    appendv P σ el .nilsl x = some (.lsl σ.next sz 0 new.length none, σ.push (.cells 0 new)) := by
  have h0 : 0 < new.length := List.length_pos_iff.2 hn
  rw [appendv_start E hx ha]
  simp only
  rw [if_neg (by omega), if_pos hb]
theorem writeB_append {t u e2 : TypeId} (ht : P.underlying t = some (.slice el)) (hu : P.underlying u = some (.slice e2)) (hs : isStr x = false) (s : PV) : writeB P σ .append [t, u] [s, x] = appendv P σ el s x := by
  simp only [writeB, ht, hu]
  cases x <;> first | rfl | cases hs
end

/-! Arguments of a row. -/
theorem wtv_int {P : Program} {t : TypeId} {k : IntKind} {v : PV} (ht : P.underlying t = some (.int k)) (h : WTV P t v) : ∃ x, v = .int k x ∧ k.min ≤ x ∧ x ≤ k.max := by
  obtain ⟨n, h⟩ := h
  rw [ht] at h
  simp only [Option.getD_some, aggD] at h
  cases n with
  | zero => exact h.elim
  | succ n =>
    unfold WT at h
    rw [ht] at h
    obtain ⟨x, h1, h2⟩ := h
    exact ⟨x, by simpa using h1, h2⟩
theorem wtv_slice {P : Program} {t e : TypeId} {v : PV} (ht : P.underlying t = some (.slice e)) (h : WTV P t v) :
    v = .nilsl ∨ ∃ es n, v = .psl false es ∧ es.length ≤ maxLen ∧ es.length * P.bytesOf e ≤ reachBytes ∧ ∀ c ∈ es, c.length = P.cellsOf e ∧ WT P false n e c := by
  obtain ⟨n, h⟩ := h
  rw [ht] at h
  simp only [Option.getD_some, aggD] at h
  cases n with
  | zero => exact h.elim
  | succ n =>
    unfold WT at h
    rw [ht] at h
    rcases h with h | ⟨es, h1, h2⟩ | ⟨h, _⟩
    · exact .inl (by simpa using h)
    · exact .inr ⟨es, n, by simpa using h1, h2⟩
    · cases h
theorem wt_int {P : Program} {top : Bool} {n : Nat} {t : TypeId} {k : IntKind} {cs : List PV} (ht : P.underlying t = some (.int k)) (h : WT P top n t cs) : ∃ x, cs = [.int k x] ∧ k.min ≤ x ∧ x ≤ k.max := by
  cases n with
  | zero => exact h.elim
  | succ n => unfold WT at h; rw [ht] at h; exact h
theorem wt_struct {P : Program} {top : Bool} {n : Nat} {t : TypeId} {fs : Array Field} {cs : List PV} (ht : P.underlying t = some (.struct fs)) (h : WT P top n t cs) : ∃ m, ∃ parts : List (List PV), cs = parts.flatten ∧ parts.length = fs.size ∧ ∀ (i : Nat) (f : Field) (p : List PV), fs[i]? = some f → parts[i]? = some p → p.length = P.cellsOf f.type ∧ WT P top m f.type p := by
  cases n with
  | zero => exact h.elim
  | succ n => unfold WT at h; rw [ht] at h; exact ⟨n, h⟩
theorem wt_array {P : Program} {top : Bool} {n k : Nat} {t e : TypeId} {cs : List PV} (ht : P.underlying t = some (.array k e)) (h : WT P top n t cs) : ∃ m, ∃ parts : List (List PV), cs = parts.flatten ∧ parts.length = k ∧ ∀ p ∈ parts, p.length = P.cellsOf e ∧ WT P top m e p := by
  cases n with
  | zero => exact h.elim
  | succ n => unfold WT at h; rw [ht] at h; exact ⟨n, h⟩
end Go.Pvm

/- Part of the proof: slices, read only or in the store: reading, cutting, appending; calls that are handed them. -/
set_option linter.unusedSimpArgs false
set_option linter.unusedVariables false
namespace Go.Pvm

theorem push_obj (σ : Store) (o : Obj) : (σ.push o).objs σ.next = some o := by simp [Store.push]
theorem push_old {σ : Store} {o : Obj} {i : Nat} (h : i < σ.next) : (σ.push o).objs i = σ.objs i := by
  show (if i = σ.next then _ else _) = _
  rw [if_neg (by omega)]
theorem push_next (σ : Store) (o : Obj) : (σ.push o).next = σ.next + 1 := rfl
theorem put_obj (σ : Store) (id : Nat) (o : Obj) : (σ.put id o).objs id = some o := by simp [Store.put]
theorem put_other {σ : Store} {id i : Nat} {o : Obj} (h : i ≠ id) : (σ.put id o).objs i = σ.objs i := by simp [Store.put, h]
theorem put_next (σ : Store) (id : Nat) (o : Obj) : (σ.put id o).next = σ.next := rfl

theorem natz : ((0 : Nat) : Int) = 0 := rfl
theorem wrap_succ {i : Nat} (h : i < 4611686018427387904) : IntKind.wrap .i64 (((i : Nat) : Int) + 1) = ((i + 1 : Nat) : Int) := by rw [wrap_i64 (by omega) (by omega)]; rfl
theorem ltN {i n : Nat} (h : i < n) : decide (((i : Nat) : Int) < ((n : Nat) : Int)) = true := by simp; omega
theorem nltN {i n : Nat} (h : n ≤ i) : decide (((i : Nat) : Int) < ((n : Nat) : Int)) = false := by simp; omega

/-- A value that names nothing and is read as it stands. -/
def PV.plain : PV → Bool
  | .bool _ | .int .. | .float .. | .str _ | .nilptr | .nilsl | .psl .. | .pref _ | .nilmap | .nilfunc | .niliface => true
  | _ => false
theorem fz_plain {v : PV} (h : v.plain = true) (n : Nat) (σ : Store) : fz (n + 1) σ v = v := by cases v <;> first | rfl | cases h
theorem fz_plains {e : List PV} (h : ∀ c ∈ e, c.plain = true) (n : Nat) (σ : Store) : e.map (fz (n + 1) σ) = e := by
  induction e with
  | nil => rfl
  | cons c e ih => rw [List.map_cons, fz_plain (h c (.head _)), ih fun c hc => h c (.tail _ hc)]
theorem lf_plain {v : PV} (h : v.plain = true) : v.lf = true := by cases v <;> first | rfl | cases h
theorem lfs_plain {e : List PV} (h : ∀ c ∈ e, c.plain = true) : PV.lf.lfs e = true := by
  induction e with
  | nil => rfl
  | cons c e ih => simp [PV.lf.lfs, lf_plain (h c (.head _)), ih fun c hc => h c (.tail _ hc)]
def Plain (es : List (List PV)) : Prop := ∀ e ∈ es, ∀ c ∈ e, c.plain = true
theorem Plain.fz {es : List (List PV)} (h : Plain es) (n : Nat) (σ : Store) : es.map (fun e => e.map (fz (n + 1) σ)) = es := by
  induction es with
  | nil => rfl
  | cons e es ih => rw [List.map_cons, fz_plains (h e (.head _)), ih fun e he => h e (.tail _ he)]
theorem Plain.lf {es : List (List PV)} (h : Plain es) : (es.all fun e => PV.lf.lfs e) = true := by
  rw [List.all_eq_true]
  exact fun e he => lfs_plain (h e he)
theorem Plain.app {a b : List (List PV)} (h : Plain a) (h' : Plain b) : Plain (a ++ b) := fun e he => (List.mem_append.1 he).elim (h e) (h' e)

/-- What a call by itself has made of the store: some is written no more. -/
def Rl (σ τ : Store) : Prop := τ.next = σ.next ∧ ∀ i, τ.objs i = σ.objs i ∨ ∃ ro es, σ.objs i = some (.cells ro es) ∧ τ.objs i = some (.cells es.length es)
theorem Rl.rfl' (σ : Store) : Rl σ σ := ⟨rfl, fun _ => .inl rfl⟩
theorem Rl.trans {σ τ υ : Store} (h : Rl σ τ) (h' : Rl τ υ) : Rl σ υ := by
  refine ⟨h'.1.trans h.1, fun i => ?_⟩
  rcases h.2 i with e | ⟨ro, es, e1, e2⟩
  · rcases h'.2 i with e' | ⟨ro, es, e1, e2⟩
    · exact .inl (e'.trans e)
    · exact .inr ⟨ro, es, by rw [← e]; exact e1, e2⟩
  · rcases h'.2 i with e' | ⟨ro', es', e1', e2'⟩
    · exact .inr ⟨ro, es, e1, e'.trans e2⟩
    · rw [e2] at e1'
      cases e1'
      exact .inr ⟨ro, es, e1, e2'⟩
/-- What stands by a number is cells that name nothing. -/
def Lf (σ : Store) (id : Nat) : Prop := ∃ ro es, σ.objs id = some (.cells ro es) ∧ (es.all fun e => PV.lf.lfs e) = true
theorem Rl.lf {σ τ : Store} (h : Rl σ τ) {id : Nat} (hl : Lf σ id) : Lf τ id := by
  obtain ⟨ro, es, h1, h2⟩ := hl
  rcases h.2 id with e | ⟨ro', es', e1, e2⟩
  · exact ⟨ro, es, e.trans h1, h2⟩
  · rw [h1] at e1; cases e1; exact ⟨_, es, e2, h2⟩
theorem roAll_ok : ∀ (ids : List Nat) (σ : Store), (∀ id ∈ ids, Lf σ id) → ∃ τ, roAll ids σ = some τ ∧ Rl σ τ
  | [], σ, _ => ⟨σ, rfl, Rl.rfl' σ⟩
  | id :: ids, σ, h => by
    obtain ⟨ro, es, h1, h2⟩ := h id (.head _)
    have hr : Rl σ (σ.put id (.cells es.length es)) := by
      refine ⟨rfl, fun i => ?_⟩
      by_cases hi : i = id
      · subst hi; exact .inr ⟨ro, es, h1, put_obj _ _ _⟩
      · exact .inl (put_other hi)
    obtain ⟨τ, h3, h4⟩ := roAll_ok ids _ fun j hj => hr.lf (h j (.tail _ hj))
    refine ⟨τ, ?_, hr.trans h4⟩
    simp only [roAll, h1]
    rw [if_pos h2]
    exact h3

/-- A call by itself, in an open region's outside. -/
theorem callQ {cfg c2 : Cfg} {f : FuncId} {args args' : List PV} {σ : Store} {v : PV} (hm : c2.mode f = .pure) (hst : c2.strict = false) (he : enters c2.P f = true) (ha : args.map (fz fuelFz σ) = args') (hv : pureω cfg f args' = some v)
    (hl : ∀ id ∈ tops.topss args, Lf σ id) : ∃ τ, callE c2 (callω cfg) f args σ = some (v, τ) ∧ Rl σ τ := by
  obtain ⟨σ1, hr, hR⟩ := roAll_ok _ _ hl
  unfold callE callv
  rw [if_pos he, hm]
  simp only
  unfold pureω at hv
  rw [Option.map_eq_some_iff] at hv
  obtain ⟨⟨u, τ⟩, h1, h2⟩ := hv
  rw [ha, h1]
  simp only [Option.bind_some] at h2 ⊢
  rw [h2]
  by_cases hsc : v.scalar = true
  · exact ⟨σ, by rw [if_pos hsc], Rl.rfl' σ⟩
  · exact ⟨σ1, by rw [if_neg hsc, hst, hr]; rfl, hR⟩

/-! ### Slices that are read -/
def IsP (v : PV) (es : List (List PV)) : Prop := (v = .nilsl ∧ es = []) ∨ ∃ b, v = .psl b es
/-- A slice, read only or in the store. -/
def IsQ (σ : Store) (sz : Nat) (v : PV) (es : List (List PV)) : Prop :=
  IsP v es ∨ ∃ id idx cap ro full, v = .lsl id sz idx es.length cap ∧ σ.objs id = some (.cells ro full) ∧ idx + es.length ≤ full.length ∧ (full.drop idx).take es.length = es ∧ id < σ.next
theorem IsP.q {v : PV} {es : List (List PV)} (h : IsP v es) {σ : Store} {sz : Nat} : IsQ σ sz v es := .inl h

section
variable {P : Program} {σ τ : Store} {t el : TypeId} {sz : Nat} {v : PV} {es : List (List PV)}
theorem IsQ.rl (h : IsQ σ sz v es) (r : Rl σ τ) : IsQ τ sz v es := by
  rcases h with h | ⟨id, idx, cap, ro, full, h1, h2, h3, h4, h5⟩
  · exact .inl h
  · have h5' : id < τ.next := by rw [r.1]; exact h5
    rcases r.2 id with e | ⟨ro', es', e1, e2⟩
    · exact .inr ⟨id, idx, cap, ro, full, h1, e.trans h2, h3, h4, h5'⟩
    · rw [h2] at e1; cases e1; exact .inr ⟨id, idx, cap, _, full, h1, e2, h3, h4, h5'⟩
theorem IsQ.len (hu : P.underlying t = some (.slice el)) (h : IsQ σ sz v es) : pureB P .len [t] [v] = some (.int .i64 (es.length : Nat)) := by
  rcases h with (⟨rfl, rfl⟩ | ⟨b, rfl⟩) | ⟨id, idx, cap, ro, full, rfl, _⟩ <;> simp [pureB, hu]
theorem IsP.len (hu : P.underlying t = some (.slice el)) (h : IsP v es) : pureB P .len [t] [v] = some (.int .i64 (es.length : Nat)) := IsQ.len (σ := .empty) (sz := 0) hu h.q
theorem IsP.idx (hu : P.underlying t = some (.slice el)) (hs : szOf P el = some sz) (h : IsP v es) {i : Nat} {e : List PV} (hi : es[i]? = some e) (he : e.length = sz) (κ : IntKind) : indexAddrv P t v (.int κ (i : Nat)) = some (.pref e) := by
  rcases h with ⟨rfl, rfl⟩ | ⟨b, rfl⟩
  · simp at hi
  · have hn : (0 : Int) ≤ ((i : Nat) : Int) := by omega
    simp [indexAddrv, intOf?, hu, hs, hi, he]
theorem IsQ.frz (h : IsQ σ sz v es) (hp : Plain es) (n : Nat) : IsP (fz (n + 2) σ v) es := by
  rcases h with (⟨rfl, rfl⟩ | ⟨b, rfl⟩) | ⟨id, idx, cap, ro, full, rfl, h2, h3, h4, h5⟩
  · exact .inl ⟨rfl, rfl⟩
  · exact .inr ⟨b, rfl⟩
  · refine .inr ⟨cap == some es.length, ?_⟩
    rw [frz_lsl h2 h3 (n + 1), h4, hp.fz]
theorem IsP.frz (h : IsP v es) (n : Nat) (σ : Store) : fz (n + 1) σ v = v := by rcases h with ⟨rfl, rfl⟩ | ⟨b, rfl⟩ <;> rfl
theorem IsP.plain (h : IsP v es) : v.plain = true := by rcases h with ⟨rfl, rfl⟩ | ⟨b, rfl⟩ <;> rfl
theorem IsP.lf (h : IsP v es) : v.lf = true := lf_plain h.plain
theorem IsP.tops (h : IsP v es) : tops v = [] := by rcases h with ⟨rfl, rfl⟩ | ⟨b, rfl⟩ <;> rfl
theorem IsQ.elems (h : IsQ σ sz v es) : elemsOf σ v = some es := by
  rcases h with (⟨rfl, rfl⟩ | ⟨b, rfl⟩) | ⟨id, idx, cap, ro, full, rfl, h2, h3, h4, h5⟩
  · rfl
  · rfl
  · simp only [elemsOf, h2]
    rw [if_pos h3, h4]
theorem IsQ.nostr (h : IsQ σ sz v es) : isStr v = false := by rcases h with (⟨rfl, rfl⟩ | ⟨b, rfl⟩) | ⟨id, idx, cap, ro, full, rfl, _⟩ <;> rfl

/-- Reading an element, wherever it stands. -/
theorem IsQ.idx (hu : P.underlying t = some (.slice el)) (hs : szOf P el = some sz) (h : IsQ σ sz v es) {i : Nat} {e : List PV} (hi : es[i]? = some e) (he : e.length = sz) (κ : IntKind) :
    ∃ a, indexAddrv P t v (.int κ (i : Nat)) = some a ∧ ((∃ r, a = .pref r) ∨ ∃ id k, a = .ref id k 0) ∧ ∀ t', loadv P σ t' a = partOf P t' e 0 := by
  rcases h with h | ⟨id, idx, cap, ro, full, rfl, h2, h3, h4, h5⟩
  · exact ⟨_, h.idx hu hs hi he κ, .inl ⟨_, rfl⟩, fun t' => rfl⟩
  · have hlt : i < es.length := (List.getElem?_eq_some_iff.1 hi).1
    have hn : (0 : Int) ≤ ((i : Nat) : Int) ∧ ((i : Nat) : Int) < (es.length : Nat) ∧ sz = sz := ⟨by omega, by omega, rfl⟩
    refine ⟨.ref id (idx + i) 0, ?_, .inr ⟨_, _, rfl⟩, fun t' => ?_⟩
    · simp only [indexAddrv, intOf?, hu, hs, Option.bind_some]
      rw [if_pos ⟨hn.1, hn.2.1, trivial⟩, Int.toNat_natCast]
    · have hg : full[idx + i]? = some e := by
        have hq : ((full.drop idx).take es.length)[i]? = es[i]? := by rw [h4]
        rw [List.getElem?_take, if_pos hlt, List.getElem?_drop] at hq
        rw [hq, hi]
      simp only [loadv, h2, hg, Option.bind_some]
/-- A cut, read only. -/
theorem IsP.cut (hu : P.underlying t = some (.slice el)) (hs : szOf P el = some sz) (h : IsP v es) (he : ∀ e ∈ es, e.length = sz) {lo hi : Option PV} {l k : Nat} (hl : numOf lo 0 = some l) (hh : numOf hi es.length = some k) (h1 : l ≤ k) (h2 : k ≤ es.length) :
    ∃ v', cutv P t v lo hi none = some v' ∧ IsP v' ((es.drop l).take (k - l)) := by
  rcases h with ⟨rfl, rfl⟩ | ⟨b, rfl⟩
  · have hk : k = 0 := by simpa using h2
    subst hk
    have hl0 : l = 0 := by omega
    subst hl0
    have hh' : numOf hi 0 = some 0 := hh
    refine ⟨.nilsl, ?_, .inl ⟨rfl, by simp⟩⟩
    simp only [cutv, hu, hs, Option.bind_some, hh', hl]
    rw [if_neg (by simp)]
    rfl
  · have hall : (es.all fun e => e.length == sz) = true := by
      rw [List.all_eq_true]; intro e h; simpa using he e h
    refine ⟨.psl (b && decide (k = es.length)) ((es.drop l).take (k - l)), ?_, .inr ⟨_, rfl⟩⟩
    have hm : numOf none es.length = some es.length := rfl
    simp only [cutv, hu, hs, Option.bind_some, hh, hl, hm]
    rw [if_neg (by simp), if_pos ⟨h1, h2, Nat.le_refl _, hall⟩]
    rfl
theorem numOf_nat (κ : IntKind) (n d : Nat) : numOf (some (.int κ (n : Nat))) d = some n := by simp [numOf]
theorem numOf_none (d : Nat) : numOf none d = some d := rfl
end

/-! ### What is old stays -/
def Mod (σ τ : Store) (ids : List Nat) : Prop := σ.next ≤ τ.next ∧ ∀ i, i < σ.next → i ∉ ids → τ.objs i = σ.objs i
theorem Mod.refl (σ : Store) (ids : List Nat) : Mod σ σ ids := ⟨Nat.le_refl _, fun _ _ _ => rfl⟩
theorem Mod.push (σ : Store) (o : Obj) (ids : List Nat) : Mod σ (σ.push o) ids := ⟨Nat.le_succ _, fun i h _ => push_old h⟩
theorem Mod.put {σ : Store} {id : Nat} {o : Obj} {ids : List Nat} (h : id ∈ ids) : Mod σ (σ.put id o) ids := ⟨Nat.le_refl _, fun i _ hi => put_other fun e => hi (e ▸ h)⟩
theorem Mod.kill {σ : Store} {id : Nat} {ids : List Nat} (h : id ∈ ids) : Mod σ (σ.kill id) ids := ⟨Nat.le_refl _, fun i _ hi => by
  show (if i = id then none else σ.objs i) = _
  rw [if_neg (by rintro rfl; exact hi h)]⟩
theorem Mod.trans {σ τ υ : Store} {a b : List Nat} (h : Mod σ τ a) (h' : Mod τ υ b) : Mod σ υ (a ++ b) :=
  ⟨Nat.le_trans h.1 h'.1, fun i hi hn => by
    rw [h'.2 i (Nat.lt_of_lt_of_le hi h.1) fun k => hn (List.mem_append_right _ k), h.2 i hi fun k => hn (List.mem_append_left _ k)]⟩
theorem Mod.mono {σ τ : Store} {a b : List Nat} (h : Mod σ τ a) (hs : ∀ i, i < σ.next → i ∈ a → i ∈ b) : Mod σ τ b := ⟨h.1, fun i hi hn => h.2 i hi fun k => hn (hs i hi k)⟩
theorem Mod.trans' {σ τ υ : Store} {a b : List Nat} (h : Mod σ τ a) (h' : Mod τ υ b) (hs : ∀ i ∈ b, i ∈ a ∨ σ.next ≤ i) : Mod σ υ a :=
  (h.trans h').mono fun i hi hm => (List.mem_append.1 hm).elim id fun k => (hs i k).elim id fun e => absurd hi (by omega)

/-! ### Slices that are appended to -/
def Ap (σ : Store) (sz : Nat) (v : PV) (es : List (List PV)) : Prop :=
  (v = .nilsl ∧ es = []) ∨ v = .psl true es ∨ ∃ id idx cap ro full, v = .lsl id sz idx es.length cap ∧ σ.objs id = some (.cells ro full) ∧ idx + es.length ≤ full.length ∧ (full.drop idx).take es.length = es ∧
    ((cap = none ∧ idx + es.length = full.length ∧ ro ≤ full.length) ∨ cap = some es.length) ∧ id < σ.next

section
variable {P : Program} {σ τ : Store} {t el : TypeId} {sz by_ : Nat} {u x : PV} {es new : List (List PV)}
theorem Ap.q (h : Ap σ sz u es) : IsQ σ sz u es := by
  rcases h with ⟨rfl, rfl⟩ | rfl | ⟨id, idx, cap, ro, full, h1, h2, h3, h4, h5⟩
  · exact .inl (.inl ⟨rfl, rfl⟩)
  · exact .inl (.inr ⟨_, rfl⟩)
  · exact .inr ⟨id, idx, cap, ro, full, h1, h2, h3, h4, h5.2⟩
theorem Ap.mod (h : Ap σ sz u es) {ids : List Nat} (m : Mod σ τ ids) (hd : ∀ i ∈ tops u, i ∉ ids) : Ap τ sz u es := by
  rcases h with h | h | ⟨id, idx, cap, ro, full, rfl, h2, h3, h4, h5, h6⟩
  · exact .inl h
  · exact .inr (.inl h)
  · exact .inr (.inr ⟨id, idx, cap, ro, full, rfl, (m.2 id h6 (hd id (.head _))).trans h2, h3, h4, h5, Nat.lt_of_lt_of_le h6 m.1⟩)
theorem IsQ.mod (h : IsQ σ sz u es) {ids : List Nat} (m : Mod σ τ ids) (hd : ∀ i ∈ tops u, i ∉ ids) : IsQ τ sz u es := by
  rcases h with h | ⟨id, idx, cap, ro, full, rfl, h2, h3, h4, h6⟩
  · exact .inl h
  · exact .inr ⟨id, idx, cap, ro, full, rfl, (m.2 id h6 (hd id (.head _))).trans h2, h3, h4, Nat.lt_of_lt_of_le h6 m.1⟩
theorem IsQ.push (h : IsQ σ sz u es) (o : Obj) : IsQ (σ.push o) sz u es := h.mod (Mod.push σ o []) fun _ _ => by simp
theorem Ap.push (h : Ap σ sz u es) (o : Obj) : Ap (σ.push o) sz u es := h.mod (Mod.push σ o []) fun _ _ => by simp
theorem Ap.nil (σ : Store) (sz : Nat) : Ap σ sz .nilsl [] := .inl ⟨rfl, rfl⟩
theorem Ap.fresh (σ : Store) (sz : Nat) (es : List (List PV)) : Ap (σ.push (.cells 0 es)) sz (.lsl σ.next sz 0 es.length (some es.length)) es :=
  .inr (.inr ⟨_, 0, _, 0, es, rfl, push_obj _ _, by omega, by simp, .inr rfl, Nat.lt_succ_self _⟩)
theorem Ap.app (E : El P el sz by_) (h : Ap σ sz u es) (hes : ∀ e ∈ es, e.length = sz) (hx : elemsOf σ x = some new) (ha : all1 sz new = true) (hb : (es.length + new.length) * by_ ≤ 140737488355328) :
    ∃ u' τ, appendv P σ el u x = some (u', τ) ∧ Ap τ sz u' (es ++ new) ∧ Mod σ τ (tops u) ∧ ∀ i ∈ tops u', i ∈ tops u ∨ (σ.next ≤ i ∧ i < τ.next) := by
  by_cases hn : new = []
  · subst hn
    refine ⟨u, σ, ?_, by rw [List.append_nil]; exact h, Mod.refl _ _, fun i hi => .inl hi⟩
    rw [appendv_start E hx ha]
    rcases h with ⟨rfl, rfl⟩ | rfl | ⟨id, idx, cap, ro, full, rfl, _⟩ <;> rfl
  · have h0 : 0 < new.length := List.length_pos_iff.2 hn
    rcases h with ⟨rfl, rfl⟩ | rfl | ⟨id, idx, cap, ro, full, rfl, h2, h3, h4, h5, h6⟩
    · refine ⟨_, _, appendv_nil E hx ha hn (by simpa using hb), ?_, Mod.push _ _ _, fun i hi => ?_⟩
      · exact .inr (.inr ⟨_, 0, _, 0, new, rfl, push_obj _ _, by simp, by simp, .inl ⟨rfl, by simp, Nat.zero_le _⟩, Nat.lt_succ_self _⟩)
      · simp [tops] at hi; subst hi; exact .inr ⟨Nat.le_refl _, Nat.lt_succ_self _⟩
    · have hall : (es.all fun e => e.length == sz) = true := by
        rw [List.all_eq_true]; intro e h; simpa using hes e h
      refine ⟨.lsl σ.next sz 0 (es.length + new.length) none, σ.push (.cells 0 (es ++ new)), ?_, ?_, Mod.push _ _ _, fun i hi => ?_⟩
      · rw [appendv_start E hx ha]
        simp only
        rw [if_neg (by omega), if_pos trivial, if_pos hb, if_pos hall]
      · exact .inr (.inr ⟨_, 0, none, 0, es ++ new, by simp, push_obj _ _, by simp, by rw [List.drop_zero, List.take_length], .inl ⟨rfl, by simp, Nat.zero_le _⟩, Nat.lt_succ_self _⟩)
      · simp [tops] at hi; subst hi; exact .inr ⟨Nat.le_refl _, Nat.lt_succ_self _⟩
    · rcases h5 with ⟨rfl, h5, h7⟩ | rfl
      · refine ⟨_, _, appendv_open E hx ha hn h2 h5 (by omega) hb, ?_, ?_, fun i hi => ?_⟩
        · rw [h4]
          refine .inr (.inr ⟨_, 0, none, _, es ++ new, by simp; rfl, push_obj _ _, by simp, by rw [List.drop_zero, List.take_length], .inl ⟨rfl, by simp, ?_⟩, Nat.lt_succ_self _⟩)
          simp; omega
        · refine (Mod.kill (ids := [id]) (.head _)).trans' (Mod.push _ _ []) (fun _ h => by cases h)
        · simp [tops] at hi; subst hi; exact .inr ⟨Nat.le_refl _, Nat.lt_succ_self _⟩
      · refine ⟨_, _, appendv_full E hx ha hn h2 h3 hb, ?_, Mod.push _ _ _, fun i hi => ?_⟩
        · rw [h4]
          exact .inr (.inr ⟨_, 0, none, 0, es ++ new, by simp, push_obj _ _, by simp, by rw [List.drop_zero, List.take_length], .inl ⟨rfl, by simp, Nat.zero_le _⟩, Nat.lt_succ_self _⟩)
        · simp [tops] at hi; subst hi; exact .inr ⟨Nat.le_refl _, Nat.lt_succ_self _⟩
/-- Elements laid and appended. -/
theorem Ap.app1 (E : El P el sz by_) (hu : P.underlying t = some (.slice el)) (h : Ap σ sz u es) (hes : ∀ e ∈ es, e.length = sz) (ha : all1 sz new = true) (hb : (es.length + new.length) * by_ ≤ 140737488355328) :
    ∃ u' τ, writeB P (σ.push (.cells 0 new)) .append [t, t] [u, .lsl σ.next sz 0 new.length (some new.length)] = some (u', τ) ∧ Ap τ sz u' (es ++ new) ∧ Mod σ τ (tops u) ∧ ∀ i ∈ tops u', i ∈ tops u ∨ (σ.next ≤ i ∧ i < τ.next) := by
  have hx : elemsOf (σ.push (.cells 0 new)) (.lsl σ.next sz 0 new.length (some new.length)) = some new := by
    simp [elemsOf, push_obj]
  obtain ⟨u', τ, h1, h2, h3, h4⟩ := (h.push (.cells 0 new)).app E hes hx ha hb
  refine ⟨u', τ, by rw [writeB_append hu hu rfl]; exact h1, h2, ?_, fun i hi => ?_⟩
  · have := (Mod.push σ (.cells 0 new) (tops u)).trans h3
    exact this.mono fun i _ hi => by simpa using hi
  · rcases h4 i hi with h | h
    · exact .inl h
    · exact .inr ⟨by have := h.1; rw [push_next] at this; omega, h.2⟩
/-- Elements of another slice appended. -/
theorem Ap.appQ (E : El P el sz by_) (hu : P.underlying t = some (.slice el)) (h : Ap σ sz u es) (hes : ∀ e ∈ es, e.length = sz) (hx : IsQ σ sz x new) (ha : all1 sz new = true) (hb : (es.length + new.length) * by_ ≤ 140737488355328) :
    ∃ u' τ, writeB P σ .append [t, t] [u, x] = some (u', τ) ∧ Ap τ sz u' (es ++ new) ∧ Mod σ τ (tops u) ∧ ∀ i ∈ tops u', i ∈ tops u ∨ (σ.next ≤ i ∧ i < τ.next) := by
  obtain ⟨u', τ, h1, h2, h3, h4⟩ := h.app E hes hx.elems ha hb
  exact ⟨u', τ, by rw [writeB_append hu hu hx.nostr]; exact h1, h2, h3, h4⟩
end

/-! ### Arguments -/
def structTys (P : Program) (t : TypeId) : Option (List TypeId) := match P.underlying t with
  | some (.struct fs) => some (fs.toList.map (·.type))
  | _ => none
theorem wt_fields {P : Program} {top : Bool} {n : Nat} {t : TypeId} {tys : List TypeId} {cs : List PV} (ht : structTys P t = some tys) (h : WT P top n t cs) :
    ∃ m, ∃ parts : List (List PV), cs = parts.flatten ∧ parts.length = tys.length ∧ ∀ (i : Nat) (ty : TypeId) (p : List PV), tys[i]? = some ty → parts[i]? = some p → p.length = P.cellsOf ty ∧ WT P top m ty p := by
  unfold structTys at ht
  cases hu : P.underlying t with
  | none => rw [hu] at ht; cases ht
  | some d =>
    rw [hu] at ht
    cases d with
    | struct fs =>
      have ht : fs.toList.map (·.type) = tys := Option.some.inj ht
      obtain ⟨m, parts, h1, h2, h3⟩ := wt_struct hu h
      refine ⟨m, parts, h1, by rw [← ht, List.length_map, h2, Array.length_toList], fun i ty p hi hp => ?_⟩
      rw [← ht, List.getElem?_map, Option.map_eq_some_iff] at hi
      obtain ⟨f, hf, rfl⟩ := hi
      exact h3 i f p (by simpa using hf) hp
    | _ => cases ht
theorem wt_bool {P : Program} {top : Bool} {n : Nat} {t : TypeId} {cs : List PV} (ht : P.underlying t = some .bool) (h : WT P top n t cs) : ∃ x, cs = [.bool x] := by
  cases n with
  | zero => exact h.elim
  | succ n => unfold WT at h; rw [ht] at h; exact h
/-- Elements told one by one. -/
theorem each_map {α : Type} {enc : α → List PV} {Q : α → Prop} : ∀ (es : List (List PV)), (∀ c ∈ es, ∃ w, c = enc w ∧ Q w) → ∃ l : List α, es = l.map enc ∧ ∀ w ∈ l, Q w
  | [], _ => ⟨[], rfl, fun _ h => by cases h⟩
  | c :: es, h => by
    obtain ⟨l, rfl, hl⟩ := each_map es fun c hc => h c (.tail _ hc)
    obtain ⟨w, rfl, hw⟩ := h c (.head _)
    exact ⟨w :: l, rfl, fun x hx => (List.mem_cons.1 hx).elim (fun e => e ▸ hw) (hl x)⟩
end Go.Pvm

/- Part of the proof: elements of slices: laid in variables, read, written in place. -/
set_option linter.unusedSimpArgs false
set_option linter.unusedVariables false
namespace Go.Pvm

/-- Elements of a size, of plain cells. -/
def Els (sz : Nat) (es : List (List PV)) : Prop := ∀ e ∈ es, e.length = sz ∧ ∀ c ∈ e, c.plain = true
theorem Els.plain {sz : Nat} {es : List (List PV)} (h : Els sz es) : Plain es := fun e he => (h e he).2
theorem Els.len {sz : Nat} {es : List (List PV)} (h : Els sz es) : ∀ e ∈ es, e.length = sz := fun e he => (h e he).1
theorem Els.sub {sz : Nat} {a b : List (List PV)} (h : Els sz b) (hs : ∀ e ∈ a, e ∈ b) : Els sz a := fun e he => h e (hs e he)
theorem Els.app {sz : Nat} {a b : List (List PV)} (h : Els sz a) (h' : Els sz b) : Els sz (a ++ b) := fun e he => (List.mem_append.1 he).elim (h e) (h' e)
theorem Els.map {α : Type} {sz : Nat} {enc : α → List PV} (h : ∀ a, (enc a).length = sz ∧ ∀ c ∈ enc a, c.plain = true) (l : List α) : Els sz (l.map enc) := fun e he => by
  obtain ⟨a, _, rfl⟩ := List.mem_map.1 he
  exact h a
theorem one_plain {v : PV} (h : v.plain = true) : v.one = true := by cases v <;> first | rfl | cases h
theorem ones_plain {e : List PV} (h : ∀ c ∈ e, c.plain = true) : e.all PV.one = true := by
  rw [List.all_eq_true]
  exact fun c hc => one_plain (h c hc)
theorem Els.all1 {sz : Nat} {es : List (List PV)} (h : Els sz es) : all1 sz es = true := by
  unfold Pvm.all1
  rw [List.all_eq_true]
  intro e he
  simp [(h e he).1, ones_plain (h e he).2]

theorem push_put (σ : Store) (o o' : Obj) : (σ.push o).put σ.next o' = σ.push o' := by
  unfold Store.push Store.put
  congr 1
  funext i
  by_cases h : i = σ.next <;> simp [h]
theorem put_put (σ : Store) (id : Nat) (o o' : Obj) : (σ.put id o).put id o' = σ.put id o' := by
  unfold Store.put
  congr 1
  funext i
  by_cases h : i = id <;> simp [h]

section
variable {P : Program} {σ : Store} {t : TypeId} {n : Nat} {e : List PV}
/-- Is it a struct (or an array) of so many cells? -/
def AggT (P : Program) (t : TypeId) (n : Nat) : Prop := szOf P t = some n ∧ ∃ d, P.underlying t = some d ∧ aggD d = true
def OneT (P : Program) (t : TypeId) : Prop := szOf P t = some 1 ∧ ∃ d, P.underlying t = some d ∧ aggD d = false
theorem AggT.of (h : szOf P t = some n) (h2 : (P.underlying t).map aggD = some true) : AggT P t n := by
  rw [Option.map_eq_some_iff] at h2
  exact ⟨h, h2⟩
theorem OneT.of (h : szOf P t = some 1) (h2 : (P.underlying t).map aggD = some false) : OneT P t := by
  rw [Option.map_eq_some_iff] at h2
  exact ⟨h, h2⟩
theorem AggT.part (h : AggT P t n) (he : e.length = n) : partOf P t e 0 = some (.agg e) := by
  obtain ⟨h1, d, h2, h3⟩ := h
  simp only [partOf, h1, h2, h3, if_true, Option.bind_some, Nat.zero_add, List.drop_zero]
  rw [if_pos (by omega), List.take_of_length_le (by omega)]
theorem OneT.part (h : OneT P t) (off : Nat) : partOf P t e off = e[off]? := by
  obtain ⟨h1, d, h2, h3⟩ := h
  simp only [partOf, h1, h2, h3, Bool.false_eq_true, if_false, Option.bind_some]
theorem over_all {cs new : List PV} (h : new.length = cs.length) : over cs 0 new = new := by
  unfold over
  simp [h]
/-- A variable just laid is written. -/
theorem stNew (h : szOf P t = some n) {z : List PV} (hz : z.length = n) {v : PV} (hv : v.cells.length = n) (ho : v.cells.all PV.one = true) : storev P (σ.push (.cells 0 [z])) t (.ref σ.next 0 0) v = some (σ.push (.cells 0 [v.cells])) := by
  simp only [storev, push_obj, List.getElem?_cons_zero, Option.bind_some, h]
  rw [if_pos ⟨hv, by omega, ho, Nat.le_refl _⟩, push_put, over_all (by omega)]
  rfl
theorem ldPush (off : Nat) : loadv P (σ.push (.cells 0 [e])) t (.ref σ.next 0 off) = partOf P t e off := by
  simp only [loadv, push_obj, List.getElem?_cons_zero, Option.bind_some]
theorem ldRef {id k off ro : Nat} {es : List (List PV)} (ho : σ.objs id = some (.cells ro es)) (hk : es[k]? = some e) : loadv P σ t (.ref id k off) = partOf P t e off := by
  simp only [loadv, ho, hk, Option.bind_some]
/-- An element is written whole. -/
theorem stRef {id k ro : Nat} {es : List (List PV)} (h : szOf P t = some n) (ho : σ.objs id = some (.cells ro es)) (hr : ro ≤ k) (hk : es[k]? = some e) (he : e.length = n) {v : PV} (hv : v.cells.length = n) (h1 : v.cells.all PV.one = true) :
    storev P σ t (.ref id k 0) v = some (σ.put id (.cells ro (es.set k v.cells))) := by
  simp only [storev, ho, hk, h, Option.bind_some]
  rw [if_pos ⟨hv, by omega, h1, hr⟩, over_all (by omega)]
/-- A part of an element is written. -/
theorem stRefOff {id k off ro : Nat} {es : List (List PV)} (h : szOf P t = some n) (ho : σ.objs id = some (.cells ro es)) (hr : ro ≤ k) (hk : es[k]? = some e) {v : PV} (hv : v.cells.length = n) (he : off + n ≤ e.length) (h1 : v.cells.all PV.one = true) :
    storev P σ t (.ref id k off) v = some (σ.put id (.cells ro (es.set k (over e off v.cells)))) := by
  simp only [storev, ho, hk, h, Option.bind_some]
  rw [if_pos ⟨hv, he, h1, hr⟩]
theorem ia_lsl {el : TypeId} {sz id idx len i : Nat} {cap : Option Nat} (hu : P.underlying t = some (.slice el)) (hs : szOf P el = some sz) (hi : i < len) (κ : IntKind) : indexAddrv P t (.lsl id sz idx len cap) (.int κ (i : Nat)) = some (.ref id (idx + i) 0) := by
  simp only [indexAddrv, intOf?, hu, hs, Option.bind_some]
  rw [if_pos ⟨by omega, by omega, trivial⟩, Int.toNat_natCast]
theorem len_lsl {el : TypeId} (hu : P.underlying t = some (.slice el)) (id sz idx len : Nat) (cap : Option Nat) : pureB P .len [t] [.lsl id sz idx len cap] = some (.int .i64 (len : Nat)) := by simp [pureB, hu]
theorem cut_lsl {el : TypeId} {sz id idx len a b : Nat} {cap : Option Nat} {lo hi : Option PV} (hu : P.underlying t = some (.slice el)) (hs : szOf P el = some sz) (hl : numOf lo 0 = some a) (hh : numOf hi len = some b) (h1 : a ≤ b) (h2 : b ≤ len) (h3 : ∀ c, cap = some c → len ≤ c) :
    cutv P t (.lsl id sz idx len cap) lo hi none = some (.lsl id sz (idx + a) (b - a) (cap.map (· - a))) := by
  have hm : numOf none (cap.getD len) = some (cap.getD len) := rfl
  simp only [cutv, hu, hs, Option.bind_some, hl, hh, hm]
  have hb : b ≤ cap.getD len := by
    cases cap with
    | none => exact h2
    | some c => exact Nat.le_trans h2 (h3 c rfl)
  rw [if_neg (by simp), if_neg (by simp), if_pos ⟨h1, hb, Nat.le_refl _⟩]
  rfl
theorem clear_lsl {el : TypeId} {sz id idx len ro : Nat} {cap : Option Nat} {es : List (List PV)} {z : PV} (hu : P.underlying t = some (.slice el)) (hs : szOf P el = some sz) (hp : sz ≠ 0) (hz : zeroOf P el = some z) (hk : z.known = true) (hl : z.cells.length = sz) (h1 : z.cells.all PV.one = true)
    (ho : σ.objs id = some (.cells ro es)) (hi : idx + len ≤ es.length) (hr : ro ≤ idx) :
    writeB P σ .clear [t] [.lsl id sz idx len cap] = some (.tuple [], σ.put id (.cells ro (es.take idx ++ List.replicate len z.cells ++ es.drop (idx + len)))) := by
  simp only [writeB, hu, clearv, hs, hz, Option.bind_some, ho]
  rw [if_neg (by simp [hp, hk, hl, h1]), if_neg (by simp), if_pos ⟨hi, hr⟩]
end

/-- A place, or -1. -/
def idxI (o : Option Nat) : Int := match o with | some j => (j : Nat) | none => -1
/-- The variable of a closure: what it has captured, read whole. -/
theorem fz_ref {σ : Store} {id ro : Nat} {e : List PV} (ho : σ.objs id = some (.cells ro [e])) (hp : ∀ c ∈ e, c.plain = true) (n : Nat) : fz (n + 2) σ (.ref id 0 0) = .pref e := by
  rw [show n + 2 = (n + 1) + 1 from rfl]
  unfold fz
  simp only [ho, List.getElem?_cons_zero, List.drop_zero]
  rw [fz_plains hp]
end Go.Pvm

/- Part of the proof: slices as lists of any things; texts and bytes. -/
set_option linter.unusedSimpArgs false
set_option linter.unusedVariables false
namespace Go.Pvm

/-! ### Two lists, one by one -/
inductive All2 {α β : Type} (R : α → β → Prop) : List α → List β → Prop
  | nil : All2 R [] []
  | cons {a : α} {b : β} {as : List α} {bs : List β} (h : R a b) (t : All2 R as bs) : All2 R (a :: as) (b :: bs)
namespace All2
variable {α β γ : Type} {R : α → β → Prop} {as as' : List α} {bs bs' : List β}
theorem len (h : All2 R as bs) : as.length = bs.length := by
  induction h with
  | nil => rfl
  | cons _ _ ih => simp [ih]
theorem app (h : All2 R as bs) (h' : All2 R as' bs') : All2 R (as ++ as') (bs ++ bs') := by
  induction h with
  | nil => exact h'
  | cons h _ ih => exact .cons h ih
theorem one {a : α} {b : β} (h : R a b) : All2 R [a] [b] := .cons h .nil
theorem get (h : All2 R as bs) : ∀ {i : Nat} {b : β}, bs[i]? = some b → ∃ a, as[i]? = some a ∧ R a b := by
  induction h with
  | nil => intro i b e; simp at e
  | cons h _ ih =>
    intro i b e
    cases i with
    | zero => simp at e; subst e; exact ⟨_, rfl, h⟩
    | succ i => exact ih (by simpa using e)
theorem get' (h : All2 R as bs) : ∀ {i : Nat} {a : α}, as[i]? = some a → ∃ b, bs[i]? = some b ∧ R a b := by
  induction h with
  | nil => intro i b e; simp at e
  | cons h _ ih =>
    intro i b e
    cases i with
    | zero => simp at e; subst e; exact ⟨_, rfl, h⟩
    | succ i => exact ih (by simpa using e)
theorem drop (h : All2 R as bs) : ∀ n, All2 R (as.drop n) (bs.drop n) := by
  induction h with
  | nil => intro n; simpa using All2.nil
  | cons h t ih =>
    intro n
    cases n with
    | zero => exact .cons h t
    | succ n => exact ih n
theorem take (h : All2 R as bs) : ∀ n, All2 R (as.take n) (bs.take n) := by
  induction h with
  | nil => intro n; simpa using All2.nil
  | cons h t ih =>
    intro n
    cases n with
    | zero => exact .nil
    | succ n => exact .cons h (ih n)
theorem set (h : All2 R as bs) {a : α} {b : β} (hab : R a b) : ∀ n, All2 R (as.set n a) (bs.set n b) := by
  induction h with
  | nil => intro n; exact .nil
  | cons h t ih =>
    intro n
    cases n with
    | zero => exact .cons hab t
    | succ n => exact .cons h (ih n)
theorem mem (h : All2 R as bs) {a : α} (ha : a ∈ as) : ∃ b ∈ bs, R a b := by
  induction h with
  | nil => cases ha
  | cons h _ ih =>
    rcases List.mem_cons.1 ha with rfl | ha
    · exact ⟨_, .head _, h⟩
    · obtain ⟨b, hb, r⟩ := ih ha
      exact ⟨b, .tail _ hb, r⟩
theorem mono {S : α → β → Prop} (h : All2 R as bs) (hs : ∀ a b, R a b → S a b) : All2 S as bs := by
  induction h with
  | nil => exact .nil
  | cons h _ ih => exact .cons (hs _ _ h) ih
theorem ofMap {f : β → α} (l : List β) : All2 (fun a b => a = f b) (l.map f) l := by
  induction l with
  | nil => exact .nil
  | cons a l ih => exact .cons rfl ih
theorem toMap {f : β → α} (h : All2 (fun a b => a = f b) as bs) : as = bs.map f := by
  induction h with
  | nil => rfl
  | cons h _ ih => rw [List.map_cons, ← h, ← ih]
theorem replicate {a : α} {b : β} (h : R a b) (n : Nat) : All2 R (List.replicate n a) (List.replicate n b) := by
  induction n with
  | zero => exact .nil
  | succ n ih => exact .cons h ih
/-- From each one's. -/
theorem each : ∀ (as : List α), (∀ a ∈ as, ∃ b, R a b) → ∃ bs, All2 R as bs
  | [], _ => ⟨[], .nil⟩
  | a :: as, h => by
    obtain ⟨b, hb⟩ := h a (.head _)
    obtain ⟨bs, hbs⟩ := each as fun x hx => h x (.tail _ hx)
    exact ⟨b :: bs, .cons hb hbs⟩
end All2

/-- How elements stand. -/
abbrev ElR (α : Type) := List PV → α → Prop
structure ROk {α : Type} (sz : Nat) (R : ElR α) : Prop where
  len : ∀ e a, R e a → e.length = sz
  plain : ∀ e a, R e a → ∀ c ∈ e, c.plain = true
def Fn {α : Type} (f : α → List PV) : ElR α := fun e a => e = f a
theorem ROk.fn {α : Type} {sz : Nat} {f : α → List PV} (h : ∀ a, (f a).length = sz ∧ ∀ c ∈ f a, c.plain = true) : ROk sz (Fn f) := ⟨fun _ a e => e ▸ (h a).1, fun _ a e => e ▸ (h a).2⟩
theorem ROk.els {α : Type} {sz : Nat} {R : ElR α} (ok : ROk sz R) {es : List (List PV)} {l : List α} (h : All2 R es l) : Els sz es := fun e he => by
  obtain ⟨a, _, r⟩ := h.mem he
  exact ⟨ok.len e a r, ok.plain e a r⟩

/-- A slice's type. -/
structure SlT (P : Program) (t el : TypeId) (sz by_ : Nat) : Prop where
  u : P.underlying t = some (.slice el)
  el : El P el sz by_

/-- A slice, read only, as a list. -/
def IsS {α : Type} (R : ElR α) (v : PV) (l : List α) : Prop := ∃ es, IsP v es ∧ All2 R es l
/-- A slice, wherever it stands, as a list. -/
def QS {α : Type} (R : ElR α) (σ : Store) (sz : Nat) (v : PV) (l : List α) : Prop := ∃ es, IsQ σ sz v es ∧ All2 R es l

section
variable {α : Type} {P : Program} {σ τ : Store} {t el : TypeId} {sz by_ : Nat} {R : ElR α} {v u : PV} {l : List α}
theorem IsS.nil : IsS R .nilsl [] := ⟨[], .inl ⟨rfl, rfl⟩, .nil⟩
theorem IsS.q (h : IsS R v l) (σ : Store) (sz : Nat) : QS R σ sz v l := let ⟨es, h1, h2⟩ := h; ⟨es, h1.q, h2⟩
theorem QS.len (T : SlT P t el sz by_) (h : QS R σ sz v l) : pureB P .len [t] [v] = some (.int .i64 (l.length : Nat)) := by
  obtain ⟨es, h1, h2⟩ := h
  rw [h1.len T.u, h2.len]
theorem IsS.len (T : SlT P t el sz by_) (h : IsS R v l) : pureB P .len [t] [v] = some (.int .i64 (l.length : Nat)) := (h.q .empty sz).len T
theorem IsS.idx (T : SlT P t el sz by_) (ok : ROk sz R) (h : IsS R v l) {i : Nat} {a : α} (hi : l[i]? = some a) (κ : IntKind) : ∃ e, indexAddrv P t v (.int κ (i : Nat)) = some (.pref e) ∧ R e a := by
  obtain ⟨es, h1, h2⟩ := h
  obtain ⟨e, he, hr⟩ := h2.get hi
  exact ⟨e, h1.idx T.u T.el.hsz he (ok.len _ _ hr) κ, hr⟩
theorem QS.idx (T : SlT P t el sz by_) (ok : ROk sz R) (h : QS R σ sz v l) {i : Nat} {a : α} (hi : l[i]? = some a) (κ : IntKind) : ∃ x e, indexAddrv P t v (.int κ (i : Nat)) = some x ∧ ((∃ r, x = .pref r) ∨ ∃ id k, x = .ref id k 0) ∧ (∀ t', loadv P σ t' x = partOf P t' e 0) ∧ R e a := by
  obtain ⟨es, h1, h2⟩ := h
  obtain ⟨e, he, hr⟩ := h2.get hi
  obtain ⟨x, q1, q2, q3⟩ := h1.idx T.u T.el.hsz he (ok.len _ _ hr) κ
  exact ⟨x, e, q1, q2, q3, hr⟩
theorem IsS.cut (T : SlT P t el sz by_) (ok : ROk sz R) (h : IsS R v l) {lo hi : Option PV} {a b : Nat} (hl : numOf lo 0 = some a) (hh : numOf hi l.length = some b) (h1 : a ≤ b) (h2 : b ≤ l.length) : ∃ v', cutv P t v lo hi none = some v' ∧ IsS R v' ((l.drop a).take (b - a)) := by
  obtain ⟨es, q1, q2⟩ := h
  obtain ⟨v', r1, r2⟩ := q1.cut T.u T.el.hsz (ok.els q2).len hl (by rw [q2.len]; exact hh) h1 (by rw [q2.len]; exact h2)
  exact ⟨v', r1, _, r2, (q2.drop a).take (b - a)⟩
theorem QS.frz (ok : ROk sz R) (h : QS R σ sz v l) (n : Nat) : IsS R (fz (n + 2) σ v) l := by
  obtain ⟨es, q1, q2⟩ := h
  exact ⟨es, q1.frz (ok.els q2).plain n, q2⟩
theorem IsS.frz (h : IsS R v l) (n : Nat) (σ : Store) : fz (n + 1) σ v = v := let ⟨_, h1, _⟩ := h; h1.frz n σ
theorem IsS.plain (h : IsS R v l) : v.plain = true := let ⟨_, h1, _⟩ := h; h1.plain
theorem IsS.lf (h : IsS R v l) : v.lf = true := lf_plain h.plain
theorem IsS.tops (h : IsS R v l) : tops v = [] := let ⟨_, h1, _⟩ := h; h1.tops
theorem IsS.nostr (h : IsS R v l) : isStr v = false := let ⟨_, h1, _⟩ := h; (h1.q (σ := .empty) (sz := 0)).nostr
theorem QS.rl (h : QS R σ sz v l) (r : Rl σ τ) : QS R τ sz v l := let ⟨es, h1, h2⟩ := h; ⟨es, h1.rl r, h2⟩
theorem QS.mod (h : QS R σ sz v l) {ids : List Nat} (m : Mod σ τ ids) (hd : ∀ i ∈ Pvm.tops v, i ∉ ids) : QS R τ sz v l := let ⟨es, h1, h2⟩ := h; ⟨es, h1.mod m hd, h2⟩
end

/-! ### A slice that is made, all its row being it -/
def Ax (σ : Store) (sz : Nat) (v : PV) (es : List (List PV)) : Prop :=
  (v = .nilsl ∧ es = []) ∨ v = .psl true es ∨ ∃ id cap ro, v = .lsl id sz 0 es.length cap ∧ σ.objs id = some (.cells ro es) ∧ ro ≤ es.length ∧ (cap = none ∨ cap = some es.length) ∧ id < σ.next
section
variable {P : Program} {σ τ : Store} {t el : TypeId} {sz by_ : Nat} {u x : PV} {es new : List (List PV)}
theorem Ax.ap (h : Ax σ sz u es) : Ap σ sz u es := by
  rcases h with h | h | ⟨id, cap, ro, h1, h2, h3, h4, h5⟩
  · exact .inl h
  · exact .inr (.inl h)
  · exact .inr (.inr ⟨id, 0, cap, ro, es, h1, h2, by omega, by simp, h4.imp (fun e => ⟨e, by omega, h3⟩) (fun e => e), h5⟩)
theorem Ax.lf (h : Ax σ sz u es) (hp : Plain es) : ∀ id ∈ tops u, Lf σ id := by
  intro i hi
  rcases h with ⟨rfl, rfl⟩ | rfl | ⟨id, cap, ro, rfl, h2, h3, h4, h5⟩
  · cases hi
  · cases hi
  · simp [tops] at hi; subst hi; exact ⟨ro, es, h2, hp.lf⟩
theorem Ax.rl (h : Ax σ sz u es) (r : Rl σ τ) : Ax τ sz u es := by
  rcases h with h | h | ⟨id, cap, ro, h1, h2, h3, h4, h5⟩
  · exact .inl h
  · exact .inr (.inl h)
  · have h5' : id < τ.next := by rw [r.1]; exact h5
    rcases r.2 id with e | ⟨ro', es', e1, e2⟩
    · exact .inr (.inr ⟨id, cap, ro, h1, e.trans h2, h3, h4, h5'⟩)
    · rw [h2] at e1; cases e1; exact .inr (.inr ⟨id, cap, _, h1, e2, Nat.le_refl _, h4, h5'⟩)
theorem Ax.mod (h : Ax σ sz u es) {ids : List Nat} (m : Mod σ τ ids) (hd : ∀ i ∈ tops u, i ∉ ids) : Ax τ sz u es := by
  rcases h with h | h | ⟨id, cap, ro, rfl, h2, h3, h4, h5⟩
  · exact .inl h
  · exact .inr (.inl h)
  · exact .inr (.inr ⟨id, cap, ro, rfl, (m.2 id h5 (hd id (.head _))).trans h2, h3, h4, Nat.lt_of_lt_of_le h5 m.1⟩)
theorem Ax.push (h : Ax σ sz u es) (o : Obj) : Ax (σ.push o) sz u es := h.mod (Mod.push σ o []) fun _ _ => by simp
theorem Ax.nil (σ : Store) (sz : Nat) : Ax σ sz .nilsl [] := .inl ⟨rfl, rfl⟩
theorem Ax.fresh (σ : Store) (sz : Nat) (es : List (List PV)) : Ax (σ.push (.cells 0 es)) sz (.lsl σ.next sz 0 es.length (some es.length)) es :=
  .inr (.inr ⟨_, _, 0, rfl, push_obj _ _, Nat.zero_le _, .inr rfl, Nat.lt_succ_self _⟩)
theorem kill_push_obj (σ : Store) (i : Nat) (o : Obj) : ((σ.kill i).push o).objs σ.next = some o := by simp [Store.push, Store.kill]
theorem Ax.app (E : El P el sz by_) (h : Ax σ sz u es) (hes : ∀ e ∈ es, e.length = sz) (hx : elemsOf σ x = some new) (ha : all1 sz new = true) (hb : (es.length + new.length) * by_ ≤ 140737488355328) :
    ∃ u' τ, appendv P σ el u x = some (u', τ) ∧ Ax τ sz u' (es ++ new) ∧ Mod σ τ (tops u) ∧ ∀ i ∈ tops u', i ∈ tops u ∨ (σ.next ≤ i ∧ i < τ.next) := by
  by_cases hn : new = []
  · subst hn
    refine ⟨u, σ, ?_, by rw [List.append_nil]; exact h, Mod.refl _ _, fun i hi => .inl hi⟩
    rw [appendv_start E hx ha]
    rcases h with ⟨rfl, rfl⟩ | rfl | ⟨id, cap, ro, rfl, _⟩ <;> rfl
  · have h0 : 0 < new.length := List.length_pos_iff.2 hn
    rcases h with ⟨rfl, rfl⟩ | rfl | ⟨id, cap, ro, rfl, h2, h3, h5, h6⟩
    · refine ⟨_, _, appendv_nil E hx ha hn (by simpa using hb), ?_, Mod.push _ _ _, fun i hi => ?_⟩
      · exact .inr (.inr ⟨_, _, 0, rfl, push_obj _ _, Nat.zero_le _, .inl rfl, Nat.lt_succ_self _⟩)
      · simp [tops] at hi; subst hi; exact .inr ⟨Nat.le_refl _, Nat.lt_succ_self _⟩
    · have hall : (es.all fun e => e.length == sz) = true := by
        rw [List.all_eq_true]; intro e h; simpa using hes e h
      refine ⟨.lsl σ.next sz 0 (es.length + new.length) none, σ.push (.cells 0 (es ++ new)), ?_, ?_, Mod.push _ _ _, fun i hi => ?_⟩
      · rw [appendv_start E hx ha]
        simp only
        rw [if_neg (by omega), if_pos trivial, if_pos hb, if_pos hall]
      · exact .inr (.inr ⟨_, none, 0, by simp, push_obj _ _, Nat.zero_le _, .inl rfl, Nat.lt_succ_self _⟩)
      · simp [tops] at hi; subst hi; exact .inr ⟨Nat.le_refl _, Nat.lt_succ_self _⟩
    · have htk : (es.drop 0).take es.length = es := by simp
      rcases h5 with rfl | rfl
      · refine ⟨_, _, appendv_open E hx ha hn h2 (Nat.zero_add _) (by omega) hb, ?_, ?_, fun i hi => ?_⟩
        · rw [htk]
          exact .inr (.inr ⟨_, none, _, by simp, kill_push_obj _ _ _, by simp; omega, .inl rfl, Nat.lt_succ_self _⟩)
        · refine (Mod.kill (ids := [id]) (.head _)).trans' (Mod.push _ _ []) (fun _ h => by cases h)
        · simp [tops] at hi; subst hi; exact .inr ⟨Nat.le_refl _, Nat.lt_succ_self _⟩
      · refine ⟨_, _, appendv_full E hx ha hn h2 (by omega) hb, ?_, Mod.push _ _ _, fun i hi => ?_⟩
        · rw [htk]
          exact .inr (.inr ⟨_, none, 0, by simp, push_obj _ _, Nat.zero_le _, .inl rfl, Nat.lt_succ_self _⟩)
        · simp [tops] at hi; subst hi; exact .inr ⟨Nat.le_refl _, Nat.lt_succ_self _⟩
end

/-- A slice that is made, as a list. -/
def AxS {α : Type} (R : ElR α) (σ : Store) (sz : Nat) (v : PV) (l : List α) : Prop := ∃ es, Ax σ sz v es ∧ All2 R es l
section
variable {α : Type} {P : Program} {σ τ : Store} {t el : TypeId} {sz by_ : Nat} {R : ElR α} {v u x : PV} {l ln : List α}
theorem AxS.q (h : AxS R σ sz u l) : QS R σ sz u l := let ⟨es, h1, h2⟩ := h; ⟨es, h1.ap.q, h2⟩
theorem AxS.nil (σ : Store) : AxS R σ sz .nilsl [] := ⟨[], Ax.nil _ _, .nil⟩
theorem AxS.len (T : SlT P t el sz by_) (h : AxS R σ sz u l) : pureB P .len [t] [u] = some (.int .i64 (l.length : Nat)) := h.q.len T
theorem AxS.frz (ok : ROk sz R) (h : AxS R σ sz u l) (n : Nat) : IsS R (fz (n + 2) σ u) l := h.q.frz ok n
theorem AxS.lf (ok : ROk sz R) (h : AxS R σ sz u l) : ∀ id ∈ tops u, Lf σ id := let ⟨_, h1, h2⟩ := h; h1.lf (ok.els h2).plain
theorem AxS.rl (h : AxS R σ sz u l) (r : Rl σ τ) : AxS R τ sz u l := let ⟨es, h1, h2⟩ := h; ⟨es, h1.rl r, h2⟩
theorem AxS.mod (h : AxS R σ sz u l) {ids : List Nat} (m : Mod σ τ ids) (hd : ∀ i ∈ tops u, i ∉ ids) : AxS R τ sz u l := let ⟨es, h1, h2⟩ := h; ⟨es, h1.mod m hd, h2⟩
theorem AxS.push (h : AxS R σ sz u l) (o : Obj) : AxS R (σ.push o) sz u l := let ⟨es, h1, h2⟩ := h; ⟨es, h1.push o, h2⟩
theorem AxS.fresh {es : List (List PV)} (h : All2 R es l) (σ : Store) (sz : Nat) {n : Nat} (hn : n = l.length) : AxS R (σ.push (.cells 0 es)) sz (.lsl σ.next sz 0 n (some n)) l := by
  subst hn
  rw [← h.len]
  exact ⟨es, Ax.fresh _ _ _, h⟩
/-- Appended: elements of a slice. -/
theorem AxS.appQ (T : SlT P t el sz by_) (ok : ROk sz R) (h : AxS R σ sz u l) (hx : QS R σ sz x ln) (hb : (l.length + ln.length) * by_ ≤ 140737488355328) :
    ∃ u' τ, writeB P σ .append [t, t] [u, x] = some (u', τ) ∧ AxS R τ sz u' (l ++ ln) ∧ Mod σ τ (tops u) ∧ ∀ i ∈ tops u', i ∈ tops u ∨ (σ.next ≤ i ∧ i < τ.next) := by
  obtain ⟨es, h1, h2⟩ := h
  obtain ⟨new, x1, x2⟩ := hx
  obtain ⟨u', τ, q1, q2, q3, q4⟩ := h1.app T.el (ok.els h2).len x1.elems (ok.els x2).all1 (by rw [h2.len, x2.len]; exact hb)
  exact ⟨u', τ, by rw [writeB_append T.u T.u x1.nostr]; exact q1, ⟨_, q2, h2.app x2⟩, q3, q4⟩
/-- Appended: elements just laid. -/
theorem AxS.app1 (T : SlT P t el sz by_) (ok : ROk sz R) (h : AxS R σ sz u l) {new : List (List PV)} (hn : All2 R new ln) (hb : (l.length + ln.length) * by_ ≤ 140737488355328) {n : Nat} (hn' : n = new.length) :
    ∃ u' τ, writeB P (σ.push (.cells 0 new)) .append [t, t] [u, .lsl σ.next sz 0 n (some n)] = some (u', τ) ∧ AxS R τ sz u' (l ++ ln) ∧ Mod σ τ (tops u) ∧ ∀ i ∈ tops u', i ∈ tops u ∨ (σ.next ≤ i ∧ i < τ.next) := by
  subst hn'
  have hx : QS R (σ.push (.cells 0 new)) sz (.lsl σ.next sz 0 new.length (some new.length)) ln := (AxS.fresh hn σ sz hn.len).q
  obtain ⟨u', τ, q1, q2, q3, q4⟩ := (h.push (.cells 0 new)).appQ T ok hx hb
  refine ⟨u', τ, q1, q2, ((Mod.push σ (.cells 0 new) (tops u)).trans q3).mono fun i _ hi => by simpa using hi, fun i hi => ?_⟩
  rcases q4 i hi with h | h
  · exact .inl h
  · exact .inr ⟨by have := h.1; rw [push_next] at this; omega, h.2⟩
end

/-! ### Bytes and texts -/
def cB (b : UInt8) : List PV := [.int .u8 b.toNat]
abbrev RB : ElR UInt8 := Fn cB
theorem okB : ROk 1 RB := ROk.fn fun a => ⟨rfl, by simp [cB, PV.plain]⟩
theorem bytesOf_cB : ∀ l : List UInt8, bytesOf (l.map cB) = some l
  | [] => rfl
  | b :: l => by
    have h : cB b = [.int .u8 b.toNat] := rfl
    rw [List.map_cons, h]
    unfold bytesOf
    rw [bytesOf_cB l]
    simp
def strB (l : List UInt8) : ByteArray := ⟨l.toArray⟩
section
variable {P : Program} {σ : Store} {t el ts : TypeId} {by_ : Nat} {v : PV} {l l' : List UInt8}
theorem QS.str (hs : P.underlying ts = some .string) (T : SlT P t el 1 by_) (hu : P.underlying el = some (.int .u8)) (h : QS RB σ 1 v l) : convv P σ t ts v = some (.str (strB l)) := by
  obtain ⟨es, h1, h2⟩ := h
  have he : es = l.map cB := h2.toMap
  subst he
  simp only [convv, T.u, hs, hu, h1.nostr, h1.elems, Bool.false_eq_true, if_false, Option.bind_some, bytesOf_cB]
  rfl
theorem IsS.str (hs : P.underlying ts = some .string) (T : SlT P t el 1 by_) (hu : P.underlying el = some (.int .u8)) (h : IsS RB v l) (σ : Store) : convv P σ t ts v = some (.str (strB l)) := (h.q σ 1).str hs T hu
theorem strNe (t : TypeId) : binv P .neq t (.str (strB l)) (.str (strB l')) = some (.bool (!(l == l'))) := by
  have e : ∀ l : List UInt8, (strB l).toList = l := fun l => by rw [ByteArray.toList_eq]; rfl
  simp only [binv, strv, e]
theorem strEq (t : TypeId) : binv P .eql t (.str (strB l)) (.str (strB l')) = some (.bool (l == l')) := by
  have e : ∀ l : List UInt8, (strB l).toList = l := fun l => by rw [ByteArray.toList_eq]; rfl
  simp only [binv, strv, e]
end
theorem lenI (n : Nat) : ((n : Nat) : Int) = (n : Int) := rfl
end Go.Pvm

/- Part of the proof: sums of bytes: plain. -/
set_option linter.unusedSimpArgs false
set_option linter.unusedVariables false
namespace Go.Pvm.Crc

abbrev W32 := BitVec 32
def poly : W32 := 0x814141AB#32
def top : W32 := 0x80000000#32
/-- A step without a bit. -/
def F (x : W32) : W32 := (x <<< 1) ^^^ (if x.msb = true then poly else 0#32)
/-- A step with a bit. -/
def G (r : W32) (b : Bool) : W32 := (r <<< 1) ^^^ (if r.msb = b then 0#32 else poly)
def eb (b : Bool) (n : Nat) : W32 := if b = true then 1#32 <<< n else 0#32

theorem ite_xor (a b : Bool) : (if (a ^^ b) = true then poly else 0#32) = (if a = true then poly else 0#32) ^^^ (if b = true then poly else 0#32) := by
  cases a <;> cases b <;> decide
theorem F_xor (x y : W32) : F (x ^^^ y) = F x ^^^ F y := by
  unfold F
  rw [BitVec.msb_xor, ite_xor, BitVec.shiftLeft_xor_distrib]
  ac_rfl
theorem F_zero : F 0#32 = 0#32 := by decide
theorem msb_eb (b : Bool) : (eb b 31).msb = b := by cases b <;> decide
theorem eb_top_shl (b : Bool) : eb b 31 <<< 1 = 0#32 := by cases b <;> decide
theorem G_F (r : W32) (b : Bool) : G r b = F (r ^^^ eb b 31) := by
  unfold G F
  rw [BitVec.msb_xor, msb_eb, BitVec.shiftLeft_xor_distrib, eb_top_shl, BitVec.xor_zero]
  congr 1
  cases r.msb <;> cases b <;> rfl
theorem F_eb (b : Bool) {n : Nat} (h : n < 31) : F (eb b n) = eb b (n + 1) := by
  have : ∀ n : Fin 31, ∀ b, F (eb b n.1) = eb b (n.1 + 1) := by decide
  exact this ⟨n, h⟩ b
theorem F_inj {x : W32} (h : F x = 0#32) : x = 0#32 := by
  unfold F at h
  cases hm : x.msb with
  | false =>
    rw [hm] at h
    simp only [Bool.false_eq_true, if_false, BitVec.xor_zero] at h
    apply BitVec.eq_of_getLsbD_eq
    intro i hi
    by_cases h31 : i = 31
    · subst h31
      rw [BitVec.msb_eq_getLsbD_last] at hm
      simpa using hm
    · have := congrArg (fun v : W32 => v.getLsbD (i + 1)) h
      simp only [BitVec.getLsbD_shiftLeft] at this
      simp at this
      simpa using this (by omega)
  | true =>
    rw [hm] at h
    exfalso
    have := congrArg (fun v : W32 => v.getLsbD 0) h
    simp [poly] at this

def Fn : Nat → W32 → W32
  | 0, x => x
  | n + 1, x => Fn n (F x)
theorem Fn_xor : ∀ (n : Nat) (x y : W32), Fn n (x ^^^ y) = Fn n x ^^^ Fn n y
  | 0, _, _ => rfl
  | n + 1, x, y => by rw [Fn, F_xor, Fn_xor n]; rfl
theorem Fn_inj : ∀ (n : Nat) {x : W32}, Fn n x = 0#32 → x = 0#32
  | 0, _, h => h
  | n + 1, x, h => F_inj (Fn_inj n h)
theorem Fn_zero (n : Nat) : Fn n 0#32 = 0#32 := by
  induction n with
  | zero => rfl
  | succ n ih => rw [Fn, F_zero, ih]

/-- Bits, the first the highest. -/
def laid : List Bool → Nat → W32
  | [], _ => 0#32
  | b :: r, n => eb b n ^^^ laid r (n - 1)
/-- Up to 32 bits are taken in at once. -/
theorem fold_laid : ∀ (bs : List Bool) (r : W32), bs.length ≤ 32 → bs.foldl G r = Fn bs.length (r ^^^ laid bs 31)
  | [], r, _ => by simp [laid, Fn]
  | b :: bs, r, h => by
    simp only [List.length_cons] at h
    rw [List.foldl_cons, fold_laid bs _ (by omega), List.length_cons, Fn, G_F, laid]
    congr 1
    have up : ∀ (bs : List Bool) (n : Nat), n ≤ 30 → bs.length ≤ n + 1 → F (laid bs n) = laid bs (n + 1) := by
      intro bs
      induction bs with
      | nil => intro n _ _; exact F_zero
      | cons c cs ih =>
        intro n hn hl
        simp only [List.length_cons] at hl
        rw [laid, laid, F_xor, F_eb c (by omega)]
        congr 1
        cases cs with
        | nil => exact F_zero
        | cons d ds =>
          simp only [List.length_cons] at hl
          rw [ih (n - 1) (by omega) (by simp only [List.length_cons]; omega), show n - 1 + 1 = n by omega]
          rfl
    rw [← BitVec.xor_assoc, F_xor (r ^^^ eb b 31)]
    congr 1
    exact (up bs 30 (Nat.le_refl _) (by omega)).symm

/-- The bits of a byte. -/
def bits8 (c : UInt8) : List Bool := [c.toNat.testBit 7, c.toNat.testBit 6, c.toNat.testBit 5, c.toNat.testBit 4, c.toNat.testBit 3, c.toNat.testBit 2, c.toNat.testBit 1, c.toNat.testBit 0]
theorem laid_byte (c : UInt8) : laid (bits8 c) 31 = BitVec.ofNat 32 (c.toNat * 16777216) := by
  have : ∀ n : Fin 256, laid [n.1.testBit 7, n.1.testBit 6, n.1.testBit 5, n.1.testBit 4, n.1.testBit 3, n.1.testBit 2, n.1.testBit 1, n.1.testBit 0] 31 = BitVec.ofNat 32 (n.1 * 16777216) := by decide +kernel
  exact this ⟨c.toNat, c.toNat_lt⟩
/-- A byte taken in. -/
def byteStep (r : W32) (c : UInt8) : W32 := Fn 8 (r ^^^ BitVec.ofNat 32 (c.toNat * 16777216))
theorem byteStep_bits (r : W32) (c : UInt8) : byteStep r c = (bits8 c).foldl G r := by
  rw [fold_laid _ _ (by simp [bits8]), laid_byte]
  rfl
def bitsOf (l : List UInt8) : List Bool := l.flatMap bits8
theorem fold_bits (l : List UInt8) : ∀ r : W32, l.foldl byteStep r = (bitsOf l).foldl G r := by
  induction l with
  | nil => intro r; rfl
  | cons c l ih =>
    intro r
    rw [List.foldl_cons, ih, byteStep_bits]
    unfold bitsOf
    rw [List.flatMap_cons, List.foldl_append]
/-- The sum of bytes. -/
def sum (l : List UInt8) : W32 := l.foldl byteStep 0xFFFFFFFF#32
def four (s : W32) : List UInt8 := [UInt8.ofNat (s.toNat / 16777216), UInt8.ofNat (s.toNat / 65536), UInt8.ofNat (s.toNat / 256), UInt8.ofNat s.toNat]
def sealB (l : List UInt8) : List UInt8 := four (sum l) ++ l
theorem four_inj {a b : W32} (h : four a = four b) : a = b := by
  unfold four at h
  simp only [List.cons.injEq, and_true] at h
  have ha := a.isLt
  have hb := b.isLt
  have e : ∀ x y : Nat, UInt8.ofNat x = UInt8.ofNat y → x % 256 = y % 256 := fun x y h => by
    have := congrArg UInt8.toNat h
    simpa using this
  obtain ⟨h1, h2, h3, h4⟩ := h
  have e1 := e _ _ h1
  have e2 := e _ _ h2
  have e3 := e _ _ h3
  have e4 := e _ _ h4
  apply BitVec.eq_of_toNat_eq
  omega
theorem four_len (s : W32) : (four s).length = 4 := rfl
end Go.Pvm.Crc

/- Part of the proof: whole numbers of the machine's kinds. -/
set_option linter.unusedSimpArgs false
set_option linter.unusedVariables false
namespace Go.Pvm
abbrev u32 (s : BitVec 32) : Int := ((s.toNat : Nat) : Int)
theorem wrap_u32 {x : Int} (h1 : 0 ≤ x) (h2 : x < 4294967296) : IntKind.wrap .u32 x = x := by
  have e1 : ((2 : Int) ^ IntKind.bits .u32) = 4294967296 := by decide
  have e3 : IntKind.signed .u32 = false := rfl
  simp only [IntKind.wrap, e1, e3, Bool.false_and]
  simp only [Bool.false_eq_true, if_false]
  omega
theorem wrap_u64 {x : Int} (h1 : 0 ≤ x) (h2 : x < 18446744073709551616) : IntKind.wrap .u64 x = x := by
  have e1 : ((2 : Int) ^ IntKind.bits .u64) = 18446744073709551616 := by decide
  have e3 : IntKind.signed .u64 = false := rfl
  simp only [IntKind.wrap, e1, e3, Bool.false_and]
  simp only [Bool.false_eq_true, if_false]
  omega
theorem wrap_u32_mod (x : Int) : IntKind.wrap .u32 x = x % 4294967296 := by
  have e1 : ((2 : Int) ^ IntKind.bits .u32) = 4294967296 := by decide
  have e3 : IntKind.signed .u32 = false := rfl
  simp only [IntKind.wrap, e1, e3, Bool.false_and]
  simp only [Bool.false_eq_true, if_false]
theorem wrap_u8_mod (x : Int) : IntKind.wrap .u8 x = x % 256 := by
  have e1 : ((2 : Int) ^ IntKind.bits .u8) = 256 := by decide
  have e3 : IntKind.signed .u8 = false := rfl
  simp only [IntKind.wrap, e1, e3, Bool.false_and]
  simp only [Bool.false_eq_true, if_false]
theorem wrap_u8_nat (n : Nat) : IntKind.wrap .u8 ((n : Nat) : Int) = ((UInt8.ofNat n).toNat : Int) := by
  rw [wrap_u8_mod]
  simp
theorem p31 : ((2 : Int) ^ (min (Int.toNat 31) (IntKind.bits .u32))) = 2147483648 := by decide
theorem p24 : ((2 : Int) ^ (min (Int.toNat 24) (IntKind.bits .u32))) = 16777216 := by decide
theorem p16 : ((2 : Int) ^ (min (Int.toNat 16) (IntKind.bits .u32))) = 65536 := by decide
theorem p8 : ((2 : Int) ^ (min (Int.toNat 8) (IntKind.bits .u32))) = 256 := by decide
theorem p1 : ((2 : Int) ^ (min (Int.toNat 1) (IntKind.bits .u32))) = 2 := by decide
theorem q8 : ((2 : Int) ^ (min (Int.toNat 8) (IntKind.bits .i64))) = 256 := by decide
theorem ofInt_u32 (s : BitVec 32) : BitVec.ofInt (IntKind.bits .u32) (u32 s) = s := by
  show BitVec.ofInt 32 ((s.toNat : Nat) : Int) = s
  rw [BitVec.ofInt_natCast, BitVec.ofNat_toNat, BitVec.setWidth_eq]
theorem u32_lt (s : BitVec 32) : 0 ≤ u32 s ∧ u32 s < 4294967296 := by have := s.isLt; unfold u32; omega
theorem wrap_bv (s : BitVec 32) : IntKind.wrap .u32 ((s.toNat : Nat) : Int) = u32 s := wrap_u32 (u32_lt s).1 (u32_lt s).2
theorem xor_u32 (s : BitVec 32) (x : Int) : IntKind.wrap .u32 (((BitVec.ofInt (IntKind.bits .u32) (u32 s) ^^^ BitVec.ofInt (IntKind.bits .u32) x).toNat : Nat) : Int) = u32 (s ^^^ BitVec.ofInt 32 x) := by
  rw [ofInt_u32]
  exact wrap_bv _
theorem shl1 (s : BitVec 32) : IntKind.wrap .u32 (u32 s * 2) = u32 (s <<< 1) := by
  rw [wrap_u32_mod]
  unfold u32
  rw [BitVec.toNat_shiftLeft, Nat.shiftLeft_eq]
  omega
theorem msb_dec (s : BitVec 32) : (Int.fdiv (u32 s) 2147483648 == 1) = s.msb := by
  rw [BitVec.msb_eq_decide, Int.fdiv_eq_ediv_of_nonneg _ (by decide)]
  have := s.isLt
  unfold u32
  by_cases h : 2147483648 ≤ s.toNat
  · have : ((s.toNat : Nat) : Int) / 2147483648 = 1 := by omega
    rw [this]; simp; omega
  · have : ((s.toNat : Nat) : Int) / 2147483648 = 0 := by omega
    rw [this]; simp; omega
theorem fdiv_nat (a b : Nat) : Int.fdiv ((a : Nat) : Int) ((b : Nat) : Int) = ((a / b : Nat) : Int) := by
  rw [Int.fdiv_eq_ediv_of_nonneg _ (by omega)]; rfl
theorem tdiv_nat (a b : Nat) : Int.tdiv ((a : Nat) : Int) ((b : Nat) : Int) = ((a / b : Nat) : Int) := by
  rw [Int.tdiv_eq_ediv_of_nonneg (by omega)]; rfl
theorem tmod_nat (a b : Nat) : Int.tmod ((a : Nat) : Int) ((b : Nat) : Int) = ((a % b : Nat) : Int) := by
  rw [Int.tmod_eq_emod_of_nonneg (by omega)]; rfl
end Go.Pvm

/- Part of the proof: what is kept from store to store; variables read whole; rows filled. -/
set_option linter.unusedSimpArgs false
set_option linter.unusedVariables false
namespace Go.Pvm

/-- What is old stays, but that some is written no more. -/
def Kp (σ τ : Store) (ids : List Nat) : Prop := σ.next ≤ τ.next ∧ ∀ i, i < σ.next → i ∉ ids → τ.objs i = σ.objs i ∨ ∃ ro es, σ.objs i = some (.cells ro es) ∧ τ.objs i = some (.cells es.length es)
section
variable {σ τ υ : Store} {ids a b : List Nat}
theorem Kp.refl (σ : Store) (ids : List Nat) : Kp σ σ ids := ⟨Nat.le_refl _, fun _ _ _ => .inl rfl⟩
theorem Mod.kp (h : Mod σ τ ids) : Kp σ τ ids := ⟨h.1, fun i hi hn => .inl (h.2 i hi hn)⟩
theorem Rl.kp (h : Rl σ τ) (ids : List Nat) : Kp σ τ ids := ⟨Nat.le_of_eq h.1.symm, fun i _ _ => h.2 i⟩
theorem Kp.trans (h : Kp σ τ a) (h' : Kp τ υ b) (hs : ∀ i ∈ b, i ∈ a ∨ σ.next ≤ i) : Kp σ υ a := by
  refine ⟨Nat.le_trans h.1 h'.1, fun i hi hn => ?_⟩
  have hb : i ∉ b := fun k => (hs i k).elim hn (fun e => by omega)
  rcases h.2 i hi hn with e | ⟨ro, es, e1, e2⟩
  · rcases h'.2 i (Nat.lt_of_lt_of_le hi h.1) hb with e' | ⟨ro, es, e1, e2⟩
    · exact .inl (e'.trans e)
    · exact .inr ⟨ro, es, by rw [← e]; exact e1, e2⟩
  · rcases h'.2 i (Nat.lt_of_lt_of_le hi h.1) hb with e' | ⟨ro', es', e1', e2'⟩
    · exact .inr ⟨ro, es, e1, e'.trans e2⟩
    · rw [e2] at e1'; cases e1'; exact .inr ⟨ro, es, e1, e2'⟩
theorem Kp.mono (h : Kp σ τ a) (hs : ∀ i, i < σ.next → i ∈ a → i ∈ b) : Kp σ τ b := ⟨h.1, fun i hi hn => h.2 i hi fun k => hn (hs i hi k)⟩
theorem Kp.lf (h : Kp σ τ ids) {id : Nat} (hi : id < σ.next) (hn : id ∉ ids) (hl : Lf σ id) : Lf τ id := by
  obtain ⟨ro, es, h1, h2⟩ := hl
  rcases h.2 id hi hn with e | ⟨ro', es', e1, e2⟩
  · exact ⟨ro, es, e.trans h1, h2⟩
  · rw [h1] at e1; cases e1; exact ⟨_, es, e2, h2⟩
variable {sz : Nat} {v u : PV} {es : List (List PV)}
theorem IsQ.kp (h : IsQ σ sz v es) (k : Kp σ τ ids) (hd : ∀ i ∈ tops v, i ∉ ids) : IsQ τ sz v es := by
  rcases h with h | ⟨id, idx, cap, ro, full, rfl, h2, h3, h4, h5⟩
  · exact .inl h
  · have h5' : id < τ.next := Nat.lt_of_lt_of_le h5 k.1
    rcases k.2 id h5 (hd id (.head _)) with e | ⟨ro', es', e1, e2⟩
    · exact .inr ⟨id, idx, cap, ro, full, rfl, e.trans h2, h3, h4, h5'⟩
    · rw [h2] at e1; cases e1; exact .inr ⟨id, idx, cap, _, full, rfl, e2, h3, h4, h5'⟩
theorem Ax.kp (h : Ax σ sz u es) (k : Kp σ τ ids) (hd : ∀ i ∈ tops u, i ∉ ids) : Ax τ sz u es := by
  rcases h with h | h | ⟨id, cap, ro, rfl, h2, h3, h4, h5⟩
  · exact .inl h
  · exact .inr (.inl h)
  · have h5' : id < τ.next := Nat.lt_of_lt_of_le h5 k.1
    rcases k.2 id h5 (hd id (.head _)) with e | ⟨ro', es', e1, e2⟩
    · exact .inr (.inr ⟨id, cap, ro, rfl, e.trans h2, h3, h4, h5'⟩)
    · rw [h2] at e1; cases e1; exact .inr (.inr ⟨id, cap, _, rfl, e2, Nat.le_refl _, h4, h5'⟩)
theorem Ax.lt (h : Ax σ sz u es) : ∀ i ∈ tops u, i < σ.next := by
  intro i hi
  rcases h with ⟨rfl, _⟩ | rfl | ⟨id, cap, ro, rfl, h2, h3, h4, h5⟩
  · cases hi
  · cases hi
  · simp [tops] at hi; omega
theorem IsQ.lt (h : IsQ σ sz v es) : ∀ i ∈ tops v, i < σ.next := by
  intro i hi
  rcases h with h | ⟨id, idx, cap, ro, full, rfl, h2, h3, h4, h5⟩
  · rw [h.tops] at hi; cases hi
  · simp [tops] at hi; omega
variable {α : Type} {R : ElR α} {l : List α}
theorem QS.kp (h : QS R σ sz v l) (k : Kp σ τ ids) (hd : ∀ i ∈ tops v, i ∉ ids) : QS R τ sz v l := let ⟨es, h1, h2⟩ := h; ⟨es, h1.kp k hd, h2⟩
theorem AxS.kp (h : AxS R σ sz u l) (k : Kp σ τ ids) (hd : ∀ i ∈ tops u, i ∉ ids) : AxS R τ sz u l := let ⟨es, h1, h2⟩ := h; ⟨es, h1.kp k hd, h2⟩
theorem AxS.lt (h : AxS R σ sz u l) : ∀ i ∈ tops u, i < σ.next := let ⟨_, h1, _⟩ := h; h1.lt
theorem QS.lt (h : QS R σ sz v l) : ∀ i ∈ tops v, i < σ.next := let ⟨_, h1, _⟩ := h; h1.lt
end

/-- A variable just laid is closed. -/
theorem roPush {σ : Store} {e : List PV} (h : PV.lf.lfs e = true) (k : Nat) : roAll [σ.next] (σ.push (.cells k [e])) = some (σ.push (.cells 1 [e])) := by
  simp only [roAll, push_obj, List.all_cons, List.all_nil, h, Bool.and_true, if_true]
  exact congrArg some (push_put _ _ _)
theorem fzNew {σ : Store} {e : List PV} (hp : ∀ c ∈ e, c.plain = true) (k : Nat) : fz fuelFz (σ.push (.cells k [e])) (.ref σ.next 0 0) = .pref e := fz_ref (push_obj _ _) hp 6

section
variable {P : Program} {σ : Store} {t el : TypeId} {sz by_ id : Nat} {x : PV} {es new : List (List PV)}
/-- A full row, and more. -/
theorem appFull (T : SlT P t el sz by_) {ro n : Nat} (ho : σ.objs id = some (.cells ro es)) (hn : n = es.length) (hx : IsQ σ sz x new) (ha : all1 sz new = true) (hne : new ≠ []) (hb : (n + new.length) * by_ ≤ 140737488355328) :
    writeB P σ .append [t, t] [.lsl id sz 0 n (some n), x] = some (.lsl σ.next sz 0 (n + new.length) none, σ.push (.cells 0 (es ++ new))) := by
  subst hn
  rw [writeB_append T.u T.u hx.nostr, appendv_full T.el hx.elems ha hne ho (by omega) hb]
  simp
theorem roAll_pure {v : PV} (h : tops v = []) (σ : Store) : roAll (tops v) σ = some σ := by rw [h]; rfl
end
/-- A made slice, cut. -/
theorem AxS.cut {α : Type} {P : Program} {σ : Store} {t el : TypeId} {sz by_ : Nat} {R : ElR α} {u : PV} {l : List α} (T : SlT P t el sz by_) (ok : ROk sz R) (h : AxS R σ sz u l) {lo hi : Option PV} {a b : Nat} (hl : numOf lo 0 = some a) (hh : numOf hi l.length = some b) (h1 : a ≤ b) (h2 : b ≤ l.length) :
    ∃ v', cutv P t u lo hi none = some v' ∧ QS R σ sz v' ((l.drop a).take (b - a)) ∧ ∀ j ∈ tops v', j ∈ tops u := by
  obtain ⟨es, q1, q2⟩ := h
  rcases q1 with ⟨rfl, rfl⟩ | rfl | ⟨id, cap, ro, rfl, o1, o2, o3, o4⟩
  · obtain ⟨v', r1, r2⟩ := IsS.cut T ok (show IsS R .nilsl l from ⟨[], .inl ⟨rfl, rfl⟩, q2⟩) hl hh h1 h2
    exact ⟨v', r1, r2.q σ sz, fun j hj => by rw [r2.tops] at hj; cases hj⟩
  · obtain ⟨v', r1, r2⟩ := IsS.cut T ok (show IsS R (.psl true es) l from ⟨es, .inr ⟨_, rfl⟩, q2⟩) hl hh h1 h2
    exact ⟨v', r1, r2.q σ sz, fun j hj => by rw [r2.tops] at hj; cases hj⟩
  · have hle := q2.len
    have hc := cut_lsl (P := P) (t := t) (sz := sz) (id := id) (idx := 0) (len := es.length) (cap := cap) T.u T.el.hsz hl (by rw [hle]; exact hh) h1 (by omega) (fun c hc => by rcases o3 with rfl | rfl <;> simp at hc; omega)
    refine ⟨_, hc, ⟨(es.drop a).take (b - a), .inr ⟨id, 0 + a, cap.map (· - a), ro, es, ?_, o1, by simp; omega, ?_, o4⟩, (q2.drop a).take (b - a)⟩, fun j hj => by simpa [tops] using hj⟩
    · have : ((es.drop a).take (b - a)).length = b - a := by simp; omega
      rw [this]
    · have : ((es.drop a).take (b - a)).length = b - a := by simp; omega
      rw [this, Nat.zero_add]
/-! ### Arguments of a row -/
/-- A type's cells stand for things. -/
def ArgR {α : Type} (P : Program) (el : TypeId) (R : ElR α) (Q : α → Prop) : Prop := ∀ n c, c.length = P.cellsOf el → WT P false n el c → ∃ a, R c a ∧ Q a
theorem wt_sliceR {α : Type} {P : Program} {t el : TypeId} {sz by_ : Nat} {R : ElR α} {Q : α → Prop} (T : SlT P t el sz by_) (hc : P.cellsOf el = sz) (hb : P.bytesOf el = by_) (he : ArgR P el R Q) {top : Bool} {n : Nat} {cs : List PV} (h : WT P top n t cs) :
    ∃ u, cs = [u] ∧ ∃ l, IsS R u l ∧ l.length * by_ ≤ reachBytes ∧ ∀ a ∈ l, Q a := by
  cases n with
  | zero => exact h.elim
  | succ n =>
    unfold WT at h
    rw [T.u] at h
    rcases h with h | ⟨es, h1, _, h2, h3⟩ | ⟨_, h1, _⟩
    · exact ⟨_, h, [], IsS.nil, by simp, fun a ha => by cases ha⟩
    · obtain ⟨l, hl⟩ := All2.each (R := fun c a => R c a ∧ Q a) es fun c hc => he n c (h3 c hc).1 (h3 c hc).2
      refine ⟨_, h1, l, ⟨es, .inr ⟨_, rfl⟩, hl.mono fun _ _ h => h.1⟩, ?_, fun a ha => ?_⟩
      · rw [hb, hl.len] at h2; exact h2
      · obtain ⟨i, hi⟩ := List.getElem?_of_mem ha
        obtain ⟨c, _, hc⟩ := hl.get hi
        exact hc.2
    · exact absurd (hc.symm.trans h1) T.el.pos.1
theorem wtv_sliceR {α : Type} {P : Program} {t el : TypeId} {sz by_ : Nat} {R : ElR α} {Q : α → Prop} (T : SlT P t el sz by_) (hc : P.cellsOf el = sz) (hb : P.bytesOf el = by_) (he : ArgR P el R Q) {v : PV} (h : WTV P t v) :
    ∃ l, IsS R v l ∧ l.length * by_ ≤ reachBytes ∧ ∀ a ∈ l, Q a := by
  obtain ⟨n, h⟩ := h
  rw [T.u] at h
  simp only [Option.getD_some, aggD] at h
  obtain ⟨u, h1, h2⟩ := wt_sliceR T hc hb he h
  simp at h1
  subst h1
  exact h2
theorem reach62 : reachBytes < 4611686018427387904 := by decide
theorem argInt {P : Program} {t : TypeId} {k : IntKind} (h : P.underlying t = some (.int k)) : ArgR P t (Fn fun n : Int => [.int k n]) (fun n => k.min ≤ n ∧ n ≤ k.max) := fun n c _ hw => by
  obtain ⟨x, rfl, hx⟩ := wt_int h hw
  exact ⟨x, rfl, hx⟩
theorem argByte {P : Program} {t : TypeId} (h : P.underlying t = some (.int .u8)) : ArgR P t RB (fun _ => True) := fun n c _ hw => by
  obtain ⟨x, rfl, x1, x2⟩ := wt_int h hw
  have x1 : (0 : Int) ≤ x := x1
  have x2 : x ≤ 255 := x2
  refine ⟨UInt8.ofNat x.toNat, ?_, trivial⟩
  show _ = [PV.int .u8 ((UInt8.ofNat x.toNat).toNat : Int)]
  rw [UInt8.toNat_ofNat']
  congr 2
  omega
theorem argSlice {α : Type} {P : Program} {t el : TypeId} {sz by_ : Nat} {R : ElR α} {Q : α → Prop} (T : SlT P t el sz by_) (hc : P.cellsOf el = sz) (hb : P.bytesOf el = by_) (he : ArgR P el R Q) :
    ArgR P t (fun e l => ∃ u, e = [u] ∧ IsS R u l) (fun l => l.length * by_ ≤ reachBytes ∧ ∀ a ∈ l, Q a) := fun n c _ hw => by
  obtain ⟨u, rfl, l, h1, h2⟩ := wt_sliceR T hc hb he hw
  exact ⟨l, ⟨u, rfl, h1⟩, h2⟩
theorem lfs1 {v : PV} (h : v.lf = true) : PV.lf.lfs [v] = true := by simp [PV.lf.lfs, h]
/-- Arguments, read as they stand. -/
theorem fzA {α : Type} {R : ElR α} {v : PV} {l : List α} (h : IsS R v l) (σ : Store) : fz fuelFz σ v = v := h.frz 7 σ
theorem topss1 (v : PV) : tops.topss [v] = tops v := by simp [tops.topss]
/-- Through a field of an element. -/
theorem part_drop {P : Program} {t : TypeId} {e : List PV} {off : Nat} (h : off ≤ e.length) : partOf P t (e.drop off) 0 = partOf P t e off := by
  unfold partOf
  cases szOf P t with
  | none => rfl
  | some n =>
    simp only [Option.bind_some]
    cases P.underlying t with
    | none => rfl
    | some d =>
      simp only [Option.bind_some, Nat.zero_add, List.drop_zero, List.length_drop]
      by_cases ha : aggD d = true
      · rw [if_pos ha, if_pos ha]
        by_cases hn : off + n ≤ e.length
        · rw [if_pos hn, if_pos (by omega)]
        · rw [if_neg hn, if_neg (by omega)]
      · rw [if_neg ha, if_neg ha, List.getElem?_drop, Nat.add_zero]
end Go.Pvm

/- Part of the proof: rows that are written in place; stores laid behind one another; what calls hand back as their own. -/
set_option linter.unusedSimpArgs false
set_option linter.unusedVariables false
namespace Go.Pvm

/-- A slice, all its row being it, that may be written. -/
def Wr {α : Type} (R : ElR α) (σ : Store) (sz : Nat) (v : PV) (l : List α) : Prop :=
  ∃ id cap es, v = .lsl id sz 0 l.length cap ∧ (cap = none ∨ cap = some l.length) ∧ σ.objs id = some (.cells 0 es) ∧ All2 R es l ∧ id < σ.next
section
variable {α : Type} {P : Program} {σ τ : Store} {t el : TypeId} {sz by_ : Nat} {R : ElR α} {v u x : PV} {l ln : List α} {ids : List Nat}
theorem Wr.ax (h : Wr R σ sz v l) : AxS R σ sz v l := by
  obtain ⟨id, cap, es, rfl, h1, h2, h3, h4⟩ := h
  exact ⟨es, .inr (.inr ⟨id, cap, 0, by rw [h3.len], h2, Nat.zero_le _, h1.imp (fun e => e) (fun e => by rw [e, h3.len]), h4⟩), h3⟩
theorem Wr.q (h : Wr R σ sz v l) : QS R σ sz v l := h.ax.q
theorem Wr.mod (h : Wr R σ sz v l) (m : Mod σ τ ids) (hd : ∀ i ∈ tops v, i ∉ ids) : Wr R τ sz v l := by
  obtain ⟨id, cap, es, rfl, h1, h2, h3, h4⟩ := h
  exact ⟨id, cap, es, rfl, h1, (m.2 id h4 (hd id (.head _))).trans h2, h3, Nat.lt_of_lt_of_le h4 m.1⟩
theorem Wr.lt (h : Wr R σ sz v l) : ∀ i ∈ tops v, i < σ.next := h.ax.lt
/-- Copied into a row. -/
theorem copy_lsl {t' e2 : TypeId} (hu : P.underlying t = some (.slice el)) (hu2 : P.underlying t' = some (.slice e2)) (hs : szOf P el = some sz) (hp : sz ≠ 0) {id idx len ro : Nat} {cap : Option Nat} {es src : List (List PV)} (hx : elemsOf σ x = some src) (ha : all1 sz src = true)
    (ho : σ.objs id = some (.cells ro es)) (hi : idx + len ≤ es.length) (hr : ro ≤ idx) :
    writeB P σ .copy [t, t'] [.lsl id sz idx len cap, x] = some (.int .i64 (Nat.min src.length len), σ.put id (.cells ro (es.take idx ++ src.take len ++ es.drop (idx + (src.take len).length)))) := by
  simp only [writeB, hu, hu2, copyv, hs, hx, Option.bind_some, ho]
  rw [if_neg hp, if_neg (by simp), if_pos ⟨hi, hr⟩, if_pos (all1_part ha _)]
theorem Wr.copy (T : SlT P t el sz by_) (ok : ROk sz R) (h : Wr R σ sz v l) {lo : Option PV} {a : Nat} (hl : numOf lo 0 = some a) (ha : a + ln.length ≤ l.length) (hx : QS R σ sz x ln) :
    ∃ v' n τ, cutv P t v lo none none = some v' ∧ writeB P σ .copy [t, t] [v', x] = some (.int .i64 n, τ) ∧ Mod σ τ (tops v) ∧ Wr R τ sz v (l.take a ++ ln ++ l.drop (a + ln.length)) := by
  obtain ⟨id, cap, es, rfl, h1, h2, h3, h4⟩ := h
  obtain ⟨new, x1, x2⟩ := hx
  have hel := h3.len
  have hnl := x2.len
  have hc := cut_lsl (P := P) (t := t) (sz := sz) (id := id) (idx := 0) (len := l.length) (cap := cap) (lo := lo) (hi := none) (a := a) (b := l.length) T.u T.el.hsz hl rfl (by omega) (Nat.le_refl _) (fun c hc => by rcases h1 with rfl | rfl <;> simp at hc; omega)
  have hcp := copy_lsl (P := P) (t := t) (t' := t) (σ := σ) (x := x) (idx := 0 + a) (len := l.length - a) (cap := cap.map (· - a)) T.u T.u T.el.hsz T.el.pos.1 x1.elems (ok.els x2).all1 h2 (by omega) (Nat.zero_le _)
  rw [List.take_of_length_le (show new.length ≤ l.length - a by omega), Nat.zero_add, hnl] at hcp
  rw [Nat.zero_add] at hc
  refine ⟨_, _, _, hc, hcp, Mod.put (.head _), id, cap, _, ?_, ?_, put_obj _ _ _, ((h3.take a).app x2).app (h3.drop _), h4⟩
  · congr 1
    simp; omega
  · rcases h1 with h1 | h1
    · exact .inl h1
    · refine .inr (h1.trans ?_)
      congr 1
      simp; omega
end

/-! ### Stores laid behind one another -/
section
variable {σ τ : Store}
theorem join_next (σ τ : Store) : (σ.join τ).next = τ.next := rfl
theorem join_old {i : Nat} (h : i < σ.next) : (σ.join τ).objs i = σ.objs i := by
  show (if i < σ.next then _ else _) = _
  rw [if_pos h]
theorem join_new {i : Nat} (h : σ.next ≤ i) : (σ.join τ).objs i = τ.objs i := by
  show (if i < σ.next then _ else _) = _
  rw [if_neg (by omega)]
theorem Mod.join (h : σ.next ≤ τ.next) (ids : List Nat) : Mod σ (σ.join τ) ids := ⟨h, fun i hi _ => join_old hi⟩
variable {α : Type} {R : ElR α} {sz : Nat} {u : PV} {l : List α}
theorem AxS.join (h : AxS R τ sz u l) (hn : ∀ i ∈ tops u, σ.next ≤ i) : AxS R (σ.join τ) sz u l := by
  obtain ⟨es, h1, h2⟩ := h
  refine ⟨es, ?_, h2⟩
  rcases h1 with h | h | ⟨id, cap, ro, rfl, q2, q3, q4, q5⟩
  · exact .inl h
  · exact .inr (.inl h)
  · exact .inr (.inr ⟨id, cap, ro, rfl, (join_new (hn id (.head _))).trans q2, q3, q4, q5⟩)
theorem Wr.join (h : Wr R τ sz u l) (hn : ∀ i ∈ tops u, σ.next ≤ i) : Wr R (σ.join τ) sz u l := by
  obtain ⟨id, cap, es, rfl, h1, h2, h3, h4⟩ := h
  exact ⟨id, cap, es, rfl, h1, (join_new (hn id (.head _))).trans h2, h3, h4⟩
theorem ownObjs_at (n : Nat) : ownObjs (.at_ n) n = true := by
  unfold ownObjs
  simp [Store.at_]
theorem ownObjs_push {a : Nat} (h : ownObjs τ a = true) (hn : a ≤ τ.next) {k : Nat} {es : List (List PV)} (he : es.all PV.own.owns = true) : ownObjs (τ.push (.cells k es)) a = true := by
  unfold ownObjs at h ⊢
  rw [List.all_eq_true] at h ⊢
  intro i hi
  have hi : i < τ.next + 1 - a := by simpa [Store.push] using hi
  by_cases hq : a + i = τ.next
  · have : (τ.push (.cells k es)).objs (a + i) = some (.cells k es) := by rw [hq]; exact push_obj _ _
    rw [this]
    exact he
  · have h1 : (τ.push (.cells k es)).objs (a + i) = τ.objs (a + i) := push_old (by omega)
    rw [h1]
    exact h i (by simp; omega)
theorem owns_cB (l : List UInt8) : (l.map cB).all PV.own.owns = true := by
  rw [List.all_eq_true]
  intro e he
  obtain ⟨b, _, rfl⟩ := List.mem_map.1 he
  rfl
end
end Go.Pvm

/- Part of the proof: words for functions of Go's library that ask for a capacity: inserting into a slice, sorting numbers. -/
set_option linter.unusedSimpArgs false
set_option linter.unusedVariables false
namespace Go.Pvm

def rowsPl (sz : Nat) (es : List (List PV)) : Bool := es.all fun e => e.length == sz && e.all PV.plain
def intsOf : List (List PV) → Option (List Int)
  | [] => some []
  | [.int .i64 n] :: r => (intsOf r).map (n :: ·)
  | _ => none
def intRow (n : Int) : List PV := [.int .i64 n]

/-- Functions that are told by a word of their own. -/
inductive Word where
  /-- Inserting into a slice of that type. -/
  | insert (t : TypeId)
  /-- Sorting numbers. -/
  | sort
  /-- A map's keys: the iterator's function. -/
  | keys (g : FuncId)
  /-- What that iterator gives, sorted. -/
  | sorted (g : FuncId)
  deriving DecidableEq

def insertv (P : Program) (t : TypeId) (args : List PV) (σ : Store) : Option (PV × Store) :=
  match args with
  | [s, .int .i64 i, .lsl id2 sz2 idx2 m cap2] => match P.underlying t with
    | some (.slice el) => (szOf P el).bind fun sz => (byOf P el).bind fun by_ => (zeroOf P el).bind fun z =>
      if sz = 0 ∨ by_ = 0 ∨ z.known = false ∨ z.cells.length ≠ sz ∨ m = 0 then none else
      match σ.objs id2 with
      | some (.cells ro2 es2) => if idx2 + m ≤ es2.length ∧ rowsPl sz es2 = true then
          match s with
          | .nilsl => if i = 0 ∧ m * by_ ≤ 140737488355328 then some (.lsl σ.next sz 0 m none, σ.push (.cells 0 ((es2.drop idx2).take m))) else none
          | .lsl id sz' 0 len cap => match σ.objs id with
            | some (.cells 0 es) => if sz' = sz ∧ id ≠ id2 ∧ 0 ≤ i ∧ i.toNat ≤ len ∧ len ≤ es.length ∧ rowsPl sz es = true ∧ (len + m) * by_ ≤ 140737488355328 then
                some (.lsl σ.next sz 0 (len + m) none, (σ.kill id).push (.cells 0 ((es.take len).take i.toNat ++ (es2.drop idx2).take m ++ (es.take len).drop i.toNat)))
              else none
            | _ => none
          | _ => none
        else none
      | _ => none
    | _ => none
  | _ => none

def sortv (args : List PV) (σ : Store) : Option (PV × Store) :=
  match args with
  | [.nilsl] => some (.tuple [], σ)
  | [.lsl id 1 idx len _] => match σ.objs id with
    | some (.cells ro es) => if ro ≤ idx ∧ idx + len ≤ es.length ∧ len < 4611686018427387904 then
        (intsOf ((es.drop idx).take len)).map fun l => (.tuple [], σ.put id (.cells ro (es.take idx ++ (l.mergeSort fun x y => decide (x ≤ y)).map intRow ++ es.drop (idx + len))))
      else none
    | _ => none
  | _ => none

/-- A map's keys: the map is boxed, the iterator holds the box. -/
def keysv (g : FuncId) (args : List PV) (σ : Store) : Option (PV × Store) :=
  match args with
  | [.mref id] => some (.func g [.ref σ.next 0 0], σ.push (.mbox id))
  | _ => none
def keysOf : List (PV × PV) → Option (List Int)
  | [] => some []
  | (.int .i64 n, _) :: r => if -9223372036854775808 ≤ n ∧ n ≤ 9223372036854775807 then (keysOf r).map (n :: ·) else none
  | _ => none
def sortedv (g : FuncId) (args : List PV) (σ : Store) : Option (PV × Store) :=
  match args with
  | [.func f [.ref b 0 0]] => if f = g then (match σ.objs b with
    | some (.mbox id) => (match σ.objs id with
      | some (.map kvs) => if kvs.length ≤ 1000000 then (keysOf kvs).map fun l => if l.length = 0 then (.nilsl, σ) else (.lsl σ.next 1 0 l.length none, σ.push (.cells 0 ((l.mergeSort fun x y => decide (x ≤ y)).map intRow))) else none
      | _ => none)
    | _ => none) else none
  | _ => none

def wordv (P : Program) : Word → List PV → Store → Option (PV × Store)
  | .insert t => insertv P t
  | .sort => sortv
  | .keys g => keysv g
  | .sorted g => sortedv g

theorem insertv_inv {P : Program} {t : TypeId} {args : List PV} {σ : Store} {r : PV × Store} (h : insertv P t args σ = some r) :
    ∃ s i id2 sz2 idx2 m cap2 el sz by_ z ro2 es2, args = [s, .int .i64 i, .lsl id2 sz2 idx2 m cap2] ∧ P.underlying t = some (.slice el) ∧ szOf P el = some sz ∧ byOf P el = some by_ ∧ zeroOf P el = some z ∧
      sz ≠ 0 ∧ by_ ≠ 0 ∧ z.known = true ∧ z.cells.length = sz ∧ m ≠ 0 ∧ σ.objs id2 = some (.cells ro2 es2) ∧ idx2 + m ≤ es2.length ∧ rowsPl sz es2 = true ∧
      ((s = .nilsl ∧ i = 0 ∧ m * by_ ≤ 140737488355328 ∧ r = (.lsl σ.next sz 0 m none, σ.push (.cells 0 ((es2.drop idx2).take m)))) ∨
       ∃ id len cap es, s = .lsl id sz 0 len cap ∧ σ.objs id = some (.cells 0 es) ∧ id ≠ id2 ∧ 0 ≤ i ∧ i.toNat ≤ len ∧ len ≤ es.length ∧ rowsPl sz es = true ∧ (len + m) * by_ ≤ 140737488355328 ∧
         r = (.lsl σ.next sz 0 (len + m) none, (σ.kill id).push (.cells 0 ((es.take len).take i.toNat ++ (es2.drop idx2).take m ++ (es.take len).drop i.toNat)))) := by
  unfold insertv at h
  split at h
  · rename_i s i id2 sz2 idx2 m cap2
    split at h
    · rename_i el ht
      simp only [Option.bind_eq_some_iff] at h
      obtain ⟨sz, hsz, by_, hby, z, hz, h⟩ := h
      split at h
      · cases h
      rename_i hh
      simp only [not_or] at hh
      obtain ⟨h0, h1, h2, h3, h4⟩ := hh
      split at h
      · rename_i ro2 es2 ho2
        split at h
        · rename_i hc
          refine ⟨s, i, id2, sz2, idx2, m, cap2, el, sz, by_, z, ro2, es2, rfl, ht, hsz, hby, hz, h0, h1, by simpa using h2, by simpa using h3, h4, ho2, hc.1, hc.2, ?_⟩
          split at h
          · split at h
            · rename_i hd
              cases h
              exact .inl ⟨rfl, hd.1, hd.2, rfl⟩
            · cases h
          · rename_i id sz' len cap
            split at h
            · rename_i es ho
              split at h
              · rename_i hd
                cases h
                obtain ⟨rfl, d⟩ := hd
                exact .inr ⟨id, len, cap, es, rfl, ho, d.1, d.2.1, d.2.2.1, d.2.2.2.1, d.2.2.2.2.1, d.2.2.2.2.2, rfl⟩
              · cases h
            · cases h
          · cases h
        · cases h
      · cases h
    · cases h
  · cases h

/-! ### Rows that name nothing -/
section
variable {P : Program} {ρ ρ' : Where} {F F' : Froz} {w w' : World} {σ σ' : Store}
theorem rowsPl_mem {sz : Nat} {es : List (List PV)} (h : rowsPl sz es = true) : ∀ e ∈ es, e.length = sz ∧ ∀ x ∈ e, x.plain = true := fun e he => by
  unfold rowsPl at h
  rw [List.all_eq_true] at h
  have := h e he
  rw [Bool.and_eq_true, beq_iff_eq, List.all_eq_true] at this
  exact this
theorem rowsPl_all1 {sz : Nat} {es : List (List PV)} (h : rowsPl sz es = true) : all1 sz es = true := by
  unfold all1
  rw [List.all_eq_true]
  intro e he
  obtain ⟨h1, h2⟩ := rowsPl_mem h e he
  rw [Bool.and_eq_true, beq_iff_eq, List.all_eq_true]
  refine ⟨h1, fun x hx => ?_⟩
  have := h2 x hx
  cases x <;> first | rfl | cases this
theorem rowsPl_appd {sz : Nat} {a b : List (List PV)} (h : rowsPl sz a = true) (h' : rowsPl sz b = true) : rowsPl sz (a ++ b) = true := by
  unfold rowsPl at h h' ⊢
  rw [List.all_append, h, h']; rfl
theorem rowsPl_sub {sz : Nat} {a b : List (List PV)} (h : rowsPl sz a = true) (hs : ∀ e ∈ b, e ∈ a) : rowsPl sz b = true := by
  unfold rowsPl at h ⊢
  rw [List.all_eq_true] at h ⊢
  exact fun e he => h e (hs e he)
theorem VR.plain_any {v : PV} {c : Value} (h : VR ρ F w v c) (hp : v.plain = true) : VR ρ' F w v c := .pure (h.lf (lf_plain hp))
/-- An object of plain rows, whatever else is where. -/
theorem OR.plain {r : Rec} {ro : Nat} {es : List (List PV)} (h : OR ρ F w r (.cells ro es)) (hp : ∀ e ∈ es, ∀ x ∈ e, x.plain = true) : OR ρ' F w r (.cells ro es) := by
  obtain ⟨arr, ty, hb, hph, hn, hs, hf, hro, hz, hF, hc⟩ := h.cells_inv
  exact .cells ro es arr ty hb hph hn hs hf hro hz hF fun i e he j x hx => by
    obtain ⟨v, q1, q2⟩ := hc i e he j x hx
    exact ⟨v, q1, q2.plain_any (hp e (List.mem_of_getElem? he) x (List.mem_of_getElem? hx))⟩
/-- Its first rows. -/
theorem OR.front {r : Rec} {a b : List (List PV)} (h : OR ρ F w r (.cells 0 (a ++ b))) (hp : ∀ e ∈ a, ∀ x ∈ e, x.plain = true) : OR ρ' F w { r with n := a.length } (.cells 0 a) := by
  obtain ⟨arr, ty, hb, hph, hn, hs, hf, hro, hz, hF, hc⟩ := h.cells_inv
  refine .cells 0 a arr ty hb hph rfl (fun e he => hs e (List.mem_append_left _ he)) (Nat.le_trans ?_ hf) (Nat.zero_le _) hz hF fun i e he j x hx => ?_
  · show r.sh + a.length * r.sz ≤ r.sh + r.n * r.sz
    have : a.length * r.sz ≤ r.n * r.sz := Nat.mul_le_mul_right _ (by rw [← hn, List.length_append]; omega)
    omega
  · obtain ⟨v, q1, q2⟩ := hc i e (by rw [List.getElem?_append_left (List.getElem?_eq_some_iff.1 he).1]; exact he) j x hx
    exact ⟨v, q1, q2.plain_any (hp e (List.mem_of_getElem? he) x (List.mem_of_getElem? hx))⟩

/-! ### Opening: a slice by itself, with all its room -/
def opened (σ : Store) (id id2 : Nat) (es : List (List PV)) : Store := ⟨σ.next, fun j => if j = id then some (.cells 0 es) else if j = id2 then σ.objs j else none⟩
def spare (sz n : Nat) : List (List PV) := List.replicate n (List.replicate sz .undef)
theorem obj_lt (hs : SR ρ F σ w) {id : Nat} {o : Obj} (h : σ.objs id = some o) : id < σ.next := by
  rcases Nat.lt_or_ge id σ.next with h1 | h1
  · exact h1
  · rw [hs.new id h1] at h; cases h
theorem open_sr (hs : SR ρ F σ w) {id id2 : Nat} (hne : id ≠ id2) {r : Rec} (hr : ρ id = some r) {es tl : List (List PV)} (ho : σ.objs id = some (.cells 0 (es ++ tl))) {o2 : Obj} (ho2 : σ.objs id2 = some o2) (hp : ∀ e ∈ es, ∀ x ∈ e, x.plain = true) {c : Nat} (hlc : es.length ≤ c)
    (hph : r.sh + c * r.sz ≤ r.phys) (hp2 : ∀ ro2 es2, o2 = .cells ro2 es2 → ∀ e ∈ es2, ∀ x ∈ e, x.plain = true) (hm2 : ∀ kvs, o2 ≠ .map kvs) (hb2 : ∀ q, o2 ≠ .mbox q) : SR (ρ.put id { r with n := c }) F (opened σ id id2 (es ++ spare r.sz (c - es.length))) w := by
  have hid := obj_lt hs ho
  have hid2 := obj_lt hs ho2
  have hρ2 : ∀ r2, (ρ.put id { r with n := c }) id2 = some r2 → ρ id2 = some r2 := fun r2 h => by rwa [put_there _ (fun e => hne e.symm)] at h
  refine ⟨fun j r' o h1 h2 => ?_, fun j j' r1 r2 o1 o2' h1 h2 h3 h4 hjj => ?_, hs.old, fun j hj => ?_⟩
  · unfold opened at h2
    simp only at h2
    split at h2
    · rename_i e
      subst e
      cases h2
      rw [put_here] at h1
      cases h1
      obtain ⟨arr, ty, hb, hph', hn, hss, hf, hro, hz, hF, hc⟩ := (hs.obj j r _ hr ho).cells_inv
      refine .cells 0 _ arr ty hb hph' ?_ (fun e he => ?_) hph (Nat.zero_le _) hz hF fun i e he k x hx => ?_
      · show _ = c
        rw [List.length_append, spare, List.length_replicate]; omega
      · rcases List.mem_append.1 he with he | he
        · exact hss e (List.mem_append_left _ he)
        · rw [List.eq_of_mem_replicate he, List.length_replicate]
      · rcases Nat.lt_or_ge i es.length with hi | hi
        · rw [List.getElem?_append_left hi] at he
          obtain ⟨v, q1, q2⟩ := hc i e (by rw [List.getElem?_append_left hi]; exact he) k x hx
          exact ⟨v, q1, q2.plain_any (hp e (List.mem_of_getElem? he) x (List.mem_of_getElem? hx))⟩
        · rw [List.getElem?_append_right hi] at he
          have hin := (List.getElem?_eq_some_iff.1 he).1
          rw [spare, List.length_replicate] at hin
          have he' : e = List.replicate r.sz .undef := List.eq_of_mem_replicate (List.mem_of_getElem? he)
          subst he'
          have hk := (List.getElem?_eq_some_iff.1 hx).1
          rw [List.length_replicate] at hk
          have hxu : x = .undef := List.eq_of_mem_replicate (List.mem_of_getElem? hx)
          subst hxu
          have := mul_lt_of (show i < c by omega) hk
          have hlt : r.sh + i * r.sz + k < arr.size := by rw [hph']; show _ < r.phys; omega
          exact ⟨arr[r.sh + i * r.sz + k], Array.getElem?_eq_getElem hlt, .pure (.undef _)⟩
    · rename_i hj
      split at h2
      · rename_i e
        subst e
        have h1' := hρ2 _ h1
        rw [ho2] at h2
        cases h2
        have h5 := hs.obj j r' _ h1' ho2
        cases o2 with
        | cells ro2 es2 => exact h5.plain (hp2 ro2 es2 rfl)
        | map kvs => exact absurd rfl (hm2 kvs)
        | mbox q => exact absurd rfl (hb2 q)
      · cases h2
  · have key : ∀ r2, ρ id2 = some r2 → r.block ≠ r2.block := fun r2 h => hs.apart id id2 r r2 _ _ hr ho h ho2 hne
    have sel : ∀ {j : Nat} {o : Obj}, (opened σ id id2 (es ++ spare r.sz (c - es.length))).objs j = some o → j = id ∨ j = id2 := fun {j o} h => by
      unfold opened at h
      simp only at h
      split at h
      · rename_i e; exact .inl e
      · split at h
        · rename_i e; exact .inr e
        · cases h
    rcases sel h2 with rfl | rfl <;> rcases sel h4 with e | e <;> subst e
    · exact absurd rfl hjj
    · rw [put_here] at h1; cases h1; exact key _ (hρ2 _ h3)
    · rw [put_here] at h3; cases h3; exact fun e => key _ (hρ2 _ h1) e.symm
    · exact absurd rfl hjj
  · unfold opened
    simp only
    have hj' : σ.next ≤ j := hj
    rw [if_neg (by omega), if_neg (by omega)]

/-- .. and closing again: what came of it has a number of its own. -/
theorem close_sr (hs : SR ρ F σ w) {id id2 : Nat} (hne : id ≠ id2) {r : Rec} (hr : ρ id = some r) {es es' : List (List PV)} (ho : σ.objs id = some (.cells 0 es)) {ro2 : Nat} {es2 : List (List PV)} (ho2 : σ.objs id2 = some (.cells ro2 es2)) (hp2 : ∀ e ∈ es2, ∀ x ∈ e, x.plain = true) {c : Nat}
    {σ2 : Store} (g : Go1 (ρ.put id { r with n := c }) F (opened σ id id2 es') w ρ' F' σ2 w') (s : SR ρ' F' σ2 w') (hn : ρ σ.next = none) {k : Nat} {rk : Rec} (hk : ρ' k = some rk) {new rest : List (List PV)} (hko : σ2.objs k = some (.cells 0 (new ++ rest))) (hk2 : k ≠ id2) (h22 : σ2.objs id2 = some (.cells ro2 es2))
    (hpn : ∀ e ∈ new, ∀ x ∈ e, x.plain = true) {v : Value} {cap : Option Nat} (hv : VR ρ' F' w' (.lsl k rk.sz 0 new.length cap) v) :
    ∃ ρ'', Go1 ρ F σ w ρ'' F' ((σ.kill id).push (.cells 0 new)) w' ∧ SR ρ'' F' ((σ.kill id).push (.cells 0 new)) w' ∧ VR ρ'' F' w' (.lsl σ.next rk.sz 0 new.length none) v := by
  have hid := obj_lt hs ho
  have hid2 := obj_lt hs ho2
  have lv1 : ∀ b, Lv (ρ.put id { r with n := c }) (opened σ id id2 es') b → b = r.block ∨ ∃ r2, ρ id2 = some r2 ∧ b = r2.block := fun b ⟨j, rj, oj, h1, h2, h3⟩ => by
    unfold opened at h2
    simp only at h2
    split at h2
    · rename_i e; subst e; rw [put_here] at h1; cases h1; exact .inl h3.symm
    · rename_i hj
      split at h2
      · rename_i e; subst e; rw [put_there _ hj] at h1; exact .inr ⟨rj, h1, h3.symm⟩
      · cases h2
  have lv2 : ∀ b, Lv (ρ.put id { r with n := c }) (opened σ id id2 es') b → Lv ρ σ b := fun b h => by
    rcases lv1 b h with rfl | ⟨r2, h1, rfl⟩
    · exact ⟨id, r, _, hr, ho, rfl⟩
    · exact ⟨id2, r2, _, h1, ho2, rfl⟩
  have hkl : w.heap.size ≤ rk.block ∨ Lv (ρ.put id { r with n := c }) (opened σ id id2 es') rk.block := g.live _ ⟨k, rk, _, hk, hko, rfl⟩
  have hr2 : ∀ r2, ρ id2 = some r2 → ρ' id2 = some r2 := fun r2 h => g.rec_ _ _ (by rw [put_there _ (fun e => hne e.symm)]; exact h)
  have hnx : ∀ {j : Nat}, j ≠ σ.next → ((σ.kill id).push (.cells 0 new)).objs j = if j = id then none else σ.objs j := fun {j} hj => by
    show (if j = σ.next then _ else if j = id then none else σ.objs j) = _
    rw [if_neg hj]
  have hnn : ((σ.kill id).push (.cells 0 new)).objs σ.next = some (.cells 0 new) := by
    show (if σ.next = σ.next then _ else _) = _
    rw [if_pos rfl]
  have apk : ∀ {j : Nat} {rj : Rec} {oj : Obj}, j ≠ id → ρ j = some rj → σ.objs j = some oj → rk.block ≠ rj.block := fun {j rj oj} hj h1 h2 => by
    by_cases e : j = id2
    · subst e
      exact fun e2 => s.apart k j rk rj _ _ hk hko (hr2 _ h1) h22 hk2 e2
    · rcases hkl with h3 | h3
      · have := lv_lt hs ⟨j, rj, oj, h1, h2, rfl⟩
        omega
      · rcases lv1 _ h3 with h4 | ⟨r2, h4, h5⟩
        · rw [h4]; exact hs.apart id j r rj _ _ hr ho h1 h2 (fun e => hj e.symm)
        · rw [h5]; exact hs.apart id2 j r2 rj _ _ h4 ho2 h1 h2 (fun e' => e e'.symm)
  have g' : Go1 ρ F σ w (ρ.put σ.next { rk with n := new.length }) F' ((σ.kill id).push (.cells 0 new)) w' := {
    rec_ := fun j rj h => by
      rw [put_there]
      · exact h
      · intro e; rw [e, hn] at h; cases h
    rng := fun j rj h h0 => by
      by_cases e : j = σ.next
      · subst e; exact ⟨Nat.le_refl _, Nat.lt_succ_self _⟩
      · rw [put_there _ e, h0] at h; cases h
    nx := Nat.le_succ _
    fro := g.fro
    cell := g.cell
    size := g.size
    frame := fun b hb hl => g.frame b hb fun h => hl (lv2 b h)
    froN := fun b o h => by
      rcases g.froN b o h with h1 | h1 | h1
      · exact .inl h1
      · exact .inr (.inl h1)
      · exact .inr (.inr (lv2 b h1))
    live := fun b ⟨j, rj, oj, h1, h2, h3⟩ => by
      by_cases e : j = σ.next
      · subst e
        rw [put_here] at h1
        cases h1
        subst h3
        rcases hkl with h4 | h4
        · exact .inl h4
        · exact .inr (lv2 _ h4)
      · rw [put_there _ e] at h1
        rw [hnx e] at h2
        split at h2
        · cases h2
        · exact .inr ⟨j, rj, oj, h1, h2, h3⟩
    os := g.os
    tape := g.tape
    out := g.out }
  refine ⟨ρ.put σ.next { rk with n := new.length }, g', ?_, ?_⟩
  · refine ⟨fun j rj oj h1 h2 => ?_, fun j j' r1 r2 o1 o2 h1 h2 h3 h4 hjj => ?_, s.old, fun j hj => ?_⟩
    · by_cases e : j = σ.next
      · subst e
        rw [put_here] at h1
        cases h1
        rw [hnn] at h2
        cases h2
        exact (s.obj k rk _ hk hko).front hpn
      · rw [put_there _ e] at h1
        rw [hnx e] at h2
        split at h2
        · cases h2
        · rename_i hj
          by_cases e2 : j = id2
          · subst e2
            rw [ho2] at h2
            cases h2
            exact (s.obj j rj _ (hr2 _ h1) h22).plain hp2
          · have h5 := hs.obj j rj oj h1 h2
            have hb : w'.heap[rj.block]? = w.heap[rj.block]? := g.frame _ (lv_lt hs ⟨j, rj, oj, h1, h2, rfl⟩) fun h6 => by
              rcases lv1 _ h6 with h7 | ⟨r2, h7, h8⟩
              · exact hs.apart id j r rj _ _ hr ho h1 h2 (fun e' => hj e'.symm) h7.symm
              · exact hs.apart id2 j r2 rj _ _ h7 ho2 h1 h2 (fun e' => e2 e'.symm) h8.symm
            refine h5.alike hb (fun k => g'.vr k) fun o hF' => ?_
            rcases g.froN _ _ hF' with h6 | h6 | h6
            · exact h6
            · have := lv_lt hs ⟨j, rj, _, h1, h2, rfl⟩; omega
            · exfalso
              rcases lv1 _ h6 with h7 | ⟨r2, h7, h8⟩
              · exact hs.apart id j r rj _ _ hr ho h1 h2 (fun e' => hj e'.symm) h7.symm
              · exact hs.apart id2 j r2 rj _ _ h7 ho2 h1 h2 (fun e' => e2 e'.symm) h8.symm
    · by_cases e : j = σ.next <;> by_cases e' : j' = σ.next
      · exact absurd (e.trans e'.symm) hjj
      · subst e
        rw [put_here] at h1
        cases h1
        rw [put_there _ e'] at h3
        rw [hnx e'] at h4
        split at h4
        · cases h4
        · rename_i hj
          exact apk hj h3 h4
      · subst e'
        rw [put_here] at h3
        cases h3
        rw [put_there _ e] at h1
        rw [hnx e] at h2
        split at h2
        · cases h2
        · rename_i hj
          exact fun e9 => apk hj h1 h2 e9.symm
      · rw [put_there _ e] at h1
        rw [put_there _ e'] at h3
        rw [hnx e] at h2
        rw [hnx e'] at h4
        split at h2
        · cases h2
        · split at h4
          · cases h4
          · exact hs.apart j j' r1 r2 o1 o2 h1 h2 h3 h4 hjj
    · have hj' : σ.next + 1 ≤ j := hj
      rw [hnx (by omega)]
      split
      · rfl
      · exact hs.new j (by omega)
  · obtain ⟨r', b, o, c', hr', hrs, rfl, hab, hlc, hkk, hkn, hph, hinn⟩ := hv.lsl_inv
    rw [hk] at hr'
    cases hr'
    exact .lsl σ.next 0 new.length none { rk with n := new.length } b o c' (put_here _ _) hab hlc (fun k hk => by cases hk) (fun _ => by rw [Nat.zero_add]; exact hlc) hph (by rw [Nat.zero_add]; exact Nat.le_refl _)
end
end Go.Pvm
