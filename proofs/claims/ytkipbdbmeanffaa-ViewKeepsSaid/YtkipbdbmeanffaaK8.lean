/- Part of the proof: the evaluator over values alone, without a bound on its steps. -/
import Derived.Test.YtkipbdbmeanffaaK7
set_option linter.unusedSimpArgs false
set_option linter.unusedVariables false
namespace Go.Pvm
def CLeK (C C' : CallK) : Prop := ∀ f a A r, C f a A = some r → C' f a A = some r
def LLeK (L L' : LoopK) : Prop := ∀ f cd n e A r, L f cd n e A = some r → L' f cd n e A = some r
section
variable {β : Type} {r : β} {A : List KO} {env : List PV} {c : Cfg} {kc : KCfg} {C C' : CallK} {L L' : LoopK} {f : FuncId} {n0 : Nat}
theorem pcall_mono (hC : CLeK C C') {g : FuncId} {args : List PV} {v : PV} (h : pcall C g args = some v) : pcall C' g args = some v := by
  unfold pcall at h ⊢
  rw [Option.map_eq_some_iff] at h
  obtain ⟨q, h1, h2⟩ := h
  rw [hC _ _ _ _ h1, Option.map_some, h2]
theorem callKK_mono (hC : CLeK C C') {g : FuncId} {args : List PV} {ty : TypeId} {k : PV → List PV → List KO → Option β} (h : callKK c kc C g args ty env A k = some r) : callKK c kc C' g args ty env A k = some r := by
  unfold callKK at h ⊢
  simp only [forceVs_eq] at h ⊢
  split at h
  · rename_i he
    rw [if_pos he]
    split at h
    · rename_i hm
      rw [Option.bind_eq_some_iff] at h
      obtain ⟨v, h1, h2⟩ := h
      rw [pcall_mono hC h1]
      exact h2
    · exact h
    · rename_i hm
      unfold liveKK at h ⊢
      simp only [forceNats_eq, forceVs_eq, forceA_eq, forceV_eq] at h ⊢
      split at h
      · rename_i hq
        rw [if_pos hq]
        rw [Option.bind_eq_some_iff] at h
        obtain ⟨v, h1, h2⟩ := h
        rw [hC _ _ _ _ h1]
        exact h2
      · cases h
    · exact h
  · cases h
theorem opKK_mono (hC : CLeK C C') {o : Oper} {k : PV → List PV → List KO → Option β} (h : opKK c kc C env A o k = some r) : opKK c kc C' env A o k = some r := by
  obtain ⟨dst, op, type, pos, after, guard⟩ := o
  cases op
  case call cl =>
    obtain ⟨callee, args, ts⟩ := cl
    cases callee
    case value x =>
      unfold opKK at h ⊢
      simp only [Option.bind_eq_some_iff] at h ⊢
      obtain ⟨q, h1, h2⟩ := h
      exact ⟨q, h1, callKK_mono hC h2⟩
    all_goals exact h
  case makeFunc fn fs cs => cases fn <;> exact h
  all_goals exact h
theorem opsKK_mono (hC : CLeK C C') {all : List Oper} : ∀ (l : List Oper) {env : List PV} {A : List KO} {k : List PV → List KO → Option β}, opsKK c kc C all l env A k = some r → opsKK c kc C' all l env A k = some r
  | [], _, _, _, h => h
  | o :: l, env, A, k, h => by
    have go : ∀ {env : List PV}, (opKK c kc C env A o fun v env A => putK env o.dst v fun e => opsKK c kc C all l e A k) = some r → (opKK c kc C' env A o fun v env A => putK env o.dst v fun e => opsKK c kc C' all l e A k) = some r := fun h => by
      rw [opKK_nat, Option.bind_eq_some_iff] at h
      obtain ⟨x, h1, h2⟩ := h
      rw [opKK_nat, opKK_mono hC h1]
      simp only [Option.bind_some]
      rw [putK_eq] at h2 ⊢
      exact opsKK_mono hC l h2
    have no : ∀ {env : List PV}, (putK env o.dst (.tuple []) fun e => opsKK c kc C all l e A k) = some r → (putK env o.dst (.tuple []) fun e => opsKK c kc C' all l e A k) = some r := fun h => by
      rw [putK_eq] at h ⊢
      exact opsKK_mono hC l h
    unfold opsKK at h ⊢
    split at h
    · rename_i hg
      (try rw [hg])
      exact go h
    · rename_i g w hg
      (try rw [hg])
      simp only [setL_eq] at h ⊢
      split at h
      · cases h
      · rename_i d hd
        (try rw [hd])
        (try simp only)
        split at h
        · rename_i b hb
          (try simp only [hb])
          split at h
          · rename_i hbt
            (try rw [if_pos hbt])
            split at h
            · rename_i hw; (try rw [if_pos hw]); exact go h
            · rename_i hw; (try rw [if_neg hw]); exact no h
          · rename_i hbt
            (try rw [if_neg hbt])
            split at h
            · rename_i hw; (try rw [if_pos hw]); exact go h
            · rename_i hw; (try rw [if_neg hw]); exact no h
        · rename_i vs hb
          (try simp only [hb])
          exact no h
        · cases h
theorem evalKK_mono (hC : CLeK C C') (hL : LLeK L L') : ∀ (cd : Code) {β : Type} {r : β} {env : List PV} {A : List KO} {k : Ex → List PV → List KO → Option β}, evalKK c kc C L f n0 cd env A k = some r → evalKK c kc C' L' f n0 cd env A k = some r
  | .skip, _, _, _, _, _, h | .label _, _, _, _, _, _, h | .exit _, _, _, _, _, _, h | .ret, _, _, _, _, _, h => h
  | .region id ops draw, β, r, env, A, k, h => by
    simp only [evalKK] at h ⊢
    rw [preKK_nat, Option.bind_eq_some_iff] at h
    obtain ⟨x, h1, h2⟩ := h
    rw [preKK_nat, h1]
    simp only [Option.bind_some]
    split at h2
    · rename_i hd
      rw [if_pos hd]
      split at h2
      · rename_i hk
        rw [if_pos hk]
        exact opsKK_mono hC _ h2
      · cases h2
    · rename_i hd
      rw [if_neg hd]
      exact opsKK_mono hC _ h2
  | .seq a b, β, r, env, A, k, h => by
    simp only [evalKK] at h ⊢
    rw [evalKK_nat, Option.bind_eq_some_iff] at h
    obtain ⟨⟨x, e, A1⟩, h1, h2⟩ := h
    rw [evalKK_nat, evalKK_mono hC hL a h1]
    simp only [Option.bind_some]
    cases x with
    | normal => exact evalKK_mono hC hL b h2
    | exit i => exact h2
    | ret => exact h2
  | .cond cd a b, β, r, env, A, k, h => by
    simp only [evalKK] at h ⊢
    split at h
    · rename_i t ht
      split at h
      · rename_i htt
        rw [if_pos htt]
        subst htt
        rw [setB_ok ht] at h ⊢
        exact evalKK_mono hC hL a h
      · rename_i htt
        rw [if_neg htt]
        have htf : t = false := by simpa using htt
        subst htf
        rw [setB_ok ht] at h ⊢
        exact evalKK_mono hC hL b h
    · cases h
  | .block id cd, β, r, env, A, k, h => by
    simp only [evalKK] at h ⊢
    rw [evalKK_nat, Option.bind_eq_some_iff] at h
    obtain ⟨⟨x, e, A1⟩, h1, h2⟩ := h
    rw [evalKK_nat, evalKK_mono hC hL cd h1]
    exact h2
  | .loop cd, β, r, env, A, k, h => by
    simp only [evalKK] at h ⊢
    split at h
    · rename_i hd l hm
      rw [headKK_nat, Option.bind_eq_some_iff] at h
      obtain ⟨x, h1, h2⟩ := h
      rw [Option.bind_eq_some_iff] at h2
      obtain ⟨y, h3, h4⟩ := h2
      rw [headKK_nat, h1]
      simp only [Option.bind_some]
      rw [hL _ _ _ _ _ _ h3]
      exact h4
    · cases h
  | .rangeFunc .., _, _, _, _, _, h | .scope _, _, _, _, _, _, h | .goto _, _, _, _, _, _, h | .refuse _, _, _, _, _, _, h => by simp only [evalKK] at h; cases h
theorem stepKK_mono (hC : CLeK C C') (hL : LLeK L L') : CLeK (stepKK c kc C L) (stepKK c kc C' L') := fun g a A r h => by
  unfold stepKK at h ⊢
  split at h
  · rename_i fn hf
    split at h
    · rename_i cd hcd
      exact evalKK_mono hC hL cd h
    · cases h
  · cases h
theorem stepLKK_mono (hC : CLeK C C') (hL : LLeK L L') : LLeK (stepLKK c kc C L) (stepLKK c kc C' L') := fun g cd n e A r h => by
  unfold stepLKK at h ⊢
  rw [evalKK_nat, Option.bind_eq_some_iff] at h
  obtain ⟨⟨x, e1, A1⟩, h1, h2⟩ := h
  rw [evalKK_nat, evalKK_mono hC hL cd h1]
  simp only [Option.bind_some]
  unfold goKK at h2 ⊢
  cases x with
  | normal =>
    simp only at h2 ⊢
    rw [headKK_nat, Option.bind_eq_some_iff] at h2
    obtain ⟨y, h3, h4⟩ := h2
    rw [headKK_nat, h3]
    exact hL _ _ _ _ _ _ h4
  | exit i => exact h2
  | ret => exact h2
end
theorem callNK_up (c : Cfg) (kc : KCfg) : ∀ n, CLeK (callNK c kc n) (callNK c kc (n + 1)) ∧ LLeK (loopNK c kc n) (loopNK c kc (n + 1))
  | 0 => ⟨(fun f a A r h => by cases h), (fun f cd n e A r h => by cases h)⟩
  | n + 1 => by
    obtain ⟨h1, h2⟩ := callNK_up c kc n
    refine ⟨fun f a A r h => ?_, fun f cd n e A r h => ?_⟩
    · unfold callNK at h ⊢; exact stepKK_mono h1 h2 _ _ _ _ h
    · unfold loopNK at h ⊢; exact stepLKK_mono h1 h2 _ _ _ _ _ _ h
theorem callNK_le (c : Cfg) (kc : KCfg) {m : Nat} : ∀ n, m ≤ n → CLeK (callNK c kc m) (callNK c kc n) ∧ LLeK (loopNK c kc m) (loopNK c kc n)
  | 0, h => by
    have : m = 0 := by omega
    subst this
    exact ⟨fun _ _ _ _ h => h, fun _ _ _ _ _ _ h => h⟩
  | n + 1, h => by
    by_cases he : m = n + 1
    · subst he; exact ⟨fun _ _ _ _ h => h, fun _ _ _ _ _ _ h => h⟩
    · obtain ⟨h1, h2⟩ := callNK_le c kc (m := m) n (by omega)
      obtain ⟨h3, h4⟩ := callNK_up c kc n
      exact ⟨fun _ _ _ _ h => h3 _ _ _ _ (h1 _ _ _ _ h), fun _ _ _ _ _ _ h => h4 _ _ _ _ _ _ (h2 _ _ _ _ _ _ h)⟩
open Classical in
noncomputable def callωK (c : Cfg) (kc : KCfg) : CallK := fun f a A => if h : ∃ n r, callNK c kc n f a A = some r then callNK c kc (Classical.choose h) f a A else none
open Classical in
noncomputable def loopωK (c : Cfg) (kc : KCfg) : LoopK := fun f cd n0 e A => if h : ∃ n r, loopNK c kc n f cd n0 e A = some r then loopNK c kc (Classical.choose h) f cd n0 e A else none
section
variable {c : Cfg} {kc : KCfg}
theorem callωK_iff {g : FuncId} {a : List PV} {A : List KO} {r : PV × List KO} : callωK c kc g a A = some r ↔ ∃ n, callNK c kc n g a A = some r := by
  unfold callωK
  constructor
  · intro h
    split at h
    · exact ⟨_, h⟩
    · cases h
  · rintro ⟨n, h⟩
    have hx : ∃ n r, callNK c kc n g a A = some r := ⟨n, r, h⟩
    rw [dif_pos hx]
    obtain ⟨r', hr'⟩ := Classical.choose_spec hx
    rw [hr']
    rcases Nat.le_total n (Classical.choose hx) with hle | hle
    · rw [(callNK_le c kc _ hle).1 _ _ _ _ h] at hr'; exact hr'.symm
    · rw [(callNK_le c kc _ hle).1 _ _ _ _ hr'] at h; exact h
theorem loopωK_iff {g : FuncId} {cd : Code} {n0 : Nat} {e : List PV} {A : List KO} {r : Ex × List PV × List KO} : loopωK c kc g cd n0 e A = some r ↔ ∃ n, loopNK c kc n g cd n0 e A = some r := by
  unfold loopωK
  constructor
  · intro h
    split at h
    · exact ⟨_, h⟩
    · cases h
  · rintro ⟨n, h⟩
    have hx : ∃ n r, loopNK c kc n g cd n0 e A = some r := ⟨n, r, h⟩
    rw [dif_pos hx]
    obtain ⟨r', hr'⟩ := Classical.choose_spec hx
    rw [hr']
    rcases Nat.le_total n (Classical.choose hx) with hle | hle
    · rw [(callNK_le c kc _ hle).2 _ _ _ _ _ _ h] at hr'; exact hr'.symm
    · rw [(callNK_le c kc _ hle).2 _ _ _ _ _ _ hr'] at h; exact h
theorem soundω (hT : ∀ f, c.told f = none) (hO : OwnOk kc (callω c)) : SoundC (callωK c kc) (callω c) := fun g args A r A' h => by
  obtain ⟨n, h⟩ := callωK_iff.1 h
  exact (soundN hT hO n).1 g args A r A' h

section
variable {β : Type} {r : β} {A : List KO} {env : List PV} {c2 : Cfg} {f : FuncId} {n0 : Nat}
theorem callKK_cont {g : FuncId} {args : List PV} {ty : TypeId} {k : PV → List PV → List KO → Option β} (h : callKK c2 kc (callωK c kc) g args ty env A k = some r) : ∃ n, callKK c2 kc (callNK c kc n) g args ty env A k = some r := by
  unfold callKK at h ⊢
  simp only [forceVs_eq] at h ⊢
  split at h
  · rename_i he
    simp only [if_pos he]
    split at h
    · rename_i hm
      rw [Option.bind_eq_some_iff] at h
      obtain ⟨v, h1, h2⟩ := h
      unfold pcall at h1
      rw [Option.map_eq_some_iff] at h1
      obtain ⟨q, h3, h4⟩ := h1
      obtain ⟨n, h5⟩ := callωK_iff.1 h3
      refine ⟨n, ?_⟩
      unfold pcall
      rw [h5, Option.map_some, h4]
      exact h2
    · exact ⟨0, h⟩
    · rename_i hm
      unfold liveKK at h ⊢
      simp only [forceNats_eq, forceVs_eq, forceA_eq, forceV_eq] at h ⊢
      split at h
      · rename_i hq
        simp only [if_pos hq]
        rw [Option.bind_eq_some_iff] at h
        obtain ⟨v, h1, h2⟩ := h
        obtain ⟨n, h5⟩ := callωK_iff.1 h1
        exact ⟨n, by rw [h5]; exact h2⟩
      · cases h
    · exact ⟨0, h⟩
  · cases h
theorem opKK_cont {o : Oper} {k : PV → List PV → List KO → Option β} (h : opKK c2 kc (callωK c kc) env A o k = some r) : ∃ n, opKK c2 kc (callNK c kc n) env A o k = some r := by
  obtain ⟨dst, op, type, pos, after, guard⟩ := o
  cases op
  case call cl =>
    obtain ⟨callee, args, ts⟩ := cl
    cases callee
    case value x =>
      unfold opKK at h ⊢
      simp only [Option.bind_eq_some_iff] at h ⊢
      obtain ⟨q, h1, h2⟩ := h
      obtain ⟨n, h3⟩ := callKK_cont h2
      exact ⟨n, q, h1, h3⟩
    all_goals exact ⟨0, h⟩
  case makeFunc fn fs cs => cases fn <;> exact ⟨0, h⟩
  all_goals exact ⟨0, h⟩
theorem opsKK_cont {all : List Oper} : ∀ (l : List Oper) {env : List PV} {A : List KO} {k : List PV → List KO → Option β}, opsKK c2 kc (callωK c kc) all l env A k = some r → ∃ n, opsKK c2 kc (callNK c kc n) all l env A k = some r
  | [], _, _, _, h => ⟨0, h⟩
  | o :: l, env, A, k, h => by
    have go : ∀ {env : List PV}, (opKK c2 kc (callωK c kc) env A o fun v env A => putK env o.dst v fun e => opsKK c2 kc (callωK c kc) all l e A k) = some r → ∃ n, (opKK c2 kc (callNK c kc n) env A o fun v env A => putK env o.dst v fun e => opsKK c2 kc (callNK c kc n) all l e A k) = some r := fun h => by
      rw [opKK_nat, Option.bind_eq_some_iff] at h
      obtain ⟨x, h1, h2⟩ := h
      rw [putK_eq] at h2
      obtain ⟨n1, h3⟩ := opKK_cont h1
      obtain ⟨n2, h4⟩ := opsKK_cont l h2
      refine ⟨max n1 n2, ?_⟩
      rw [opKK_nat, opKK_mono (callNK_le c kc _ (Nat.le_max_left n1 n2)).1 h3]
      simp only [Option.bind_some]
      rw [putK_eq]
      exact opsKK_mono (callNK_le c kc _ (Nat.le_max_right n1 n2)).1 l h4
    have no : ∀ {env : List PV}, (putK env o.dst (.tuple []) fun e => opsKK c2 kc (callωK c kc) all l e A k) = some r → ∃ n, (putK env o.dst (.tuple []) fun e => opsKK c2 kc (callNK c kc n) all l e A k) = some r := fun h => by
      simp only [putK_eq] at h ⊢
      exact opsKK_cont l h
    unfold opsKK at h ⊢
    split at h
    · rename_i hg
      (try rw [hg])
      exact go h
    · rename_i g w hg
      (try rw [hg])
      simp only [setL_eq] at h ⊢
      split at h
      · cases h
      · rename_i d hd
        (try rw [hd])
        (try simp only)
        split at h
        · rename_i b hb
          (try simp only [hb])
          split at h
          · rename_i hbt
            (try simp only [if_pos hbt])
            split at h
            · rename_i hw; (try simp only [if_pos hw]); exact go h
            · rename_i hw; (try simp only [if_neg hw]); exact no h
          · rename_i hbt
            (try simp only [if_neg hbt])
            split at h
            · rename_i hw; (try simp only [if_pos hw]); exact go h
            · rename_i hw; (try simp only [if_neg hw]); exact no h
        · rename_i vs hb
          (try simp only [hb])
          exact no h
        · cases h
theorem evalKK_cont : ∀ (cd : Code) {β : Type} {r : β} {env : List PV} {A : List KO} {k : Ex → List PV → List KO → Option β}, evalKK c kc (callωK c kc) (loopωK c kc) f n0 cd env A k = some r → ∃ n, evalKK c kc (callNK c kc n) (loopNK c kc n) f n0 cd env A k = some r
  | .skip, _, _, _, _, _, h | .label _, _, _, _, _, _, h | .exit _, _, _, _, _, _, h | .ret, _, _, _, _, _, h => ⟨0, h⟩
  | .region id ops draw, β, r, env, A, k, h => by
    simp only [evalKK] at h ⊢
    rw [preKK_nat, Option.bind_eq_some_iff] at h
    obtain ⟨x, h1, h2⟩ := h
    split at h2
    · rename_i hd
      split at h2
      · rename_i hk
        obtain ⟨n, h3⟩ := opsKK_cont _ h2
        refine ⟨n, ?_⟩
        rw [preKK_nat, h1]
        simp only [Option.bind_some]
        rw [if_pos hd, if_pos hk]
        exact h3
      · cases h2
    · rename_i hd
      obtain ⟨n, h3⟩ := opsKK_cont _ h2
      refine ⟨n, ?_⟩
      rw [preKK_nat, h1]
      simp only [Option.bind_some]
      rw [if_neg hd]
      exact h3
  | .seq a b, β, r, env, A, k, h => by
    simp only [evalKK] at h ⊢
    rw [evalKK_nat, Option.bind_eq_some_iff] at h
    obtain ⟨⟨x, e, A1⟩, h1, h2⟩ := h
    obtain ⟨n1, h3⟩ := evalKK_cont a h1
    cases x with
    | normal =>
      obtain ⟨n2, h4⟩ := evalKK_cont b h2
      refine ⟨max n1 n2, ?_⟩
      obtain ⟨u1, u2⟩ := callNK_le c kc _ (Nat.le_max_left n1 n2)
      obtain ⟨u3, u4⟩ := callNK_le c kc _ (Nat.le_max_right n1 n2)
      rw [evalKK_nat, evalKK_mono u1 u2 a h3]
      exact evalKK_mono u3 u4 b h4
    | exit i => exact ⟨n1, by rw [evalKK_nat, h3]; exact h2⟩
    | ret => exact ⟨n1, by rw [evalKK_nat, h3]; exact h2⟩
  | .cond cd a b, β, r, env, A, k, h => by
    simp only [evalKK] at h ⊢
    split at h
    · rename_i t ht
      split at h
      · rename_i htt
        simp only [if_pos htt]
        subst htt
        simp only [setB_ok ht] at h ⊢
        exact evalKK_cont a h
      · rename_i htt
        simp only [if_neg htt]
        have htf : t = false := by simpa using htt
        subst htf
        simp only [setB_ok ht] at h ⊢
        exact evalKK_cont b h
    · cases h
  | .block id cd, β, r, env, A, k, h => by
    simp only [evalKK] at h ⊢
    rw [evalKK_nat, Option.bind_eq_some_iff] at h
    obtain ⟨⟨x, e, A1⟩, h1, h2⟩ := h
    obtain ⟨n1, h3⟩ := evalKK_cont cd h1
    exact ⟨n1, by rw [evalKK_nat, h3]; exact h2⟩
  | .loop cd, β, r, env, A, k, h => by
    simp only [evalKK] at h ⊢
    split at h
    · rename_i hd l hm
      rw [headKK_nat, Option.bind_eq_some_iff] at h
      obtain ⟨x, h1, h2⟩ := h
      rw [Option.bind_eq_some_iff] at h2
      obtain ⟨y, h3, h4⟩ := h2
      obtain ⟨n, h5⟩ := loopωK_iff.1 h3
      refine ⟨n, ?_⟩
      rw [headKK_nat, h1]
      simp only [Option.bind_some]
      rw [h5]
      exact h4
    · cases h
  | .rangeFunc .., _, _, _, _, _, h | .scope _, _, _, _, _, _, h | .goto _, _, _, _, _, _, h | .refuse _, _, _, _, _, _, h => by simp only [evalKK] at h; cases h
end
theorem callωK_of {g : FuncId} {a : List PV} {A : List KO} {r : PV × List KO} (h : stepKK c kc (callωK c kc) (loopωK c kc) g a A = some r) : callωK c kc g a A = some r := by
  refine callωK_iff.2 ?_
  unfold stepKK at h
  split at h
  · rename_i fn hf
    split at h
    · rename_i cd hcd
      obtain ⟨n, h1⟩ := evalKK_cont cd h
      refine ⟨n + 1, ?_⟩
      unfold callNK stepKK
      rw [hf]
      simp only [hcd]
      exact h1
    · cases h
  · cases h
theorem loopωK_of {g : FuncId} {cd : Code} {n0 : Nat} {e : List PV} {A : List KO} {r : Ex × List PV × List KO} (h : stepLKK c kc (callωK c kc) (loopωK c kc) g cd n0 e A = some r) : loopωK c kc g cd n0 e A = some r := by
  refine loopωK_iff.2 ?_
  unfold stepLKK at h
  rw [evalKK_nat, Option.bind_eq_some_iff] at h
  obtain ⟨⟨x, e1, A1⟩, h1, h2⟩ := h
  obtain ⟨n1, h3⟩ := evalKK_cont cd h1
  unfold goKK at h2
  cases x with
  | normal =>
    simp only at h2
    rw [headKK_nat, Option.bind_eq_some_iff] at h2
    obtain ⟨y, h4, h5⟩ := h2
    obtain ⟨n2, h6⟩ := loopωK_iff.1 h5
    obtain ⟨u1, u2⟩ := callNK_le c kc _ (Nat.le_max_left n1 n2)
    obtain ⟨u3, u4⟩ := callNK_le c kc _ (Nat.le_max_right n1 n2)
    refine ⟨max n1 n2 + 1, ?_⟩
    unfold loopNK stepLKK goKK
    rw [evalKK_nat, evalKK_mono u1 u2 cd h3]
    simp only [Option.bind_some]
    rw [headKK_nat, h4]
    exact u4 _ _ _ _ _ _ h6
  | exit i =>
    refine ⟨n1 + 1, ?_⟩
    unfold loopNK stepLKK goKK
    rw [evalKK_nat, h3]
    exact h2
  | ret =>
    refine ⟨n1 + 1, ?_⟩
    unfold loopNK stepLKK goKK
    rw [evalKK_nat, h3]
    exact h2
/-- A call by itself. -/
theorem pcall_of {g : FuncId} {a : List PV} {v w : PV} {A : List KO} (h : stepKK c kc (callωK c kc) (loopωK c kc) g a [] = some (v, A)) (hf : fzK fuelFz A v = w) : pcall (callωK c kc) g a = some w := by
  unfold pcall
  rw [callωK_of h, Option.map_some]
  exact congrArg some hf
/-- What is told by values alone holds of the program. -/
theorem pcall_sound (hT : ∀ f, c.told f = none) (hO : OwnOk kc (callω c)) {g : FuncId} {a pa : List PV} {v : PV} (h : pcall (callωK c kc) g a = some v) (ha : VFs a pa) : ∃ p τ, callω c g pa .empty = some (p, τ) ∧ VF v (fz fuelFz τ p) :=
  pcall_ok (soundω hT hO) h ha
end
end Go.Pvm
