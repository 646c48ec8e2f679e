/- Part of the proof: code, functions and loops: the evaluator's word is the machine's. -/
import Derived.Test.YtkipbdbmeanffaaV16
import Derived.Tactics
import Derived.Scope
set_option linter.unusedSimpArgs false
set_option linter.unusedVariables false
namespace Go.Pvm

def Ex.exit' : Ex → Exit
  | .normal => .normal
  | .exit i => .exit i
  | .ret => .ret

/-- The loop's body at hand, the loop behind it. -/
def LoopAt (P : Program) (c : Code) (Q : Exit → Act → World → Prop) (a : Act) (w : World) : Prop :=
  ∀ (b : Frame) (k : List Item) (cs : List Frame), ∃ e a' w', Q e a' w' ∧ Arrives P (lone (b.at a (.code c :: .inLoop c :: k)) cs w) b k cs e a' w'

theorem LoopAt.loop {P : Program} {c : Code} {Q : Exit → Act → World → Prop} {a : Act} {w : World} (h : LoopAt P c Q a w) : (Code.loop c).wp P Q a w := fun b k cs =>
  let ⟨e, a', w', q, r⟩ := h b k cs; ⟨e, a', w', q, .of_steps (.one step_loop) r⟩

theorem LoopAt.round {P : Program} {c : Code} {Q : Exit → Act → World → Prop} {a : Act} {w : World} (h : c.wp P (Exit.then (LoopAt P c Q) Q) a w) : LoopAt P c Q a w := by
  intro b k cs
  obtain ⟨e, a₁, w₁, hq, harr⟩ := h b (.inLoop c :: k) cs
  cases e with
  | normal =>
    obtain ⟨e₂, a₂, w₂, hq₂, harr₂⟩ := hq b k cs
    exact ⟨e₂, a₂, w₂, hq₂, .of_steps (Steps.trans harr (.one step_inLoop)) harr₂⟩
  | exit id => exact ⟨_, a₁, w₁, hq, .pass (x := .inLoop c) rfl (fun _ _ => .inl (by simp)) harr⟩
  | goto l => exact ⟨_, a₁, w₁, hq, .pass (x := .inLoop c) rfl (fun _ _ => .inl (by simp)) harr⟩
  | ret => exact ⟨_, a₁, w₁, hq, .pass (x := .inLoop c) rfl (fun _ _ => .inl (by simp)) harr⟩
  | panic ch => exact ⟨_, a₁, w₁, hq, .pass (x := .inLoop c) rfl (fun _ _ => .inl (by simp)) harr⟩
  | outgrown => exact ⟨_, a₁, w₁, hq, .pass (x := .inLoop c) rfl (fun _ _ => .inl (by simp)) harr⟩

/-- What follows for the walk of code from the evaluator's word. -/
def Goes (ρ : Where) (F : Froz) (σ : Store) (w : World) (a : Act) (x : Ex) (env' : List PV) (σ' : Store) (Q : Exit → Act → World → Prop) : Prop :=
  ∀ a' w' ρ' F', Go1 ρ F σ w ρ' F' σ' w' → SR ρ' F' σ' w' → EnvR ρ' F' w' env' a' → a'.defers = a.defers → Q x.exit' a' w'

def LoopOk (P : Program) (L : LoopO) : Prop := ∀ f c env σ x env' σ', L f c env σ = some (x, env', σ') → ∀ (ρ : Where) (F : Froz) (w : World) (a : Act), SR ρ F σ w → EnvR ρ F w env a → (∀ id, σ.next ≤ id → id < σ'.next → ρ id = none) →
  ∀ Q : Exit → Act → World → Prop, Goes ρ F σ w a x env' σ' Q → LoopAt P c Q a w
def LoopUp (L : LoopO) : Prop := ∀ f c env σ x env' σ', L f c env σ = some (x, env', σ') → σ.next ≤ σ'.next
def LoopLen (L : LoopO) : Prop := ∀ f c env σ x env' σ', L f c env σ = some (x, env', σ') → env'.length = env.length
def LoopNew (L : LoopO) : Prop := ∀ f c env σ x env' σ', L f c env σ = some (x, env', σ') → σ.Clean → σ'.Clean

section
variable {cfg : Cfg} {C : CallO} {L : LoopO} {f : FuncId}

theorem keepN_length (n : Nat) (l : List Nat) (env : List PV) : (keepN n l env).length = n := by simp [keepN]
theorem headM_length (c : Code) (env : List PV) : (headM cfg f c env.length env).length = env.length := by
  unfold headM
  split
  · exact keepN_length _ _ _
  · rfl
theorem headM_length' (c : Code) {n : Nat} {env : List PV} (h : env.length = n) : (headM cfg f c n env).length = n := by subst h; exact headM_length c env
theorem outM_length (c : Code) {x : Ex} {n : Nat} {env : List PV} (h : env.length = n) : (outM cfg f c x n env).length = n := by
  unfold outM
  split
  · exact keepN_length _ _ _
  · exact h
theorem keepN_env {ρ : Where} {F : Froz} {w : World} {env : List PV} {a : Act} (h : EnvR ρ F w env a) (l : List Nat) : EnvR ρ F w (keepN env.length l env) a := by
  refine ⟨by rw [keepN_length]; exact h.1, fun t => ?_⟩
  unfold keepN
  rw [List.getD_eq_getElem?_getD, List.getElem?_map]
  rcases Nat.lt_or_ge t env.length with ht | ht
  · rw [List.getElem?_range ht]
    simp only [Option.map_some, Option.getD_some]
    split
    · exact h.2 t
    · exact .pure (.undef _)
  · rw [List.getElem?_eq_none (by simpa using ht)]
    exact .pure (.undef _)
theorem headM_env {ρ : Where} {F : Froz} {w : World} {env : List PV} {a : Act} (h : EnvR ρ F w env a) (c : Code) {n : Nat} (hn : env.length = n) : EnvR ρ F w (headM cfg f c n env) a := by
  subst hn
  unfold headM
  split
  · exact keepN_env h _
  · exact h
theorem outM_env {ρ : Where} {F : Froz} {w : World} {env : List PV} {a : Act} (h : EnvR ρ F w env a) (c : Code) {x : Ex} {n : Nat} (hn : env.length = n) : EnvR ρ F w (outM cfg f c x n env) a := by
  subst hn
  unfold outM
  split
  · exact keepN_env h _
  · exact h

theorem evalOps_len {all : List Oper} : ∀ (l : List Oper) (env : List PV) (σ : Store) (env' : List PV) (σ' : Store), evalOps cfg C all l env σ = some (env', σ') → env'.length = env.length
  | [], env, σ, env', σ', h => by simp [evalOps] at h; rw [h.1]
  | o :: r, env, σ, env', σ', h => by
    simp only [evalOps, Option.bind_eq_some_iff] at h
    obtain ⟨b, hb, h⟩ := h
    split at h
    · simp only [Option.bind_eq_some_iff] at h
      obtain ⟨⟨v, τ⟩, h1, h2⟩ := h
      rw [evalOps_len r _ _ _ _ h2, putv_length]
    · rw [evalOps_len r _ _ _ _ h, putv_length]

theorem evalReg_len {b : Bool} {l : List Nat} {ops : List Oper} {draw : Bool} {env env' : List PV} {σ σ' : Store} (h : evalReg cfg C b l ops draw env σ = some (env', σ')) : env'.length = env.length := by
  unfold evalReg at h
  split at h
  · split at h
    · exact evalOps_len _ _ _ _ _ h
    · cases h
  · exact evalOps_len _ _ _ _ _ h
theorem evalReg_next (hN : NextUp C) {b : Bool} {l : List Nat} {ops : List Oper} {draw : Bool} {env env' : List PV} {σ σ' : Store} (h : evalReg cfg C b l ops draw env σ = some (env', σ')) : σ.next ≤ σ'.next := by
  unfold evalReg at h
  split at h
  · split at h
    · exact evalOps_next hN _ _ _ _ _ h
    · cases h
  · exact evalOps_next hN _ _ _ _ _ h
theorem evalReg_clean (hN : NextUp C) (hC : NewOk C) {b : Bool} {l : List Nat} {ops : List Oper} {draw : Bool} {env env' : List PV} {σ σ' : Store} (h : evalReg cfg C b l ops draw env σ = some (env', σ')) (hc : σ.Clean) : σ'.Clean := by
  unfold evalReg at h
  split at h
  · split at h
    · exact evalOps_clean hN hC _ _ _ _ _ h hc
    · cases h
  · exact evalOps_clean hN hC _ _ _ _ _ h hc

theorem code_len (hL : LoopLen L) : ∀ (c : Code) (env : List PV) (σ : Store) (x : Ex) (env' : List PV) (σ' : Store), evalCode cfg C L f c env σ = some (x, env', σ') → env'.length = env.length
  | .skip, _, _, _, _, _, h | .label _, _, _, _, _, _, h | .exit _, _, _, _, _, _, h | .ret, _, _, _, _, _, h => by simp only [evalCode] at h; cases h; rfl
  | .region _ ops draw, env, σ, x, env', σ', h => by
    simp only [evalCode, Option.bind_eq_some_iff, Option.map_eq_some_iff] at h
    obtain ⟨p, h0, ⟨e, s⟩, h1, h2⟩ := h
    cases h2
    exact (evalReg_len h1).trans (pre_len h0).1
  | .seq a b, env, σ, x, env', σ', h => by
    simp only [evalCode, Option.bind_eq_some_iff] at h
    obtain ⟨⟨y, e, s⟩, h1, h2⟩ := h
    have k1 := code_len hL a _ _ _ _ _ h1
    cases y with
    | normal => exact (code_len hL b _ _ _ _ _ h2).trans k1
    | exit i => cases h2; exact k1
    | ret => cases h2; exact k1
  | .cond c a b, env, σ, x, env', σ', h => by
    simp only [evalCode] at h
    split at h
    · split at h
      · exact code_len hL a _ _ _ _ _ h
      · exact code_len hL b _ _ _ _ _ h
    · cases h
  | .block id c, env, σ, x, env', σ', h => by
    simp only [evalCode, Option.map_eq_some_iff] at h
    obtain ⟨⟨y, e, s⟩, h1, h2⟩ := h
    cases h2
    exact code_len hL c _ _ _ _ _ h1
  | .loop c, env, σ, x, env', σ', h => by
    simp only [evalCode, Option.map_eq_some_iff] at h
    obtain ⟨⟨y, e, s⟩, h1, h2⟩ := h
    cases h2
    exact outM_length c ((hL _ _ _ _ _ _ _ h1).trans (headM_length c env))
  | .rangeFunc .., _, _, _, _, _, h | .scope _, _, _, _, _, _, h | .goto _, _, _, _, _, _, h | .refuse _, _, _, _, _, _, h => by simp only [evalCode] at h; cases h

theorem code_next (hN : NextUp C) (hL : LoopUp L) : ∀ (c : Code) (env : List PV) (σ : Store) (x : Ex) (env' : List PV) (σ' : Store), evalCode cfg C L f c env σ = some (x, env', σ') → σ.next ≤ σ'.next
  | .skip, _, _, _, _, _, h | .label _, _, _, _, _, _, h | .exit _, _, _, _, _, _, h | .ret, _, _, _, _, _, h => by simp only [evalCode] at h; cases h; exact Nat.le_refl _
  | .region _ ops draw, env, σ, x, env', σ', h => by
    simp only [evalCode, Option.bind_eq_some_iff, Option.map_eq_some_iff] at h
    obtain ⟨p, h0, ⟨e, s⟩, h1, h2⟩ := h
    cases h2
    exact Nat.le_trans (Nat.le_of_eq (pre_len h0).2.1.symm) (evalReg_next hN h1)
  | .seq a b, env, σ, x, env', σ', h => by
    simp only [evalCode, Option.bind_eq_some_iff] at h
    obtain ⟨⟨y, e, s⟩, h1, h2⟩ := h
    have k1 := code_next hN hL a _ _ _ _ _ h1
    cases y with
    | normal => exact Nat.le_trans k1 (code_next hN hL b _ _ _ _ _ h2)
    | exit i => cases h2; exact k1
    | ret => cases h2; exact k1
  | .cond c a b, env, σ, x, env', σ', h => by
    simp only [evalCode] at h
    split at h
    · split at h
      · exact code_next hN hL a _ _ _ _ _ h
      · exact code_next hN hL b _ _ _ _ _ h
    · cases h
  | .block id c, env, σ, x, env', σ', h => by
    simp only [evalCode, Option.map_eq_some_iff] at h
    obtain ⟨⟨y, e, s⟩, h1, h2⟩ := h
    cases h2
    exact code_next hN hL c _ _ _ _ _ h1
  | .loop c, env, σ, x, env', σ', h => by
    simp only [evalCode, Option.map_eq_some_iff] at h
    obtain ⟨⟨y, e, s⟩, h1, h2⟩ := h
    cases h2
    exact hL _ _ _ _ _ _ _ h1
  | .rangeFunc .., _, _, _, _, _, h | .scope _, _, _, _, _, _, h | .goto _, _, _, _, _, _, h | .refuse _, _, _, _, _, _, h => by simp only [evalCode] at h; cases h

theorem code_clean (hN : NextUp C) (hC : NewOk C) (hL : LoopNew L) : ∀ (c : Code) (env : List PV) (σ : Store) (x : Ex) (env' : List PV) (σ' : Store), evalCode cfg C L f c env σ = some (x, env', σ') → σ.Clean → σ'.Clean
  | .skip, _, _, _, _, _, h, hc | .label _, _, _, _, _, _, h, hc | .exit _, _, _, _, _, _, h, hc | .ret, _, _, _, _, _, h, hc => by simp only [evalCode] at h; cases h; exact hc
  | .region _ ops draw, env, σ, x, env', σ', h, hc => by
    simp only [evalCode, Option.bind_eq_some_iff, Option.map_eq_some_iff] at h
    obtain ⟨p, h0, ⟨e, s⟩, h1, h2⟩ := h
    cases h2
    obtain ⟨_, k2, k3⟩ := pre_len h0
    exact evalReg_clean hN hC h1 fun id hid => (k3 id).2 (hc id (by rw [← k2]; exact hid))
  | .seq a b, env, σ, x, env', σ', h, hc => by
    simp only [evalCode, Option.bind_eq_some_iff] at h
    obtain ⟨⟨y, e, s⟩, h1, h2⟩ := h
    have k1 := code_clean hN hC hL a _ _ _ _ _ h1 hc
    cases y with
    | normal => exact code_clean hN hC hL b _ _ _ _ _ h2 k1
    | exit i => cases h2; exact k1
    | ret => cases h2; exact k1
  | .cond c a b, env, σ, x, env', σ', h, hc => by
    simp only [evalCode] at h
    split at h
    · split at h
      · exact code_clean hN hC hL a _ _ _ _ _ h hc
      · exact code_clean hN hC hL b _ _ _ _ _ h hc
    · cases h
  | .block id c, env, σ, x, env', σ', h, hc => by
    simp only [evalCode, Option.map_eq_some_iff] at h
    obtain ⟨⟨y, e, s⟩, h1, h2⟩ := h
    cases h2
    exact code_clean hN hC hL c _ _ _ _ _ h1 hc
  | .loop c, env, σ, x, env', σ', h, hc => by
    simp only [evalCode, Option.map_eq_some_iff] at h
    obtain ⟨⟨y, e, s⟩, h1, h2⟩ := h
    cases h2
    exact hL _ _ _ _ _ _ _ h1 hc
  | .rangeFunc .., _, _, _, _, _, h, _ | .scope _, _, _, _, _, _, h, _ | .goto _, _, _, _, _, _, h, _ | .refuse _, _, _, _, _, _, h, _ => by simp only [evalCode] at h; cases h

theorem go1_drawn (ρ : Where) (F : Froz) (σ : Store) (w : World) (n : Nat) : Go1 ρ F σ w ρ F σ { w with drawn := n } :=
  ⟨fun _ _ h => h, fun _ _ h h' => absurd (h.symm.trans h') (by simp), Nat.le_refl _, fun _ _ h => h, fun _ _ _ => rfl, Nat.le_refl _, fun _ _ _ => rfl, fun _ _ h => .inl h, fun _ h => .inr h, rfl, rfl, rfl⟩

theorem SR.drawn {ρ : Where} {F : Froz} {σ : Store} {w : World} (h : SR ρ F σ w) (n : Nat) : SR ρ F σ { w with drawn := n } :=
  ⟨fun id r o hr ho => by
    cases h.obj id r o hr ho with
    | cells ro es arr ty hb hp hn hs hf hro hz hF hc => exact .cells ro es arr ty hb hp hn hs hf hro hz hF fun i e he j x hx => let ⟨v, q1, q2⟩ := hc i e he j x hx; ⟨v, q1, (go1_drawn ρ F σ w n).vr q2⟩, h.apart, h.old, h.new⟩

/-- A region of open order, in a mode that closes nothing. -/
theorem drawn_sound {cfg' : Cfg} (hst' : cfg'.strict = true) (hm : cfg'.P.follows .mixedOrders = true) (hO : CallOk cfg'.P C) (hN : NextUp C) (hC : NewOk C) {id : Nat} {ops : Array Oper} {env e : List PV} {σ s : Store} (h1 : evalOps cfg' C ops.toList ops.toList env σ = some (e, s)) (hok : drawOk cfg' ops.toList = true ∧ edgesOk ops.toList = true)
    (ρ : Where) (F : Froz) (w : World) (a : Act) (hs : SR ρ F σ w) (he : EnvR ρ F w env a) (hn : ∀ id, σ.next ≤ id → id < s.next → ρ id = none) (Q : Exit → Act → World → Prop) (hQ : Goes ρ F σ w a .normal e s Q) : (Code.region id ops true).wp cfg'.P Q a w := by
  obtain ⟨E, S, V, e0, s0, en, sn, hst⟩ := run_of _ _ _ _ _ h1
  have hr : Run cfg' C ops.toList E S V := ⟨hst⟩
  have hl : ops.toList.length = ops.size := Array.length_toList
  rw [hl] at en sn
  refine wp_region_any hm ?_
  obtain ⟨e1, f1, f2, f3, f4⟩ := firstW cfg' ops (lis (Array.replicate ops.size false)) ops.size 0 (by omega)
  have hfalse : ∀ i, lis (Array.replicate ops.size false) i = false := fun i => by
    unfold lis; rw [Array.getD_eq_getD_getElem?, Array.getElem?_replicate]; split <;> rfl
  have hcl : (S 0).Clean := by rw [s0]; exact hs.new
  have hnx := hr.next hN (i := 0) ops.size (by omega) (by omega)
  have mid : ∀ j o, 0 ≤ j → j < e1 → ops.toList[j]? = some o → touch cfg' o ≠ 3 := fun j o _ p2 ho h5 => by
    have := f3 j o (by omega) p2 (by rw [← Array.getElem?_toList]; exact ho) h5
    rw [hfalse] at this; cases this
  have hp := Store.Part.trans (hr.keep hN hst' e1 (by omega) (by omega) mid) (ov_part hr hN f2)
  have hc1 := ov_clean hr hN f2
  have hn' : ∀ id, (S 0).next ≤ id → id < (ov cfg' ops S e1).next → ρ id = none := fun id p1 p2 => hn id (by rw [← s0]; exact p1) (by rw [← sn]; exact p2)
  refine draw_sound (ρ0 := ρ) (F0 := F) (w0 := w) hr hO hN hC hst' hcl hok.1 hok.2 a.defers (fun a' w' ρ' F' g s' he' hd => ?_) ops.size _ a _ ρ F e1 (by simp) ?_ rfl ?_
  · rw [s0, sn] at g
    rw [sn] at s'
    rw [en] at he'
    exact hQ a' w' ρ' F' g s' he' hd
  · exact Nat.le_trans List.countP_le_length (by simp)
  · refine ⟨fun i o ho hl => (by rw [hfalse] at hl; cases hl), by rw [e0]; exact he.1, f2, fun j o p1 p2 p3 => f3 j o (by omega) p1 p2 p3, f4, ?_, ?_, fun t ht => ?_, fun i hi _ id p1 p2 => ?_⟩
    · exact (SR.ext (by rw [s0]; exact hs) hp hc1 hn').drawn _
    · exact (Go1.ext (.refl ρ F (S 0) w) hp hc1 hn').trans (go1_drawn _ _ _ _ _)
    · rw [cur_later ops.size (i := 0) (by omega) fun j _ _ _ => hfalse j]
      show VR ρ F _ ((E 0).getD t .undef) _
      rw [e0]
      exact (go1_drawn ρ F σ w _).vr (he.2 t)
    · have q1 := hr.next hN (i := 0) i (by omega) (by omega)
      have q2 := hr.next hN (i := i + 1) ops.size (by omega) (by omega)
      exact hn id (by rw [← s0]; omega) (by rw [← sn]; omega)

theorem code_sound (hm : cfg.P.follows .mixedOrders = true) (hO : CallOk cfg.P C) (hN : NextUp C) (hC : NewOk C) (hL : LoopOk cfg.P L) (hLU : LoopUp L) (hLL : LoopLen L) :
    ∀ (c : Code) (env : List PV) (σ : Store) (x : Ex) (env' : List PV) (σ' : Store), evalCode cfg C L f c env σ = some (x, env', σ') → ∀ (ρ : Where) (F : Froz) (w : World) (a : Act), SR ρ F σ w → EnvR ρ F w env a → (∀ id, σ.next ≤ id → id < σ'.next → ρ id = none) →
      ∀ Q : Exit → Act → World → Prop, Goes ρ F σ w a x env' σ' Q → c.wp cfg.P Q a w
  | .skip, env, σ, x, env', σ', h, ρ, F, w, a, hs, he, hn, Q, hQ => by
    simp only [evalCode] at h; cases h; exact wp_skip (hQ a w ρ F (.refl _ _ _ _) hs he rfl)
  | .label _, env, σ, x, env', σ', h, ρ, F, w, a, hs, he, hn, Q, hQ => by
    simp only [evalCode] at h; cases h; exact wp_label (hQ a w ρ F (.refl _ _ _ _) hs he rfl)
  | .exit _, env, σ, x, env', σ', h, ρ, F, w, a, hs, he, hn, Q, hQ => by
    simp only [evalCode] at h; cases h; exact wp_exit (hQ a w ρ F (.refl _ _ _ _) hs he rfl)
  | .ret, env, σ, x, env', σ', h, ρ, F, w, a, hs, he, hn, Q, hQ => by
    simp only [evalCode] at h; cases h; exact wp_ret (hQ a w ρ F (.refl _ _ _ _) hs he rfl)
  | .region id ops draw, env, σ, x, env', σ', h, ρ, F, w, a, hs, he, hn, Q, hQ => by
    simp only [evalCode, Option.bind_eq_some_iff, Option.map_eq_some_iff] at h
    obtain ⟨p, h0, ⟨e, s⟩, h1, h2⟩ := h
    cases h2
    obtain ⟨F1, g1, s1, r1, x1⟩ := pre_sound h0 hs he
    have hn1 : ∀ id, p.2.2.next ≤ id → id < s.next → ρ id = none := fun id p q => hn id (by rw [← x1]; exact p) q
    have hQ1 : Goes ρ F1 p.2.2 w a .normal e s Q := fun a' w' ρ' F' g s' he' hd => hQ a' w' ρ' F' (g1.trans g) s' he' hd
    unfold evalReg at h1
    split at h1
    · rename_i hd
      subst hd
      split at h1
      · rename_i hok
        rw [Bool.and_eq_true] at hok
        exact drawn_sound (cfg' := { cfg.at_ f with strict := true, calm := p.1, calmA := calmOf cfg f id ops.toList }) rfl hm hO hN hC h1 hok ρ F1 w a s1 r1 hn1 Q hQ1
      · cases h1
    · rename_i hd
      have hdf : draw = false := by simpa using hd
      subst hdf
      exact wp_region_list (seq_sound (cfg := cfg.at_ f) hO hN ops _ _ _ _ _ h1 ρ F1 w a s1 r1 hn1 Q hQ1)
  | .seq c d, env, σ, x, env', σ', h, ρ, F, w, a, hs, he, hn, Q, hQ => by
    simp only [evalCode, Option.bind_eq_some_iff] at h
    obtain ⟨⟨y, e, s⟩, h1, h2⟩ := h
    have k1 := code_next hN hLU c _ _ _ _ _ h1
    refine wp_seq (code_sound hm hO hN hC hL hLU hLL c _ _ _ _ _ h1 ρ F w a hs he (fun id p q => hn id p ?_) _ fun a' w' ρ' F' g s' he' hd => ?_)
    · refine Nat.lt_of_lt_of_le q ?_
      cases y with
      | normal => exact code_next hN hLU d _ _ _ _ _ h2
      | exit i => cases h2; exact Nat.le_refl _
      | ret => cases h2; exact Nat.le_refl _
    · cases y with
      | normal =>
        refine code_sound hm hO hN hC hL hLU hLL d _ _ _ _ _ h2 ρ' F' w' a' s' he' (fun id p q => ?_) Q fun a2 w2 ρ2 F2 g2 s2 he2 hd2 => hQ a2 w2 ρ2 F2 (g.trans g2) s2 he2 (hd2.trans hd)
        cases hq : ρ' id with
        | none => rfl
        | some r => have := g.rng id r hq (hn id (Nat.le_trans k1 p) q); exact absurd this.2 (Nat.not_lt.2 p)
      | exit i => cases h2; exact hQ a' w' ρ' F' g s' he' hd
      | ret => cases h2; exact hQ a' w' ρ' F' g s' he' hd
  | .cond c d e, env, σ, x, env', σ', h, ρ, F, w, a, hs, he, hn, Q, hQ => by
    simp only [evalCode] at h
    split at h
    · rename_i t ht
      have hc := he.opd c
      rw [ht] at hc
      refine wp_cond hc.bool_inv ?_
      split at h
      · rename_i htt
        rw [if_pos htt]
        exact code_sound hm hO hN hC hL hLU hLL d _ _ _ _ _ h ρ F w a hs he hn Q hQ
      · rename_i htt
        rw [if_neg htt]
        exact code_sound hm hO hN hC hL hLU hLL e _ _ _ _ _ h ρ F w a hs he hn Q hQ
    · cases h
  | .block id c, env, σ, x, env', σ', h, ρ, F, w, a, hs, he, hn, Q, hQ => by
    simp only [evalCode, Option.map_eq_some_iff] at h
    obtain ⟨⟨y, e, s⟩, h1, h2⟩ := h
    cases h2
    refine wp_block (code_sound hm hO hN hC hL hLU hLL c _ _ _ _ _ h1 ρ F w a hs he hn _ fun a' w' ρ' F' g s' he' hd => ?_)
    have := hQ a' w' ρ' F' g s' he' hd
    cases y with
    | normal => exact this
    | ret => exact this
    | exit i =>
      show (if i = id then Q .normal a' w' else Q (.exit i) a' w')
      simp only at this
      split
      · rename_i hi; rw [if_pos hi] at this; exact this
      · rename_i hi; rw [if_neg hi] at this; exact this
  | .loop c, env, σ, x, env', σ', h, ρ, F, w, a, hs, he, hn, Q, hQ => by
    simp only [evalCode, Option.map_eq_some_iff] at h
    obtain ⟨⟨y, e, s⟩, h1, h2⟩ := h
    cases h2
    exact (hL _ _ _ _ _ _ _ h1 ρ F w a hs (headM_env he c rfl) hn Q fun a' w' ρ' F' g s' he' hd => hQ a' w' ρ' F' g s' (outM_env he' c ((hLL _ _ _ _ _ _ _ h1).trans (headM_length c env))) hd).loop
  | .rangeFunc .., _, _, _, _, _, h, _, _, _, _, _, _, _, _, _ | .scope _, _, _, _, _, _, h, _, _, _, _, _, _, _, _, _ | .goto _, _, _, _, _, _, h, _, _, _, _, _, _, _, _, _ | .refuse _, _, _, _, _, _, h, _, _, _, _, _, _, _, _, _ => by simp only [evalCode] at h; cases h

/-! ### Results -/
def resV (a : Act) : ResultVar → Sem Value
  | .tmp t => pure (a.tmps.getD t undef)
  | .cell b t => do loadVar t (← asAddr (a.tmps.getD b undef))

theorem resultv_sound {ρ : Where} {F : Froz} {σ : Store} {w : World} {env : List PV} {r : ResultVar} {v : PV} (h : resultv cfg.P σ env r = some v) (hs : SR ρ F σ w) {a : Act} (he : EnvR ρ F w env a) :
    ∃ u, (resV a r).run cfg.P w = .ok u w ∧ VR ρ F w v u := by
  cases r with
  | tmp t => simp only [resultv] at h; cases h; exact ⟨_, rfl, he.2 t⟩
  | cell b t =>
    simp only [resultv] at h
    obtain ⟨u, h1, h2⟩ := run_loadv h hs (he.2 b)
    refine ⟨u, ?_, h2⟩
    have hp : ∃ p, a.tmps.getD b undef = .pointer (some p) := by
      have hv := he.2 b
      unfold loadv at h
      split at h
      · rename_i hx
        rw [hx] at hv
        obtain ⟨b', o, h3, _⟩ := hv.pref_inv
        exact ⟨_, h3⟩
      · rename_i hx
        rw [hx] at hv
        obtain ⟨r, _, h3⟩ := hv.ref_inv
        exact ⟨_, h3⟩
      · cases h
    obtain ⟨p, hp⟩ := hp
    show (do loadVar t (← asAddr (a.tmps.getD b undef)) : Sem Value).run cfg.P w = _
    rw [hp] at h1 ⊢
    simpa [Instr.loadAt, Instr.sureAddr, asAddr] using h1

theorem resultsv_sound {ρ : Where} {F : Froz} {σ : Store} {w : World} {env : List PV} (hs : SR ρ F σ w) {a : Act} (he : EnvR ρ F w env a) : ∀ (rs : List ResultVar) (vs : List PV), resultsv cfg.P σ env rs = some vs →
    ∃ us, (rs.mapM (resV a)).run cfg.P w = .ok us w ∧ VRs ρ F w vs us
  | [], vs, h => by simp only [resultsv] at h; cases h; exact ⟨[], by simp, .nil⟩
  | r :: rest, vs, h => by
    simp only [resultsv, Option.bind_eq_some_iff, Option.map_eq_some_iff] at h
    obtain ⟨v, h1, us, h2, rfl⟩ := h
    obtain ⟨u, h3, h4⟩ := resultv_sound h1 hs he
    obtain ⟨ws, h5, h6⟩ := resultsv_sound hs he rest us h2
    refine ⟨u :: ws, ?_, .cons h4 h6⟩
    rw [List.mapM_cons]
    simp only [Sem.run_bind, h3, Result.andThen_ok, h5, Sem.run_pure]

theorem sem_bind_pure {α : Type} (x : Sem α) : x.bind Sem.pure = x := by
  induction x <;> simp only [Sem.bind] <;> first | rfl | (congr 1; funext y; rename_i ih; exact ih y) | (rename_i ih; rw [ih])
theorem sem_bind_assoc {α β γ : Type} (x : Sem α) (f : α → Sem β) (g : β → Sem γ) : (x.bind f).bind g = x.bind fun a => (f a).bind g := by
  induction x <;> simp only [Sem.bind] <;> first | rfl | (congr 1; funext y; rename_i ih; exact ih y) | (rename_i ih; rw [ih])
theorem sem_lawful : LawfulMonad Sem := LawfulMonad.mk' Sem (fun x => sem_bind_pure x) (fun _ _ => rfl) (fun x f g => sem_bind_assoc x f g)

theorem results_sound {ρ : Where} {F : Froz} {σ : Store} {w : World} {env : List PV} (hs : SR ρ F σ w) {a : Act} (he : EnvR ρ F w env a) {fn : Func} {vs : List PV} (h : resultsv cfg.P σ env fn.results.toList = some vs) :
    ∃ u, (results fn a.tmps).run cfg.P w = .ok u w ∧ VR ρ F w (tuplev vs) u := by
  obtain ⟨us, h1, h2⟩ := resultsv_sound hs he _ _ h
  show ∃ u, (do let vs ← fn.results.mapM (resV a); pure (if h : vs.size = 1 then vs[0] else .tuple vs) : Sem Value).run cfg.P w = .ok u w ∧ _
  rw [Sem.run_bind]
  have h3 : (fn.results.mapM (resV a)).run cfg.P w = .ok us.toArray w := by
    have := sem_lawful
    rw [Array.mapM_eq_mapM_toList, ← bind_pure_comp, Sem.run_bind, h1]
    rfl
  rw [h3, Result.andThen_ok]
  have hlen := h2.1
  match vs, us, h2, hlen with
  | [], [], h2, _ => exact ⟨_, rfl, .tuple' h2⟩
  | [v], [u], h2, _ => exact ⟨u, rfl, h2.2 0 v u rfl rfl⟩
  | v :: v' :: r, u :: u' :: q, h2, _ =>
    refine ⟨.tuple (u :: u' :: q).toArray, ?_, ?_⟩
    · rw [dif_neg (by simp), Sem.run_pure]
    · exact .tuple' h2

/-! ### Functions and loops, as often as one likes -/
theorem enter_env {ρ : Where} {F : Froz} {w : World} {fn : Func} {args : List PV} {us : List Value} (h : VRs ρ F w args us) :
    EnvR ρ F w (enterv fn args) { tmps := us.toArray ++ Array.replicate (fn.ntmps - us.toArray.size) undef, defers := [] } := by
  have hl := h.1
  refine ⟨by simp [enterv]; omega, fun t => ?_⟩
  unfold enterv
  rw [List.getD_eq_getElem?_getD, Array.getD_eq_getD_getElem?]
  rcases Nat.lt_or_ge t args.length with ht | ht
  · rw [List.getElem?_append_left ht, Array.getElem?_append_left (by simp; omega)]
    have h1 := List.getElem?_eq_getElem ht
    have h2 := List.getElem?_eq_getElem (l := us) (i := t) (by omega)
    rw [h1, List.getElem?_toArray, h2]
    exact h.2 t _ _ h1 h2
  · rw [List.getElem?_append_right ht, List.getElem?_replicate]
    split <;> exact .pure (.undef _)

theorem stepC_sound (hT : ∀ f, cfg.told f = none) (hm : cfg.P.follows .mixedOrders = true) (hO : CallOk cfg.P C) (hN : NextUp C) (hC : NewOk C) (hL : LoopOk cfg.P L) (hLU : LoopUp L) (hLL : LoopLen L) : CallOk cfg.P (stepC cfg C L) := by
  intro f args σ v σ' h ρ F w us hs hv hn
  unfold stepC at h
  rw [hT f] at h
  simp only at h
  split at h
  · rename_i fn hf
    split at h
    · rename_i c hc
      simp only [Option.bind_eq_some_iff] at h
      obtain ⟨⟨x, e, s⟩, h1, h2⟩ := h
      have h3 : ∃ vs, resultsv cfg.P s e fn.results.toList = some vs ∧ v = tuplev vs ∧ σ' = s ∧ (x = .normal ∨ x = .ret) := by
        cases x with
        | exit i => cases h2
        | normal => rw [Option.map_eq_some_iff] at h2; obtain ⟨vs, q1, q2⟩ := h2; cases q2; exact ⟨vs, q1, rfl, rfl, .inl rfl⟩
        | ret => rw [Option.map_eq_some_iff] at h2; obtain ⟨vs, q1, q2⟩ := h2; cases q2; exact ⟨vs, q1, rfl, rfl, .inr rfl⟩
      obtain ⟨vs, h4, rfl, rfl, h5⟩ := h3
      refine calls_of_wp hf hc (code_sound hm hO hN hC hL hLU hLL c _ _ _ _ _ h1 ρ F w _ hs (enter_env hv) hn _ fun a' w' ρ' F' g s' he' hd => ?_)
      obtain ⟨u, q1, q2⟩ := results_sound s' he' h4
      have : bodyPost cfg.P fn (fun e w' => ∃ vc ρ' F', e = .returned vc ∧ Go1 ρ F σ w ρ' F' σ' w' ∧ SR ρ' F' σ' w' ∧ VR ρ' F' w' (tuplev vs) vc) .normal a' w' := ⟨hd, u, q1, u, ρ', F', rfl, g, s', q2⟩
      rcases h5 with rfl | rfl
      · exact this
      · exact this
    · cases h
  · cases h

theorem stepC_next (hT : ∀ f, cfg.told f = none) (hN : NextUp C) (hLU : LoopUp L) : NextUp (stepC cfg C L) := by
  intro f args σ v σ' h
  unfold stepC at h
  rw [hT f] at h
  simp only at h
  split at h
  · split at h
    · simp only [Option.bind_eq_some_iff] at h
      obtain ⟨⟨x, e, s⟩, h1, h2⟩ := h
      have := code_next hN hLU _ _ _ _ _ _ h1
      cases x with
      | exit i => cases h2
      | normal => rw [Option.map_eq_some_iff] at h2; obtain ⟨vs, q1, q2⟩ := h2; cases q2; exact this
      | ret => rw [Option.map_eq_some_iff] at h2; obtain ⟨vs, q1, q2⟩ := h2; cases q2; exact this
    · cases h
  · cases h

theorem stepC_clean (hT : ∀ f, cfg.told f = none) (hN : NextUp C) (hC : NewOk C) (hLN : LoopNew L) : NewOk (stepC cfg C L) := by
  intro f args σ v σ' h hc
  unfold stepC at h
  rw [hT f] at h
  simp only at h
  split at h
  · split at h
    · simp only [Option.bind_eq_some_iff] at h
      obtain ⟨⟨x, e, s⟩, h1, h2⟩ := h
      have := code_clean hN hC hLN _ _ _ _ _ _ h1 hc
      cases x with
      | exit i => cases h2
      | normal => rw [Option.map_eq_some_iff] at h2; obtain ⟨vs, q1, q2⟩ := h2; cases q2; exact this
      | ret => rw [Option.map_eq_some_iff] at h2; obtain ⟨vs, q1, q2⟩ := h2; cases q2; exact this
    · cases h
  · cases h

theorem stepL_next (hN : NextUp C) (hLU : LoopUp L) : LoopUp (stepL cfg C L) := by
  intro f c env σ x env' σ' h
  unfold stepL at h
  simp only [Option.bind_eq_some_iff] at h
  obtain ⟨⟨y, e, s⟩, h1, h2⟩ := h
  have := code_next hN hLU _ _ _ _ _ _ h1
  cases y with
  | normal => exact Nat.le_trans this (hLU _ _ _ _ _ _ _ h2)
  | exit i => cases h2; exact this
  | ret => cases h2; exact this
theorem stepL_clean (hN : NextUp C) (hC : NewOk C) (hLN : LoopNew L) : LoopNew (stepL cfg C L) := by
  intro f c env σ x env' σ' h hc
  unfold stepL at h
  simp only [Option.bind_eq_some_iff] at h
  obtain ⟨⟨y, e, s⟩, h1, h2⟩ := h
  have := code_clean hN hC hLN _ _ _ _ _ _ h1 hc
  cases y with
  | normal => exact hLN _ _ _ _ _ _ _ h2 this
  | exit i => cases h2; exact this
  | ret => cases h2; exact this
theorem stepL_len (hLL : LoopLen L) : LoopLen (stepL cfg C L) := by
  intro f c env σ x env' σ' h
  unfold stepL at h
  simp only [Option.bind_eq_some_iff] at h
  obtain ⟨⟨y, e, s⟩, h1, h2⟩ := h
  have := code_len hLL _ _ _ _ _ _ h1
  cases y with
  | normal => exact (hLL _ _ _ _ _ _ _ h2).trans (headM_length' c this)
  | exit i => cases h2; exact outM_length c this
  | ret => cases h2; exact outM_length c this
theorem stepL_sound (hm : cfg.P.follows .mixedOrders = true) (hO : CallOk cfg.P C) (hN : NextUp C) (hC : NewOk C) (hL : LoopOk cfg.P L) (hLU : LoopUp L) (hLL : LoopLen L) : LoopOk cfg.P (stepL cfg C L) := by
  intro f c env σ x env' σ' h ρ F w a hs he hn Q hQ
  unfold stepL at h
  simp only [Option.bind_eq_some_iff] at h
  obtain ⟨⟨y, e, s⟩, h1, h2⟩ := h
  have k1 := code_next hN hLU _ _ _ _ _ _ h1
  have k2 := code_len hLL _ _ _ _ _ _ h1
  refine LoopAt.round (code_sound hm hO hN hC hL hLU hLL c _ _ _ _ _ h1 ρ F w a hs he (fun id p q => hn id p ?_) _ fun a' w' ρ' F' g s' he' hd => ?_)
  · refine Nat.lt_of_lt_of_le q ?_
    cases y with
    | normal => exact hLU _ _ _ _ _ _ _ h2
    | exit i => cases h2; exact Nat.le_refl _
    | ret => cases h2; exact Nat.le_refl _
  · cases y with
    | normal =>
      refine hL _ _ _ _ _ _ _ h2 ρ' F' w' a' s' (headM_env he' c k2) (fun id p q => ?_) Q fun a2 w2 ρ2 F2 g2 s2 he2 hd2 => hQ a2 w2 ρ2 F2 (g.trans g2) s2 he2 (hd2.trans hd)
      cases hq : ρ' id with
      | none => rfl
      | some r => have := g.rng id r hq (hn id (Nat.le_trans k1 p) q); exact absurd this.2 (Nat.not_lt.2 p)
    | exit i => cases h2; exact hQ a' w' ρ' F' g s' (outM_env he' c k2) hd
    | ret => cases h2; exact hQ a' w' ρ' F' g s' (outM_env he' c k2) hd

structure AllOk (P : Program) (C : CallO) (L : LoopO) : Prop where
  ok : CallOk P C
  next : NextUp C
  clean : NewOk C
  lok : LoopOk P L
  lnext : LoopUp L
  lclean : LoopNew L
  llen : LoopLen L

theorem all_ok (hT : ∀ f, cfg.told f = none) (hm : cfg.P.follows .mixedOrders = true) : ∀ n, AllOk cfg.P (callN cfg n) (loopN cfg n)
  | 0 => ⟨fun _ _ _ _ _ h => by (cases h), fun _ _ _ _ _ h => by (cases h), fun _ _ _ _ _ h => by (cases h), fun _ _ _ _ _ _ _ h => by (cases h), fun _ _ _ _ _ _ _ h => by (cases h), fun _ _ _ _ _ _ _ h => by (cases h), fun _ _ _ _ _ _ _ h => by (cases h)⟩
  | n + 1 => let h := all_ok hT hm n
    ⟨stepC_sound hT hm h.ok h.next h.clean h.lok h.lnext h.llen, stepC_next hT h.next h.lnext, stepC_clean hT h.next h.clean h.lclean,
     stepL_sound hm h.ok h.next h.clean h.lok h.lnext h.llen, stepL_next h.next h.lnext, stepL_clean h.next h.clean h.lclean, stepL_len h.llen⟩

end
end Go.Pvm
