/- Part of the proof: the evaluator's word, told with what follows at hand: what a function of the program comes to, spelled out. -/
import Derived.Test.YtkipbdbmeanffaaV18
set_option linter.unusedSimpArgs false
set_option linter.unusedVariables false
namespace Go.Pvm
universe u
section
variable {β : Type}

def asInt (κ : IntKind) (v : PV) (k : Int → Option β) : Option β :=
  match v with
  | .int κ' n => if κ' = κ then k n else none
  | _ => none
def asBool (v : PV) (k : Bool → Option β) : Option β :=
  match v with
  | .bool b => k b
  | _ => none
def asStr (v : PV) (k : ByteArray → Option β) : Option β :=
  match v with
  | .str s => k s
  | _ => none
/-- What is known of a value by its type. -/
def asK (d : Option TypeDesc) (v : PV) (k : PV → Option β) : Option β :=
  match d with
  | some (.int κ) => asInt κ v fun n => k (.int κ n)
  | some .bool => asBool v fun b => k (.bool b)
  | some .string => asStr v fun s => k (.str s)
  | _ => k v

theorem asK_ref {d : Option TypeDesc} {v : PV} {k : PV → Option β} {r : β} (h : asK d v k = some r) : k v = some r := by
  unfold asK at h
  split at h
  · unfold asInt at h
    split at h
    · split at h
      · rename_i e; subst e; exact h
      · cases h
    · cases h
  · unfold asBool at h
    split at h
    · exact h
    · cases h
  · unfold asStr at h
    split at h
    · exact h
    · cases h
  · exact h

def onEx (x : Ex) (e : Nat → Option β) (r : Option β) : Option β :=
  match x with
  | .normal => none
  | .exit i => e i
  | .ret => r

def nilv : PV → Option PV
  | .ref a b c => some (.ref a b c)
  | .pref cs => some (.pref cs)
  | .func f cs => some (.func f cs)
  | _ => none
def tupv (x : PV) (i : Nat) : Option PV :=
  match x with
  | .tuple vs => vs[i]?
  | _ => none
def fnv : PV → Option (FuncId × List PV)
  | .func g cs => some (g, cs)
  | _ => none
def callE (cfg : Cfg) (C : CallO) (g : FuncId) (args : List PV) (σ : Store) : Option (PV × Store) :=
  if enters cfg.P g = true then callv cfg C g args σ else none

/-- One operation, what follows at hand. -/
def opK (cfg : Cfg) (C : CallO) (env : List PV) (σ : Store) (o : Oper) (k : PV → Store → Option β) : Option β :=
  let P := cfg.P
  match o.op with
  | .move x | .assign x => k (opd env x) σ
  | .pick c a b => match opd env c with
    | .bool t => if t = true then k (opd env a) σ else k (opd env b) σ
    | _ => none
  | .alloc el => (zeroOf P el).bind fun z => if z.known = true ∧ z.cells.length ≠ 0 then k (.ref σ.next 0 0) (σ.push (.cells 0 [z.cells])) else none
  | .box _ x => if (opd env x).known = true ∧ (opd env x).cells.length ≠ 0 then k (.ref σ.next 0 0) (σ.push (.cells 0 [(opd env x).cells])) else none
  | .build t ps => (buildv P t (ps.toList.map fun (i, x) => (i, opd env x))).bind fun v => k v σ
  | .buildSlice t n ps => (buildSlv P σ t n (ps.toList.map fun (i, x) => (i, opd env x))).bind fun r => k r.1 r.2
  | .load t a => if calmL cfg a = true then (loadcv P t (opd env a)).bind fun v => asK (P.underlying t) v fun v => k v σ else (loadv P σ t (opd env a)).bind fun v => asK (P.underlying t) v fun v => k v σ
  | .store t a x => (storev P σ t (opd env a) (opd env x)).bind fun s => k (.tuple []) s
  | .nilCheck x => (nilv (opd env x)).bind fun v => k v σ
  | .binOp op t x y _ => (binv P op t (opd env x) (opd env y)).bind fun v => asK (P.underlying o.type) v fun v => k v σ
  | .unOp op _ x => (unv op (opd env x)).bind fun v => asK (P.underlying o.type) v fun v => k v σ
  | .convert s d x => (convv P σ s d (opd env x)).bind fun v => asK (P.underlying d) v fun v => k v σ
  | .makeFunc (.func f) fs cs => if fs.size = 0 then k (.func f (cs.toList.map (opd env))) σ else none
  | .makeSlice t l c => (makeSlv P σ t (opd env l) (opd env c)).bind fun r => k r.1 r.2
  | .slice t x lo hi mx => (cutv P t (opd env x) (lo.map (opd env)) (hi.map (opd env)) (mx.map (opd env))).bind fun v => asK (P.underlying o.type) v fun v => k v σ
  | .fieldAddr s x f => (fieldAddrv P s (opd env x) f).bind fun v => k v σ
  | .field s x f => (fieldv P s (opd env x) f).bind fun v => asK (P.underlying o.type) v fun v => k v σ
  | .indexAddr t x i => (indexAddrv P t (opd env x) (opd env i)).bind fun v => k v σ
  | .index t x i => (indexv P t (opd env x) (opd env i)).bind fun v => asK (P.underlying o.type) v fun v => k v σ
  | .extract x i => (tupv (opd env x) i).bind fun v => asK (P.underlying o.type) v fun v => k v σ
  | .call c => match c.callee with
    | .builtin b => if calmB b = true then (pureB P b c.argTypes.toList (c.args.toList.map (opd env))).bind fun v => asK (P.underlying o.type) v fun v => k v σ
      else (writeB P σ b c.argTypes.toList (c.args.toList.map (opd env))).bind fun r => asK (P.underlying o.type) r.1 fun v => k v r.2
    | .value f => (fnv (opd env f)).bind fun q => (callE cfg C q.1 (c.args.toList.map (opd env) ++ q.2) σ).bind fun r => asK (P.underlying o.type) r.1 fun v => k v r.2
    | _ => none
  | _ => none

theorem opK_ref {cfg : Cfg} {C : CallO} {env : List PV} {σ : Store} {o : Oper} {k : PV → Store → Option β} {r : β} (h : opK cfg C env σ o k = some r) :
    ∃ v τ, evalOp cfg C env σ o = some (v, τ) ∧ k v τ = some r := by
  obtain ⟨dst, op, type, pos, after, guard⟩ := o
  unfold opK at h
  unfold evalOp
  cases op <;> simp only at h ⊢
  case move x => exact ⟨_, _, rfl, h⟩
  case assign x => exact ⟨_, _, rfl, h⟩
  case pick c x y =>
    generalize opd env c = z at h ⊢
    cases z <;> simp only at h ⊢ <;> first | (cases h; done) | skip
    split at h
    · rename_i ht; exact ⟨_, _, by rw [if_pos ht], h⟩
    · rename_i ht; exact ⟨_, _, by rw [if_neg ht], h⟩
  case alloc el =>
    simp only [Option.bind_eq_some_iff] at h
    obtain ⟨z, h1, h2⟩ := h
    split at h2
    · rename_i hk; exact ⟨_, _, by rw [h1]; simp only [Option.bind_some]; rw [if_pos hk], h2⟩
    · cases h2
  case box el x =>
    split at h
    · rename_i hk; exact ⟨_, _, by rw [if_pos hk], h⟩
    · cases h
  case build t ps =>
    simp only [Option.bind_eq_some_iff] at h
    obtain ⟨z, h1, h2⟩ := h
    exact ⟨_, _, by rw [h1]; rfl, h2⟩
  case buildSlice t n ps =>
    simp only [Option.bind_eq_some_iff] at h
    obtain ⟨z, h1, h2⟩ := h
    exact ⟨_, _, h1, h2⟩
  case load t a =>
    split at h
    · rename_i hc
      rw [if_pos hc]
      simp only [Option.bind_eq_some_iff] at h
      obtain ⟨z, h1, h2⟩ := h
      exact ⟨_, _, by rw [h1]; rfl, asK_ref h2⟩
    · rename_i hc
      rw [if_neg hc]
      simp only [Option.bind_eq_some_iff] at h
      obtain ⟨z, h1, h2⟩ := h
      exact ⟨_, _, by rw [h1]; rfl, asK_ref h2⟩
  case store t a x =>
    simp only [Option.bind_eq_some_iff] at h
    obtain ⟨z, h1, h2⟩ := h
    exact ⟨_, _, by rw [h1]; rfl, h2⟩
  case nilCheck x =>
    simp only [Option.bind_eq_some_iff] at h
    obtain ⟨v, h1, h2⟩ := h
    generalize opd env x = z at h1 ⊢
    cases z <;> simp only [nilv] at h1 ⊢ <;> first | (cases h1; done) | (cases h1; exact ⟨_, _, rfl, h2⟩)
  case binOp op t x y ty =>
    simp only [Option.bind_eq_some_iff] at h
    obtain ⟨z, h1, h2⟩ := h
    exact ⟨_, _, by rw [h1]; rfl, asK_ref h2⟩
  case unOp op t x =>
    simp only [Option.bind_eq_some_iff] at h
    obtain ⟨z, h1, h2⟩ := h
    exact ⟨_, _, by rw [h1]; rfl, asK_ref h2⟩
  case convert s d x =>
    simp only [Option.bind_eq_some_iff] at h
    obtain ⟨z, h1, h2⟩ := h
    exact ⟨_, _, by rw [h1]; rfl, asK_ref h2⟩
  case makeFunc fn fs cs =>
    cases fn <;> simp only at h ⊢
    case func f =>
      split at h
      · rename_i hk; exact ⟨_, _, by rw [if_pos hk], h⟩
      · cases h
    all_goals cases h
  case makeSlice t l c =>
    simp only [Option.bind_eq_some_iff] at h
    obtain ⟨z, h1, h2⟩ := h
    exact ⟨_, _, h1, h2⟩
  case slice t x lo hi mx =>
    simp only [Option.bind_eq_some_iff] at h
    obtain ⟨z, h1, h2⟩ := h
    exact ⟨_, _, by rw [h1]; rfl, asK_ref h2⟩
  case fieldAddr s x f =>
    simp only [Option.bind_eq_some_iff] at h
    obtain ⟨z, h1, h2⟩ := h
    exact ⟨_, _, by rw [h1]; rfl, h2⟩
  case field s x f =>
    simp only [Option.bind_eq_some_iff] at h
    obtain ⟨z, h1, h2⟩ := h
    exact ⟨_, _, by rw [h1]; rfl, asK_ref h2⟩
  case indexAddr t x i =>
    simp only [Option.bind_eq_some_iff] at h
    obtain ⟨z, h1, h2⟩ := h
    exact ⟨_, _, by rw [h1]; rfl, h2⟩
  case index t x i =>
    simp only [Option.bind_eq_some_iff] at h
    obtain ⟨z, h1, h2⟩ := h
    exact ⟨_, _, by rw [h1]; rfl, asK_ref h2⟩
  case extract x i =>
    simp only [Option.bind_eq_some_iff] at h
    obtain ⟨v, h1, h2⟩ := h
    generalize opd env x = z at h1 ⊢
    cases z <;> simp only [tupv] at h1 ⊢ <;> first | (cases h1; done) | skip
    exact ⟨_, _, by rw [h1]; rfl, asK_ref h2⟩
  case call c =>
    obtain ⟨callee, args, ts⟩ := c
    cases callee <;> simp only at h ⊢
    case builtin b =>
      unfold builtinv
      split at h
      · rename_i hb
        rw [if_pos hb]
        simp only [Option.bind_eq_some_iff] at h
        obtain ⟨v, h1, h2⟩ := h
        exact ⟨_, _, by rw [h1]; rfl, asK_ref h2⟩
      · rename_i hb
        rw [if_neg hb]
        simp only [Option.bind_eq_some_iff] at h
        obtain ⟨⟨v, τ⟩, h1, h2⟩ := h
        exact ⟨_, _, h1, asK_ref h2⟩
    case value x =>
      simp only [Option.bind_eq_some_iff] at h
      obtain ⟨⟨g, cs⟩, h0, h⟩ := h
      obtain ⟨⟨v, τ⟩, h1, h2⟩ := h
      generalize opd env x = z at h0 ⊢
      cases z <;> simp only [fnv] at h0 ⊢ <;> first | (cases h0; done) | skip
      cases h0
      unfold callE at h1
      exact ⟨_, _, h1, asK_ref h2⟩
    case invoke x m => cases h
  all_goals cases h

/-- A slot set, the list written out. -/
def setL : List PV → Nat → PV → (List PV → Option β) → Option β
  | [], _, _, k => k []
  | _ :: r, 0, v, k => k (v :: r)
  | x :: r, n + 1, v, k => setL r n v fun r' => k (x :: r')
theorem setL_eq : ∀ (env : List PV) (d : Nat) (v : PV) (k : List PV → Option β), setL env d v k = k (env.set d v)
  | [], _, _, _ => rfl
  | _ :: _, 0, _, _ => rfl
  | x :: r, n + 1, v, k => by simp only [setL, setL_eq r n v, List.set_cons_succ]
def putK (env : List PV) (d : Option Nat) (v : PV) (k : List PV → Option β) : Option β :=
  match d with
  | some t => setL env t v k
  | none => k env
theorem putK_eq (env : List PV) (d : Option Nat) (v : PV) (k : List PV → Option β) : putK env d v k = k (putv env d v) := by
  cases d with
  | none => rfl
  | some t => exact setL_eq _ _ _ _

/-- Operations in order, what follows at hand; a guard is told apart once. -/
def opsK (cfg : Cfg) (C : CallO) (all : List Oper) : List Oper → List PV → Store → (List PV → Store → Option β) → Option β
  | [], env, σ, k => k env σ
  | o :: rest, env, σ, k => match o.guard with
    | none => opK cfg C env σ o fun v τ => putK env o.dst v fun e => opsK cfg C all rest e τ k
    | some (g, w) => match (all[g]?).bind (·.dst) with
      | none => none
      | some d => match env.getD d .undef with
        | .bool b => if b = true
          then setL env d (.bool true) fun env => (if w = true then opK cfg C env σ o fun v τ => putK env o.dst v fun e => opsK cfg C all rest e τ k
            else putK env o.dst (.tuple []) fun e => opsK cfg C all rest e σ k)
          else setL env d (.bool false) fun env => (if w = false then opK cfg C env σ o fun v τ => putK env o.dst v fun e => opsK cfg C all rest e τ k
            else putK env o.dst (.tuple []) fun e => opsK cfg C all rest e σ k)
        | .tuple _ => putK env o.dst (.tuple []) fun e => opsK cfg C all rest e σ k
        | _ => none

theorem set_same {env : List PV} {d : Nat} {b : Bool} (h : env.getD d .undef = .bool b) : env.set d (.bool b) = env := by
  rw [List.getD_eq_getElem?_getD] at h
  cases hq : env[d]? with
  | none => rw [hq] at h; cases h
  | some v =>
    rw [hq] at h
    simp only [Option.getD_some] at h
    subst h
    refine List.ext_getElem? fun i => ?_
    by_cases hi : d = i
    · subst hi; rw [hq, List.getElem?_set_self (List.getElem?_eq_some_iff.1 hq).1]
    · rw [List.getElem?_set_ne hi]

theorem opsK_ref {cfg : Cfg} {C : CallO} {all : List Oper} {r : β} : ∀ (l : List Oper) (env : List PV) (σ : Store) (k : List PV → Store → Option β), opsK cfg C all l env σ k = some r →
    ∃ e s, evalOps cfg C all l env σ = some (e, s) ∧ k e s = some r
  | [], env, σ, k, h => ⟨env, σ, rfl, h⟩
  | o :: l, env, σ, k, h => by
    have go : ∀ b, wants all env o = some b → (if b = true then opK cfg C env σ o fun v τ => opsK cfg C all l (putv env o.dst v) τ k else opsK cfg C all l (putv env o.dst (.tuple [])) σ k) = some r → ∃ e s, evalOps cfg C all (o :: l) env σ = some (e, s) ∧ k e s = some r := by
      intro b hb h
      simp only [evalOps, hb, Option.bind_some]
      split at h
      · rename_i hbt
        simp only [if_pos hbt]
        obtain ⟨v, τ, h1, h2⟩ := opK_ref h
        obtain ⟨e, s, h3, h4⟩ := opsK_ref l _ _ _ h2
        exact ⟨e, s, by rw [h1]; exact h3, h4⟩
      · rename_i hbt
        simp only [if_neg hbt]
        exact opsK_ref l _ _ _ h
    unfold opsK at h
    simp only [setL_eq, putK_eq] at h
    split at h
    · rename_i hg
      exact go true (by unfold wants; rw [hg]) h
    · rename_i g w hg
      split at h
      · cases h
      · rename_i d hd
        split at h
        · rename_i b hb
          have hw : wants all env o = some (b == w) := by unfold wants; rw [hg]; simp only [hd]; rw [hb]
          refine go _ hw ?_
          split at h
          · rename_i hbt
            subst hbt
            rw [set_same hb] at h
            cases w
            · exact h
            · exact h
          · rename_i hbt
            have hbf : b = false := by simpa using hbt
            subst hbf
            rw [set_same hb] at h
            cases w
            · exact h
            · exact h
        · rename_i vs hb
          exact go false (by unfold wants; rw [hg]; simp only [hd]; rw [hb]) h
        · cases h

def setB (env : List PV) (c : Operand) (b : Bool) (k : List PV → Option β) : Option β :=
  match c with
  | .tmp t => setL env t (.bool b) k
  | _ => k env

/-- A list of slots, each known by its type. -/
def pickK (P : Program) (l : List (Nat × TypeId)) (e : List PV) : List Nat → (List PV → Option β) → Option β
  | [], k => k []
  | i :: r, k => match l.find? (fun p => p.1 == i) with
    | some (_, t) => asK (P.underlying t) (e.getD i .undef) fun v => pickK P l e r fun vs => k (v :: vs)
    | none => pickK P l e r fun vs => k (.undef :: vs)

theorem pickK_ref {P : Program} {l : List (Nat × TypeId)} {e : List PV} {r : β} : ∀ (is : List Nat) (k : List PV → Option β), pickK P l e is k = some r →
    k (is.map fun i => if (l.map (·.1)).contains i = true then e.getD i .undef else .undef) = some r
  | [], k, h => h
  | i :: is, k, h => by
    unfold pickK at h
    split at h
    · rename_i j t hf
      have h1 := pickK_ref is _ (asK_ref h)
      have hc : (l.map (·.1)).contains i = true := by
        have h2 := List.find?_some hf
        have h3 := List.mem_of_find?_eq_some hf
        simp at h2
        simp only [List.contains_eq_mem, decide_eq_true_eq]
        exact List.mem_map.2 ⟨(j, t), h3, h2⟩
      simp only [List.map_cons]
      rw [if_pos hc]
      exact h1
    · rename_i hf
      have h1 := pickK_ref is _ h
      have hc : ¬ (l.map (·.1)).contains i = true := by
        simp only [List.contains_eq_mem, decide_eq_true_eq]
        intro hm
        obtain ⟨p, hp, he⟩ := List.mem_map.1 hm
        have := List.find?_eq_none.1 hf p hp
        simp [he] at this
      simp only [List.map_cons]
      rw [if_neg hc]
      exact h1

/-! The check of a region of open order, written out as it goes. -/
def forceN (n : Nat) (k : Nat → Bool) : Bool :=
  match n with
  | 0 => k 0
  | m + 1 => k (m + 1)
theorem forceN_eq (n : Nat) (k : Nat → Bool) : forceN n k = k n := by cases n <;> rfl
def snocK : List Nat → Nat → (List Nat → Bool) → Bool
  | [], p, k => k [p]
  | x :: r, p, k => snocK r p fun r' => k (x :: r')
theorem snocK_eq : ∀ (l : List Nat) (p : Nat) (k : List Nat → Bool), snocK l p k = k (l ++ [p])
  | [], _, _ => rfl
  | x :: r, p, k => by simp only [snocK, snocK_eq r p, List.cons_append]
def beforeK : List Oper → List Nat → (List Nat → Bool) → Bool
  | [], acc, k => k acc
  | o :: r, acc, k => forceN (preds acc o) fun p => snocK acc p fun acc => beforeK r acc k
theorem beforeK_eq : ∀ (l : List Oper) (acc : List Nat) (k : List Nat → Bool), beforeK l acc k = k (l.foldl (fun acc o => acc ++ [preds acc o]) acc)
  | [], _, _ => rfl
  | o :: r, acc, k => by simp only [beforeK, forceN_eq, snocK_eq, beforeK_eq r, List.foldl_cons]

def pairOk (cfg : Cfg) (ops : List Oper) (bi : Nat) (x : Oper) : Nat → List Oper → Nat → Bool
  | _, [], _ => true
  | 0, _ :: _, _ => true
  | n + 1, y :: r, j => (bi.testBit j ||
      ((match y.dst with | some d => !(namesOf ops x).contains d | none => true) &&
       (match x.dst with | some d => !(namesOf ops y).contains d | none => true) &&
       !(touch cfg x == 3 && touch cfg y != 0) && !(touch cfg y == 3 && decide (2 ≤ touch cfg x)))) && pairOk cfg ops bi x n r (j + 1)
def rowsOk (cfg : Cfg) (ops : List Oper) : List Oper → List Nat → Nat → Bool
  | x :: r, b :: bs, i => pairOk cfg ops b x i ops 0 && rowsOk cfg ops r bs (i + 1)
  | [], _, _ => true
  | _ :: _, [], _ => false
def drawOkK (cfg : Cfg) (ops : List Oper) : Bool := beforeK ops [] fun b => rowsOk cfg ops ops b 0

theorem pairOk_get {cfg : Cfg} {ops : List Oper} {bi : Nat} {x : Oper} : ∀ (n : Nat) (l : List Oper) (j0 : Nat), pairOk cfg ops bi x n l j0 = true → ∀ j y, j < n → l[j]? = some y → (bi.testBit (j0 + j) ||
      ((match y.dst with | some d => !(namesOf ops x).contains d | none => true) &&
       (match x.dst with | some d => !(namesOf ops y).contains d | none => true) &&
       !(touch cfg x == 3 && touch cfg y != 0) && !(touch cfg y == 3 && decide (2 ≤ touch cfg x)))) = true
  | 0, _, _, _, _, _, hj, _ => absurd hj (Nat.not_lt_zero _)
  | n + 1, [], _, _, _, _, _, hy => by simp at hy
  | n + 1, y :: r, j0, h, 0, y', _, hy => by
    simp at hy; subst hy
    rw [pairOk, Bool.and_eq_true] at h
    exact h.1
  | n + 1, y :: r, j0, h, j + 1, y', hj, hy => by
    rw [pairOk, Bool.and_eq_true] at h
    have := pairOk_get n r (j0 + 1) h.2 j y' (by omega) (by simpa using hy)
    rw [show j0 + (j + 1) = j0 + 1 + j by omega]
    exact this
theorem rowsOk_get {cfg : Cfg} {ops : List Oper} : ∀ (l : List Oper) (bs : List Nat) (i0 : Nat), rowsOk cfg ops l bs i0 = true → ∀ i x, l[i]? = some x → pairOk cfg ops (bs.getD i 0) x (i0 + i) ops 0 = true
  | [], _, _, _, _, _, hx => by simp at hx
  | x :: r, [], _, h, _, _, _ => by cases h
  | x :: r, b :: bs, i0, h, 0, x', hx => by
    simp at hx; subst hx
    rw [rowsOk, Bool.and_eq_true] at h
    exact h.1
  | x :: r, b :: bs, i0, h, i + 1, x', hx => by
    rw [rowsOk, Bool.and_eq_true] at h
    have := rowsOk_get r bs (i0 + 1) h.2 i x' (by simpa using hx)
    rw [show i0 + (i + 1) = i0 + 1 + i by omega]
    exact this
theorem drawOkK_ok {cfg : Cfg} {ops : List Oper} (h : drawOkK cfg ops = true) : drawOk cfg ops = true := by
  unfold drawOkK at h
  rw [beforeK_eq] at h
  have hb : ops.foldl (fun acc o => acc ++ [preds acc o]) [] = beforeL ops := rfl
  rw [hb] at h
  unfold drawOk
  simp only [List.all_eq_true, List.mem_range]
  intro i hi j hj
  have hx := List.getElem?_eq_getElem hi
  have hy := List.getElem?_eq_getElem (l := ops) (i := j) (by omega)
  rw [hx, hy]
  have h1 := rowsOk_get ops _ 0 h i _ hx
  rw [Nat.zero_add] at h1
  have h2 := pairOk_get i ops 0 h1 j _ hj hy
  rw [Nat.zero_add] at h2
  exact h2

def closeK : List Nat → List PV → Store → (List PV → Store → Option β) → Option β
  | [], e, σ, k => k e σ
  | t :: r, e, σ, k => (roAll (tops (e.getD t .undef)) σ).bind fun σ' => setL e t (fz fuelFz σ (e.getD t .undef)) fun e => closeK r e σ' k
theorem closeK_ref {r : β} : ∀ (l : List Nat) (e : List PV) (σ : Store) (k : List PV → Store → Option β), closeK l e σ k = some r → ∃ e' σ', closeAll l e σ = some (e', σ') ∧ k e' σ' = some r
  | [], e, σ, k, h => ⟨_, _, rfl, h⟩
  | t :: l, e, σ, k, h => by
    unfold closeK at h
    unfold closeAll close1
    rw [Option.bind_eq_some_iff] at h
    obtain ⟨σ1, h1, h2⟩ := h
    rw [setL_eq] at h2
    obtain ⟨e', σ', h3, h4⟩ := closeK_ref l _ _ k h2
    simp only [h1, Option.map_some, Option.bind_some]
    exact ⟨e', σ', h3, h4⟩
def preK (cfg : Cfg) (f : FuncId) (id : Nat) (env : List PV) (σ : Store) (k : Bool → List PV → Store → Option β) : Option β :=
  match cfg.close f id with
  | none => k false env σ
  | some (b, zs) => closeK zs env σ (k b)
theorem preK_ref {cfg : Cfg} {f : FuncId} {id : Nat} {env : List PV} {σ : Store} {k : Bool → List PV → Store → Option β} {r : β} (h : preK cfg f id env σ k = some r) : ∃ b e s, pre cfg f id env σ = some (b, e, s) ∧ k b e s = some r := by
  unfold preK at h
  unfold pre
  split at h
  · rename_i hc; exact ⟨_, _, _, by rw [hc], h⟩
  · rename_i b zs hc
    obtain ⟨e, s, h1, h2⟩ := closeK_ref _ _ _ _ h
    exact ⟨b, e, s, by rw [hc]; simp only [h1, Option.map_some], h2⟩

def evalK (cfg : Cfg) (C : CallO) (L : LoopO) (f : FuncId) : Code → List PV → Store → (Ex → List PV → Store → Option β) → Option β
  | .skip, env, σ, k | .label _, env, σ, k => k .normal env σ
  | .region id ops draw, env, σ, k => preK cfg f id env σ fun b env σ =>
    if draw = true then
      (if (drawOkK { cfg.at_ f with calm := b, calmA := calmOf cfg f id ops.toList } ops.toList && edgesOk ops.toList) = true then opsK { cfg.at_ f with strict := true, calm := b, calmA := calmOf cfg f id ops.toList } C ops.toList ops.toList env σ (k .normal) else none)
    else opsK (cfg.at_ f) C ops.toList ops.toList env σ (k .normal)
  | .seq a b, env, σ, k => evalK cfg C L f a env σ fun x e s => match x with
    | .normal => evalK cfg C L f b e s k
    | x => k x e s
  | .cond c a b, env, σ, k => match opd env c with
    | .bool t => if t = true then setB env c true fun e => evalK cfg C L f a e σ k else setB env c false fun e => evalK cfg C L f b e σ k
    | _ => none
  | .block id c, env, σ, k => evalK cfg C L f c env σ fun x e s => match x with
    | .exit i => if i = id then k .normal e s else k (.exit i) e s
    | x => k x e s
  | .loop c, env, σ, k => match cfg.mask f (firstRegion c) with
    | some (h, l) => (L f c (keepN env.length h env) σ).bind fun r => onEx r.1
        (fun i => pickK cfg.P l.1 r.2.1 (List.range env.length) fun e => k (.exit i) e r.2.2)
        (match l.2 with
          | [] => none
          | _ :: _ => pickK cfg.P l.2 r.2.1 (List.range env.length) fun e => k .ret e r.2.2)
    | none => none
  | .exit id, env, σ, k => k (.exit id) env σ
  | .ret, env, σ, k => k .ret env σ
  | _, _, _, _ => none

theorem setB_same {env : List PV} {c : Operand} {b : Bool} {k : List PV → Option β} (h : opd env c = .bool b) : setB env c b k = k env := by
  cases c <;> first | rfl | (simp only [setB, setL_eq]; rw [set_same h])

theorem evalK_ref {cfg : Cfg} {C : CallO} {L : LoopO} {f : FuncId} {r : β} : ∀ (c : Code) (env : List PV) (σ : Store) (k : Ex → List PV → Store → Option β), evalK cfg C L f c env σ k = some r →
    ∃ x e s, evalCode cfg C L f c env σ = some (x, e, s) ∧ k x e s = some r
  | .skip, _, _, _, h | .label _, _, _, _, h | .exit _, _, _, _, h | .ret, _, _, _, h => ⟨_, _, _, rfl, h⟩
  | .region id ops draw, env, σ, k, h => by
    simp only [evalK] at h
    obtain ⟨b, e0, s0, h0, h⟩ := preK_ref h
    simp only [evalCode, h0, Option.bind_some]
    unfold evalReg
    split at h
    · rename_i hd
      simp only [if_pos hd]
      split at h
      · rename_i hk
        rw [Bool.and_eq_true] at hk
        have hk' : (drawOk { cfg.at_ f with calm := b, calmA := calmOf cfg f id ops.toList } ops.toList && edgesOk ops.toList) = true := by rw [drawOkK_ok hk.1, hk.2]; rfl
        simp only [if_pos hk']
        obtain ⟨e, s, h1, h2⟩ := opsK_ref _ _ _ _ h
        exact ⟨_, _, _, by rw [h1]; rfl, h2⟩
      · cases h
    · rename_i hd
      simp only [if_neg hd]
      obtain ⟨e, s, h1, h2⟩ := opsK_ref _ _ _ _ h
      exact ⟨_, _, _, by rw [h1]; rfl, h2⟩
  | .seq a b, env, σ, k, h => by
    simp only [evalK] at h
    obtain ⟨x, e, s, h1, h2⟩ := evalK_ref a _ _ _ h
    simp only [evalCode, h1, Option.bind_some]
    cases x with
    | normal => exact evalK_ref b _ _ _ h2
    | exit i => exact ⟨_, _, _, rfl, h2⟩
    | ret => exact ⟨_, _, _, rfl, h2⟩
  | .cond c a b, env, σ, k, h => by
    simp only [evalK] at h
    simp only [evalCode]
    have hs := fun b (k : List PV → Option β) => setB_same (env := env) (c := c) (b := b) (k := k)
    generalize opd env c = z at h hs ⊢
    cases z <;> simp only at h ⊢ <;> first | (cases h; done) | skip
    rename_i t
    cases t
    · rw [hs false _ rfl] at h
      exact evalK_ref b _ _ _ h
    · rw [hs true _ rfl] at h
      exact evalK_ref a _ _ _ h
  | .block id c, env, σ, k, h => by
    simp only [evalK] at h
    obtain ⟨x, e, s, h1, h2⟩ := evalK_ref c _ _ _ h
    simp only [evalCode, h1, Option.map_some]
    cases x with
    | normal => exact ⟨_, _, _, rfl, h2⟩
    | ret => exact ⟨_, _, _, rfl, h2⟩
    | exit i =>
      refine ⟨_, _, _, rfl, ?_⟩
      simp only at h2 ⊢
      split at h2
      · rename_i hi; rw [if_pos hi]; exact h2
      · rename_i hi; rw [if_neg hi]; exact h2
  | .loop c, env, σ, k, h => by
    simp only [evalK] at h
    simp only [evalCode]
    split at h
    · rename_i hd l hm
      rw [Option.bind_eq_some_iff] at h
      obtain ⟨⟨x, e, s⟩, h1, h2⟩ := h
      have hh : headM cfg f c env.length env = keepN env.length hd env := by unfold headM; rw [hm]
      have ho : outM cfg f c x env.length e = keepN env.length ((outOf l x).map (·.1)) e := by unfold outM; rw [hm]
      rw [hh, h1]
      refine ⟨x, outM cfg f c x env.length e, s, rfl, ?_⟩
      rw [ho]
      cases x with
      | normal => cases h2
      | exit i => exact pickK_ref _ _ h2
      | ret =>
        replace h2 : (match l.2 with | [] => none | _ :: _ => pickK cfg.P l.2 e (List.range env.length) fun e => k .ret e s) = some r := h2
        split at h2
        · cases h2
        · exact pickK_ref _ _ h2
    · cases h
  | .rangeFunc .., _, _, _, h | .scope _, _, _, _, h | .goto _, _, _, _, h | .refuse _, _, _, _, h => by simp only [evalK] at h; cases h
end

def resK {β : Type} (P : Program) (s : Store) (e : List PV) : List ResultVar → (List PV → Option β) → Option β
  | [], k => k []
  | .tmp t :: r, k => resK P s e r fun vs => k (e.getD t .undef :: vs)
  | .cell a t :: r, k => (loadv P s t (e.getD a .undef)).bind fun v => asK (P.underlying t) v fun v => resK P s e r fun vs => k (v :: vs)

theorem resK_ref {β : Type} {P : Program} {s : Store} {e : List PV} {r : β} : ∀ (rs : List ResultVar) (k : List PV → Option β), resK P s e rs k = some r → ∃ vs, resultsv P s e rs = some vs ∧ k vs = some r
  | [], k, h => ⟨[], rfl, h⟩
  | .tmp t :: rs, k, h => by
    obtain ⟨vs, h1, h2⟩ := resK_ref rs _ h
    exact ⟨_, by simp only [resultsv, resultv, Option.bind_some, h1]; rfl, h2⟩
  | .cell a t :: rs, k, h => by
    simp only [resK, Option.bind_eq_some_iff] at h
    obtain ⟨v, h0, h⟩ := h
    obtain ⟨vs, h1, h2⟩ := resK_ref rs _ (asK_ref h)
    exact ⟨_, by simp only [resultsv, resultv, h0, Option.bind_some, h1]; rfl, h2⟩

def retK (P : Program) (fn : Func) (x : Ex) (e : List PV) (s : Store) : Option (PV × Store) :=
  match x with
  | .exit _ => none
  | _ => resK P s e fn.results.toList fun vs => some (tuplev vs, s)

theorem retK_ref {P : Program} {fn : Func} {x : Ex} {e : List PV} {s : Store} {r : PV × Store} (h : retK P fn x e s = some r) :
    (match x with | .exit _ => none | _ => (resultsv P s e fn.results.toList).map fun vs => (tuplev vs, s)) = some r := by
  cases x with
  | exit i => exact h
  | normal => obtain ⟨vs, h1, h2⟩ := resK_ref _ _ h; simp only [h1]; exact h2
  | ret => obtain ⟨vs, h1, h2⟩ := resK_ref _ _ h; simp only [h1]; exact h2

def stepK (cfg : Cfg) (C : CallO) (L : LoopO) (f : FuncId) (args : List PV) (σ : Store) : Option (PV × Store) :=
  match cfg.P.funcs[f]? with
  | some fn => match fn.body with
    | some c => evalK cfg C L f c (enterv fn args) σ (retK cfg.P fn)
    | none => none
  | none => none

def goK (cfg : Cfg) (L : LoopO) (f : FuncId) (c : Code) (n : Nat) (x : Ex) (e : List PV) (s : Store) : Option (Ex × List PV × Store) :=
  match x with
  | .normal => L f c (headM cfg f c n e) s
  | x => some (x, outM cfg f c x n e, s)

def stepKL (cfg : Cfg) (C : CallO) (L : LoopO) (f : FuncId) (c : Code) (env : List PV) (σ : Store) : Option (Ex × List PV × Store) :=
  evalK cfg C L f c env σ (goK cfg L f c env.length)

theorem callω_ofK {cfg : Cfg} (hT : ∀ f, cfg.told f = none) {g : FuncId} {a : List PV} {σ : Store} {r : PV × Store} (h : stepK cfg (callω cfg) (loopω cfg) g a σ = some r) : callω cfg g a σ = some r := by
  refine callω_of hT ?_
  unfold stepK at h
  unfold stepC
  rw [hT g]
  simp only
  split at h
  · rename_i fn hf
    split at h
    · rename_i c hc
      obtain ⟨x, e, s, h1, h2⟩ := evalK_ref _ _ _ _ h
      simp only [hf, hc, h1, Option.bind_some]
      have h3 := retK_ref h2
      cases x with
      | normal => exact h3
      | exit i => exact h3
      | ret => exact h3
    · cases h
  · cases h

theorem loopω_ofK {cfg : Cfg} {f : FuncId} {c : Code} {e : List PV} {σ : Store} {r : Ex × List PV × Store} (h : stepKL cfg (callω cfg) (loopω cfg) f c e σ = some r) : loopω cfg f c e σ = some r := by
  refine loopω_of ?_
  obtain ⟨x, e', s, h1, h2⟩ := evalK_ref _ _ _ _ h
  unfold stepL
  simp only [h1, Option.bind_some]
  cases x with
  | normal => exact h2
  | exit i => exact h2
  | ret => exact h2
end Go.Pvm
