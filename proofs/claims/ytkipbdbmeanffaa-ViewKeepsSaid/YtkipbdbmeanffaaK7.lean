/- Part of the proof: what follows an evaluation hangs on its outcome alone. -/
import Derived.Test.YtkipbdbmeanffaaK6
set_option linter.unusedSimpArgs false
set_option linter.unusedVariables false
namespace Go.Pvm
section
variable {β γ : Type} {κ : γ → Option β}
def s2 {X Y : Type} (x : X) (y : Y) : Option (X × Y) := some (x, y)
def s3 {X Y Z : Type} (x : X) (y : Y) (z : Z) : Option (X × Y × Z) := some (x, y, z)
theorem asInt_b (i : IntKind) (v : PV) {g : Int → Option β} {f : Int → Option γ} (h : ∀ n, g n = (f n).bind κ) : asInt i v g = (asInt i v f).bind κ := by
  unfold asInt; split
  · split
    · exact h _
    · rfl
  · rfl
theorem asBool_b (v : PV) {g : Bool → Option β} {f : Bool → Option γ} (h : ∀ n, g n = (f n).bind κ) : asBool v g = (asBool v f).bind κ := by
  unfold asBool; split
  · exact h _
  · rfl
theorem asStr_b (v : PV) {g : ByteArray → Option β} {f : ByteArray → Option γ} (h : ∀ n, g n = (f n).bind κ) : asStr v g = (asStr v f).bind κ := by
  unfold asStr; split
  · exact h _
  · rfl
theorem asFlt_b (i : FloatKind) (v : PV) {g : Nat → Option β} {f : Nat → Option γ} (h : ∀ n, g n = (f n).bind κ) : asFlt i v g = (asFlt i v f).bind κ := by
  unfold asFlt; split
  · split
    · exact h _
    · rfl
  · rfl
theorem asSl_b (v : PV) {g : List (List PV) → Option β} {f : List (List PV) → Option γ} (h : ∀ n, g n = (f n).bind κ) : asSl v g = (asSl v f).bind κ := by
  unfold asSl; split <;> first | exact h _ | rfl
theorem asK_b (d : Option TypeDesc) (v : PV) {g : PV → Option β} {f : PV → Option γ} (h : ∀ n, g n = (f n).bind κ) : asK d v g = (asK d v f).bind κ := by
  unfold asK
  split
  · exact asInt_b _ _ fun _ => h _
  · exact asBool_b _ fun _ => h _
  · exact asStr_b _ fun _ => h _
  · exact h _
theorem ite_b {c : Prop} [Decidable c] {a b : Option β} {a' b' : Option γ} (h : a = a'.bind κ) (h' : b = b'.bind κ) : (if c then a else b) = (if c then a' else b').bind κ := by
  split <;> assumption
theorem itn_b {c : Prop} [Decidable c] {a : Option β} {a' : Option γ} (h : a = a'.bind κ) : (if c then a else none) = (if c then a' else none).bind κ := ite_b h rfl
theorem bind_b {X : Type} (o : Option X) {g : X → Option β} {f : X → Option γ} (h : ∀ x, g x = (f x).bind κ) : o.bind g = (o.bind f).bind κ := by
  cases o with
  | none => rfl
  | some x => exact h x
mutual
theorem asSk_b : ∀ (s : Sk) (v : PV) {g : PV → Option β} {f : PV → Option γ} (h : ∀ n, g n = (f n).bind κ), asSk s v g = (asSk s v f).bind κ
  | .any, v, _, _, h => h _
  | .drop, v, _, _, h => h _
  | .bool, v, _, _, h => asBool_b _ fun _ => h _
  | .str, v, _, _, h => asStr_b _ fun _ => h _
  | .psl, v, _, _, h => asSl_b _ fun _ => h _
  | .int i, v, _, _, h => asInt_b _ _ fun _ => h _
  | .flt i, v, _, _, h => asFlt_b _ _ fun _ => h _
  | .ref a b c, v, _, _, h => by
    unfold asSk asRef; split
    · exact itn_b (h _)
    · rfl
  | .whole a b, v, _, _, h => by
    unfold asSk asWhole; split
    · exact itn_b (h _)
    · rfl
  | .agg l, v, _, _, h => by
    unfold asSk asAgg; split
    · exact asSks_b l _ fun _ => h _
    · rfl
  | .tup l, v, _, _, h => by
    unfold asSk asTup; split
    · exact asSks_b l _ fun _ => h _
    · rfl
  | .view a b, v, _, _, h => by
    unfold asSk asView; split
    · exact itn_b (h _)
    · rfl
  | .wv a b, v, _, _, h => by
    unfold asSk asWv; split
    · exact itn_b (h _)
    · exact itn_b (h _)
    · rfl
  | .fn a l, v, _, _, h => by
    unfold asSk asFn; split
    · exact itn_b (asSks_b l _ fun _ => h _)
    · rfl
  | .pref l, v, _, _, h => by
    unfold asSk asPref; split
    · exact asSks_b l _ fun _ => h _
    · rfl
theorem asSks_b : ∀ (l : List Sk) (cs : List PV) {g : List PV → Option β} {f : List PV → Option γ} (h : ∀ n, g n = (f n).bind κ), asSk.asSks l cs g = (asSk.asSks l cs f).bind κ
  | [], cs, _, _, h => by
    unfold asSk.asSks asNil; split
    · exact h _
    · rfl
  | s :: l, cs, _, _, h => by
    unfold asSk.asSks asCons; split
    · exact asSk_b s _ fun _ => asSks_b l _ fun _ => h _
    · rfl
end
variable {P : Program} {A : List KO} {env : List PV}
theorem rowsK_b (A : List KO) (x : PV) {g : List (List PV) → Option β} {f : List (List PV) → Option γ} (h : ∀ n, g n = (f n).bind κ) : rowsK A x g = (rowsK A x f).bind κ := by
  unfold rowsK
  split <;> first | exact h _ | rfl | skip
  split
  · split <;> exact h _
  · rfl
theorem lenKK_b (A : List KO) (x : PV) {g : Nat → Option β} {f : Nat → Option γ} (h : ∀ n, g n = (f n).bind κ) : lenKK A x g = (lenKK A x f).bind κ := by
  unfold lenKK
  split <;> first | exact h _ | rfl | skip
  split
  · exact h _
  · split
    · exact h _
    · rfl
theorem loadKK_b (t : TypeId) (a : PV) {g : PV → Option β} {f : PV → Option γ} (h : ∀ n, g n = (f n).bind κ) : loadKK P A t a g = (loadKK P A t a f).bind κ := by
  unfold loadKK
  split
  · exact bind_b _ h
  · split
    · exact itn_b (bind_b _ h)
    · exact bind_b _ fun _ => bind_b _ fun _ => asSk_b _ _ h
    · rfl
  · rfl
theorem storeKK_b (t : TypeId) (a v : PV) {g : List KO → Option β} {f : List KO → Option γ} (h : ∀ n, g n = (f n).bind κ) : storeKK P A t a v g = (storeKK P A t a v f).bind κ := by
  unfold storeKK
  simp only [forceA_eq]
  split
  · refine bind_b _ fun _ => ?_
    split
    · exact itn_b (h _)
    · exact itn_b (itn_b (h _))
    · rfl
  · rfl
theorem killKK_b (l : List Nat) (env : List PV) (A : List KO) {g : List PV → List KO → Option β} {f : List PV → List KO → Option γ} (h : ∀ n A, g n A = (f n A).bind κ) : killKK l env A g = (killKK l env A f).bind κ := by
  unfold killKK
  simp only [forceVs_eq, forceA_eq]
  exact h _ _
theorem appKK_b (el : TypeId) (s x : PV) {g : PV → List PV → List KO → Option β} {f : PV → List PV → List KO → Option γ} (h : ∀ n e A, g n e A = (f n e A).bind κ) : appKK P el s x env A g = (appKK P el s x env A f).bind κ := by
  unfold appKK
  refine bind_b _ fun _ => bind_b _ fun _ => bind_b _ fun _ => rowsK_b _ _ fun _ => ?_
  refine ite_b rfl (ite_b rfl ?_)
  split
  · exact itn_b (h _ _ _)
  · split
    · exact itn_b (itn_b (killKK_b _ _ _ fun _ _ => h _ _ _))
    · rfl
  · rfl
theorem convKK_b (s d : TypeId) (x : PV) {g : PV → Option β} {f : PV → Option γ} (h : ∀ n, g n = (f n).bind κ) : convKK P A s d x g = (convKK P A s d x f).bind κ := by
  unfold convKK
  split
  · split
    · exact ite_b rfl (rowsK_b _ _ fun _ => bind_b _ fun _ => h _)
    · rfl
  · exact itn_b (bind_b _ h)
theorem cutKK_b (t : TypeId) (x : PV) (lo hi mx : Option PV) {g : PV → Option β} {f : PV → Option γ} (h : ∀ n, g n = (f n).bind κ) : cutKK P A t x lo hi mx g = (cutKK P A t x lo hi mx f).bind κ := by
  unfold cutKK
  refine ite_b rfl ?_
  split
  · exact bind_b _ h
  · exact bind_b _ h
  · exact bind_b _ fun _ => bind_b _ fun _ => bind_b _ fun _ => itn_b (itn_b (h _))
  · refine bind_b _ fun _ => ite_b rfl ?_
    split
    · refine ite_b rfl ?_
      split
      · exact bind_b _ fun _ => bind_b _ fun _ => itn_b (h _)
      · exact bind_b _ fun _ => bind_b _ fun _ => itn_b (h _)
    · rfl
  · rfl
theorem idxKK_b (t : TypeId) (x i : PV) {g : PV → Option β} {f : PV → Option γ} (h : ∀ n, g n = (f n).bind κ) : idxKK P A t x i g = (idxKK P A t x i f).bind κ := by
  unfold idxKK
  refine bind_b _ fun _ => ?_
  split
  · refine bind_b _ fun _ => ?_
    split
    · exact itn_b (bind_b _ fun _ => asSks_b _ _ fun _ => itn_b (h _))
    · refine ite_b rfl ?_
      split
      · refine ite_b rfl ?_
        split
        · exact itn_b (h _)
        · exact itn_b (h _)
      · rfl
    · rfl
  · refine bind_b _ fun _ => itn_b ?_
    split <;> first | exact h _ | rfl
  · rfl
theorem packKK_b (l : List Nat) (env : List PV) (A : List KO) {g : List PV → List KO → Option β} {f : List PV → List KO → Option γ} (h : ∀ n A, g n A = (f n A).bind κ) : packKK l env A g = (packKK l env A f).bind κ := by
  unfold packKK
  simp only [forceNats_eq, forceVs_eq, forceA_eq]
  exact itn_b (h _ _)
theorem headKK_b (n0 : Nat) (tys : List (Nat × TypeId)) (wk : List Nat × List Nat) (env : List PV) (A : List KO) {g : List PV → List KO → Option β} {f : List PV → List KO → Option γ} (h : ∀ n A, g n A = (f n A).bind κ) : headKK P n0 tys wk env A g = (headKK P n0 tys wk env A f).bind κ := by
  unfold headKK
  simp only [forceVs_eq, forceA_eq]
  exact packKK_b _ _ _ fun _ _ => h _ _
theorem asObj_b (s : OSk) (o : KO) {g : KO → Option β} {f : KO → Option γ} (h : ∀ n, g n = (f n).bind κ) : asObj s o g = (asObj s o f).bind κ := by
  unfold asObj
  split
  · unfold asGone; split
    · rfl
    · exact h _
  · unfold asBox; split
    · exact itn_b (asSks_b _ _ fun _ => h _)
    · rfl
  · unfold asMade; split
    · exact itn_b (h _)
    · rfl
theorem asObjs_b : ∀ (s : List OSk) (l : List KO) {g : List KO → Option β} {f : List KO → Option γ} (h : ∀ n, g n = (f n).bind κ), asObjs s l g = (asObjs s l f).bind κ
  | [], l, _, _, h => by
    unfold asObjs asONil; split
    · exact h _
    · rfl
  | s :: sr, l, _, _, h => by
    unfold asObjs asOCons; split
    · exact asObj_b s _ fun _ => asObjs_b sr _ fun _ => h _
    · rfl
theorem asEnv_b (sk : List (Nat × Sk)) (m : List Nat) (e : List PV) : ∀ (is : List Nat) {g : List PV → Option β} {f : List PV → Option γ} (h : ∀ n, g n = (f n).bind κ), asEnv sk m e is g = (asEnv sk m e is f).bind κ
  | [], _, _, h => h _
  | i :: is, _, _, h => by
    unfold asEnv
    split
    · exact asSk_b _ _ fun _ => asEnv_b sk m e is fun _ => h _
    · exact asEnv_b sk m e is fun _ => h _
theorem liveKK_b (kc : KCfg) (C : CallK) (n : FuncId) (args : List PV) {g : PV → List PV → List KO → Option β} {f : PV → List PV → List KO → Option γ} (h : ∀ n e A, g n e A = (f n e A).bind κ) : liveKK kc C n args env A g = (liveKK kc C n args env A f).bind κ := by
  unfold liveKK
  simp only [forceNats_eq, forceVs_eq, forceA_eq, forceV_eq]
  exact itn_b (bind_b _ fun _ => asSk_b _ _ fun _ => asObjs_b _ _ fun _ => itn_b (h _ _ _))
theorem callKK_b (c : Cfg) (kc : KCfg) (C : CallK) (n : FuncId) (args : List PV) (ty : TypeId) {g : PV → List PV → List KO → Option β} {f : PV → List PV → List KO → Option γ} (h : ∀ n e A, g n e A = (f n e A).bind κ) : callKK c kc C n args ty env A g = (callKK c kc C n args ty env A f).bind κ := by
  unfold callKK
  simp only [forceVs_eq]
  refine itn_b ?_
  split
  · exact bind_b _ fun _ => asSk_b _ _ fun _ => ite_b (h _ _ _) (ite_b rfl (ite_b (itn_b (h _ _ _)) (bind_b _ fun _ => h _ _ _)))
  · split
    · exact bind_b _ fun _ => h _ _ _
    · rfl
  · exact liveKK_b _ _ _ _ h
  · rfl
theorem partKK_b (A : List KO) (d : PV) (sz : Nat) {g : Nat → List (List PV) → Nat → Nat → Option β} {f : Nat → List (List PV) → Nat → Nat → Option γ} (h : ∀ a b c d, g a b c d = (f a b c d).bind κ) : partKK A d sz g = (partKK A d sz f).bind κ := by
  unfold partKK
  split
  · refine ite_b rfl ?_
    split
    · refine ite_b rfl ?_
      split <;> exact h _ _ _ _
    · rfl
  · rfl
theorem bltKK_b (b : Builtin) (ts : List TypeId) (args : List PV) (ty : TypeId) {g : PV → List PV → List KO → Option β} {f : PV → List PV → List KO → Option γ} (h : ∀ n e A, g n e A = (f n e A).bind κ) : bltKK P b ts args ty env A g = (bltKK P b ts args ty env A f).bind κ := by
  unfold bltKK
  split
  · split
    · split
      · exact h _ _ _
      · rfl
    · exact ite_b rfl (lenKK_b _ _ fun _ => h _ _ _)
    · rfl
  · exact itn_b (bind_b _ fun _ => asK_b _ _ fun _ => h _ _ _)
  · exact itn_b (bind_b _ fun _ => asK_b _ _ fun _ => h _ _ _)
  · split
    · exact ite_b rfl (appKK_b _ _ _ h)
    · exact itn_b (appKK_b _ _ _ h)
    · rfl
  · split
    · exact bind_b _ fun _ => rowsK_b _ _ fun _ => ite_b rfl (partKK_b _ _ _ fun _ _ _ _ => h _ _ _)
    · rfl
  · split
    · exact bind_b _ fun _ => bind_b _ fun _ => ite_b rfl (partKK_b _ _ _ fun _ _ _ _ => h _ _ _)
    · rfl
  · rfl
theorem opKK_b (c : Cfg) (kc : KCfg) (C : CallK) (o : Oper) {g : PV → List PV → List KO → Option β} {f : PV → List PV → List KO → Option γ} (h : ∀ n e A, g n e A = (f n e A).bind κ) : opKK c kc C env A o g = (opKK c kc C env A o f).bind κ := by
  obtain ⟨dst, op, type, pos, after, guard⟩ := o
  unfold opKK
  cases op <;> simp only [forceV_eq]
  case move x => exact h _ _ _
  case assign x => exact h _ _ _
  case pick cd a b =>
    split
    · exact ite_b (h _ _ _) (h _ _ _)
    · rfl
  case alloc el => exact bind_b _ fun _ => itn_b (h _ _ _)
  case box el x => exact itn_b (h _ _ _)
  case build t ps => exact bind_b _ fun _ => h _ _ _
  case buildSlice t n ps =>
    split
    · exact bind_b _ fun _ => bind_b _ fun _ => itn_b (bind_b _ fun _ => itn_b (h _ _ _))
    · rfl
  case load t a => exact ite_b (bind_b _ fun _ => h _ _ _) (loadKK_b _ _ fun _ => h _ _ _)
  case store t a x => exact storeKK_b _ _ _ fun _ => h _ _ _
  case nilCheck x => exact bind_b _ fun _ => h _ _ _
  case binOp op t x y ty => exact bind_b _ fun _ => asK_b _ _ fun _ => h _ _ _
  case unOp op t x => exact bind_b _ fun _ => asK_b _ _ fun _ => h _ _ _
  case convert s d x => exact convKK_b _ _ _ fun _ => asK_b _ _ fun _ => h _ _ _
  case makeFunc fn fs cs =>
    cases fn <;> simp only
    case func f => exact itn_b (h _ _ _)
    all_goals rfl
  case makeSlice t l cp =>
    split
    · exact bind_b _ fun _ => bind_b _ fun _ => bind_b _ fun _ => itn_b (itn_b (h _ _ _))
    · rfl
  case slice t x lo hi mx => exact cutKK_b _ _ _ _ _ fun _ => h _ _ _
  case fieldAddr s x f => exact bind_b _ fun _ => h _ _ _
  case field s x f => exact bind_b _ fun _ => h _ _ _
  case indexAddr t x i => exact idxKK_b _ _ _ fun _ => h _ _ _
  case index t x i => exact bind_b _ fun _ => asK_b _ _ fun _ => h _ _ _
  case extract x i => exact bind_b _ fun _ => h _ _ _
  case call cl =>
    obtain ⟨callee, args, ts⟩ := cl
    cases callee <;> simp only
    case builtin b => exact bltKK_b _ _ _ _ h
    case value x => exact bind_b _ fun _ => callKK_b _ _ _ _ _ _ h
    case invoke x m => rfl
  all_goals rfl
theorem opsKK_b (c : Cfg) (kc : KCfg) (C : CallK) (all : List Oper) : ∀ (l : List Oper) (env : List PV) (A : List KO) {g : List PV → List KO → Option β} {f : List PV → List KO → Option γ} (h : ∀ n A, g n A = (f n A).bind κ), opsKK c kc C all l env A g = (opsKK c kc C all l env A f).bind κ
  | [], _, _, _, _, h => h _ _
  | o :: l, env, A, g, f, h => by
    have go : ∀ (env : List PV), (opKK c kc C env A o fun v env A => putK env o.dst v fun e => opsKK c kc C all l e A g) = (opKK c kc C env A o fun v env A => putK env o.dst v fun e => opsKK c kc C all l e A f).bind κ := fun env => by
      simp only [putK_eq]
      exact opKK_b _ _ _ _ fun _ _ _ => opsKK_b c kc C all l _ _ h
    have no : ∀ (env : List PV), (putK env o.dst (.tuple []) fun e => opsKK c kc C all l e A g) = (putK env o.dst (.tuple []) fun e => opsKK c kc C all l e A f).bind κ := fun env => by
      simp only [putK_eq]
      exact opsKK_b c kc C all l _ _ h
    unfold opsKK
    split
    · exact go env
    · split
      · rfl
      · split
        · simp only [setL_eq]
          exact ite_b (ite_b (go _) (no _)) (ite_b (go _) (no _))
        · exact no _
        · rfl
theorem closeKK_b : ∀ (l : List Nat) (e : List PV) (A : List KO) {g : List PV → List KO → Option β} {f : List PV → List KO → Option γ} (h : ∀ n A, g n A = (f n A).bind κ), closeKK l e A g = (closeKK l e A f).bind κ
  | [], _, _, _, _, h => h _ _
  | t :: l, e, A, g, f, h => by
    unfold closeKK
    simp only [forceV_eq, setL_eq]
    exact itn_b (bind_b _ fun _ => closeKK_b l _ _ h)
theorem preKK_b (c : Cfg) (n : FuncId) (id : Nat) (env : List PV) (A : List KO) {g : Bool → List PV → List KO → Option β} {f : Bool → List PV → List KO → Option γ} (h : ∀ b n A, g b n A = (f b n A).bind κ) : preKK c n id env A g = (preKK c n id env A f).bind κ := by
  unfold preKK
  split
  · exact h _ _ _
  · exact closeKK_b _ _ _ fun _ _ => h _ _ _
theorem onEx_b (x : Ex) {e : Nat → Option γ} {r : Option γ} {e' : Nat → Option β} {r' : Option β} (he : ∀ i, e' i = (e i).bind κ) (hr : r' = r.bind κ) : onEx x e' r' = (onEx x e r).bind κ := by
  cases x with
  | normal => rfl
  | exit i => exact he i
  | ret => exact hr
theorem evalKK_b (c : Cfg) (kc : KCfg) (C : CallK) (L : LoopK) (n : FuncId) (n0 : Nat) : ∀ (cd : Code) (env : List PV) (A : List KO) {g : Ex → List PV → List KO → Option β} {f : Ex → List PV → List KO → Option γ} (h : ∀ x e A, g x e A = (f x e A).bind κ), evalKK c kc C L n n0 cd env A g = (evalKK c kc C L n n0 cd env A f).bind κ
  | .skip, _, _, _, _, h | .label _, _, _, _, _, h | .exit _, _, _, _, _, h | .ret, _, _, _, _, h => h _ _ _
  | .region id ops draw, env, A, g, f, h => by
    simp only [evalKK]
    exact preKK_b _ _ _ _ _ fun _ _ _ => ite_b (itn_b (opsKK_b _ _ _ _ _ _ _ fun _ _ => h _ _ _)) (opsKK_b _ _ _ _ _ _ _ fun _ _ => h _ _ _)
  | .seq a b, env, A, g, f, h => by
    simp only [evalKK]
    refine evalKK_b c kc C L n n0 a _ _ fun x e s => ?_
    cases x with
    | normal => exact evalKK_b c kc C L n n0 b _ _ h
    | exit i => exact h _ _ _
    | ret => exact h _ _ _
  | .cond cd a b, env, A, g, f, h => by
    simp only [evalKK]
    split
    · rename_i t ht
      split
      · rename_i htt
        subst htt
        rw [setB_ok ht, setB_ok ht]
        exact evalKK_b c kc C L n n0 a _ _ h
      · rename_i htt
        have htf : t = false := by simpa using htt
        subst htf
        rw [setB_ok ht, setB_ok ht]
        exact evalKK_b c kc C L n n0 b _ _ h
    · rfl
  | .block id cd, env, A, g, f, h => by
    simp only [evalKK]
    refine evalKK_b c kc C L n n0 cd _ _ fun x e s => ?_
    cases x with
    | normal => exact h _ _ _
    | exit i => exact ite_b (h _ _ _) (h _ _ _)
    | ret => exact h _ _ _
  | .loop cd, env, A, g, f, h => by
    simp only [evalKK]
    split
    · refine headKK_b _ _ _ _ _ fun _ _ => bind_b _ fun _ => onEx_b _ (fun i => itn_b (asEnv_b _ _ _ _ fun _ => asObjs_b _ _ fun _ => h _ _ _)) ?_
      split
      · rfl
      · exact asEnv_b _ _ _ _ fun _ => asObjs_b _ _ fun _ => h _ _ _
    · rfl
  | .rangeFunc .., _, _, _, _, _ | .scope _, _, _, _, _, _ | .goto _, _, _, _, _, _ | .refuse _, _, _, _, _, _ => by simp only [evalKK]; rfl
theorem opKK_nat (c : Cfg) (kc : KCfg) (C : CallK) (o : Oper) (k : PV → List PV → List KO → Option β) : opKK c kc C env A o k = (opKK c kc C env A o s3).bind fun x => k x.1 x.2.1 x.2.2 := opKK_b c kc C o fun _ _ _ => rfl
theorem opsKK_nat (c : Cfg) (kc : KCfg) (C : CallK) (all l : List Oper) (env : List PV) (A : List KO) (k : List PV → List KO → Option β) : opsKK c kc C all l env A k = (opsKK c kc C all l env A s2).bind fun x => k x.1 x.2 := opsKK_b c kc C all l env A fun _ _ => rfl
theorem preKK_nat (c : Cfg) (n : FuncId) (id : Nat) (env : List PV) (A : List KO) (k : Bool → List PV → List KO → Option β) : preKK c n id env A k = (preKK c n id env A s3).bind fun x => k x.1 x.2.1 x.2.2 := preKK_b c n id env A fun _ _ _ => rfl
theorem headKK_nat (n0 : Nat) (tys : List (Nat × TypeId)) (wk : List Nat × List Nat) (env : List PV) (A : List KO) (k : List PV → List KO → Option β) : headKK P n0 tys wk env A k = (headKK P n0 tys wk env A s2).bind fun x => k x.1 x.2 := headKK_b n0 tys wk env A fun _ _ => rfl
theorem evalKK_nat (c : Cfg) (kc : KCfg) (C : CallK) (L : LoopK) (n : FuncId) (n0 : Nat) (cd : Code) (env : List PV) (A : List KO) (k : Ex → List PV → List KO → Option β) : evalKK c kc C L n n0 cd env A k = (evalKK c kc C L n n0 cd env A s3).bind fun x => k x.1 x.2.1 x.2.2 := evalKK_b c kc C L n n0 cd env A fun _ _ _ => rfl
end
end Go.Pvm
