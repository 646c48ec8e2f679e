/- Part of the proof: an evaluator over values alone: objects that a function has are few and numbered by it; slices are lists. -/
import Derived.Test.YtkipbdbmeanffaaV28
set_option linter.unusedSimpArgs false
set_option linter.unusedVariables false
namespace Go.Pvm

/-- What a function has: a variable, or a slice that it has made. -/
inductive KO where
  | dead
  | box (w : Bool) (t : TypeId) (cells : List PV)
  | made (w : Bool) (sz : Nat) (es : List (List PV))
  deriving Inhabited

def whole (k sz : Nat) : PV := .lsl k sz 0 0 none
def viewK (k sz a n : Nat) : PV := .lsl k sz a n (some 0)

/-- Other numbers; what has none is known no more. -/
def rnm (f : Nat → Option Nat) : PV → PV
  | .ref k i o => match f k with
    | some k' => .ref k' i o
    | none => .undef
  | .lsl k sz a n c => match f k with
    | some k' => .lsl k' sz a n c
    | none => .undef
  | .mref _ => .undef
  | .agg cs => .agg (rnms cs)
  | .tuple cs => .tuple (rnms cs)
  | .func g cs => .func g (rnms cs)
  | v => v
where rnms : List PV → List PV
  | [] => []
  | v :: r => rnm f v :: rnms r
def rnmO (f : Nat → Option Nat) : KO → KO
  | .box w t cs => .box w t (rnm.rnms f cs)
  | o => o
def killF (k : Nat) : Nat → Option Nat := fun j => if j = k then none else some j
def killL (l : List Nat) : Nat → Option Nat := fun j => if l.contains j = true then none else some j

/-- What a value reads as, whole. -/
def fzK : Nat → List KO → PV → PV
  | 0, _, _ => .undef
  | n + 1, A, v => match v with
    | .ref k i off => match A.getD k .dead with
      | .box _ _ cs => if i = 0 then .pref ((cs.drop off).map (fzK n A)) else .undef
      | .made _ _ es => match n, es[i]? with
        | _ + 1, some e => .pref (e.drop off)
        | _, _ => .undef
      | .dead => .undef
    | .lsl k _ a len c => match A.getD k .dead with
      | .made _ _ es => match n, c with
        | 0, _ => .undef
        | _ + 1, none => .psl false es
        | _ + 1, some _ => .psl false ((es.drop a).take len)
      | _ => .undef
    | .mref _ => .undef
    | .nilsl => .psl false []
    | .agg cs => .agg (cs.map (fzK n A))
    | .tuple cs => .tuple (cs.map (fzK n A))
    | .func f cs => .func f (cs.map (fzK n A))
    | v => v

/-- Is all of it known? -/
def PV.clean : PV → Bool
  | .undef => false
  | .agg cs | .tuple cs | .func _ cs => cleans cs
  | _ => true
where cleans : List PV → Bool
  | [] => true
  | v :: r => v.clean && cleans r

def rowsPl (sz : Nat) (es : List (List PV)) : Bool := es.all fun e => e.length == sz && e.all PV.plain

def roK : List Nat → List KO → Option (List KO)
  | [], A => some A
  | k :: r, A => match A.getD k .dead with
    | .made _ sz es => roK r (A.set k (.made false sz es))
    | .box _ t cs => if cs.all PV.plain = true then roK r (A.set k (.box false t cs)) else none
    | .dead => none

/-- The strings that a function's text spells out. -/
def strsOf : Code → List ByteArray
  | .region _ ops _ => ops.toList.flatMap fun o => o.op.operands.toList.filterMap fun | .const (.string s) => some s | _ => none
  | .seq a b | .cond _ a b => strsOf a ++ strsOf b
  | .block _ a | .loop a => strsOf a
  | _ => []
def strAt (P : Program) (f n : Nat) : ByteArray := (strsOf (((P.funcs[f]?).bind (·.body)).getD .skip)).getD n .empty

/-! ### What is known of a value -/
inductive Sk where
  | any | drop | bool | str | psl
  | int (κ : IntKind)
  | flt (κ : FloatKind)
  | ref (k i o : Nat)
  | whole (k sz : Nat)
  | view (k sz : Nat)
  /-- Whole, or a view. -/
  | wv (k sz : Nat)
  | agg (l : List Sk)
  | tup (l : List Sk)
  | fn (f : FuncId) (l : List Sk)
  | pref (l : List Sk)
  deriving Inhabited

section
variable {β : Type}
def asFlt (κ : FloatKind) (v : PV) (k : Nat → Option β) : Option β := match v with
  | .float κ' n => if κ' = κ then k n else none
  | _ => none
def asSl (v : PV) (k : List (List PV) → Option β) : Option β := match v with
  | .psl _ es => k es
  | .nilsl => k []
  | _ => none
def asAgg (v : PV) (k : List PV → Option β) : Option β := match v with
  | .agg cs => k cs
  | _ => none
def asTup (v : PV) (k : List PV → Option β) : Option β := match v with
  | .tuple cs => k cs
  | _ => none
def asCons (l : List PV) (k : PV → List PV → Option β) : Option β := match l with
  | c :: r => k c r
  | [] => none
def asNil (l : List PV) (k : Option β) : Option β := match l with
  | [] => k
  | _ => none
def asRef (a b c : Nat) (v : PV) (k : Option β) : Option β := match v with
  | .ref a' b' c' => if a' = a ∧ b' = b ∧ c' = c then k else none
  | _ => none
def asWhole (a b : Nat) (v : PV) (k : Option β) : Option β := match v with
  | .lsl a' b' 0 0 none => if a' = a ∧ b' = b then k else none
  | _ => none
def asView (a b : Nat) (v : PV) (k : Nat → Nat → Option β) : Option β := match v with
  | .lsl a' b' x n (some 0) => if a' = a ∧ b' = b then k x n else none
  | _ => none
def asWv (a b : Nat) (v : PV) (k : Option β) (k' : Nat → Nat → Option β) : Option β := match v with
  | .lsl a' b' 0 0 none => if a' = a ∧ b' = b then k else none
  | .lsl a' b' x n (some 0) => if a' = a ∧ b' = b then k' x n else none
  | _ => none
def asFn (f : FuncId) (v : PV) (k : List PV → Option β) : Option β := match v with
  | .func g cs => if g = f then k cs else none
  | _ => none
def asPref (v : PV) (k : List PV → Option β) : Option β := match v with
  | .pref cs => k cs
  | _ => none
def asSk (s : Sk) (v : PV) (k : PV → Option β) : Option β :=
  match s with
  | .any => k v
  | .drop => k .undef
  | .bool => asBool v fun b => k (.bool b)
  | .str => asStr v fun b => k (.str b)
  | .psl => asSl v fun es => k (.psl false es)
  | .int κ => asInt κ v fun n => k (.int κ n)
  | .flt κ => asFlt κ v fun n => k (.float κ n)
  | .ref a b c => asRef a b c v (k (.ref a b c))
  | .whole a b => asWhole a b v (k (Pvm.whole a b))
  | .agg l => asAgg v fun cs => asSks l cs fun cs => k (.agg cs)
  | .tup l => asTup v fun cs => asSks l cs fun cs => k (.tuple cs)
  | .view a b => asView a b v fun x n => k (viewK a b x n)
  | .wv a b => asWv a b v (k (Pvm.whole a b)) fun x n => k (viewK a b x n)
  | .fn f l => asFn f v fun cs => asSks l cs fun cs => k (.func f cs)
  | .pref l => asPref v fun cs => asSks l cs fun cs => k (.pref cs)
where asSks (l : List Sk) (cs : List PV) (k : List PV → Option β) : Option β :=
  match l with
  | [] => asNil cs (k [])
  | s :: r => asCons cs fun c cs => asSk s c fun c => asSks r cs fun cs => k (c :: cs)
end

/-- Of a type. -/
def skCells (P : Program) : Nat → TypeId → List Sk
  | 0, _ => [.any]
  | n + 1, t => match P.underlying t with
    | some (.int κ) => [.int κ]
    | some .bool => [.bool]
    | some .string => [.str]
    | some (.float κ) => [.flt κ]
    | some (.slice _) => [.psl]
    | some (.struct fs) => fs.toList.flatMap fun f => skCells P n f.type
    | some (.array m e) => (List.replicate m (skCells P n e)).flatten
    | _ => [.any]
def skTy (P : Program) (t : TypeId) : Sk :=
  match P.underlying t with
  | some (.struct _) | some (.array _ _) => .agg (skCells P 8 t)
  | some (.tuple ts) => .tup (ts.toList.map fun t => match P.underlying t with
    | some (.struct _) | some (.array _ _) => .agg (skCells P 8 t)
    | _ => (skCells P 8 t).headD .any)
  | _ => (skCells P 8 t).headD .any
def Sk.scalar : Sk → Bool
  | .bool | .str | .int _ | .flt _ => true
  | .agg l | .tup l => scalars l
  | _ => false
where scalars : List Sk → Bool
  | [] => true
  | s :: r => s.scalar && scalars r

/-- Where slices stand in a type: the cell, and how many cells an element has. -/
def slOffs (P : Program) : Nat → TypeId → Nat → List (Nat × Nat)
  | 0, _, _ => []
  | n + 1, t, o => match P.underlying t with
    | some (.slice el) => [(o, (szOf P el).getD 0)]
    | some (.struct fs) => fs.toList.flatMap fun f => slOffs P n f.type (o + f.offset)
    | some (.array m e) => (List.range m).flatMap fun i => slOffs P n e (o + i * (szOf P e).getD 0)
    | _ => []

inductive OSk where
  | dead
  | box (w : Bool) (t : TypeId) (cells : List Sk)
  | made (w : Bool) (sz : Nat)
  deriving Inhabited

abbrev CallK := FuncId → List PV → List KO → Option (PV × List KO)
abbrev LoopK := FuncId → Code → Nat → List PV → List KO → Option (Ex × List PV × List KO)

structure KCfg where
  /-- Functions whose answer is a slice of its own, told by a word of their own. -/
  own : FuncId → Option (Nat × (List PV → Option (List (List PV))))
  /-- Types of what a loop keeps (for slices that are nil at first). -/
  hty : FuncId → Nat → List (Nat × TypeId)
  /-- Slices that a loop writes no more; that are no more what they were. -/
  hwk : FuncId → Nat → List Nat × List Nat
  /-- How things stand behind a loop; behind one that returns; behind a call in the store that there is. -/
  osk : FuncId → Nat → List (Nat × Sk) × List OSk
  rsk : FuncId → Nat → List (Nat × Sk) × List OSk
  lsk : FuncId → Sk × List OSk
  /-- Loops that are left by returning alone. -/
  noex : FuncId → Nat → Bool

section
variable {β : Type}
/-! ### Written out -/
def forceV (v : PV) (k : PV → Option β) : Option β :=
  match v with
  | .undef => k .undef
  | .bool b => k (.bool b)
  | .int κ n => k (.int κ n)
  | .float κ n => k (.float κ n)
  | .str s => k (.str s)
  | .nilptr => k .nilptr
  | .ref a b c => k (.ref a b c)
  | .pref cs => k (.pref cs)
  | .nilsl => k .nilsl
  | .psl b es => k (.psl b es)
  | .lsl a b c d e => k (.lsl a b c d e)
  | .nilmap => k .nilmap
  | .mref a => k (.mref a)
  | .nilfunc => k .nilfunc
  | .func f cs => forceVs cs fun cs => k (.func f cs)
  | .niliface => k .niliface
  | .agg cs => forceVs cs fun cs => k (.agg cs)
  | .tuple cs => forceVs cs fun cs => k (.tuple cs)
where forceVs (l : List PV) (k : List PV → Option β) : Option β :=
  match l with
  | [] => k []
  | v :: r => forceV v fun v => forceVs r fun r => k (v :: r)
def forceO (o : KO) (k : KO → Option β) : Option β :=
  match o with
  | .dead => k .dead
  | .box w t cs => forceV.forceVs cs fun cs => k (.box w t cs)
  | .made w sz es => k (.made w sz es)
def forceA (l : List KO) (k : List KO → Option β) : Option β :=
  match l with
  | [] => k []
  | o :: r => forceO o fun o => forceA r fun r => k (o :: r)
def forceNats (l : List Nat) (k : List Nat → Option β) : Option β :=
  match l with
  | [] => k []
  | o :: r => (match o with | 0 => forceNats r fun r => k (0 :: r) | n + 1 => forceNats r fun r => k ((n + 1) :: r))
mutual
theorem forceV_eq : ∀ (v : PV) (k : PV → Option β), forceV v k = k v
  | .undef, _ | .bool _, _ | .int .., _ | .float .., _ | .str _, _ | .nilptr, _ | .ref .., _ | .pref _, _ | .nilsl, _ | .psl .., _ | .lsl .., _ | .nilmap, _ | .mref _, _ | .nilfunc, _ | .niliface, _ => rfl
  | .func f cs, k => forceVs_eq cs _
  | .agg cs, k => forceVs_eq cs _
  | .tuple cs, k => forceVs_eq cs _
theorem forceVs_eq : ∀ (l : List PV) (k : List PV → Option β), forceV.forceVs l k = k l
  | [], _ => rfl
  | v :: r, k => by
    show forceV v (fun v => forceV.forceVs r fun r => k (v :: r)) = _
    rw [forceV_eq v, forceVs_eq r]
end
theorem forceO_eq (o : KO) (k : KO → Option β) : forceO o k = k o := by cases o <;> simp only [forceO, forceVs_eq]
theorem forceA_eq : ∀ (l : List KO) (k : List KO → Option β), forceA l k = k l
  | [], _ => rfl
  | o :: r, k => by simp only [forceA, forceO_eq, forceA_eq r]
theorem forceNats_eq : ∀ (l : List Nat) (k : List Nat → Option β), forceNats l k = k l
  | [], _ => rfl
  | 0 :: r, k => by simp only [forceNats, forceNats_eq r]
  | (n + 1) :: r, k => by simp only [forceNats, forceNats_eq r]

/-! ### Operations -/
def rowsK (A : List KO) (x : PV) (k : List (List PV) → Option β) : Option β :=
  match x with
  | .nilsl => k []
  | .psl _ es => k es
  | .str s => k (s.data.toList.map fun b => [.int .u8 b.toNat])
  | .lsl j _ a n c => match A.getD j .dead with
    | .made _ _ es => match c with
      | none => k es
      | some _ => k ((es.drop a).take n)
    | _ => none
  | _ => none

def lenKK (A : List KO) (x : PV) (k : Nat → Option β) : Option β :=
  match x with
  | .nilsl => k 0
  | .psl _ es => k es.length
  | .str s => k s.size
  | .lsl j _ _ n c => match c with
    | some _ => k n
    | none => match A.getD j .dead with
      | .made _ _ es => k es.length
      | _ => none
  | _ => none

def loadKK (P : Program) (A : List KO) (t : TypeId) (a : PV) (k : PV → Option β) : Option β :=
  match a with
  | .pref cs => (partOf P t cs 0).bind k
  | .ref j i off => match A.getD j .dead with
    | .box _ _ cs => if i = 0 then (partOf P t cs off).bind k else none
    | .made _ _ es => (es[i]?).bind fun e => (partOf P t e off).bind fun v => asSk (skTy P t) v k
    | .dead => none
  | _ => none

def storeKK (P : Program) (A : List KO) (t : TypeId) (a v : PV) (k : List KO → Option β) : Option β :=
  match a with
  | .ref j i off => (szOf P t).bind fun n => match A.getD j .dead with
    | .box true tt cs => if i = 0 ∧ v.cells.length = n ∧ off + n ≤ cs.length ∧ v.cells.all PV.one = true then forceA (A.set j (.box true tt (over cs off v.cells))) k else none
    | .made true sz es => if v.cells.length = n ∧ off + n ≤ sz ∧ v.cells.all PV.plain = true then
        (if i < es.length then k (A.set j (.made true sz (es.set i (if off = 0 ∧ n = sz then v.cells else over (es.getD i []) off v.cells)))) else none) else none
    | _ => none
  | _ => none

def killKK (l : List Nat) (env : List PV) (A : List KO) (k : List PV → List KO → Option β) : Option β :=
  forceV.forceVs (rnm.rnms (killL l) env) fun env => forceA (A.map (rnmO (killL l))) fun A => k env A

def appKK (P : Program) (el : TypeId) (s x : PV) (env : List PV) (A : List KO) (k : PV → List PV → List KO → Option β) : Option β :=
  (szOf P el).bind fun sz => (byOf P el).bind fun by_ => (zeroOf P el).bind fun z => rowsK A x fun new =>
  if sz = 0 ∨ by_ = 0 ∨ z.known = false ∨ z.cells.length ≠ sz then none else if rowsPl sz new = false then none else
  match s with
  | .nilsl => if new.length * by_ ≤ 140737488355328 then k (whole A.length sz) env (A ++ [.made true sz new]) else none
  | .lsl j sz' 0 0 none => match A.getD j .dead with
    | .made w sz'' es => if sz'' = sz then
        (if (es.length + new.length) * by_ ≤ 140737488355328 then killKK [j] env A fun env A => k (whole A.length sz) env (A.set j .dead ++ [.made w sz (es ++ new)]) else none)
        else none
    | _ => none
  | _ => none

/-- Values of which all is told by sight. -/
def PV.flat : PV → Bool
  | .bool _ | .int .. | .float .. | .str _ | .nilptr | .nilsl | .nilmap | .nilfunc | .niliface => true
  | .agg cs => cs.all fun c => match c with | .bool _ | .int .. | .float .. | .str _ | .nilptr | .nilsl | .nilmap | .nilfunc | .niliface => true | _ => false
  | _ => false
def PV.ptr : PV → Bool
  | .ref .. | .pref _ => true
  | _ => false
def binK (P : Program) (op : BinOp) (t : TypeId) (x y : PV) : Option PV :=
  if x.flat = true ∧ y.flat = true then binv P op t x y
  else match x, y with
    | .ref a b c, .nilptr => binv P op t (.ref a b c) .nilptr
    | .pref cs, .nilptr => binv P op t (.pref cs) .nilptr
    | _, _ => none

def convKK (P : Program) (A : List KO) (s d : TypeId) (x : PV) (k : PV → Option β) : Option β :=
  match P.underlying s, P.underlying d with
  | some (.slice e), some .string => match P.underlying e with
    | some (.int .u8) => if isStr x = true then none else rowsK A x fun es => (bytesOf es).bind fun l => k (.str ⟨l.toArray⟩)
    | _ => none
  | _, _ => if x.flat = true then (convv P .empty s d x).bind k else none

def cutKK (P : Program) (A : List KO) (t : TypeId) (x : PV) (lo hi mx : Option PV) (k : PV → Option β) : Option β :=
  if mx.isSome = true then none else
  match P.underlying t, x with
  | some .string, .str s => (cutv P t (.str s) lo hi none).bind k
  | some (.slice el), .nilsl => (cutv P t .nilsl lo hi none).bind k
  | some (.slice el), .psl _ es => (szOf P el).bind fun sz => (numOf hi es.length).bind fun h => (numOf lo 0).bind fun l =>
      if (es.all fun e => e.length == sz) = true then (if l ≤ h ∧ h ≤ es.length then k (.psl false ((es.drop l).take (h - l))) else none) else none
  | some (.slice el), .lsl j sz' a n c => (szOf P el).bind fun sz => if sz' ≠ sz then none else match A.getD j .dead with
    | .made _ sz'' es => if sz'' ≠ sz then none else (match c with
      | none => (numOf hi es.length).bind fun h => (numOf lo 0).bind fun l => if l ≤ h ∧ h ≤ es.length then k (viewK j sz l (h - l)) else none
      | some _ => (numOf hi n).bind fun h => (numOf lo 0).bind fun l => if l ≤ h ∧ h ≤ n then k (viewK j sz (a + l) (h - l)) else none)
    | _ => none
  | _, _ => none

def idxKK (P : Program) (A : List KO) (t : TypeId) (x i : PV) (k : PV → Option β) : Option β :=
  (intOf? i).bind fun i => match P.underlying t with
    | some (.slice el) => (szOf P el).bind fun sz => (match x with
      | .psl _ es => if 0 ≤ i then (es[i.toNat]?).bind fun e => asSk.asSks (skCells P 8 el) e fun cs => if cs.length = sz then k (.pref cs) else none else none
      | .lsl j sz' a n c => if sz' ≠ sz then none else match A.getD j .dead with
        | .made _ sz'' es => if sz'' ≠ sz then none else (match c with
          | none => if 0 ≤ i ∧ i < (es.length : Nat) then k (.ref j i.toNat 0) else none
          | some _ => if 0 ≤ i ∧ i < (n : Nat) then k (.ref j (a + i.toNat) 0) else none)
        | _ => none
      | _ => none)
    | some (.array n el) => (szOf P el).bind fun sz => if 0 ≤ i ∧ i < n then (match x with
      | .ref id idx off => k (.ref id idx (off + i.toNat * sz))
      | .pref cs => k (.pref (cs.drop (i.toNat * sz)))
      | _ => none) else none
    | _ => none

def pcall (C : CallK) (g : FuncId) (args : List PV) : Option PV := (C g args []).map fun r => fzK fuelFz r.2 r.1

/-! What is reached. -/
def addN (l : List Nat) (k : Nat) : List Nat := if l.contains k = true then l else l ++ [k]
def reachK : Nat → List KO → List Nat → Nat → List Nat
  | 0, _, l, _ => l
  | n + 1, A, l, i => match l[i]? with
    | none => l
    | some k => match A.getD k .dead with
      | .box _ _ cs => reachK n A ((tops.topss cs).foldl addN l) (i + 1)
      | _ => reachK n A l (i + 1)
def nodupB : List Nat → Bool
  | [] => true
  | k :: r => !(r.contains k) && nodupB r
def idxN (l : List Nat) (k : Nat) : Option Nat := match l with
  | [] => none
  | j :: r => if j = k then some 0 else (idxN r k).map (· + 1)

def promo1 (cs : List PV) (A : List KO) (o sz : Nat) : List PV × List KO := match cs[o]? with
  | some .nilsl => if sz = 0 then (cs.set o (.psl false []), A) else (cs.set o (whole A.length sz), A ++ [.made true sz []])
  | _ => (cs, A)
def promoV (offs : List (Nat × Nat)) (cs : List PV) (A : List KO) : List PV × List KO := match offs with
  | [] => (cs, A)
  | (o, sz) :: r => promoV r (promo1 cs A o sz).1 (promo1 cs A o sz).2
/-- Where nil stands for a frozen slice. -/
def plOffs (b : Bool) (l : List (Nat × Nat)) : List (Nat × Nat) := if b = true then l.map fun x => (x.1, 0) else l
def promoS (P : Program) (pl : List Nat) : List (Nat × TypeId) → List PV → List KO → List PV × List KO
  | [], env, A => (env, A)
  | (i, t) :: r, env, A => match env.getD i .undef with
    | .agg cs => let x := promoV (plOffs (pl.contains (2000000 + i)) (slOffs P 8 t 0)) cs A; promoS P pl r (env.set i (.agg x.1)) x.2
    | .nilsl => let x := promoV (plOffs (pl.contains (2000000 + i)) (slOffs P 8 t 0)) [.nilsl] A; promoS P pl r (env.set i (x.1.headD .nilsl)) x.2
    | _ => promoS P pl r env A
def promoB (P : Program) (pl : List Nat) : List Nat → List KO → List KO
  | [], A => A
  | k :: r, A => match A.getD k .dead with
    | .box w t cs => let x := promoV (plOffs (pl.contains (1000000 + t)) (slOffs P 8 t 0)) cs A; promoB P pl r (x.2.set k (.box w t x.1))
    | _ => promoB P pl r A
/-- Numbered anew: what is kept first, then what is reached. -/
def packKK (keep : List Nat) (env : List PV) (A : List KO) (k : List PV → List KO → Option β) : Option β :=
  forceNats (reachK 64 A ((tops.topss env).foldl addN keep) 0) fun l =>
  if nodupB l = true ∧ l.all (fun j => decide (j < A.length)) = true then forceV.forceVs (rnm.rnms (idxN l) env) fun env => forceA (l.map fun j => rnmO (idxN l) (A.getD j .dead)) fun A => k env A else none
def wkA : List Nat → List KO → List KO
  | [], A => A
  | j :: r, A => match A.getD j .dead with
    | .made _ sz es => wkA r (A.set j (.made false sz es))
    | _ => wkA r A
/-- It has another number. -/
def mvF (j m : Nat) : Nat → Option Nat := fun k => if k = j then some m else some k
def mvA : List Nat → List PV → List KO → List PV × List KO
  | [], env, A => (env, A)
  | j :: r, env, A => match A.getD j .dead with
    | .made w sz es => mvA r (rnm.rnms (mvF j A.length) env) ((A.map (rnmO (mvF j A.length))).set j .dead ++ [.made w sz es])
    | _ => mvA r env A
def headKK (P : Program) (n0 : Nat) (tys : List (Nat × TypeId)) (wk : List Nat × List Nat) (env : List PV) (A : List KO) (k : List PV → List KO → Option β) : Option β :=
  let x := promoS P wk.2 tys env A
  forceV.forceVs x.1 fun env => forceA x.2 fun A => forceA (promoB P wk.2 (List.range A.length) A) fun A =>
  let y := mvA wk.2 env A
  forceV.forceVs y.1 fun env => forceA y.2 fun A => packKK (List.range n0) env A fun e A => forceA (wkA wk.1 A) fun A => k e A

def asBox (w : Bool) (t : TypeId) (o : KO) (k : List PV → Option β) : Option β := match o with
  | .box w' t' cs => if (w = false ∨ w' = w) ∧ t' = t then k cs else none
  | _ => none
def asMade (w : Bool) (sz : Nat) (o : KO) (k : List (List PV) → Option β) : Option β := match o with
  | .made w' sz' es => if (w = false ∨ w' = w) ∧ sz' = sz then k es else none
  | _ => none
def asGone (o : KO) (k : Option β) : Option β := match o with
  | .box .. => none
  | _ => k
def asObj (s : OSk) (o : KO) (k : KO → Option β) : Option β :=
  match s with
  | .dead => asGone o (k .dead)
  | .box w t sk => asBox w t o fun cs => asSk.asSks sk cs fun cs => k (.box w t cs)
  | .made w sz => asMade w sz o fun es => k (.made w sz es)
def asOCons (l : List KO) (k : KO → List KO → Option β) : Option β := match l with
  | o :: r => k o r
  | [] => none
def asONil (l : List KO) (k : Option β) : Option β := match l with
  | [] => k
  | _ => none
def asObjs (s : List OSk) (l : List KO) (k : List KO → Option β) : Option β :=
  match s with
  | [] => asONil l (k [])
  | s :: r => asOCons l fun o l => asObj s o fun o => asObjs r l fun l => k (o :: l)
def asEnv (sk : List (Nat × Sk)) (m : List Nat) (e : List PV) : List Nat → (List PV → Option β) → Option β
  | [], k => k []
  | i :: r, k => match (if m.contains i = true then sk.find? (fun p => p.1 == i) else none) with
    | some (_, s) => asSk s (e.getD i .undef) fun v => asEnv sk m e r fun vs => k (v :: vs)
    | none => asEnv sk m e r fun vs => k (.undef :: vs)

/-! Calls. -/
def backN (l : List Nat) (n : Nat) : Nat → Option Nat := fun i => if i < l.length then l[i]? else some (n + (i - l.length))
def isBox : KO → Bool
  | .box .. => true
  | _ => false
def isDead : KO → Bool
  | .dead => true
  | _ => false
def liveKK (kc : KCfg) (C : CallK) (g : FuncId) (args : List PV) (env : List PV) (A : List KO) (k : PV → List PV → List KO → Option β) : Option β :=
  forceNats (reachK 64 A ((tops.topss args).foldl addN []) 0) fun l =>
  if nodupB l = true ∧ l.all (fun j => decide (j < A.length)) = true then
    forceV.forceVs (rnm.rnms (idxN l) args) fun args => forceA (l.map fun j => rnmO (idxN l) (A.getD j .dead)) fun A0 =>
    (C g args A0).bind fun r => asSk (kc.lsk g).1 r.1 fun v => asObjs (kc.lsk g).2 r.2 fun A' =>
    if l.length ≤ A'.length then
      let b := backN l A.length
      let gone := l.filter fun j => match idxN l j with | some i => isDead (A'.getD i .dead) | none => true
      forceV (rnm b v) fun v => forceV.forceVs (rnm.rnms (killL gone) env) fun env =>
      forceA ((List.range A.length).map (fun j => match idxN l j with
        | some i => rnmO b (A'.getD i .dead)
        | none => rnmO (killL gone) (A.getD j .dead)) ++ (A'.drop l.length).map (rnmO b)) fun A => k v env A
    else none
  else none

def callKK (c : Cfg) (kc : KCfg) (C : CallK) (g : FuncId) (args : List PV) (ty : TypeId) (env : List PV) (A : List KO) (k : PV → List PV → List KO → Option β) : Option β :=
  if enters c.P g = true then
    match c.mode g with
    | .pure => forceV.forceVs (args.map (fzK fuelFz A)) fun fargs => (pcall C g fargs).bind fun v => asSk (skTy c.P ty) v fun v =>
        if (skTy c.P ty).scalar = true then k v env A
        else if PV.clean.cleans args = false then none
        else if c.strict = true then (if PV.lf.lfs args = true then k v env A else none)
        else (roK (tops.topss args) A).bind fun A => k v env A
    | .own => match kc.own g with
      | some (sz, h) => forceV.forceVs (args.map (fzK fuelFz A)) fun fargs => (h fargs).bind fun es => k (whole A.length sz) env (A ++ [.made true sz es])
      | none => none
    | .live => liveKK kc C g args env A k
    | .blind => none
  else none

/-- A part of a slice that was made is written. -/
def partKK (A : List KO) (d : PV) (sz : Nat) (k : Nat → List (List PV) → Nat → Nat → Option β) : Option β :=
  match d with
  | .lsl j sz' a n c => if sz' ≠ sz then none else match A.getD j .dead with
    | .made true sz'' es => if sz'' ≠ sz then none else (match c with
      | none => k j es 0 es.length
      | some _ => k j es a n)
    | _ => none
  | _ => none
def copyKK (P : Program) (A : List KO) (el : TypeId) (d s : PV) (k : Nat → List KO → Option β) : Option β :=
  (szOf P el).bind fun sz => rowsK A s fun src => if rowsPl sz src = false then none else
    partKK A d sz fun j es a n => k (Nat.min src.length n) (A.set j (.made true sz (es.take a ++ src.take n ++ es.drop (a + (src.take n).length))))
def clearKK (P : Program) (A : List KO) (el : TypeId) (d : PV) (k : List KO → Option β) : Option β :=
  (szOf P el).bind fun sz => (zeroOf P el).bind fun z => if z.known = false ∨ z.cells.length ≠ sz ∨ z.cells.all PV.plain = false then none else
    partKK A d sz fun j es a n => k (A.set j (.made true sz (es.take a ++ List.replicate n z.cells ++ es.drop (a + n))))
def bltKK (P : Program) (b : Builtin) (ts : List TypeId) (args : List PV) (ty : TypeId) (env : List PV) (A : List KO) (k : PV → List PV → List KO → Option β) : Option β :=
  match b, ts, args with
  | .len, t :: _, x :: _ => match P.underlying t with
    | some .string => (match x with
      | .str s => k (.int .i64 (s.size : Nat)) env A
      | _ => none)
    | some (.slice _) => if isStr x = true then none else lenKK A x fun n => k (.int .i64 (n : Nat)) env A
    | _ => none
  | .max, _, x :: r => if x.flat = true ∧ r.all PV.flat = true then (foldv max2v x r).bind fun v => asK (P.underlying ty) v fun v => k v env A else none
  | .min, _, x :: r => if x.flat = true ∧ r.all PV.flat = true then (foldv min2v x r).bind fun v => asK (P.underlying ty) v fun v => k v env A else none
  | .append, [t, u], [s, x] => match P.underlying t, P.underlying u with
    | some (.slice el), some (.slice _) => if isStr x = true then none else appKK P el s x env A k
    | some (.slice el), some .string => if isStr x = true then appKK P el s x env A k else none
    | _, _ => none
  | .copy, [t, u], [d, s] => match P.underlying t, P.underlying u with
    | some (.slice el), some (.slice _) => copyKK P A el d s fun n A => k (.int .i64 (n : Nat)) env A
    | _, _ => none
  | .clear, [t], [d] => match P.underlying t with
    | some (.slice el) => clearKK P A el d fun A => k (.tuple []) env A
    | _ => none
  | _, _, _ => none

/-- One operation, what follows at hand. -/
def opKK (c : Cfg) (kc : KCfg) (C : CallK) (env : List PV) (A : List KO) (o : Oper) (k : PV → List PV → List KO → Option β) : Option β :=
  let P := c.P
  match o.op with
  | .move x | .assign x => k (opd env x) env A
  | .pick cd a b => match opd env cd with
    | .bool t => if t = true then k (opd env a) env A else k (opd env b) env A
    | _ => none
  | .alloc el => (zeroOf P el).bind fun z => if z.known = true ∧ z.cells.length ≠ 0 then k (.ref A.length 0 0) env (A ++ [.box true el z.cells]) else none
  | .box el x => if (opd env x).known = true ∧ (opd env x).cells.length ≠ 0 then k (.ref A.length 0 0) env (A ++ [.box true el (opd env x).cells]) else none
  | .build t ps => (buildv P t (ps.toList.map fun (i, x) => (i, opd env x))).bind fun v => forceV v fun v => k v env A
  | .buildSlice t n ps => match P.underlying t with
    | some (.slice el) => (szOf P el).bind fun sz => (zeroOf P el).bind fun z =>
      if sz ≠ 0 ∧ z.known = true ∧ z.cells.length = sz ∧ n * sz ≤ 16777216 then
        (setAll (List.replicate n z.cells) sz (ps.toList.map fun (i, x) => (i, opd env x))).bind fun es => if rowsPl sz es = true then k (whole A.length sz) env (A ++ [.made true sz es]) else none
      else none
    | _ => none
  | .load t a => if calmL c a = true then (loadcv P t (opd env a)).bind fun v => forceV v fun v => k v env A else loadKK P A t (opd env a) fun v => forceV v fun v => k v env A
  | .store t a x => storeKK P A t (opd env a) (opd env x) fun A => k (.tuple []) env A
  | .nilCheck x => (nilv (opd env x)).bind fun v => k v env A
  | .binOp op t x y _ => (binK P op t (opd env x) (opd env y)).bind fun v => asK (P.underlying o.type) v fun v => k v env A
  | .unOp op _ x => (unv op (opd env x)).bind fun v => asK (P.underlying o.type) v fun v => k v env A
  | .convert s d x => convKK P A s d (opd env x) fun v => asK (P.underlying d) v fun v => k v env A
  | .makeFunc (.func f) fs cs => if fs.size = 0 then k (.func f (cs.toList.map (opd env))) env A else none
  | .makeSlice t l cp => match P.underlying t, opd env l, opd env cp with
    | some (.slice el), .int .i64 l, .int .i64 cp => (szOf P el).bind fun sz => (byOf P el).bind fun by_ => (zeroOf P el).bind fun z =>
      if sz ≠ 0 ∧ z.known = true ∧ z.cells.length = sz ∧ z.cells.all PV.plain = true then
        (if 0 ≤ l ∧ l = cp ∧ by_ * cp ≤ 140737488355328 ∧ cp ≤ 9223372036854775807 then k (whole A.length sz) env (A ++ [.made true sz (List.replicate l.toNat z.cells)]) else none)
      else none
    | _, _, _ => none
  | .slice t x lo hi mx => cutKK P A t (opd env x) (lo.map (opd env)) (hi.map (opd env)) (mx.map (opd env)) fun v => k v env A
  | .fieldAddr s x f => (fieldAddrv P s (opd env x) f).bind fun v => k v env A
  | .field s x f => (fieldv P s (opd env x) f).bind fun v => forceV v fun v => k v env A
  | .indexAddr t x i => idxKK P A t (opd env x) (opd env i) fun v => k v env A
  | .index t x i => (indexv P t (opd env x) (opd env i)).bind fun v => asK (P.underlying o.type) v fun v => k v env A
  | .extract x i => (tupv (opd env x) i).bind fun v => forceV v fun v => k v env A
  | .call cl => match cl.callee with
    | .builtin b => bltKK P b cl.argTypes.toList (cl.args.toList.map (opd env)) o.type env A k
    | .value f => (fnv (opd env f)).bind fun q => callKK c kc C q.1 (cl.args.toList.map (opd env) ++ q.2) o.type env A k
    | _ => none
  | _ => none

def opsKK (c : Cfg) (kc : KCfg) (C : CallK) (all : List Oper) : List Oper → List PV → List KO → (List PV → List KO → Option β) → Option β
  | [], env, A, k => k env A
  | o :: rest, env, A, k => match o.guard with
    | none => opKK c kc C env A o fun v env A => putK env o.dst v fun e => opsKK c kc C all rest e A k
    | some (g, w) => match (all[g]?).bind (·.dst) with
      | none => none
      | some d => match env.getD d .undef with
        | .bool b => if b = true
          then setL env d (.bool true) fun env => (if w = true then opKK c kc C env A o fun v env A => putK env o.dst v fun e => opsKK c kc C all rest e A k
            else putK env o.dst (.tuple []) fun e => opsKK c kc C all rest e A k)
          else setL env d (.bool false) fun env => (if w = false then opKK c kc C env A o fun v env A => putK env o.dst v fun e => opsKK c kc C all rest e A k
            else putK env o.dst (.tuple []) fun e => opsKK c kc C all rest e A k)
        | .tuple _ => putK env o.dst (.tuple []) fun e => opsKK c kc C all rest e A k
        | _ => none

def closeKK : List Nat → List PV → List KO → (List PV → List KO → Option β) → Option β
  | [], e, A, k => k e A
  | t :: r, e, A, k => if (e.getD t .undef).clean = true then (roK (tops (e.getD t .undef)) A).bind fun A' => forceV (fzK fuelFz A (e.getD t .undef)) fun v => setL e t v fun e => closeKK r e A' k else none
def preKK (c : Cfg) (f : FuncId) (id : Nat) (env : List PV) (A : List KO) (k : Bool → List PV → List KO → Option β) : Option β :=
  match c.close f id with
  | none => k false env A
  | some (b, zs) => closeKK zs env A (k b)

def evalKK (c : Cfg) (kc : KCfg) (C : CallK) (L : LoopK) (f : FuncId) (n0 : Nat) : Code → List PV → List KO → (Ex → List PV → List KO → Option β) → Option β
  | .skip, env, A, k | .label _, env, A, k => k .normal env A
  | .region id ops draw, env, A, k => preKK c f id env A fun b env A =>
    if draw = true then
      (if (drawOkK { c.at_ f with calm := b, calmA := calmOf c f id ops.toList } ops.toList && edgesOk ops.toList) = true then opsKK { c.at_ f with strict := true, calm := b, calmA := calmOf c f id ops.toList } kc C ops.toList ops.toList env A (k .normal) else none)
    else opsKK (c.at_ f) kc C ops.toList ops.toList env A (k .normal)
  | .seq a b, env, A, k => evalKK c kc C L f n0 a env A fun x e s => match x with
    | .normal => evalKK c kc C L f n0 b e s k
    | x => k x e s
  | .cond cd a b, env, A, k => match opd env cd with
    | .bool t => if t = true then setB env cd true fun e => evalKK c kc C L f n0 a e A k else setB env cd false fun e => evalKK c kc C L f n0 b e A k
    | _ => none
  | .block id cd, env, A, k => evalKK c kc C L f n0 cd env A fun x e s => match x with
    | .exit i => if i = id then k .normal e s else k (.exit i) e s
    | x => k x e s
  | .loop cd, env, A, k => match c.mask f (firstRegion cd) with
    | some (h, l) => headKK c.P n0 (kc.hty f (firstRegion cd)) (kc.hwk f (firstRegion cd)) (keepN env.length h env) A fun e0 A0 => (L f cd n0 e0 A0).bind fun r => onEx r.1
        (fun i => if kc.noex f (firstRegion cd) = false then asEnv (kc.osk f (firstRegion cd)).1 (l.1.map (·.1)) r.2.1 (List.range env.length) fun e => asObjs (kc.osk f (firstRegion cd)).2 r.2.2 fun A => k (.exit i) e A else none)
        (match l.2 with
          | [] => none
          | _ :: _ => asEnv (kc.rsk f (firstRegion cd)).1 (l.2.map (·.1)) r.2.1 (List.range env.length) fun e => asObjs (kc.rsk f (firstRegion cd)).2 r.2.2 fun A => k .ret e A)
    | none => none
  | .exit id, env, A, k => k (.exit id) env A
  | .ret, env, A, k => k .ret env A
  | _, _, _, _ => none

def resKK (P : Program) (A : List KO) (e : List PV) : List ResultVar → (List PV → Option β) → Option β
  | [], k => k []
  | .tmp t :: r, k => resKK P A e r fun vs => k (e.getD t .undef :: vs)
  | .cell a t :: r, k => loadKK P A t (e.getD a .undef) fun v => forceV v fun v => resKK P A e r fun vs => k (v :: vs)
end

def retKK (P : Program) (fn : Func) (n0 : Nat) (x : Ex) (e : List PV) (A : List KO) : Option (PV × List KO) :=
  match x with
  | .exit _ => none
  | _ => resKK P A e fn.results.toList fun vs => packKK (List.range n0) [tuplev vs] A fun e A => asCons e fun v _ => some (v, A)

def stepKK (c : Cfg) (kc : KCfg) (C : CallK) (L : LoopK) : CallK := fun f args A =>
  match c.P.funcs[f]? with
  | some fn => match fn.body with
    | some cd => evalKK c kc C L f A.length cd (enterv fn args) A (retKK c.P fn A.length)
    | none => none
  | none => none

def goKK (c : Cfg) (kc : KCfg) (L : LoopK) (f : FuncId) (cd : Code) (n0 n : Nat) (x : Ex) (e : List PV) (A : List KO) : Option (Ex × List PV × List KO) :=
  match x with
  | .normal => headKK c.P n0 (kc.hty f (firstRegion cd)) (kc.hwk f (firstRegion cd)) (headM c f cd n e) A fun e A => L f cd n0 e A
  | x => packKK (List.range n0) (outM c f cd x n e) A fun e A => some (x, e, A)

def stepLKK (c : Cfg) (kc : KCfg) (C : CallK) (L : LoopK) : LoopK := fun f cd n0 env A =>
  evalKK c kc C L f n0 cd env A (goKK c kc L f cd n0 env.length)

mutual
def callNK (c : Cfg) (kc : KCfg) : Nat → CallK
  | 0 => fun _ _ _ => none
  | n + 1 => stepKK c kc (callNK c kc n) (loopNK c kc n)
def loopNK (c : Cfg) (kc : KCfg) : Nat → LoopK
  | 0 => fun _ _ _ _ _ => none
  | n + 1 => stepLKK c kc (callNK c kc n) (loopNK c kc n)
end
end Go.Pvm
