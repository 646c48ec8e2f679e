import Derived.Test.YtceokplopachgaaP4
/- Part of the proof: an evaluator over values alone: objects that a function has are few and numbered by it; slices are lists. -/
set_option linter.unusedSimpArgs false
set_option linter.unusedVariables false
namespace Go.Pvm
inductive KO where
 | dead
 | box (w : Bool) (t : TypeId) (cells : List PV)
 | made (w : Bool) (sz : Nat) (es : List (List PV))
 deriving Inhabited
def whole (k sz : Nat) : PV := .lsl k sz 0 0 none
def zdt (k sz a n : Nat) : PV := .lsl k sz a n (some 0)
def rnm (f : Nat → Option Nat) : PV → PV
 | .ref k i o => match f k with
   | some k' => .ref k' i o
   | none => .undef
 | .lsl k sz a n c => match f k with
   | some k' => .lsl k' sz a n c
   | none => .undef
 | .mref _ => .undef
 | .agg cs => .agg (rnms cs)
 | .tuple cs => .tuple (rnms cs)
 | .func g cs => .func g (rnms cs)
 | v => v
where rnms : List PV → List PV
 | [] => []
 | v :: r => rnm f v :: rnms r
def uc (f : Nat → Option Nat) : KO → KO
 | .box w t cs => .box w t (rnm.rnms f cs)
 | o => o
def k7 (l : List Nat) : Nat → Option Nat := fun j => if l.contains j = true then none else some j
def fzK : Nat → List KO → PV → PV
 | 0,_,_ => .undef
 | n + 1,A,v => match v with
   | .ref k i off => match A.getD k .dead with
     | .box _ _ cs => if i = 0 then .pref ((cs.drop off).map (fzK n A)) else .undef
     | .made _ _ es => match n,es[i]? with
       | _ + 1,some e => .pref (e.drop off)
       | _,_ => .undef
     | .dead => .undef
   | .lsl k _ a len c => match A.getD k .dead with
     | .made _ _ es => match n,c with
       | 0,_ => .undef
       | _ + 1,none => .psl false es
       | _ + 1,some _ => .psl false ((es.drop a).take len)
     | _ => .undef
   | .mref _ => .undef
   | .nilsl => .psl false []
   | .agg cs => .agg (cs.map (fzK n A))
   | .tuple cs => .tuple (cs.map (fzK n A))
   | .func f cs => .func f (cs.map (fzK n A))
   | v => v
def PV.clean : PV → Bool
 | .undef => false
 | .agg cs | .tuple cs | .func _ cs => cleans cs
 | _ => true
where cleans : List PV → Bool
 | [] => true
 | v :: r => v.clean && cleans r
def roK : List Nat → List KO → Option (List KO)
 | [],A => some A
 | k :: r,A => match A.getD k .dead with
   | .made _ sz es => roK r (A.set k (.made false sz es))
   | .box _ t cs => if cs.all PV.plain = true then roK r (A.set k (.box false t cs)) else none
   | .dead => none
inductive Sk where
 | any | drop | bool | str | psl
 | int (κ : IntKind)
 | flt (κ : FloatKind)
 | ref (k i o : Nat)
 | whole (k sz : Nat)
 | view (k sz : Nat)
 | wv (k sz : Nat)
 | agg (l : List Sk)
 | tup (l : List Sk)
 | fn (f : FuncId) (l : List Sk)
 | pref (l : List Sk)
 deriving Inhabited
section
variable {β : Type}
def zjv (κ : FloatKind) (v : PV) (k : Nat → Option β) : Option β := match v with
 | .float κ' n => if κ' = κ then k n else none
 | _ => none
def zty (v : PV) (k : List (List PV) → Option β) : Option β := match v with
 | .psl _ es => k es
 | .nilsl => k []
 | _ => none
def asAgg (v : PV) (k : List PV → Option β) : Option β := match v with
 | .agg cs => k cs
 | _ => none
def zlj (v : PV) (k : List PV → Option β) : Option β := match v with
 | .tuple cs => k cs
 | _ => none
def jg (l : List PV) (k : PV → List PV → Option β) : Option β := match l with
 | c :: r => k c r
 | [] => none
def qz (l : List PV) (k : Option β) : Option β := match l with
 | [] => k
 | _ => none
def zoq (a b c : Nat) (v : PV) (k : Option β) : Option β := match v with
 | .ref a' b' c' => if a' = a ∧ b' = b ∧ c' = c then k else none
 | _ => none
def zam (a b : Nat) (v : PV) (k : Option β) : Option β := match v with
 | .lsl a' b' 0 0 none => if a' = a ∧ b' = b then k else none
 | _ => none
def zjr (a b : Nat) (v : PV) (k : Nat → Nat → Option β) : Option β := match v with
 | .lsl a' b' x n (some 0) => if a' = a ∧ b' = b then k x n else none
 | _ => none
def zvs (a b : Nat) (v : PV) (k : Option β) (k' : Nat → Nat → Option β) : Option β := match v with
 | .lsl a' b' 0 0 none => if a' = a ∧ b' = b then k else none
 | .lsl a' b' x n (some 0) => if a' = a ∧ b' = b then k' x n else none
 | _ => none
def zx5 (f : FuncId) (v : PV) (k : List PV → Option β) : Option β := match v with
 | .func g cs => if g = f then k cs else none
 | _ => none
def zm1 (v : PV) (k : List PV → Option β) : Option β := match v with
 | .pref cs => k cs
 | _ => none
def asSk (s : Sk) (v : PV) (k : PV → Option β) : Option β :=
 match s with
 | .any => k v
 | .drop => k .undef
 | .bool => asBool v fun b => k (.bool b)
 | .str => ua v fun b => k (.str b)
 | .psl => zty v fun es => k (.psl false es)
 | .int κ => asInt κ v fun n => k (.int κ n)
 | .flt κ => zjv κ v fun n => k (.float κ n)
 | .ref a b c => zoq a b c v (k (.ref a b c))
 | .whole a b => zam a b v (k (Pvm.whole a b))
 | .agg l => asAgg v fun cs => asSks l cs fun cs => k (.agg cs)
 | .tup l => zlj v fun cs => asSks l cs fun cs => k (.tuple cs)
 | .view a b => zjr a b v fun x n => k (zdt a b x n)
 | .wv a b => zvs a b v (k (Pvm.whole a b)) fun x n => k (zdt a b x n)
 | .fn f l => zx5 f v fun cs => asSks l cs fun cs => k (.func f cs)
 | .pref l => zm1 v fun cs => asSks l cs fun cs => k (.pref cs)
where asSks (l : List Sk) (cs : List PV) (k : List PV → Option β) : Option β :=
 match l with
 | [] => qz cs (k [])
 | s :: r => jg cs fun c cs => asSk s c fun c => asSks r cs fun cs => k (c :: cs)
end
def zbn (P : Program) : Nat → TypeId → List Sk
 | 0,_ => [.any]
 | n + 1,t => match P.underlying t with
   | some (.int κ) => [.int κ]
   | some .bool => [.bool]
   | some .string => [.str]
   | some (.float κ) => [.flt κ]
   | some (.slice _) => [.psl]
   | some (.struct fs) => fs.toList.flatMap fun f => zbn P n f.type
   | some (.array m e) => (List.replicate m (zbn P n e)).flatten
   | _ => [.any]
def zym (P : Program) (t : TypeId) : Sk :=
 match P.underlying t with
 | some (.struct _) | some (.array _ _) => .agg (zbn P 8 t)
 | some (.tuple ts) => .tup (ts.toList.map fun t => match P.underlying t with
   | some (.struct _) | some (.array _ _) => .agg (zbn P 8 t)
   | _ => (zbn P 8 t).headD .any)
 | _ => (zbn P 8 t).headD .any
def Sk.scalar : Sk → Bool
 | .bool | .str | .int _ | .flt _ => true
 | .agg l | .tup l => scalars l
 | _ => false
where scalars : List Sk → Bool
 | [] => true
 | s :: r => s.scalar && scalars r
def kq (P : Program) : Nat → TypeId → Nat → List (Nat × Nat)
 | 0,_,_ => []
 | n + 1,t,o => match P.underlying t with
   | some (.slice el) => [(o,(qk P el).getD 0)]
   | some (.struct fs) => fs.toList.flatMap fun f => kq P n f.type (o + f.offset)
   | some (.array m e) => (List.range m).flatMap fun i => kq P n e (o + i * (qk P e).getD 0)
   | _ => []
inductive OSk where
 | dead
 | box (w : Bool) (t : TypeId) (cells : List Sk)
 | made (w : Bool) (sz : Nat)
 deriving Inhabited
abbrev xj := FuncId → List PV → List KO → Option (PV × List KO)
abbrev ju := FuncId → Code → Nat → List PV → List KO → Option (Ex × List PV × List KO)
def zsy (l : List Nat) (e : List PV) : List Nat := l.map fun i => match e.getD i .undef with | .func g _ => g | _ => 0
structure KCfg where
 own : FuncId → Option (Nat × (List PV → Option (List (List PV))))
 hty : FuncId → Nat → List (Nat × TypeId)
 hwk : FuncId → Nat → Nat → List Nat × List Nat
 fsl : FuncId → Nat → List Nat := fun _ _ => []
 osk : FuncId → Nat → Nat → List Nat → List (Nat × Sk) × List OSk
 rsk : FuncId → Nat → Nat → List Nat → List (Nat × Sk) × List OSk
 lsk : FuncId → Sk × List OSk
 noex : FuncId → Nat → Bool
 told : FuncId → Option Word := fun _ => none
 nret : FuncId → List Nat := fun _ => []
 pur : FuncId → Option (List PV → Option (List (List PV))) := fun _ => none
section
variable {β : Type}
def forceV (v : PV) (k : PV → Option β) : Option β :=
 match v with
 | .undef => k .undef
 | .bool b => k (.bool b)
 | .int κ n => k (.int κ n)
 | .float κ n => k (.float κ n)
 | .str s => k (.str s)
 | .nilptr => k .nilptr
 | .ref a b c => k (.ref a b c)
 | .pref cs => k (.pref cs)
 | .nilsl => k .nilsl
 | .psl b es => k (.psl b es)
 | .lsl a b c d e => k (.lsl a b c d e)
 | .nilmap => k .nilmap
 | .mref a => k (.mref a)
 | .nilfunc => k .nilfunc
 | .func f cs => forceVs cs fun cs => k (.func f cs)
 | .niliface => k .niliface
 | .agg cs => forceVs cs fun cs => k (.agg cs)
 | .tuple cs => forceVs cs fun cs => k (.tuple cs)
where forceVs (l : List PV) (k : List PV → Option β) : Option β :=
 match l with
 | [] => k []
 | v :: r => forceV v fun v => forceVs r fun r => k (v :: r)
def zqv (o : KO) (k : KO → Option β) : Option β :=
 match o with
 | .dead => k .dead
 | .box w t cs => forceV.forceVs cs fun cs => k (.box w t cs)
 | .made w sz es => k (.made w sz es)
def w5 (l : List KO) (k : List KO → Option β) : Option β :=
 match l with
 | [] => k []
 | o :: r => zqv o fun o => w5 r fun r => k (o :: r)
def vq (l : List Nat) (k : List Nat → Option β) : Option β :=
 match l with
 | [] => k []
 | o :: r => (match o with | 0 => vq r fun r => k (0 :: r) | n + 1 => vq r fun r => k ((n + 1) :: r))
mutual
theorem x9 : ∀ (v : PV) (k : PV → Option β),forceV v k = k v
 | .undef,_ | .bool _,_ | .int ..,_ | .float ..,_ | .str _,_ | .nilptr,_ | .ref ..,_ | .pref _,_ | .nilsl,_ | .psl ..,_ | .lsl ..,_ | .nilmap,_ | .mref _,_ | .nilfunc,_ | .niliface,_ => rfl
 | .func f cs,k => forceVs_eq cs _
 | .agg cs,k => forceVs_eq cs _
 | .tuple cs,k => forceVs_eq cs _
theorem forceVs_eq : ∀ (l : List PV) (k : List PV → Option β),forceV.forceVs l k = k l
 | [],_ => rfl
 | v :: r,k => by
   show forceV v (fun v => forceV.forceVs r fun r => k (v :: r)) = _
   rw [x9 v,forceVs_eq r]
end
theorem zqu (o : KO) (k : KO → Option β) : zqv o k = k o := by cases o <;> simp only [zqv,forceVs_eq]
theorem y5 : ∀ (l : List KO) (k : List KO → Option β),w5 l k = k l
 | [],_ => rfl
 | o :: r,k => by simp only [w5,zqu,y5 r]
theorem jh : ∀ (l : List Nat) (k : List Nat → Option β),vq l k = k l
 | [],_ => rfl
 | 0 :: r,k => by simp only [vq,jh r]
 | (n + 1) :: r,k => by simp only [vq,jh r]
def zio (A : List KO) (x : PV) (k : List (List PV) → Option β) : Option β :=
 match x with
 | .nilsl => k []
 | .psl _ es => k es
 | .str s => k (s.data.toList.map fun b => [.int .u8 b.toNat])
 | .lsl j _ a n c => match A.getD j .dead with
   | .made _ _ es => match c with
     | none => k es
     | some _ => k ((es.drop a).take n)
   | _ => none
 | _ => none
def zny (A : List KO) (x : PV) (k : Nat → Option β) : Option β :=
 match x with
 | .nilsl => k 0
 | .psl _ es => k es.length
 | .str s => k s.size
 | .lsl j _ _ n c => match c with
   | some _ => k n
   | none => match A.getD j .dead with
     | .made _ _ es => k es.length
     | _ => none
 | _ => none
def zez (P : Program) (A : List KO) (t : TypeId) (a : PV) (k : PV → Option β) : Option β :=
 match a with
 | .pref cs => (xl P t cs 0).bind k
 | .ref j i off => match A.getD j .dead with
   | .box _ _ cs => if i = 0 then (xl P t cs off).bind k else none
   | .made _ _ es => (es[i]?).bind fun e => (xl P t e off).bind fun v => asSk (zym P t) v k
   | .dead => none
 | _ => none
def zcx (P : Program) (A : List KO) (t : TypeId) (a v : PV) (k : List KO → Option β) : Option β :=
 match a with
 | .ref j i off => (qk P t).bind fun n => match A.getD j .dead with
   | .box true tt cs => if i = 0 ∧ v.cells.length = n ∧ off + n ≤ cs.length ∧ v.cells.all PV.one = true then w5 (A.set j (.box true tt (over cs off v.cells))) k else none
   | .made true sz es => if v.cells.length = n ∧ off + n ≤ sz ∧ v.cells.all PV.plain = true then
     (if i < es.length then k (A.set j (.made true sz (es.set i (if off = 0 ∧ n = sz then v.cells else over (es.getD i []) off v.cells)))) else none) else none
   | _ => none
 | _ => none
def vm (l : List Nat) (env : List PV) (A : List KO) (k : List PV → List KO → Option β) : Option β :=
 forceV.forceVs (rnm.rnms (k7 l) env) fun env => w5 (A.map (uc (k7 l))) fun A => k env A
def zjz (P : Program) (el : TypeId) (s x : PV) (env : List PV) (A : List KO) (k : PV → List PV → List KO → Option β) : Option β :=
 (qk P el).bind fun sz => (zmy P el).bind fun by_ => (jc P el).bind fun z => zio A x fun new =>
 if sz = 0 ∨ by_ = 0 ∨ z.known = false ∨ z.cells.length ≠ sz then none else if zt sz new = false then none else
 match s with
 | .nilsl => if new.length * by_ ≤ 140737488355328 then k (whole A.length sz) env (A ++ [.made true sz new]) else none
 | .lsl j sz' 0 0 none => match A.getD j .dead with
   | .made true sz'' es => if sz'' = sz then
     (if (es.length + new.length) * by_ ≤ 140737488355328 then vm [j] env A fun env A => k (whole A.length sz) env (A.set j .dead ++ [.made true sz (es ++ new)]) else none)
     else none
   | _ => none
 | _ => none
def PV.flat : PV → Bool
 | .bool _ | .int .. | .float .. | .str _ | .nilptr | .nilsl | .nilmap | .nilfunc | .niliface => true
 | .agg cs => cs.all fun c => match c with | .bool _ | .int .. | .float .. | .str _ | .nilptr | .nilsl | .nilmap | .nilfunc | .niliface => true | _ => false
 | _ => false
def zzm (P : Program) (op : BinOp) (t : TypeId) (x y : PV) : Option PV :=
 if x.flat = true ∧ y.flat = true then j9 P op t x y
 else match x,y with
  | .ref a b c,.nilptr => j9 P op t (.ref a b c) .nilptr
  | .pref cs,.nilptr => j9 P op t (.pref cs) .nilptr
  | _,_ => none
def zgo (P : Program) (A : List KO) (s d : TypeId) (x : PV) (k : PV → Option β) : Option β :=
 match P.underlying s,P.underlying d with
 | some (.slice e),some .string => match P.underlying e with
   | some (.int .u8) => if zdy x = true then none else zio A x fun es => (bytesOf es).bind fun l => k (.str ⟨l.toArray⟩)
   | _ => none
 | _,_ => if x.flat = true then (ul P .empty s d x).bind k else none
def zoh (P : Program) (A : List KO) (t : TypeId) (x : PV) (lo hi mx : Option PV) (k : PV → Option β) : Option β :=
 if mx.isSome = true then none else
 match P.underlying t,x with
 | some .string,.str s => (zai P t (.str s) lo hi none).bind k
 | some (.slice el),.nilsl => (zai P t .nilsl lo hi none).bind k
 | some (.slice el),.psl _ es => (qk P el).bind fun sz => (xi hi es.length).bind fun h => (xi lo 0).bind fun l =>
   if (es.all fun e => e.length == sz) = true then (if l ≤ h ∧ h ≤ es.length then k (.psl false ((es.drop l).take (h - l))) else none) else none
 | some (.slice el),.lsl j sz' a n c => (qk P el).bind fun sz => if sz' ≠ sz then none else match A.getD j .dead with
   | .made _ sz'' es => if sz'' ≠ sz then none else (match c with
     | none => (xi hi es.length).bind fun h => (xi lo 0).bind fun l => if l ≤ h ∧ h ≤ es.length then k (zdt j sz l (h - l)) else none
     | some _ => (xi hi n).bind fun h => (xi lo 0).bind fun l => if l ≤ h ∧ h ≤ n then k (zdt j sz (a + l) (h - l)) else none)
   | _ => none
 | some (.array n el),.pref cs => (qk P el).bind fun sz => (xi hi n).bind fun h => (xi lo 0).bind fun l =>
   if l ≤ h ∧ h ≤ n ∧ n * sz ≤ cs.length then k (.psl false (rowsAt cs sz l (h - l))) else none
 | _,_ => none
def zdd (i : Int) (n : Nat) (k : Nat → Option β) : Nat → Option β
 | 0 => none
 | r + 1 => if i = ((n - (r + 1) : Nat) : Int) then k (n - (r + 1)) else zdd i n k r
theorem zbl {i : Int} {n : Nat} {k : Nat → Option β} {x : β} : ∀ {r : Nat},r ≤ n → zdd i n k r = some x → ∃ m,m < n ∧ i = (m : Nat) ∧ k m = some x
 | 0,_,h => by cases h
 | r + 1,hr,h => by
   unfold zdd at h
   split at h
   ·exact ⟨n - (r + 1),by omega,by assumption,h⟩
   ·exact zbl (by omega) h
def zn5 (P : Program) (A : List KO) (t : TypeId) (x i : PV) (k : PV → Option β) : Option β :=
 (uq i).bind fun i => match P.underlying t with
  | some (.slice el) => (qk P el).bind fun sz => (match x with
    | .psl _ es => if 0 ≤ i then (es[i.toNat]?).bind fun e => asSk.asSks (zbn P 8 el) e fun cs => if cs.length = sz then k (.pref cs) else none else none
    | .lsl j sz' a n c => if sz' ≠ sz then none else match A.getD j .dead with
      | .made _ sz'' es => if sz'' ≠ sz then none else (match c with
        | none => if 0 ≤ i ∧ i < (es.length : Nat) then k (.ref j i.toNat 0) else none
        | some _ => if 0 ≤ i ∧ i < (n : Nat) then k (.ref j (a + i.toNat) 0) else none)
      | _ => none
    | _ => none)
  | some (.array n el) => (qk P el).bind fun sz => zdd i n (fun m => match x with
    | .ref id idx off => k (.ref id idx (off + m * sz))
    | .pref cs => k (.pref (cs.drop (m * sz)))
    | _ => none) n
  | _ => none
def zc5 (P : Program) (t ty : TypeId) (x i : PV) (k : PV → Option β) : Option β :=
 match x with
 | .agg cs => match P.underlying t with
   | some (.array n el) => (uq i).bind fun i => (qk P el).bind fun sz => zdd i n (fun m => (xl P el cs (m * sz)).bind fun v => asK (P.underlying ty) v k) n
   | _ => none
 | x => (zck P t x i).bind fun v => asK (P.underlying ty) v k
def jm (C : xj) (g : FuncId) (args : List PV) : Option PV := (C g args []).map fun r => fzK zp r.2 r.1
def zrq (l : List Nat) (k : Nat) : List Nat := if l.contains k = true then l else l ++ [k]
def zb9 : Nat → List KO → List Nat → Nat → List Nat
 | 0,_,l,_ => l
 | n + 1,A,l,i => match l[i]? with
   | none => l
   | some k => match A.getD k .dead with
     | .box _ _ cs => zb9 n A ((tops.topss cs).foldl zrq l) (i + 1)
     | _ => zb9 n A l (i + 1)
def zce : List Nat → Bool
 | [] => true
 | k :: r => !(r.contains k) && zce r
def uw (l : List Nat) (k : Nat) : Option Nat := match l with
 | [] => none
 | j :: r => if j = k then some 0 else (uw r k).map (· + 1)
def wb (cs : List PV) (A : List KO) (o sz : Nat) : List PV × List KO := match cs[o]? with
 | some .nilsl => if sz = 0 then (cs.set o (.psl false []),A) else (cs.set o (whole A.length sz),A ++ [.made true sz []])
 | _ => (cs,A)
def xq (offs : List (Nat × Nat)) (cs : List PV) (A : List KO) : List PV × List KO := match offs with
 | [] => (cs,A)
 | (o,sz) :: r => xq r (wb cs A o sz).1 (wb cs A o sz).2
def vk (b : Bool) (l : List (Nat × Nat)) : List (Nat × Nat) := if b = true then l.map fun x => (x.1,0) else l
def wq (P : Program) (pl : List Nat) : List (Nat × TypeId) → List PV → List KO → List PV × List KO
 | [],env,A => (env,A)
 | (i,t) :: r,env,A => match env.getD i .undef with
   | .agg cs => let x := xq (vk (pl.contains (2000000 + i)) (kq P 8 t 0)) cs A; wq P pl r (env.set i (.agg x.1)) x.2
   | .nilsl => let x := xq (vk (pl.contains (2000000 + i)) (kq P 8 t 0)) [.nilsl] A; wq P pl r (env.set i (x.1.headD .nilsl)) x.2
   | _ => wq P pl r env A
def zgc (P : Program) (pl : List Nat) : List Nat → List KO → List KO
 | [],A => A
 | k :: r,A => match A.getD k .dead with
   | .box w t cs => let x := xq (vk (pl.contains (1000000 + t)) (kq P 8 t 0)) cs A; zgc P pl r (x.2.set k (.box w t x.1))
   | _ => zgc P pl r A
def zcd (keep : List Nat) (env : List PV) (A : List KO) (k : List PV → List KO → Option β) : Option β :=
 vq (zb9 64 A ((tops.topss env).foldl zrq keep) 0) fun l =>
 if zce l = true ∧ l.all (fun j => decide (j < A.length)) = true then forceV.forceVs (rnm.rnms (uw l) env) fun env => w5 (l.map fun j => uc (uw l) (A.getD j .dead)) fun A => k env A else none
def wkA : List Nat → List KO → List KO
 | [],A => A
 | j :: r,A => match A.getD j .dead with
   | .made _ sz es => wkA r (A.set j (.made false sz es))
   | _ => wkA r A
def mvF (j m : Nat) : Nat → Option Nat := fun k => if k = j then some m else some k
def mvA : List Nat → List PV → List KO → List PV × List KO
 | [],env,A => (env,A)
 | j :: r,env,A => match A.getD j .dead with
   | .made w sz es => mvA r (rnm.rnms (mvF j A.length) env) ((A.map (uc (mvF j A.length))).set j .dead ++ [.made w sz es])
   | _ => mvA r env A
def zcl (P : Program) (n0 : Nat) (tys : List (Nat × TypeId)) (wk : List Nat × List Nat) (env : List PV) (A : List KO) (k : List PV → List KO → Option β) : Option β :=
 let x := wq P wk.2 tys env A
 forceV.forceVs x.1 fun env => w5 x.2 fun A => w5 (zgc P wk.2 (List.range A.length) A) fun A =>
 let y := mvA wk.2 env A
 forceV.forceVs y.1 fun env => w5 y.2 fun A => zcd (List.range n0) env A fun e A => w5 (wkA wk.1 A) fun A => k e A
def zjw (w : Bool) (t : TypeId) (o : KO) (k : List PV → Option β) : Option β := match o with
 | .box w' t' cs => if (w = false ∨ w' = w) ∧ t' = t then k cs else none
 | _ => none
def zcu (w : Bool) (sz : Nat) (o : KO) (k : List (List PV) → Option β) : Option β := match o with
 | .made w' sz' es => if (w = false ∨ w' = w) ∧ sz' = sz then k es else none
 | _ => none
def zgu (o : KO) (k : Option β) : Option β := match o with
 | .box .. => none
 | _ => k
def zor (s : OSk) (o : KO) (k : KO → Option β) : Option β :=
 match s with
 | .dead => zgu o (k .dead)
 | .box w t sk => zjw w t o fun cs => asSk.asSks sk cs fun cs => k (.box w t cs)
 | .made w sz => zcu w sz o fun es => k (.made w sz es)
def zan (l : List KO) (k : KO → List KO → Option β) : Option β := match l with
 | o :: r => k o r
 | [] => none
def qp (l : List KO) (k : Option β) : Option β := match l with
 | [] => k
 | _ => none
def wh (s : List OSk) (l : List KO) (k : List KO → Option β) : Option β :=
 match s with
 | [] => qp l (k [])
 | s :: r => zan l fun o l => zor s o fun o => wh r l fun l => k (o :: l)
def zdz (sk : List (Nat × Sk)) (m : List Nat) (e : List PV) : List Nat → (List PV → Option β) → Option β
 | [],k => k []
 | i :: r,k => match (if m.contains i = true then sk.find? (fun p => p.1 == i) else none) with
   | some (_,s) => asSk s (e.getD i .undef) fun v => zdz sk m e r fun vs => k (v :: vs)
   | none => zdz sk m e r fun vs => k (.undef :: vs)
def zx2 (l : List Nat) (n : Nat) : Nat → Option Nat := fun i => if i < l.length then l[i]? else some (n + (i - l.length))
def zbw : KO → Bool
 | .box .. => true
 | _ => false
def isDead : KO → Bool
 | .dead => true
 | _ => false
def zdi (kc : KCfg) (C : xj) (g : FuncId) (args : List PV) (env : List PV) (A : List KO) (k : PV → List PV → List KO → Option β) : Option β :=
 vq (zb9 64 A ((tops.topss args).foldl zrq []) 0) fun l =>
 if zce l = true ∧ l.all (fun j => decide (j < A.length)) = true then
  forceV.forceVs (rnm.rnms (uw l) args) fun args => w5 (l.map fun j => uc (uw l) (A.getD j .dead)) fun A0 =>
  (C g args A0).bind fun r => asSk (kc.lsk g).1 r.1 fun v => wh (kc.lsk g).2 r.2 fun A' =>
  if l.length ≤ A'.length then
   let b := zx2 l A.length
   let gone := l.filter fun j => match uw l j with | some i => isDead (A'.getD i .dead) | none => true
   forceV (rnm b v) fun v => forceV.forceVs (rnm.rnms (k7 gone) env) fun env =>
   w5 ((List.range A.length).map (fun j => match uw l j with
    | some i => uc b (A'.getD i .dead)
    | none => uc (k7 gone) (A.getD j .dead)) ++ (A'.drop l.length).map (uc b)) fun A => k v env A
  else none
 else none
def zba (A : List KO) (d : PV) (sz : Nat) (k : Nat → List (List PV) → Nat → Nat → Option β) : Option β :=
 match d with
 | .lsl j sz' a n c => if sz' ≠ sz then none else match A.getD j .dead with
   | .made true sz'' es => if sz'' ≠ sz then none else (match c with
     | none => k j es 0 es.length
     | some _ => k j es a n)
   | _ => none
 | _ => none
def zn2 (P : Program) (t : TypeId) (args env : List PV) (A : List KO) (k : PV → List PV → List KO → Option β) : Option β :=
 jg args fun s l => jg l fun i l => jg l fun x l => qz l (asInt .i64 i fun i => match P.underlying t with
  | some (.slice el) => (qk P el).bind fun sz => (zmy P el).bind fun by_ => (jc P el).bind fun z =>
    if sz = 0 ∨ by_ = 0 ∨ z.known = false ∨ z.cells.length ≠ sz then none else
    match x with
    | .lsl j2 _ 0 0 none => match A.getD j2 .dead with
      | .made _ sz2 new => if sz2 = sz ∧ new.isEmpty = false then (match s with
        | .nilsl => if i = 0 then (if new.length * by_ ≤ 140737488355328 then k (whole A.length sz) env (A ++ [.made true sz new]) else none) else none
        | .lsl j sz' a n c => (match c with
          | none => if a = 0 ∧ n = 0 then (match A.getD j .dead with
            | .made true sz'' es => if sz'' = sz ∧ j ≠ j2 then
              (if 0 ≤ i ∧ i.toNat ≤ es.length then (if (es.length + new.length) * by_ ≤ 140737488355328 then
               vm [j] env A fun env A => k (whole A.length sz) env (A.set j .dead ++ [.made true sz (es.take i.toNat ++ new ++ es.drop i.toNat)]) else none) else none)
              else none
            | _ => none) else none
          | some _ => match A.getD j .dead with
            | .made true sz'' es => if sz'' = sz ∧ sz' = sz ∧ j ≠ j2 then
              (if a = 0 ∧ n ≤ es.length ∧ 0 ≤ i ∧ i.toNat ≤ n then (if (n + new.length) * by_ ≤ 140737488355328 then
               vm [j] env A fun env A => k (whole A.length sz) env (A.set j .dead ++ [.made true sz ((es.take n).take i.toNat ++ new ++ (es.take n).drop i.toNat)]) else none) else none)
              else none
            | _ => none)
        | _ => none) else none
      | _ => none
    | _ => none
  | _ => none)
def znf (args env : List PV) (A : List KO) (k : PV → List PV → List KO → Option β) : Option β :=
 jg args fun s l => qz l (match s with
  | .nilsl => k (.tuple []) env A
  | s => zba A s 1 fun j es a n => if n < 4611686018427387904 then (zad ((es.drop a).take n)).bind fun l => k (.tuple []) env (A.set j (.made true 1 (es.take a ++ (l.mergeSort fun x y => decide (x ≤ y)).map jr ++ es.drop (a + n)))) else none)
def zls (P : Program) (u : Word) (args env : List PV) (A : List KO) (k : PV → List PV → List KO → Option β) : Option β :=
 match u with
 | .insert t => zn2 P t args env A k
 | .sort => znf args env A k
 | .keys _ | .sorted _ => none
def zcb (kc : KCfg) (C : xj) (g : FuncId) (args : List PV) : Option PV := match kc.own g with
 | some (_,h) => (h args).map fun es => .psl false es
 | none => match kc.pur g with
   | some h => (h args).map fun es => .psl false es
   | none => jm C g args
def ut (c : Cfg) (kc : KCfg) (C : xj) (g : FuncId) (args : List PV) (ty : TypeId) (env : List PV) (A : List KO) (k : PV → List PV → List KO → Option β) : Option β :=
 if enters c.P g = true then
  match c.mode g with
  | .pure => forceV.forceVs (args.map (fzK zp A)) fun fargs => (zcb kc C g fargs).bind fun v => asSk (zym c.P ty) v fun v =>
    if (zym c.P ty).scalar = true then k v env A
    else if PV.clean.cleans args = false then none
    else if c.strict = true then (if PV.lf.lfs args = true then k v env A else none)
    else (roK (tops.topss args) A).bind fun A => k v env A
  | .own => match kc.own g with
    | some (sz,h) => forceV.forceVs (args.map (fzK zp A)) fun fargs => (h fargs).bind fun es => k (whole A.length sz) env (A ++ [.made true sz es])
    | none => none
  | .live => match kc.told g with
    | some u => zls c.P u args env A k
    | none => zdi kc C g args env A k
  | .blind => none
 else if c.mode g = .blind then (zvd c.P g args).bind fun v => k v env A else none
def zq2 (P : Program) (A : List KO) (el : TypeId) (d s : PV) (k : Nat → List KO → Option β) : Option β :=
 (qk P el).bind fun sz => zio A s fun src => if zt sz src = false then none else
  zba A d sz fun j es a n => k (Nat.min src.length n) (A.set j (.made true sz (es.take a ++ src.take n ++ es.drop (a + (src.take n).length))))
def zlb (P : Program) (A : List KO) (el : TypeId) (d : PV) (k : List KO → Option β) : Option β :=
 (qk P el).bind fun sz => (jc P el).bind fun z => if z.known = false ∨ z.cells.length ≠ sz ∨ z.cells.all PV.plain = false then none else
  zba A d sz fun j es a n => k (A.set j (.made true sz (es.take a ++ List.replicate n z.cells ++ es.drop (a + n))))
def zop (P : Program) (b : Builtin) (ts : List TypeId) (args : List PV) (ty : TypeId) (env : List PV) (A : List KO) (k : PV → List PV → List KO → Option β) : Option β :=
 match b,ts,args with
 | .len,t :: _,x :: _ => match P.underlying t with
   | some .string => (match x with
     | .str s => k (.int .i64 (s.size : Nat)) env A
     | _ => none)
   | some (.slice _) => if zdy x = true then none else zny A x fun n => k (.int .i64 (n : Nat)) env A
   | _ => none
 | .max,_,x :: r => if x.flat = true ∧ r.all PV.flat = true then (zfz zsm x r).bind fun v => asK (P.underlying ty) v fun v => k v env A else none
 | .min,_,x :: r => if x.flat = true ∧ r.all PV.flat = true then (zfz zsl x r).bind fun v => asK (P.underlying ty) v fun v => k v env A else none
 | .append,[t,u],[s,x] => match P.underlying t,P.underlying u with
   | some (.slice el),some (.slice _) => if zdy x = true then none else zjz P el s x env A k
   | some (.slice el),some .string => if zdy x = true then zjz P el s x env A k else none
   | _,_ => none
 | .copy,[t,u],[d,s] => match P.underlying t,P.underlying u with
   | some (.slice el),some (.slice _) => zq2 P A el d s fun n A => k (.int .i64 (n : Nat)) env A
   | _,_ => none
 | .clear,[t],[d] => match P.underlying t with
   | some (.slice el) => zlb P A el d fun A => k (.tuple []) env A
   | _ => none
 | _,_,_ => none
def zow (c : Cfg) (kc : KCfg) (C : xj) (env : List PV) (A : List KO) (o : Oper) (k : PV → List PV → List KO → Option β) : Option β :=
 let P := c.P
 match o.op with
 | .move x | .assign x => k (opd env x) env A
 | .pick cd a b => match opd env cd with
   | .bool t => if t = true then k (opd env a) env A else k (opd env b) env A
   | _ => none
 | .alloc el => (jc P el).bind fun z => if z.known = true ∧ z.cells.length ≠ 0 then k (.ref A.length 0 0) env (A ++ [.box true el z.cells]) else none
 | .box el x => if (opd env x).known = true ∧ (opd env x).cells.length ≠ 0 then k (.ref A.length 0 0) env (A ++ [.box true el (opd env x).cells]) else none
 | .build t ps => (jz P t (ps.toList.map fun (i,x) => (i,opd env x))).bind fun v => forceV v fun v => k v env A
 | .buildSlice t n ps => match P.underlying t with
   | some (.slice el) => (qk P el).bind fun sz => (jc P el).bind fun z =>
     if sz ≠ 0 ∧ z.known = true ∧ z.cells.length = sz ∧ n * sz ≤ 16777216 then
      (uz (List.replicate n z.cells) sz (ps.toList.map fun (i,x) => (i,opd env x))).bind fun es => if zt sz es = true then k (whole A.length sz) env (A ++ [.made true sz es]) else none
     else none
   | _ => none
 | .load t a => if zjo c a = true then (zbb P t (opd env a)).bind fun v => forceV v fun v => k v env A else zez P A t (opd env a) fun v => forceV v fun v => k v env A
 | .store t a x => zcx P A t (opd env a) (opd env x) fun A => k (.tuple []) env A
 | .nilCheck x => (zc2 (opd env x)).bind fun v => k v env A
 | .binOp op t x y _ => (zzm P op t (opd env x) (opd env y)).bind fun v => asK (P.underlying o.type) v fun v => k v env A
 | .unOp op _ x => (unv op (opd env x)).bind fun v => asK (P.underlying o.type) v fun v => k v env A
 | .convert s d x => zgo P A s d (opd env x) fun v => asK (P.underlying d) v fun v => k v env A
 | .makeFunc (.func f) fs cs => if fs.size = 0 then k (.func f (cs.toList.map (opd env))) env A else none
 | .makeSlice t l cp => match P.underlying t,opd env l,opd env cp with
   | some (.slice el),.int .i64 l,.int .i64 cp => (qk P el).bind fun sz => (zmy P el).bind fun by_ => (jc P el).bind fun z =>
     if sz ≠ 0 ∧ z.known = true ∧ z.cells.length = sz ∧ z.cells.all PV.plain = true then
      (if 0 ≤ l ∧ l = cp ∧ by_ * cp ≤ 140737488355328 ∧ cp ≤ 9223372036854775807 then k (whole A.length sz) env (A ++ [.made true sz (List.replicate l.toNat z.cells)]) else none)
     else none
   | _,_,_ => none
 | .slice t x lo hi mx => zoh P A t (opd env x) (lo.map (opd env)) (hi.map (opd env)) (mx.map (opd env)) fun v => k v env A
 | .fieldAddr s x f => (zj P s (opd env x) f).bind fun v => k v env A
 | .field s x f => (zdm P s (opd env x) f).bind fun v => forceV v fun v => k v env A
 | .indexAddr t x i => zn5 P A t (opd env x) (opd env i) fun v => k v env A
 | .index t x i => zc5 P t o.type (opd env x) (opd env i) fun v => k v env A
 | .extract x i => (ka (opd env x) i).bind fun v => forceV v fun v => k v env A
 | .call cl => match cl.callee with
   | .builtin b => if va P b cl.argTypes.toList = true then none else zop P b cl.argTypes.toList (cl.args.toList.map (opd env)) o.type env A k
   | .value f => (fnv (opd env f)).bind fun q => ut c kc C q.1 (cl.args.toList.map (opd env) ++ q.2) o.type env A k
   | _ => none
 | _ => none
def zqs (c : Cfg) (env : List PV) (A : List KO) (o : Oper) : Bool :=
 match c.floZ with
 | [] => true
 | z :: zs => match o.op with
   | .load _ (.tmp t) => !c.floA.contains t || (z :: zs).any fun u => match env.getD u .undef,env.getD t .undef with
     | .ref j _ _,.ref k _ _ => j == k
     | _,_ => false
   | .call cl => (match cl.callee with
     | .builtin .append => (match cl.args.toList with
       | s :: _ => (match opd env s with
         | .lsl id _ _ _ _ => !isDead (A.getD id .dead) && (z :: zs).all fun u => match env.getD u .undef with | .ref j _ _ => j != id && zbw (A.getD j .dead) | _ => false
         | .nilsl | .psl _ _ => true
         | _ => false)
       | [] => false)
     | _ => true)
   | _ => true
def zvb (c : Cfg) (env : List PV) (A : List KO) : Bool := c.floZ.all fun u => match env.getD u .undef with
 | .ref j _ _ => zbw (A.getD j .dead)
 | _ => false
def zet (c : Cfg) (kc : KCfg) (C : xj) (env : List PV) (A : List KO) (o : Oper) (k : PV → List PV → List KO → Option β) : Option β := if zqs c env A o = true then zow c kc C env A o k else none
def qb (c : Cfg) (kc : KCfg) (C : xj) (all : List Oper) : List Oper → List PV → List KO → (List PV → List KO → Option β) → Option β
 | [],env,A,k => k env A
 | o :: rest,env,A,k => match o.guard with
   | none => zet c kc C env A o fun v env A => zde env o.dst v fun e => qb c kc C all rest e A k
   | some (g,w) => match (all[g]?).bind (·.dst) with
     | none => none
     | some d => match env.getD d .undef with
       | .bool b => if b = true
         then zph env d (.bool true) fun env => (if w = true then zet c kc C env A o fun v env A => zde env o.dst v fun e => qb c kc C all rest e A k
          else zde env o.dst (.tuple []) fun e => qb c kc C all rest e A k)
         else zph env d (.bool false) fun env => (if w = false then zet c kc C env A o fun v env A => zde env o.dst v fun e => qb c kc C all rest e A k
          else zde env o.dst (.tuple []) fun e => qb c kc C all rest e A k)
       | .tuple _ => zde env o.dst (.tuple []) fun e => qb c kc C all rest e A k
       | _ => none
def zbz : List Nat → List PV → List KO → (List PV → List KO → Option β) → Option β
 | [],e,A,k => k e A
 | t :: r,e,A,k => if (e.getD t .undef).clean = true then (roK (tops (e.getD t .undef)) A).bind fun A' => forceV (fzK zp A (e.getD t .undef)) fun v => zph e t v fun e => w5 A' fun A' => zbz r e A' k else none
def zir (c : Cfg) (f : FuncId) (id : Nat) (env : List PV) (A : List KO) (k : Bool → List PV → List KO → Option β) : Option β :=
 match c.close f id with
 | none => k false env A
 | some (b,zs) => zbz zs env A (k b)
def y3 (c : Cfg) (kc : KCfg) (C : xj) (L : ju) (f : FuncId) (n0 : Nat) : Code → List PV → List KO → (Ex → List PV → List KO → Option β) → Option β
 | .skip,env,A,k | .label _,env,A,k => k .normal env A
 | .region id ops draw,env,A,k => zir c f id env A fun b env A =>
   if draw = true then
    (if (zh0 { c.at_ f with calm := b,calmA := zbe c f id ops.toList,floZ := c.flo f id,floA := ki (c.flo f id) ops.toList } ops.toList && qm ops.toList && (zro { c.at_ f with floZ := c.flo f id } ops.toList && zvb { c.at_ f with floZ := c.flo f id } env A)) = true then qb { c.at_ f with strict := true,calm := b,calmA := zbe c f id ops.toList,floZ := c.flo f id,floA := ki (c.flo f id) ops.toList } kc C ops.toList ops.toList env A (k .normal) else none)
   else qb (c.at_ f) kc C ops.toList ops.toList env A (k .normal)
 | .seq a b,env,A,k => y3 c kc C L f n0 a env A fun x e s => match x with
   | .normal => y3 c kc C L f n0 b e s k
   | x => k x e s
 | .cond cd a b,env,A,k => match opd env cd with
   | .bool t => if t = true then zui env cd true fun e => y3 c kc C L f n0 a e A k else zui env cd false fun e => y3 c kc C L f n0 b e A k
   | _ => none
 | .block id cd,env,A,k => y3 c kc C L f n0 cd env A fun x e s => match x with
   | .exit i => if i = id then k .normal e s else k (.exit i) e s
   | x => k x e s
 | .loop cd,env,A,k => match c.mask f (zq cd) with
   | some (h,l) => zcl c.P n0 (kc.hty f (zq cd)) (kc.hwk f (zq cd) n0) (za4 env.length h env) A fun e0 A0 => (L f cd n0 e0 A0).bind fun r => zgf r.1
     (fun i => if kc.noex f (zq cd) = false then zdz (kc.osk f (zq cd) n0 (zsy (kc.fsl f (zq cd)) e0)).1 (l.1.map (·.1)) r.2.1 (List.range env.length) fun e => wh (kc.osk f (zq cd) n0 (zsy (kc.fsl f (zq cd)) e0)).2 r.2.2 fun A => k (.exit i) e A else none)
     (match l.2 with
      | [] => none
      | _ :: _ => zdz (kc.rsk f (zq cd) n0 (zsy (kc.fsl f (zq cd)) e0)).1 (l.2.map (·.1)) r.2.1 (List.range env.length) fun e => wh (kc.rsk f (zq cd) n0 (zsy (kc.fsl f (zq cd)) e0)).2 r.2.2 fun A => k .ret e A)
   | none => none
 | .exit id,env,A,k => k (.exit id) env A
 | .ret,env,A,k => k .ret env A
 | _,_,_,_ => none
def zpp (P : Program) (A : List KO) (e : List PV) : List ResultVar → (List PV → Option β) → Option β
 | [],k => k []
 | .tmp t :: r,k => zpp P A e r fun vs => k (e.getD t .undef :: vs)
 | .cell a t :: r,k => zez P A t (e.getD a .undef) fun v => forceV v fun v => zpp P A e r fun vs => k (v :: vs)
end
def zdw {β : Type} (n0 : Nat) : List Nat → List PV → List PV → List KO → (List PV → List KO → Option β) → Option β
 | [],done,vs,A,k => k (done ++ vs) A
 | _ :: _,done,[],A,k => k done A
 | 0 :: r,done,v :: vs,A,k => zdw n0 r (done ++ [v]) vs A k
 | (sz + 1) :: r,done,v :: vs,A,k => match v with
   | .nilsl => zdw n0 r (done ++ [whole A.length (sz + 1)]) vs (A ++ [.made true (sz + 1) []]) k
   | .lsl j sz' a n none => if j < n0 ∧ sz' = sz + 1 ∧ a = 0 ∧ n = 0 then (match A.getD j .dead with
     | .made true sz'' es => if sz'' = sz + 1 then vm [j] (done ++ vs) A fun e A1 => zdw n0 r (e.take done.length ++ [whole A1.length (sz + 1)]) (e.drop done.length) (A1.set j .dead ++ [.made true (sz + 1) es]) k else none
     | _ => none) else zdw n0 r (done ++ [.lsl j sz' a n none]) vs A k
   | .lsl j sz' a n (some c) => if c = 0 ∧ sz' = sz + 1 then (if a = 0 then (match A.getD j .dead with
     | .made true sz'' es => if sz'' = sz + 1 then vm [j] (done ++ vs) A fun e A1 => zdw n0 r (e.take done.length ++ [whole A1.length (sz + 1)]) (e.drop done.length) (A1.set j .dead ++ [.made true (sz + 1) (es.take n)]) k else none
     | _ => none) else none) else zdw n0 r (done ++ [.lsl j sz' a n (some c)]) vs A k
   | v => zdw n0 r (done ++ [v]) vs A k
def zsj {β : Type} (n0 : Nat) (nr : List Nat) (vs : List PV) (A : List KO) (k : List PV → List KO → Option β) : Option β :=
 if nr.headD 0 = 99 then (match vs with
  | .agg cs :: vs' => zdw n0 nr.tail [] (cs ++ vs') A fun ws A => k (.agg (ws.take cs.length) :: ws.drop cs.length) A
  | _ => none)
 else zdw n0 nr [] vs A k
def znn (P : Program) (nr : List Nat) (fn : Func) (n0 : Nat) (x : Ex) (e : List PV) (A : List KO) : Option (PV × List KO) :=
 match x with
 | .exit _ => none
 | _ => zpp P A e fn.results.toList fun vs => zsj n0 nr vs A fun vs A => zcd (List.range n0) [up vs] A fun e A => jg e fun v _ => some (v,A)
def jf (c : Cfg) (kc : KCfg) (C : xj) (L : ju) : xj := fun f args A =>
 if (c.told f).isSome = true then none else
 match c.P.funcs[f]? with
 | some fn => match fn.body with
   | some cd => y3 c kc C L f A.length cd (zcp fn args) A (znn c.P (kc.nret f) fn A.length)
   | none => none
 | none => none
def zu9 (c : Cfg) (kc : KCfg) (L : ju) (f : FuncId) (cd : Code) (n0 n : Nat) (x : Ex) (e : List PV) (A : List KO) : Option (Ex × List PV × List KO) :=
 match x with
 | .normal => zcl c.P n0 (kc.hty f (zq cd)) (kc.hwk f (zq cd) n0) (ux c f cd n e) A fun e A => L f cd n0 e A
 | x => zcd (List.range n0) (zhc c f cd x n e) A fun e A => some (x,e,A)
def jj (c : Cfg) (kc : KCfg) (C : xj) (L : ju) : ju := fun f cd n0 env A =>
 y3 c kc C L f n0 cd env A (zu9 c kc L f cd n0 env.length)
mutual
def jy (c : Cfg) (kc : KCfg) : Nat → xj
 | 0 => fun _ _ _ => none
 | n + 1 => jf c kc (jy c kc n) (loopNK c kc n)
def loopNK (c : Cfg) (kc : KCfg) : Nat → ju
 | 0 => fun _ _ _ _ _ => none
 | n + 1 => jj c kc (jy c kc n) (loopNK c kc n)
end
end Go.Pvm
namespace Go.Pvm
def PV.base : PV → Bool
 | .bool _ | .int .. | .float .. | .str _ | .nilptr | .nilsl | .nilmap | .nilfunc | .niliface => true
 | _ => false
mutual
inductive VF : PV → PV → Prop
 | undef (p : PV) : VF .undef p
 | base (v : PV) (h : v.base = true) : VF v v
 | psl (b b' : Bool) {es ps : List (List PV)} (h : VFss es ps) : VF (.psl b es) (.psl b' ps)
 | nl (b : Bool) : VF (.psl b []) .nilsl
 | pref {cs ps : List PV} (h : VFs cs ps) : VF (.pref cs) (.pref ps)
 | agg {cs ps : List PV} (h : VFs cs ps) : VF (.agg cs) (.agg ps)
 | tuple {cs ps : List PV} (h : VFs cs ps) : VF (.tuple cs) (.tuple ps)
 | func (f : FuncId) {cs ps : List PV} (h : VFs cs ps) : VF (.func f cs) (.func f ps)
inductive VFs : List PV → List PV → Prop
 | nil : VFs [] []
 | cons {v p : PV} {vs ps : List PV} (h : VF v p) (t : VFs vs ps) : VFs (v :: vs) (p :: ps)
inductive VFss : List (List PV) → List (List PV) → Prop
 | nil : VFss [] []
 | cons {e p : List PV} {es ps : List (List PV)} (h : VFs e p) (t : VFss es ps) : VFss (e :: es) (p :: ps)
end
def uv : PV → Nat → Nat → Option PV
 | .ref id _ _,i,o => some (.ref id i o)
 | .lsl id _ _ _ _,i,o => some (.ref id i o)
 | _,_,_ => none
def zjk : PV → Nat → Nat → PV
 | .lsl id sz _ _ cap,a,n => .lsl id sz a n (cap.map (· - a))
 | v,_,_ => v
def zo2 : PV → Nat → Nat → Prop
 | .lsl _ _ _ len _,a,n => a + n ≤ len
 | _,a,n => a = 0 ∧ n = 0
def hdl : PV → Bool
 | .nilsl | .lsl .. => true
 | _ => false
mutual
inductive VK (ρ : Nat → PV) (m : Nat) : PV → PV → Prop
 | fr {v p : PV} (h : VF v p) : VK ρ m v p
 | ref {k i o : Nat} {p : PV} (h : k < m) (h2 : uv (ρ k) i o = some p) : VK ρ m (.ref k i o) p
 | whole {k sz : Nat} (h : k < m) (hh : hdl (ρ k) = true) : VK ρ m (.lsl k sz 0 0 none) (ρ k)
 | view {k sz a n : Nat} (h : k < m) (hh : hdl (ρ k) = true) (h2 : zo2 (ρ k) a n) : VK ρ m (.lsl k sz a n (some 0)) (zjk (ρ k) a n)
 | agg {cs ps : List PV} (h : VKs ρ m cs ps) : VK ρ m (.agg cs) (.agg ps)
 | tuple {cs ps : List PV} (h : VKs ρ m cs ps) : VK ρ m (.tuple cs) (.tuple ps)
 | func (f : FuncId) {cs ps : List PV} (h : VKs ρ m cs ps) : VK ρ m (.func f cs) (.func f ps)
inductive VKs (ρ : Nat → PV) (m : Nat) : List PV → List PV → Prop
 | nil : VKs ρ m [] []
 | cons {v p : PV} {vs ps : List PV} (h : VK ρ m v p) (t : VKs ρ m vs ps) : VKs ρ m (v :: vs) (p :: ps)
end
theorem VFs.all2 {cs ps : List PV} (h : VFs cs ps) : All2 VF cs ps := by
 match h with
 | .nil => exact .nil
 | .cons h t => exact .cons h t.all2
theorem VFs.of {cs ps : List PV} (h : All2 VF cs ps) : VFs cs ps := by
 induction h with
 | nil => exact .nil
 | cons h _ ih => exact .cons h ih
theorem VFss.all2 {cs ps : List (List PV)} (h : VFss cs ps) : All2 VFs cs ps := by
 match h with
 | .nil => exact .nil
 | .cons h t => exact .cons h t.all2
theorem VFss.of {cs ps : List (List PV)} (h : All2 VFs cs ps) : VFss cs ps := by
 induction h with
 | nil => exact .nil
 | cons h _ ih => exact .cons h ih
section
variable {ρ ρ' : Nat → PV} {m m' : Nat}
theorem VKs.all2 {cs ps : List PV} (h : VKs ρ m cs ps) : All2 (VK ρ m) cs ps := by
 match h with
 | .nil => exact .nil
 | .cons h t => exact .cons h t.all2
theorem VKs.of {cs ps : List PV} (h : All2 (VK ρ m) cs ps) : VKs ρ m cs ps := by
 induction h with
 | nil => exact .nil
 | cons h _ ih => exact .cons h ih
theorem VFs.k {cs ps : List PV} (h : VFs cs ps) : VKs ρ m cs ps := .of (h.all2.mono fun _ _ h => .fr h)
theorem VFs.len {cs ps : List PV} (h : VFs cs ps) : cs.length = ps.length := h.all2.len
theorem VFs.app {a b x y : List PV} (h : VFs a x) (h' : VFs b y) : VFs (a ++ b) (x ++ y) := .of (h.all2.app h'.all2)
theorem VFs.drop {a x : List PV} (h : VFs a x) (n : Nat) : VFs (a.drop n) (x.drop n) := .of (h.all2.drop n)
theorem VFs.take {a x : List PV} (h : VFs a x) (n : Nat) : VFs (a.take n) (x.take n) := .of (h.all2.take n)
theorem VFss.len {cs ps : List (List PV)} (h : VFss cs ps) : cs.length = ps.length := h.all2.len
theorem VFss.app {a b x y : List (List PV)} (h : VFss a x) (h' : VFss b y) : VFss (a ++ b) (x ++ y) := .of (h.all2.app h'.all2)
theorem VFss.drop {a x : List (List PV)} (h : VFss a x) (n : Nat) : VFss (a.drop n) (x.drop n) := .of (h.all2.drop n)
theorem VFss.take {a x : List (List PV)} (h : VFss a x) (n : Nat) : VFss (a.take n) (x.take n) := .of (h.all2.take n)
theorem VFss.set {a x : List (List PV)} (h : VFss a x) {e p : List PV} (he : VFs e p) (n : Nat) : VFss (a.set n e) (x.set n p) := .of (h.all2.set he n)
theorem VKs.len {cs ps : List PV} (h : VKs ρ m cs ps) : cs.length = ps.length := h.all2.len
theorem VKs.app {a b x y : List PV} (h : VKs ρ m a x) (h' : VKs ρ m b y) : VKs ρ m (a ++ b) (x ++ y) := .of (h.all2.app h'.all2)
theorem VKs.drop {a x : List PV} (h : VKs ρ m a x) (n : Nat) : VKs ρ m (a.drop n) (x.drop n) := .of (h.all2.drop n)
theorem VKs.take {a x : List PV} (h : VKs ρ m a x) (n : Nat) : VKs ρ m (a.take n) (x.take n) := .of (h.all2.take n)
theorem VKs.set {a x : List PV} (h : VKs ρ m a x) {v p : PV} (hv : VK ρ m v p) (n : Nat) : VKs ρ m (a.set n v) (x.set n p) := .of (h.all2.set hv n)
theorem VKs.one {v p : PV} (h : VK ρ m v p) : VKs ρ m [v] [p] := .cons h .nil
theorem VKs.over {a x b y : List PV} (h : VKs ρ m a x) (h' : VKs ρ m b y) (o : Nat) : VKs ρ m (over a o b) (Pvm.over x o y) := by
 unfold Pvm.over
 rw [← h'.len]
 exact ((h.take o).app h').app (h.drop _)
theorem VFs.over {a x b y : List PV} (h : VFs a x) (h' : VFs b y) (o : Nat) : VFs (over a o b) (Pvm.over x o y) := by
 unfold Pvm.over
 rw [← h'.len]
 exact ((h.take o).app h').app (h.drop _)
theorem VK.undef (p : PV) : VK ρ m .undef p := .fr (.undef p)
theorem VKs.getD {a x : List PV} (h : VKs ρ m a x) (i : Nat) : VK ρ m (a.getD i .undef) (x.getD i .undef) := by
 rw [hai,hai]
 cases ha : a[i]? with
 | none => exact .undef _
 | some v =>
   obtain ⟨p,hp,hv⟩ := h.all2.get' ha
   rw [hp]
   exact hv
theorem VKs.get {a x : List PV} (h : VKs ρ m a x) {i : Nat} {v : PV} (ha : a[i]? = some v) : ∃ p,x[i]? = some p ∧ VK ρ m v p := h.all2.get' ha
theorem VFss.get {a x : List (List PV)} (h : VFss a x) {i : Nat} {v : List PV} (ha : a[i]? = some v) : ∃ p,x[i]? = some p ∧ VFs v p := h.all2.get' ha
theorem VKs.map {α : Type} {f g : α → PV} (l : List α) (h : ∀ a ∈ l,VK ρ m (f a) (g a)) : VKs ρ m (l.map f) (l.map g) := by
 induction l with
 | nil => exact .nil
 | cons a l ih => exact .cons (h a (.head _)) (ih fun b hb => h b (.tail _ hb))
theorem VF.base_eq {v p : PV} (h : VF v p) (hb : v.base = true) : p = v := by
 cases h <;> first | rfl | (cases hb; done)
theorem VK.base_eq {v p : PV} (h : VK ρ m v p) (hb : v.base = true) : p = v := by
 cases h with
 | fr h => exact h.base_eq hb
 | _ => cases hb
theorem VK.int_eq {κ : IntKind} {n : Int} {p : PV} (h : VK ρ m (.int κ n) p) : p = .int κ n := h.base_eq rfl
theorem VK.bool_eq {b : Bool} {p : PV} (h : VK ρ m (.bool b) p) : p = .bool b := h.base_eq rfl
theorem VK.str_eq {b : ByteArray} {p : PV} (h : VK ρ m (.str b) p) : p = .str b := h.base_eq rfl
theorem VK.nilsl_eq {p : PV} (h : VK ρ m .nilsl p) : p = .nilsl := h.base_eq rfl
theorem VK.agg_inv {cs : List PV} {p : PV} (h : VK ρ m (.agg cs) p) : ∃ ps,p = .agg ps ∧ VKs ρ m cs ps := by
 cases h with
 | fr h =>
   cases h with
   | base h => cases ‹PV.base _ = true›
   | agg h => exact ⟨_,rfl,h.k⟩
 | agg h => exact ⟨_,rfl,h⟩
theorem VK.tuple_inv {cs : List PV} {p : PV} (h : VK ρ m (.tuple cs) p) : ∃ ps,p = .tuple ps ∧ VKs ρ m cs ps := by
 cases h with
 | fr h =>
   cases h with
   | base h => cases ‹PV.base _ = true›
   | tuple h => exact ⟨_,rfl,h.k⟩
 | tuple h => exact ⟨_,rfl,h⟩
theorem VK.func_inv {f : FuncId} {cs : List PV} {p : PV} (h : VK ρ m (.func f cs) p) : ∃ ps,p = .func f ps ∧ VKs ρ m cs ps := by
 cases h with
 | fr h =>
   cases h with
   | base h => cases ‹PV.base _ = true›
   | func _ h => exact ⟨_,rfl,h.k⟩
 | func _ h => exact ⟨_,rfl,h⟩
theorem VK.pref_inv {cs : List PV} {p : PV} (h : VK ρ m (.pref cs) p) : ∃ ps,p = .pref ps ∧ VFs cs ps := by
 cases h with
 | fr h =>
   cases h with
   | base h => cases ‹PV.base _ = true›
   | pref h => exact ⟨_,rfl,h⟩
theorem VK.psl_inv {b : Bool} {es : List (List PV)} {p : PV} (h : VK ρ m (.psl b es) p) : (p = .nilsl ∧ es = []) ∨ ∃ b' ps,p = .psl b' ps ∧ VFss es ps := by
 cases h with
 | fr h =>
   cases h with
   | base h => cases ‹PV.base _ = true›
   | nl => exact .inl ⟨rfl,rfl⟩
   | psl _ _ h => exact .inr ⟨_,_,rfl,h⟩
theorem VK.ref_inv {k i o : Nat} {p : PV} (h : VK ρ m (.ref k i o) p) : k < m ∧ uv (ρ k) i o = some p := by
 cases h with
 | fr h => cases h with | base h => cases ‹PV.base _ = true›
 | ref h h2 => exact ⟨h,h2⟩
theorem VK.lsl_inv {k sz a n : Nat} {c : Option Nat} {p : PV} (h : VK ρ m (.lsl k sz a n c) p) : k < m ∧ hdl (ρ k) = true ∧ ((c = none ∧ a = 0 ∧ n = 0 ∧ p = ρ k) ∨ (c = some 0 ∧ zo2 (ρ k) a n ∧ p = zjk (ρ k) a n)) := by
 cases h with
 | fr h => cases h with | base h => cases ‹PV.base _ = true›
 | whole h hh => exact ⟨h,hh,.inl ⟨rfl,rfl,rfl,rfl⟩⟩
 | view h hh h2 => exact ⟨h,hh,.inr ⟨rfl,h2,rfl⟩⟩
theorem VKs.base_eq : ∀ {cs ps : List PV},VKs ρ m cs ps → cs.all PV.base = true → ps = cs
 | _,_,.nil,_ => rfl
 | _,_,.cons h t,hb => by
   rw [List.all_cons,haq] at hb
   rw [h.base_eq hb.1,t.base_eq hb.2]
theorem VFs.base_eq : ∀ {cs ps : List PV},VFs cs ps → cs.all PV.base = true → ps = cs
 | _,_,.nil,_ => rfl
 | _,_,.cons h t,hb => by
   rw [List.all_cons,haq] at hb
   rw [h.base_eq hb.1,t.base_eq hb.2]
theorem zgm {v : PV} (h : v.flat = true) : v.base = true ∨ ∃ cs,v = .agg cs ∧ cs.all PV.base = true := by
 cases v <;> first | exact .inl rfl | (cases h; done) | skip
 refine .inr ⟨_,rfl,?_⟩
 simp only [PV.flat,har] at h ⊢
 intro c hc
 have := h c hc
 cases c <;> first | rfl | (cases this; done)
theorem VK.flat_eq {v p : PV} (h : VK ρ m v p) (hf : v.flat = true) : p = v := by
 rcases zgm hf with hb | ⟨cs,rfl,hb⟩
 ·exact h.base_eq hb
 ·obtain ⟨ps,rfl,hp⟩ := h.agg_inv
  rw [hp.base_eq hb]
theorem VKs.flat_eq : ∀ {cs ps : List PV},VKs ρ m cs ps → cs.all PV.flat = true → ps = cs
 | _,_,.nil,_ => rfl
 | _,_,.cons h t,hb => by
   rw [List.all_cons,haq] at hb
   rw [h.flat_eq hb.1,t.flat_eq hb.2]
theorem VK.plain {v p : PV} (h : VK ρ m v p) (hp : v.plain = true) : VF v p := by
 cases h <;> first | assumption | (cases hp; done)
theorem VF.plain {v p : PV} (h : VF v p) (hp : v.plain = true) : p.plain = true := by
 cases h <;> first | exact hp | rfl | (cases hp; done)
theorem VKs.plain : ∀ {cs ps : List PV},VKs ρ m cs ps → cs.all PV.plain = true → VFs cs ps ∧ ps.all PV.plain = true
 | _,_,.nil,_ => ⟨.nil,rfl⟩
 | _,_,.cons h t,hb => by
   rw [List.all_cons,haq] at hb
   obtain ⟨h1,h2⟩ := t.plain hb.2
   have h3 := h.plain hb.1
   exact ⟨.cons h3 h1,by rw [List.all_cons,h3.plain hb.1,h2]; rfl⟩
theorem VFs.plain {cs ps : List PV} (h : VFs cs ps) (hb : cs.all PV.plain = true) : ps.all PV.plain = true := ((h.k (ρ := fun _ => .undef) (m := 0)).plain hb).2
theorem jv {sz : Nat} : ∀ {es ps : List (List PV)},VFss es ps → zt sz es = true → zt sz ps = true
 | _,_,.nil,_ => rfl
 | _,_,.cons h t,hb => by
   unfold zt at hb ⊢
   rw [List.all_cons,haq,haq] at hb
   rw [List.all_cons,haq,haq]
   exact ⟨⟨by rw [← h.len]; exact hb.1.1,h.plain hb.1.2⟩,jv t hb.2⟩
theorem ve {sz : Nat} {es : List (List PV)} (h : zt sz es = true) {e : List PV} (he : e ∈ es) : e.length = sz ∧ e.all PV.plain = true := by
 unfold zt at h
 rw [har] at h
 have := h e he
 rw [haq] at this
 exact ⟨by simpa using this.1,this.2⟩
theorem rowsPl_els {sz : Nat} {es : List (List PV)} : zt sz es = true ↔ Els sz es := by
 unfold zt Els
 rw [har]
 refine forall_congr' fun e => forall_congr' fun _ => ?_
 rw [haq,har]
 simp
theorem VFss.str (l : List UInt8) : VFss (l.map fun b => [PV.int .u8 b.toNat]) (l.map fun b => [PV.int .u8 b.toNat]) := by
 induction l with
 | nil => exact .nil
 | cons b l ih => exact .cons (.cons (.base _ rfl) .nil) ih
mutual
theorem VF.rnm (f : Nat → Option Nat) : ∀ {v p : PV},VF v p → VF (rnm f v) p
 | _,_,.undef _ => .undef _
 | _,_,.base v h => by cases v <;> first | exact .base _ rfl | (cases h; done)
 | _,_,.psl _ _ h => .psl _ _ h
 | _,_,.nl _ => .nl _
 | _,_,.pref h => .pref h
 | _,_,.agg h => .agg (VFs.rnms f h)
 | _,_,.tuple h => .tuple (VFs.rnms f h)
 | _,_,.func _ h => .func _ (VFs.rnms f h)
theorem VFs.rnms (f : Nat → Option Nat) : ∀ {v p : List PV},VFs v p → VFs (rnm.rnms f v) p
 | _,_,.nil => .nil
 | _,_,.cons h t => .cons (VF.rnm f h) (VFs.rnms f t)
end
mutual
theorem VK.rnm {f : Nat → Option Nat} (hf : ∀ k k',k < m → f k = some k' → k' < m' ∧ ρ' k' = ρ k) : ∀ {v p : PV},VK ρ m v p → VK ρ' m' (rnm f v) p
 | _,_,.fr h => .fr (h.rnm f)
 | _,_,.ref (k := k) h h2 => by
   unfold Pvm.rnm
   split
   ·rename_i k' hk
    obtain ⟨q1,q2⟩ := hf k k' h hk
    exact .ref q1 (by rw [q2]; exact h2)
   ·exact .undef _
 | _,_,.whole (k := k) h hh => by
   unfold Pvm.rnm
   split
   ·rename_i k' hk
    obtain ⟨q1,q2⟩ := hf k k' h hk
    rw [← q2] at hh ⊢
    exact .whole q1 hh
   ·exact .undef _
 | _,_,.view (k := k) h hh h2 => by
   unfold Pvm.rnm
   split
   ·rename_i k' hk
    obtain ⟨q1,q2⟩ := hf k k' h hk
    rw [← q2] at hh h2 ⊢
    exact .view q1 hh h2
   ·exact .undef _
 | _,_,.agg h => .agg (VKs.rnms hf h)
 | _,_,.tuple h => .tuple (VKs.rnms hf h)
 | _,_,.func _ h => .func _ (VKs.rnms hf h)
theorem VKs.rnms {f : Nat → Option Nat} (hf : ∀ k k',k < m → f k = some k' → k' < m' ∧ ρ' k' = ρ k) : ∀ {v p : List PV},VKs ρ m v p → VKs ρ' m' (rnm.rnms f v) p
 | _,_,.nil => .nil
 | _,_,.cons h t => .cons (VK.rnm hf h) (VKs.rnms hf t)
end
mutual
theorem VK.mono (hm : m ≤ m') (hr : ∀ k,k < m → ρ' k = ρ k) : ∀ {v p : PV},VK ρ m v p → VK ρ' m' v p
 | _,_,.fr h => .fr h
 | _,_,.ref (k := k) h h2 => .ref (hao h hm) (by rw [hr k h]; exact h2)
 | _,_,.whole (k := k) h hh => by rw [← hr k h] at hh ⊢; exact .whole (hao h hm) hh
 | _,_,.view (k := k) h hh h2 => by rw [← hr k h] at hh h2 ⊢; exact .view (hao h hm) hh h2
 | _,_,.agg h => .agg (VKs.mono hm hr h)
 | _,_,.tuple h => .tuple (VKs.mono hm hr h)
 | _,_,.func _ h => .func _ (VKs.mono hm hr h)
theorem VKs.mono (hm : m ≤ m') (hr : ∀ k,k < m → ρ' k = ρ k) : ∀ {v p : List PV},VKs ρ m v p → VKs ρ' m' v p
 | _,_,.nil => .nil
 | _,_,.cons h t => .cons (VK.mono hm hr h) (VKs.mono hm hr t)
end
end
def KOR (ρ : Nat → PV) (m : Nat) (σ : Store) (u : PV) : KO → Prop
 | .dead => True
 | .box w _ cells => ∃ id pcs ro,u = .ref id 0 0 ∧ σ.objs id = some (.cells ro [pcs]) ∧ VKs ρ m cells pcs ∧ (w = true → ro = 0) ∧ id < σ.next
 | .made w sz es => sz ≠ 0 ∧ zt sz es = true ∧ ((u = .nilsl ∧ es = []) ∨ ∃ id cap ro ps tl,u = .lsl id sz 0 es.length cap ∧ σ.objs id = some (.cells ro (ps ++ tl)) ∧ VFss es ps ∧ (cap = none ∨ cap = some (es.length + tl.length)) ∧ zt sz tl = true ∧ (w = true → ro = 0) ∧ id < σ.next)
def ko (A : List KO) (ρ : Nat → PV) (k : Nat) : List Nat := if isDead (A.getD k .dead) = true then [] else tops (ρ k)
structure KS (ρ : Nat → PV) (A : List KO) (env penv : List PV) (σ : Store) : Prop where
 env : VKs ρ A.length env penv
 obj : ∀ k,k < A.length → KOR ρ A.length σ (ρ k) (A.getD k .dead)
 dis : ∀ k k' i,i ∈ ko A ρ k → i ∈ ko A ρ k' → k = k'
structure Go2 (n0 : Nat) (ρ : Nat → PV) (A : List KO) (σ : Store) (ρ' : Nat → PV) (A' : List KO) (σ' : Store) : Prop where
 nx : σ.next ≤ σ'.next
 fr : ∀ i,i < σ.next → (∀ k,i ∉ ko A ρ k) → σ'.objs i = σ.objs i
 own : ∀ k i,i ∈ ko A' ρ' k → (∃ k',i ∈ ko A ρ k') ∨ σ.next ≤ i
 bx : n0 ≤ A.length → n0 ≤ A'.length ∧ ∀ k,k < n0 → (zbw (A.getD k .dead) = true → zbw (A'.getD k .dead) = true) ∧ (isDead (A'.getD k .dead) = false → isDead (A.getD k .dead) = false ∧ ρ' k = ρ k)
section
variable {ρ ρ' ρ'' : Nat → PV} {A A' A'' : List KO} {env penv : List PV} {σ σ' σ'' : Store} {n0 : Nat}
theorem Go2.refl (n0 : Nat) (ρ : Nat → PV) (A : List KO) (σ : Store) : Go2 n0 ρ A σ ρ A σ := ⟨hah _,fun _ _ _ => rfl,fun k _ h => .inl ⟨k,h⟩,fun hn => ⟨hn,fun k _ => ⟨fun h => h,fun h => ⟨h,rfl⟩⟩⟩⟩
theorem Go2.trans (h : Go2 n0 ρ A σ ρ' A' σ') (h' : Go2 n0 ρ' A' σ' ρ'' A'' σ'') : Go2 n0 ρ A σ ρ'' A'' σ'' where
 nx := haz h.nx h'.nx
 fr := fun i hi hn => by
  rw [h'.fr i (hao hi h.nx) fun k hk => ?_,h.fr i hi hn]
  rcases h.own k i hk with ⟨k',e⟩ | e
  ·exact hn k' e
  ·omega
 own := fun k i hk => by
  rcases h'.own k i hk with ⟨k',e⟩ | e
  ·exact h.own k' i e
  ·exact .inr (haz h.nx e)
 bx := fun hn => by
  obtain ⟨q1,q2⟩ := h.bx hn
  obtain ⟨q3,q4⟩ := h'.bx q1
  refine ⟨q3,fun k hk => ⟨fun hb => (q4 k hk).1 ((q2 k hk).1 hb),fun hd => ?_⟩⟩
  obtain ⟨a,b⟩ := (q4 k hk).2 hd
  obtain ⟨c,d⟩ := (q2 k hk).2 a
  exact ⟨c,b.trans d⟩
theorem KS.withEnv (h : KS ρ A env penv σ) {e pe : List PV} (he : VKs ρ A.length e pe) : KS ρ A e pe σ := ⟨he,h.obj,h.dis⟩
theorem jt {k : Nat} (h : isDead (A.getD k .dead) = false) : k < A.length := by
 rw [hai] at h
 cases hq : A[k]? with
 | none => rw [hq] at h; cases h
 | some o => exact (had.1 hq).1
theorem KS.lt (h : KS ρ A env penv σ) {k i : Nat} (hi : i ∈ ko A ρ k) : i < σ.next := by
 unfold ko at hi
 cases hd : isDead (A.getD k .dead) with
 | true => rw [hd,if_pos rfl] at hi; cases hi
 | false =>
   rw [hd,if_neg (by decide)] at hi
   have ho := h.obj k (jt hd)
   cases hq : A.getD k .dead with
   | dead => rw [hq] at hd; cases hd
   | box w t cs =>
     rw [hq] at ho
     obtain ⟨id,pcs,ro,e,_,_,_,hl⟩ := ho
     rw [e] at hi
     rw [ham.1 hi]
     exact hl
   | made w sz es =>
     rw [hq] at ho
     obtain ⟨_,_,⟨e,_⟩ | ⟨id,cap,ro,ps,tl,e,_,_,_,_,_,hl⟩⟩ := ho
     ·rw [e] at hi; cases hi
     ·rw [e] at hi
      rw [ham.1 hi]
      exact hl
theorem KOR.mk0 {m : Nat} {w : Bool} {sz : Nat} {es : List (List PV)} {u : PV} (q0 : sz ≠ 0) (q1 : zt sz es = true) {id : Nat} {cap : Option Nat} {ro : Nat} {ps : List (List PV)} (e : u = .lsl id sz 0 es.length cap) (h1 : σ.objs id = some (.cells ro ps)) (h2 : VFss es ps) (h3 : cap = none ∨ cap = some es.length) (h5 : w = true → ro = 0) (h6 : id < σ.next) : KOR ρ m σ u (.made w sz es) :=
 ⟨q0,q1,.inr ⟨id,cap,ro,ps,[],e,by rw [hbj]; exact h1,h2,h3,rfl,h5,h6⟩⟩
theorem zlp {α : Type} {l : List α} {i : Nat} {x : α} (h : l[i]? = some x) (t : List α) : (l ++ t)[i]? = some x := by
 obtain ⟨hi,_⟩ := had.1 h
 rw [hbh hi]; exact h
theorem zrj {α : Type} {l : List α} {a n : Nat} (h : a + n ≤ l.length) (t : List α) : ((l ++ t).drop a).take n = (l.drop a).take n := by
 rw [List.drop_append_of_le_length (by omega),List.take_append_of_le_length (by rw [List.length_drop]; omega)]
theorem KOR.stay {m m' : Nat} {u : PV} {o : KO} (h : KOR ρ m σ u o) (hm : m ≤ m') (hr : ∀ k,k < m → ρ' k = ρ k) (hn : σ.next ≤ σ'.next) (hs : isDead o = false → ∀ i ∈ tops u,σ'.objs i = σ.objs i) : KOR ρ' m' σ' u o := by
 cases o with
 | dead => trivial
 | box w t cs =>
   obtain ⟨id,pcs,ro,rfl,h1,h2,h3,h4⟩ := h
   exact ⟨id,pcs,ro,rfl,(hs rfl id (.head _)).trans h1,h2.mono hm hr,h3,hao h4 hn⟩
 | made w sz es =>
   obtain ⟨q0,q1,⟨rfl,q2⟩ | ⟨id,cap,ro,ps,tl,rfl,h1,h2,h3,h4,h5,h6⟩⟩ := h
   ·exact ⟨q0,q1,.inl ⟨rfl,q2⟩⟩
   ·exact ⟨q0,q1,.inr ⟨id,cap,ro,ps,tl,rfl,(hs rfl id (.head _)).trans h1,h2,h3,h4,h5,hao h6 hn⟩⟩
theorem KOR.rnm {m m' : Nat} {u : PV} {o : KO} {f : Nat → Option Nat} (h : KOR ρ m σ u o) (hf : ∀ k k',k < m → f k = some k' → k' < m' ∧ ρ' k' = ρ k) (hn : σ.next ≤ σ'.next) (hs : isDead o = false → ∀ i ∈ tops u,σ'.objs i = σ.objs i) : KOR ρ' m' σ' u (uc f o) := by
 cases o with
 | dead => trivial
 | box w t cs =>
   obtain ⟨id,pcs,ro,rfl,h1,h2,h3,h4⟩ := h
   exact ⟨id,pcs,ro,rfl,(hs rfl id (.head _)).trans h1,h2.rnms hf,h3,hao h4 hn⟩
 | made w sz es =>
   obtain ⟨q0,q1,⟨rfl,q2⟩ | ⟨id,cap,ro,ps,tl,rfl,h1,h2,h3,h4,h5,h6⟩⟩ := h
   ·exact ⟨q0,q1,.inl ⟨rfl,q2⟩⟩
   ·exact ⟨q0,q1,.inr ⟨id,cap,ro,ps,tl,rfl,(hs rfl id (.head _)).trans h1,h2,h3,h4,h5,hao h6 hn⟩⟩
def upd (ρ : Nat → PV) (k : Nat) (u : PV) : Nat → PV := fun j => if j = k then u else ρ j
theorem y8 (ρ : Nat → PV) (k : Nat) (u : PV) : upd ρ k u k = u := by simp [upd]
theorem qr {k j : Nat} (u : PV) (h : j ≠ k) : upd ρ k u j = ρ j := by simp [upd,h]
theorem za0 {o : KO} {k : Nat} (h : k < A.length) : (A ++ [o]).getD k .dead = A.getD k .dead := by
 simp [hai,hbh h]
theorem zhs {o : KO} : (A ++ [o]).getD A.length .dead = o := by simp [hai]
theorem zhr {k : Nat} (h : A.length ≤ k) : A.getD k .dead = .dead := by simp [hai,hbv h]
theorem zhq {j : Nat} {o : KO} (h : j < A.length) : (A.set j o).getD j .dead = o := by simp [hai,h]
theorem getD_set_ne {j k : Nat} {o : KO} (h : k ≠ j) : (A.set j o).getD k .dead = A.getD k .dead := by
 simp only [hai]
 rw [ha5 (Ne.symm h)]
theorem zsv {f : KO → KO} (hf : f .dead = .dead) (k : Nat) : (A.map f).getD k .dead = f (A.getD k .dead) := by
 simp only [hai,hav]
 cases A[k]? with
 | none => exact hf.symm
 | some o => rfl
theorem jq (f : Nat → Option Nat) (o : KO) : isDead (uc f o) = isDead o := by cases o <;> rfl
theorem zb8 (f : Nat → Option Nat) (o : KO) : zbw (uc f o) = zbw o := by cases o <;> rfl
theorem KS.more (h : KS ρ A env penv σ) {u : PV} {o : KO} (hn : σ.next ≤ σ'.next) (hs : ∀ i,i < σ.next → σ'.objs i = σ.objs i) (ht : ∀ i ∈ tops u,σ.next ≤ i) (ho : KOR (upd ρ A.length u) (A.length + 1) σ' u o) (n0 : Nat) :
  KS (upd ρ A.length u) (A ++ [o]) env penv σ' ∧ Go2 n0 ρ A σ (upd ρ A.length u) (A ++ [o]) σ' := by
 have hr : ∀ k,k < A.length → upd ρ A.length u k = ρ k := fun k hk => qr _ (by omega)
 have hids : ∀ k i,i ∈ ko (A ++ [o]) (upd ρ A.length u) k → (k < A.length ∧ i ∈ ko A ρ k) ∨ (k = A.length ∧ i ∈ tops u) := by
  intro k i hi
  unfold ko at hi
  by_cases hk : k < A.length
  ·rw [za0 hk,hr k hk] at hi
   exact .inl ⟨hk,hi⟩
  ·by_cases hk2 : k = A.length
   ·subst hk2
    rw [zhs,y8] at hi
    split at hi
    ·cases hi
    ·exact .inr ⟨rfl,hi⟩
   ·rw [zhr (by simp; omega)] at hi
    cases hi
 refine ⟨⟨?_,fun k hk => ?_,fun k k' i hi hi' => ?_⟩,hn,fun i hi _ => hs i hi,fun k i hi => ?_,fun hle => ⟨by simp; omega,fun k hk => ?_⟩⟩
 ·rw [hak]
  exact h.env.mono (Nat.le_add_right _ _) hr
 ·rw [hak]
  show KOR _ (A.length + 1) _ _ _
  by_cases hk2 : k < A.length
  ·rw [za0 hk2,hr k hk2]
   refine (h.obj k hk2).stay (hbd _) hr hn fun hd i hi => hs i (h.lt (k := k) (by unfold ko; rw [if_neg (by rw [hd]; decide)]; exact hi))
  ·have : k = A.length := by simp at hk; omega
   subst this
   rw [zhs,y8]
   exact ho
 ·rcases hids k i hi with ⟨h1,h2⟩ | ⟨h1,h2⟩
  ·rcases hids k' i hi' with ⟨h3,h4⟩ | ⟨h3,h4⟩
   ·exact h.dis k k' i h2 h4
   ·have := h.lt h2; have := ht i h4; omega
  ·rcases hids k' i hi' with ⟨h3,h4⟩ | ⟨h3,h4⟩
   ·have := h.lt h4; have := ht i h2; omega
   ·omega
 ·rcases hids k i hi with ⟨h1,h2⟩ | ⟨h1,h2⟩
  ·exact .inl ⟨k,h2⟩
  ·exact .inr (ht i h2)
 ·have hk2 : k < A.length := by omega
  rw [za0 hk2,hr k hk2]
  exact ⟨fun h => h,fun h => ⟨h,rfl⟩⟩
theorem KS.renew (h : KS ρ A env penv σ) {f : Nat → Option Nat} {j : Nat} {u : PV} {o : KO} (hj : isDead (A.getD j .dead) = false) (hjb : zbw (A.getD j .dead) = false) (hf : ∀ k k',k < A.length → f k = some k' → k' < A.length + 1 ∧ upd ρ A.length u k' = ρ k)
  (hn : σ.next ≤ σ'.next) (hs : ∀ i,i < σ.next → i ∉ tops (ρ j) → σ'.objs i = σ.objs i) (ht : ∀ i ∈ tops u,i ∈ tops (ρ j) ∨ σ.next ≤ i)
  (ho : KOR (upd ρ A.length u) (A.length + 1) σ' u o) (n0 : Nat) :
  KS (upd ρ A.length u) ((A.map (uc f)).set j .dead ++ [o]) (rnm.rnms f env) penv σ' ∧ Go2 n0 ρ A σ (upd ρ A.length u) ((A.map (uc f)).set j .dead ++ [o]) σ' := by
 have hjl := jt hj
 have hjids : ko A ρ j = tops (ρ j) := by unfold ko; rw [if_neg (by rw [hj]; decide)]
 have hlen : ((A.map (uc f)).set j .dead).length = A.length := by simp
 have hlen' : ((A.map (uc f)).set j .dead ++ [o]).length = A.length + 1 := by simp
 have hg : ∀ k,k ≠ j → k < A.length → ((A.map (uc f)).set j .dead ++ [o]).getD k .dead = uc f (A.getD k .dead) := fun k hk hkl => by rw [za0 (by rw [hlen]; exact hkl),getD_set_ne hk,zsv rfl]
 have hgj : ((A.map (uc f)).set j .dead ++ [o]).getD j .dead = .dead := by rw [za0 (by rw [hlen]; exact hjl)]; exact zhq (by simpa using hjl)
 have hgn : ((A.map (uc f)).set j .dead ++ [o]).getD A.length .dead = o := by
  have := zhs (A := (A.map (uc f)).set j .dead) (o := o)
  rw [hlen] at this
  exact this
 have hids : ∀ k i,i ∈ ko ((A.map (uc f)).set j .dead ++ [o]) (upd ρ A.length u) k → (k ≠ j ∧ k < A.length ∧ i ∈ ko A ρ k) ∨ (k = A.length ∧ i ∈ tops u) := by
  intro k i hi
  unfold ko at hi
  by_cases hk : k = j
  ·subst hk
   rw [hgj] at hi
   cases hi
  ·by_cases hkl : k < A.length
   ·rw [hg k hk hkl,jq,qr _ (by omega)] at hi
    exact .inl ⟨hk,hkl,hi⟩
   ·by_cases hkn : k = A.length
    ·subst hkn
     rw [y8] at hi
     split at hi
     ·cases hi
     ·exact .inr ⟨rfl,hi⟩
    ·rw [zhr (by rw [hlen']; omega)] at hi
     cases hi
 have hmem : ∀ {k i},isDead (A.getD k .dead) = false → i ∈ tops (ρ k) → i ∈ ko A ρ k := fun hd hi => by unfold ko; rw [if_neg (by rw [hd]; decide)]; exact hi
 refine ⟨⟨?_,fun k hk => ?_,fun k k' i hi hi' => ?_⟩,hn,fun i hi hne => hs i hi (by rw [← hjids]; exact hne j),fun k i hi => ?_,fun hle => ⟨by rw [hlen']; omega,fun k hk => ?_⟩⟩
 ·rw [hlen']; exact h.env.rnms hf
 ·rw [hlen'] at hk ⊢
  by_cases hkj : k = j
  ·subst hkj; rw [hgj]; trivial
  ·by_cases hkl : k < A.length
   ·rw [hg k hkj hkl,qr _ (by omega)]
    refine (h.obj k hkl).rnm hf hn fun hd i hi => ?_
    have hik := hmem hd hi
    exact hs i (h.lt hik) fun hij => hkj (h.dis k j i hik (by rw [hjids]; exact hij))
   ·have : k = A.length := by omega
    subst this
    rw [hgn,y8]
    exact ho
 ·rcases hids k i hi with ⟨h1,h1',h2⟩ | ⟨h1,h2⟩
  ·rcases hids k' i hi' with ⟨h3,h3',h4⟩ | ⟨h3,h4⟩
   ·exact h.dis k k' i h2 h4
   ·rcases ht i h4 with h5 | h5
    ·exact absurd (h.dis k j i h2 (by rw [hjids]; exact h5)) h1
    ·have := h.lt h2; omega
  ·rcases hids k' i hi' with ⟨h3,h3',h4⟩ | ⟨h3,h4⟩
   ·rcases ht i h2 with h5 | h5
    ·exact absurd (h.dis k' j i h4 (by rw [hjids]; exact h5)) h3
    ·have := h.lt h4; omega
   ·omega
 ·rcases hids k i hi with ⟨h1,h1',h2⟩ | ⟨h1,h2⟩
  ·exact .inl ⟨k,h2⟩
  ·rcases ht i h2 with h5 | h5
   ·exact .inl ⟨j,by rw [hjids]; exact h5⟩
   ·exact .inr h5
 ·by_cases hkj : k = j
  ·subst hkj
   rw [hgj]
   exact ⟨(fun h => by rw [hjb] at h; cases h),(fun h => by cases h)⟩
  ·rw [hg k hkj (by omega),zb8,jq,qr _ (by omega)]
   exact ⟨fun h => h,fun h => ⟨h,rfl⟩⟩
theorem KS.put (h : KS ρ A env penv σ) {j : Nat} {o : KO} (hj : isDead (A.getD j .dead) = false)
  (hn : σ.next ≤ σ'.next) (hs : ∀ i,i < σ.next → i ∉ tops (ρ j) → σ'.objs i = σ.objs i)
  (ho : KOR ρ A.length σ' (ρ j) o) (hb : zbw (A.getD j .dead) = true → zbw o = true) (n0 : Nat) :
  KS ρ (A.set j o) env penv σ' ∧ Go2 n0 ρ A σ ρ (A.set j o) σ' := by
 have hjl := jt hj
 have hjids : ko A ρ j = tops (ρ j) := by unfold ko; rw [if_neg (by rw [hj]; decide)]
 have hg : ∀ k,k ≠ j → (A.set j o).getD k .dead = A.getD k .dead := fun k hk => getD_set_ne hk
 have hgj : (A.set j o).getD j .dead = o := zhq hjl
 have hlen : (A.set j o).length = A.length := by simp
 have hids : ∀ k i,i ∈ ko (A.set j o) ρ k → i ∈ ko A ρ k := by
  intro k i hi
  by_cases hk : k = j
  ·subst hk
   rw [hjids]
   unfold ko at hi
   split at hi
   ·cases hi
   ·exact hi
  ·unfold ko at hi ⊢
   rw [hg k hk] at hi
   exact hi
 refine ⟨⟨?_,fun k hk => ?_,fun k k' i hi hi' => h.dis k k' i (hids k i hi) (hids k' i hi')⟩,hn,fun i hi hne => hs i hi (by rw [← hjids]; exact hne j),fun k i hi => .inl ⟨k,hids k i hi⟩,fun hle => ⟨by rw [hlen]; exact hle,fun k hk => ⟨fun hbx => ?_,fun hd => ⟨?_,rfl⟩⟩⟩⟩
 ·rw [hlen]; exact h.env
 ·rw [hlen] at hk ⊢
  by_cases hkj : k = j
  ·subst hkj; rw [hgj]; exact ho
  ·rw [hg k hkj]
   refine (h.obj k hk).stay (hah _) (fun _ _ => rfl) hn fun hd i hi => ?_
   have hik : i ∈ ko A ρ k := by unfold ko; rw [if_neg (by rw [hd]; decide)]; exact hi
   exact hs i (h.lt hik) fun hij => hkj (h.dis k j i hik (by rw [hjids]; exact hij))
 ·by_cases hkj : k = j
  ·subst hkj; rw [hgj]; exact hb hbx
  ·rw [hg k hkj]; exact hbx
 ·by_cases hkj : k = j
  ·subst hkj; exact hj
  ·rw [hg k hkj] at hd; exact hd
theorem KS.pack (h : KS ρ A env penv σ) {l : List Nat} (hd : zce l = true) (hl : ∀ j ∈ l,j < A.length) :
  KS (fun i => ρ (l.getD i 0)) (l.map fun j => uc (uw l) (A.getD j .dead)) (rnm.rnms (uw l) env) penv σ := by
 have hidx : ∀ (l : List Nat) (k i : Nat),uw l k = some i → l[i]? = some k := by
  intro l
  induction l with
  | nil => intro k i e; cases e
  | cons j r ih =>
    intro k i e
    unfold uw at e
    split at e
    ·rename_i hjk; cases e; simp [hjk]
    ·rw [hac] at e
     obtain ⟨i',e1,rfl⟩ := e
     simpa using ih k i' e1
 have hnd : ∀ (l : List Nat),zce l = true → ∀ (i i' k : Nat),l[i]? = some k → l[i']? = some k → i = i' := by
  intro l
  induction l with
  | nil => intro _ i i' k e; simp at e
  | cons j r ih =>
    intro hb i i' k e e'
    unfold zce at hb
    rw [haq] at hb
    have hj : j ∉ r := by
     intro hm
     have := hb.1
     simp [hm] at this
    cases i with
    | zero =>
      cases i' with
      | zero => rfl
      | succ i' => simp at e e'; subst e; exact absurd (haj e') hj
    | succ i =>
      cases i' with
      | zero => simp at e e'; subst e'; exact absurd (haj e) hj
      | succ i' => rw [ih hb.2 i i' k (by simpa using e) (by simpa using e')]
 have hlen : (l.map fun j => uc (uw l) (A.getD j .dead)).length = l.length := by simp
 have hf : ∀ k k',k < A.length → uw l k = some k' → k' < l.length ∧ ρ (l.getD k' 0) = ρ k := fun k k' _ e => by
  have := hidx l k k' e
  exact ⟨(had.1 this).1,by rw [hai,this]; rfl⟩
 have hg : ∀ i,(l.map fun j => uc (uw l) (A.getD j .dead)).getD i .dead = match l[i]? with | some j => uc (uw l) (A.getD j .dead) | none => .dead := fun i => by
  rw [hai,hav]
  cases l[i]? <;> rfl
 have hids : ∀ i x,x ∈ ko (l.map fun j => uc (uw l) (A.getD j .dead)) (fun i => ρ (l.getD i 0)) i → ∃ j,l[i]? = some j ∧ x ∈ ko A ρ j := fun i x hx => by
  unfold ko at hx
  rw [hg i] at hx
  cases hq : l[i]? with
  | none => rw [hq] at hx; cases hx
  | some j =>
    rw [hq] at hx
    simp only [jq] at hx
    refine ⟨j,rfl,?_⟩
    unfold ko
    have : l.getD i 0 = j := by rw [hai,hq]; rfl
    rw [this] at hx
    exact hx
 refine ⟨?_,fun i hi => ?_,fun i i' x hx hx' => ?_⟩
 ·rw [hlen]; exact h.env.rnms hf
 ·rw [hlen] at hi ⊢
  rw [hg i,haf hi]
  have hm := List.getElem_mem hi
  have : l.getD i 0 = l[i] := by rw [hai,haf hi]; rfl
  show KOR _ _ _ (ρ (l.getD i 0)) _
  rw [this]
  exact (h.obj _ (hl _ hm)).rnm hf (hah _) fun _ _ _ => rfl
 ·obtain ⟨j,e,h1⟩ := hids i x hx
  obtain ⟨j',e',h2⟩ := hids i' x hx'
  have := h.dis j j' x h1 h2
  subst this
  exact hnd l hd i i' j e e'
end
end Go.Pvm
namespace Go.Pvm
theorem VF.ofCell (v : Value) : VF (ofCell v) (ofCell v) := by
 unfold Pvm.ofCell
 split <;> first | exact .base _ rfl | exact .undef _
theorem VFs.refl_of {l : List PV} (h : ∀ v ∈ l,VF v v) : VFs l l := by
 induction l with
 | nil => exact .nil
 | cons v l ih => exact .cons (h v (.head _)) (ih fun x hx => h x (.tail _ hx))
theorem VF.ofValue (v : Value) : VF (ofValue v) (ofValue v) := by
 unfold Pvm.ofValue
 split
 ·exact .agg (.refl_of fun x hx => by obtain ⟨c,_,rfl⟩ := List.mem_map.1 hx; exact .ofCell c)
 ·split
  ·exact .func _ .nil
  ·exact .undef _
 ·split
  ·exact .tuple .nil
  ·exact .undef _
 ·exact .ofCell v
section
variable {P : Program} {ρ ρ' : Nat → PV} {m : Nat} {A A' : List KO} {env penv : List PV} {σ σ' : Store} {β : Type} {r : β}
theorem xu (h : VKs ρ m env penv) (x : Operand) : VK ρ m (opd env x) (opd penv x) := by
 cases x with
 | tmp t => exact h.getD t
 | const v => exact .fr (.ofValue v)
 | func f => exact .func f .nil
 | global _ => exact .undef _
theorem zkv (h : VKs ρ m env penv) (l : List Operand) : VKs ρ m (l.map (opd env)) (l.map (opd penv)) := .map l fun x _ => xu h x
theorem VK.cells {v p : PV} (h : VK ρ m v p) (hk : v.known = true) : VKs ρ m v.cells p.cells := by
 match h with
 | .fr (.undef _) => cases hk
 | .fr (.base v hb) => cases v <;> first | exact .one (.fr (.base _ rfl)) | cases hb
 | .fr (.psl b b' h) => exact .one (.fr (.psl b b' h))
 | .fr (.nl b) => exact .one (.fr (.nl b))
 | .fr (.pref h) => exact .one (.fr (.pref h))
 | .fr (.agg h) => exact h.k
 | .fr (.tuple h) => exact .one (.fr (.tuple h))
 | .fr (.func f h) => exact .one (.fr (.func f h))
 | .ref (k := k) h h2 =>
   have hc : p.cells = [p] := by
    unfold uv at h2
    split at h2 <;> first | (cases h2; rfl) | cases h2
   rw [hc]
   exact .one (.ref h h2)
 | .whole (k := k) h hh =>
   have hc : (ρ k).cells = [ρ k] := by
    cases hq : ρ k <;> rw [hq] at hh <;> first | rfl | cases hh
   rw [hc]
   exact .one (.whole h hh)
 | .view (k := k) (a := a) (n := n) h hh h2 =>
   have hc : (zjk (ρ k) a n).cells = [zjk (ρ k) a n] := by
    cases hq : ρ k <;> rw [hq] at hh <;> first | rfl | cases hh
   rw [hc]
   exact .one (.view h hh h2)
 | .agg h => exact h
 | .tuple h => exact .one (.tuple h)
 | .func f h => exact .one (.func f h)
theorem VK.one {v p : PV} (h : VK ρ m v p) (hk : v.one = true) : p.one = true := by
 match h with
 | .fr (.undef _) => cases hk
 | .fr (.base v hb) => exact hk
 | .fr (.psl b b' h) => rfl
 | .fr (.nl b) => rfl
 | .fr (.pref h) => rfl
 | .fr (.agg h) => cases hk
 | .fr (.tuple h) => cases hk
 | .fr (.func f h) => rfl
 | .ref (k := k) h h2 =>
   unfold uv at h2
   split at h2 <;> first | (cases h2; rfl) | cases h2
 | .whole (k := k) h hh => cases hq : ρ k <;> rw [hq] at hh <;> first | rfl | cases hh
 | .view (k := k) (a := a) (n := n) h hh h2 => cases hq : ρ k <;> rw [hq] at hh <;> first | rfl | cases hh
 | .agg h => cases hk
 | .tuple h => cases hk
 | .func f h => rfl
theorem VKs.ones : ∀ {cs ps : List PV},VKs ρ m cs ps → cs.all PV.one = true → ps.all PV.one = true
 | _,_,.nil,_ => rfl
 | _,_,.cons h t,hb => by
   rw [List.all_cons,haq] at hb
   rw [List.all_cons,h.one hb.1,t.ones hb.2]; rfl
theorem VK.known {v p : PV} (h : VK ρ m v p) (hk : v.known = true) : p.known = true := by
 match h with
 | .fr (.undef _) => cases hk
 | .fr (.base v hb) => exact hk
 | .fr (.psl b b' h) => rfl
 | .fr (.nl b) => rfl
 | .fr (.pref h) => rfl
 | .fr (.agg h) => rfl
 | .fr (.tuple h) => rfl
 | .fr (.func f h) => rfl
 | .ref (k := k) h h2 =>
   unfold uv at h2
   split at h2 <;> first | (cases h2; rfl) | cases h2
 | .whole (k := k) h hh => cases hq : ρ k <;> rw [hq] at hh <;> first | rfl | cases hh
 | .view (k := k) (a := a) (n := n) h hh h2 => cases hq : ρ k <;> rw [hq] at hh <;> first | rfl | cases hh
 | .agg h => rfl
 | .tuple h => rfl
 | .func f h => rfl
theorem zix {v : PV} {n : Nat} (h : v.cells.all PV.one = true) (hn : v.cells.length = n) : v.known = true := by
 cases v <;> first | rfl | cases h
theorem wt {t : TypeId} {cs ps : List PV} {off : Nat} {v : PV} (h : xl P t cs off = some v) (hc : VKs ρ m cs ps) : ∃ p,xl P t ps off = some p ∧ VK ρ m v p := by
 unfold xl at h ⊢
 cases hs : qk P t with
 | none => rw [hs] at h; cases h
 | some n =>
   rw [hs] at h
   simp only [Option.bind_some] at h ⊢
   cases hu : P.underlying t with
   | none => rw [hu] at h; cases h
   | some d =>
     rw [hu] at h
     simp only [Option.bind_some] at h ⊢
     by_cases ha : zou d = true
     ·rw [if_pos ha] at h ⊢
      by_cases hl : off + n ≤ cs.length
      ·rw [if_pos hl] at h
       cases h
       rw [if_pos (by rw [← hc.len]; exact hl)]
       exact ⟨_,rfl,.agg ((hc.drop off).take n)⟩
      ·rw [if_neg hl] at h; cases h
     ·rw [if_neg ha] at h ⊢
      exact hc.get h
mutual
theorem VF.scalar : ∀ {v p : PV},VF v p → v.scalar = true → p = v ∧ p.scalar = true
 | _,_,.undef _,h => by cases h
 | _,_,.base v hb,h => ⟨rfl,h⟩
 | _,_,.psl ..,h => by cases h
 | _,_,.nl _,h => by cases h
 | _,_,.pref _,h => by cases h
 | _,_,.agg hc,h => by obtain ⟨rfl,h2⟩ := VFs.scalars hc h; exact ⟨rfl,h2⟩
 | _,_,.tuple hc,h => by obtain ⟨rfl,h2⟩ := VFs.scalars hc h; exact ⟨rfl,h2⟩
 | _,_,.func ..,h => by cases h
theorem VFs.scalars : ∀ {v p : List PV},VFs v p → PV.scalar.scalars v = true → p = v ∧ PV.scalar.scalars p = true
 | _,_,.nil,_ => ⟨rfl,rfl⟩
 | _,_,.cons hv ht,h => by
   unfold PV.scalar.scalars at h
   rw [haq] at h
   obtain ⟨rfl,h1⟩ := VF.scalar hv h.1
   obtain ⟨rfl,h2⟩ := VFs.scalars ht h.2
   exact ⟨rfl,by unfold PV.scalar.scalars; rw [h1,h2]; rfl⟩
end
mutual
theorem zfj : ∀ (s : Sk) {v : PV} {k : PV → Option β},asSk s v k = some r → ∃ v',k v' = some r ∧ (∀ ρ m p,VK ρ m v p → VK ρ m v' p) ∧ (∀ p,VF v p → VF v' p) ∧ (s.scalar = true → v'.scalar = true)
 | .any,v,k,h => ⟨v,h,fun _ _ _ h => h,fun _ h => h,fun h => by cases h⟩
 | .drop,v,k,h => ⟨.undef,h,fun _ _ _ _ => .undef _,fun _ _ => .undef _,fun h => by cases h⟩
 | .bool,v,k,h => by
   cases v <;> first | (cases h; done) | exact ⟨_,h,fun _ _ _ h => h,fun _ h => h,fun _ => rfl⟩
 | .str,v,k,h => by
   cases v <;> first | (cases h; done) | exact ⟨_,h,fun _ _ _ h => h,fun _ h => h,fun _ => rfl⟩
 | .psl,v,k,h => by
   cases v <;> first | (cases h; done) | skip
   ·exact ⟨_,h,fun _ _ p hp => by rw [hp.nilsl_eq]; exact .fr (.nl _),fun p hp => by rw [hp.base_eq rfl]; exact .nl _,fun h => by cases h⟩
   ·refine ⟨_,h,fun _ _ p hp => ?_,fun p hp => ?_,fun h => by cases h⟩
    ·rcases hp.psl_inv with ⟨rfl,rfl⟩ | ⟨b',ps,rfl,h⟩
     ·exact .fr (.nl _)
     ·exact .fr (.psl _ _ h)
    ·rcases (VK.fr (ρ := fun _ => .undef) (m := 0) hp).psl_inv with ⟨rfl,rfl⟩ | ⟨b',ps,rfl,h⟩
     ·exact .nl _
     ·exact .psl _ _ h
 | .int κ,v,k,h => by
   unfold asSk asInt at h
   split at h
   ·split at h
    ·rename_i e; subst e; exact ⟨_,h,fun _ _ _ h => h,fun _ h => h,fun _ => rfl⟩
    ·cases h
   ·cases h
 | .flt κ,v,k,h => by
   unfold asSk zjv at h
   split at h
   ·split at h
    ·rename_i e; subst e; exact ⟨_,h,fun _ _ _ h => h,fun _ h => h,fun _ => rfl⟩
    ·cases h
   ·cases h
 | .ref a b c,v,k,h => by
   unfold asSk zoq at h
   split at h
   ·split at h
    ·rename_i e; obtain ⟨rfl,rfl,rfl⟩ := e; exact ⟨_,h,fun _ _ _ h => h,fun _ h => h,fun h => by cases h⟩
    ·cases h
   ·cases h
 | .whole a b,v,k,h => by
   unfold asSk zam at h
   split at h
   ·split at h
    ·rename_i e; obtain ⟨rfl,rfl⟩ := e; exact ⟨_,h,fun _ _ _ h => h,fun _ h => h,fun h => by cases h⟩
    ·cases h
   ·cases h
 | .agg l,v,k,h => by
   unfold asSk asAgg at h
   split at h
   ·rename_i cs
    obtain ⟨cs',h1,h2,h3,h4⟩ := asSks_ok l h
    refine ⟨_,h1,fun ρ m p hp => ?_,fun p hp => ?_,h4⟩
    ·obtain ⟨ps,rfl,hq⟩ := hp.agg_inv; exact .agg (h2 _ _ _ hq)
    ·cases hp with
     | base h => cases ‹PV.base _ = true›
     | agg hq => exact .agg (h3 _ hq)
   ·cases h
 | .tup l,v,k,h => by
   unfold asSk zlj at h
   split at h
   ·rename_i cs
    obtain ⟨cs',h1,h2,h3,h4⟩ := asSks_ok l h
    refine ⟨_,h1,fun ρ m p hp => ?_,fun p hp => ?_,h4⟩
    ·obtain ⟨ps,rfl,hq⟩ := hp.tuple_inv; exact .tuple (h2 _ _ _ hq)
    ·cases hp with
     | base h => cases ‹PV.base _ = true›
     | tuple hq => exact .tuple (h3 _ hq)
   ·cases h
 | .view a b,v,k,h => by
   unfold asSk zjr at h
   split at h
   ·split at h
    ·rename_i e; obtain ⟨rfl,rfl⟩ := e; exact ⟨_,h,fun _ _ _ h => h,fun _ h => h,fun h => by cases h⟩
    ·cases h
   ·cases h
 | .wv a b,v,k,h => by
   unfold asSk zvs at h
   split at h
   ·split at h
    ·rename_i e; obtain ⟨rfl,rfl⟩ := e; exact ⟨_,h,fun _ _ _ h => h,fun _ h => h,fun h => by cases h⟩
    ·cases h
   ·split at h
    ·rename_i e; obtain ⟨rfl,rfl⟩ := e; exact ⟨_,h,fun _ _ _ h => h,fun _ h => h,fun h => by cases h⟩
    ·cases h
   ·cases h
 | .fn f l,v,k,h => by
   unfold asSk zx5 at h
   split at h
   ·split at h
    ·rename_i cs e
     subst e
     obtain ⟨cs',h1,h2,h3,h4⟩ := asSks_ok l h
     refine ⟨_,h1,fun ρ m p hp => ?_,fun p hp => ?_,fun h => by cases h⟩
     ·obtain ⟨ps,rfl,hq⟩ := hp.func_inv; exact .func _ (h2 _ _ _ hq)
     ·cases hp with
      | base h => cases ‹PV.base _ = true›
      | func _ hq => exact .func _ (h3 _ hq)
    ·cases h
   ·cases h
 | .pref l,v,k,h => by
   unfold asSk zm1 at h
   split at h
   ·rename_i cs
    obtain ⟨cs',h1,h2,h3,h4⟩ := asSks_ok l h
    refine ⟨_,h1,fun ρ m p hp => ?_,fun p hp => ?_,fun h => by cases h⟩
    ·obtain ⟨ps,rfl,hq⟩ := hp.pref_inv; exact .fr (.pref (h3 _ hq))
    ·cases hp with
     | base h => cases ‹PV.base _ = true›
     | pref hq => exact .pref (h3 _ hq)
   ·cases h
theorem asSks_ok : ∀ (l : List Sk) {cs : List PV} {k : List PV → Option β},asSk.asSks l cs k = some r → ∃ cs',k cs' = some r ∧ (∀ ρ m ps,VKs ρ m cs ps → VKs ρ m cs' ps) ∧ (∀ ps,VFs cs ps → VFs cs' ps) ∧ (Sk.scalar.scalars l = true → PV.scalar.scalars cs' = true)
 | [],cs,k,h => by
   unfold asSk.asSks qz at h
   split at h
   ·exact ⟨[],h,fun _ _ _ h => h,fun _ h => h,fun _ => rfl⟩
   ·cases h
 | s :: l,cs,k,h => by
   unfold asSk.asSks jg at h
   split at h
   ·rename_i c cs
    obtain ⟨c',h1,h2,h3,h4⟩ := zfj s h
    obtain ⟨cs',q1,q2,q3,q4⟩ := asSks_ok l h1
    refine ⟨_,q1,fun ρ m ps hp => ?_,fun ps hp => ?_,fun hs => ?_⟩
    ·cases hp with | cons a b => exact .cons (h2 _ _ _ a) (q2 _ _ _ b)
    ·cases hp with | cons a b => exact .cons (h3 _ a) (q3 _ b)
    ·unfold Sk.scalar.scalars at hs
     rw [haq] at hs
     show PV.scalar.scalars (c' :: cs') = true
     unfold PV.scalar.scalars
     rw [h4 hs.1,q4 hs.2]; rfl
   ·cases h
end
theorem KS.get (h : KS ρ A env penv σ) {j : Nat} {o : KO} (hj : j < A.length) (e : A.getD j .dead = o) : KOR ρ A.length σ (ρ j) o := e ▸ h.obj j hj
theorem zpx {e : List PV} (h : e.all PV.plain = true) (n : Nat) (σ : Store) : e.map (fz (n + 1) σ) = e := vo (by rw [har] at h; exact h) n σ
theorem zpn {sz : Nat} {es : List (List PV)} (h : zt sz es = true) (n : Nat) (σ : Store) : es.map (fun e => e.map (fz (n + 1) σ)) = es := by
 induction es with
 | nil => rfl
 | cons e es ih =>
   have he := (ve h (.head _)).2
   have ht : zt sz es = true := by unfold zt at h ⊢; rw [List.all_cons,haq] at h; exact h.2
   rw [List.map_cons,zpx he,ih ht]
theorem zg4 {x : PV} {k : List (List PV) → Option β} (h : zio A x k = some r) : ∃ es,k es = some r ∧ ∀ ρ env penv σ p,KS ρ A env penv σ → VK ρ A.length x p → ∃ ps,xo σ p = some ps ∧ VFss es ps := by
 unfold zio at h
 split at h
 ·exact ⟨_,h,fun ρ env penv σ p _ hp => by rw [hp.nilsl_eq]; exact ⟨_,rfl,.nil⟩⟩
 ·refine ⟨_,h,fun ρ env penv σ p _ hp => ?_⟩
  rcases hp.psl_inv with ⟨rfl,rfl⟩ | ⟨b',ps,rfl,h⟩
  ·exact ⟨_,rfl,.nil⟩
  ·exact ⟨_,rfl,h⟩
 ·exact ⟨_,h,fun ρ env penv σ p _ hp => by rw [hp.str_eq]; exact ⟨_,rfl,.str _⟩⟩
 ·rename_i j sz a n c
  split at h
  ·rename_i w sz' es hj
   split at h
   ·refine ⟨_,h,fun ρ env penv σ p hK hp => ?_⟩
    obtain ⟨hl,hh,⟨_,_,_,rfl⟩ | ⟨e,_⟩⟩ := hp.lsl_inv
    ·obtain ⟨q0,q1,⟨e,rfl⟩ | ⟨id,cap,ro,ps,tl,e,h1,h2,h3,h4,h5,h6⟩⟩ := hK.get hl hj
     ·rw [e]; exact ⟨_,rfl,.nil⟩
     ·rw [e]
      refine ⟨ps,?_,h2⟩
      simp only [xo,h1]
      rw [if_pos (by rw [h2.len,hak]; omega),h2.len]
      simp
    ·cases e
   ·refine ⟨_,h,fun ρ env penv σ p hK hp => ?_⟩
    obtain ⟨hl,hh,⟨e,_⟩ | ⟨_,hv,rfl⟩⟩ := hp.lsl_inv
    ·cases e
    ·obtain ⟨q0,q1,⟨e,rfl⟩ | ⟨id,cap,ro,ps,tl,e,h1,h2,h3,h4,h5,h6⟩⟩ := hK.get hl hj
     ·rw [e] at hv ⊢
      obtain ⟨rfl,rfl⟩ := hv
      exact ⟨_,rfl,.nil⟩
     ·rw [e] at hv ⊢
      have hv : a + n ≤ es.length := hv
      refine ⟨(ps.drop a).take n,?_,(h2.drop a).take n⟩
      simp only [xo,zjk,h1]
      rw [if_pos (by rw [hak,← h2.len]; omega),zrj (by rw [← h2.len]; exact hv)]
  ·cases h
 ·cases h
theorem zsp {x : PV} {k : Nat → Option β} (h : zny A x k = some r) : ∃ n,k n = some r ∧ ∀ ρ env penv σ p,KS ρ A env penv σ → VK ρ A.length x p → zxa p = some n := by
 unfold zny at h
 split at h
 ·exact ⟨_,h,fun ρ env penv σ p _ hp => by rw [hp.nilsl_eq]; rfl⟩
 ·refine ⟨_,h,fun ρ env penv σ p _ hp => ?_⟩
  rcases hp.psl_inv with ⟨rfl,rfl⟩ | ⟨b',ps,rfl,h⟩
  ·rfl
  ·rw [h.len]; rfl
 ·exact ⟨_,h,fun ρ env penv σ p _ hp => by rw [hp.str_eq]; rfl⟩
 ·rename_i j sz a n c
  split at h
  ·refine ⟨_,h,fun ρ env penv σ p hK hp => ?_⟩
   obtain ⟨hl,hh,⟨e,_⟩ | ⟨_,hv,rfl⟩⟩ := hp.lsl_inv
   ·cases e
   ·cases hq : ρ j <;> rw [hq] at hh hv <;> first | (cases hh; done) | skip
    ·obtain ⟨rfl,rfl⟩ := hv; rfl
    ·rfl
  ·split at h
   ·rename_i w sz' es hj
    refine ⟨_,h,fun ρ env penv σ p hK hp => ?_⟩
    obtain ⟨hl,hh,⟨_,_,_,rfl⟩ | ⟨e,_⟩⟩ := hp.lsl_inv
    ·obtain ⟨q0,q1,⟨e,rfl⟩ | ⟨id,cap,ro,ps,tl,e,h1,h2,h3,h4,h5,h6⟩⟩ := hK.get hl hj
     ·rw [e]; rfl
     ·rw [e]; rfl
    ·cases e
   ·cases h
 ·cases h
theorem zi1 {t : TypeId} {a : PV} {k : PV → Option β} (h : zez P A t a k = some r) : ∃ v,k v = some r ∧ ∀ ρ env penv σ p,KS ρ A env penv σ → VK ρ A.length a p → ∃ q,zd P σ t p = some q ∧ VK ρ A.length v q := by
 unfold zez at h
 split at h
 ·rw [haa] at h
  obtain ⟨v,h1,h2⟩ := h
  refine ⟨v,h2,fun ρ env penv σ p _ hp => ?_⟩
  obtain ⟨ps,rfl,hc⟩ := hp.pref_inv
  exact wt h1 hc.k
 ·rename_i j i off
  split at h
  ·rename_i w t' cs hj
   split at h
   ·rename_i hi
    subst hi
    rw [haa] at h
    obtain ⟨v,h1,h2⟩ := h
    refine ⟨v,h2,fun ρ env penv σ p hK hp => ?_⟩
    obtain ⟨hl,hr⟩ := hp.ref_inv
    obtain ⟨id,pcs,ro,e,q1,q2,q3,q4⟩ := hK.get hl hj
    rw [e] at hr
    cases hr
    obtain ⟨q,s1,s2⟩ := wt h1 q2
    exact ⟨q,by simp only [zd,q1,List.getElem?_cons_zero,Option.bind_some]; exact s1,s2⟩
   ·cases h
  ·rename_i w sz es hj
   rw [haa] at h
   obtain ⟨e,h1,h⟩ := h
   rw [haa] at h
   obtain ⟨v,h2,h3⟩ := h
   obtain ⟨v',h4,h5,_⟩ := zfj _ h3
   refine ⟨v',h4,fun ρ env penv σ p hK hp => ?_⟩
   obtain ⟨hl,hr⟩ := hp.ref_inv
   obtain ⟨q0,q1,⟨e',rfl⟩ | ⟨id,cap,ro,ps,tl,e',s1,s2,s3,s4,s5,s6⟩⟩ := hK.get hl hj
   ·rw [e'] at hr; cases hr
   ·rw [e'] at hr
    cases hr
    obtain ⟨pe,s7,s8⟩ := s2.get h1
    obtain ⟨q,s9,s10⟩ := wt h2 s8.k
    exact ⟨q,by simp only [zd,s1,zlp s7 tl,Option.bind_some]; exact s9,h5 _ _ _ s10⟩
  ·cases h
 ·cases h
theorem zse {cs new : List PV} {off : Nat} (h : off + new.length ≤ cs.length) : (over cs off new).length = cs.length := by
 unfold over
 simp only [hak,ha7,List.length_drop]
 omega
theorem znq {cs new : List PV} {off : Nat} (h : cs.all PV.plain = true) (h' : new.all PV.plain = true) : (over cs off new).all PV.plain = true := by
 unfold over
 rw [har] at h h' ⊢
 intro x hx
 rcases hbn.1 hx with hx | hx
 ·rcases hbn.1 hx with hx | hx
  ·exact h x (hbr hx)
  ·exact h' x hx
 ·exact h x (hbu hx)
theorem znk {sz : Nat} {es : List (List PV)} {e : List PV} {i : Nat} (h : zt sz es = true) (hl : e.length = sz) (hp : e.all PV.plain = true) : zt sz (es.set i e) = true := by
 unfold zt at h ⊢
 rw [har] at h ⊢
 intro x hx
 rcases List.mem_or_eq_of_mem_set hx with hx | rfl
 ·exact h x hx
 ·rw [hp]; simp [hl]
theorem zm8 {t : TypeId} {a v : PV} {k : List KO → Option β} (h : zcx P A t a v k = some r) : ∃ A',k A' = some r ∧ ∀ ρ env penv σ n0 p q,KS ρ A env penv σ → VK ρ A.length a p → VK ρ A.length v q → ∃ σ',zu P σ t p q = some σ' ∧ KS ρ A' env penv σ' ∧ Go2 n0 ρ A σ ρ A' σ' ∧ A'.length = A.length := by
 unfold zcx at h
 split at h
 ·rename_i j i off
  rw [haa] at h
  obtain ⟨n,hn,h⟩ := h
  split at h
  ·rename_i tt cs hj
   split at h
   ·rename_i hc
    obtain ⟨rfl,c1,c2,c3⟩ := hc
    rw [y5] at h
    refine ⟨_,h,fun ρ env penv σ n0 p q hK hp hv => ?_⟩
    obtain ⟨hl,hr⟩ := hp.ref_inv
    obtain ⟨id,pcs,ro,e,q1,q2,q3,q4⟩ := hK.get hl hj
    have hro := q3 rfl
    subst hro
    rw [e] at hr
    cases hr
    have hcs := hv.cells (zix c3 c1)
    refine ⟨_,?_,(hK.put (σ' := σ.put id (.cells 0 [over pcs off q.cells])) (o := .box true tt (over cs off v.cells)) (by rw [hj]; rfl) (hah _) (fun x hx hnx => yb fun ex => hnx (by rw [e,ex]; exact .head _)) ?_ (fun _ => rfl) n0).imp (fun x => x) fun x => ⟨x,by simp⟩⟩
    ·simp only [zu,q1,List.getElem?_cons_zero,Option.bind_some,hn]
     rw [if_pos ⟨by rw [← hcs.len]; exact c1,by rw [← q2.len]; exact c2,hcs.ones c3,hah _⟩]
     rfl
    ·refine ⟨id,_,0,e,xa _ _ _,q2.over hcs off,fun _ => rfl,q4⟩
   ·cases h
  ·rename_i sz es hj
   split at h
   ·rename_i hc
    obtain ⟨c1,c2,c3⟩ := hc
    split at h
    ·rename_i hi
     refine ⟨_,h,fun ρ env penv σ n0 p q hK hp hv => ?_⟩
     obtain ⟨hl,hr⟩ := hp.ref_inv
     obtain ⟨q0,q1,⟨e',rfl⟩ | ⟨id,cap,ro,ps,tl,e',s1,s2,s3,s4,s5,s6⟩⟩ := hK.get hl hj
     ·rw [e'] at hr; cases hr
     ·have hro := s5 rfl
      subst hro
      rw [e'] at hr
      cases hr
      have hone : v.cells.all PV.one = true := by
       rw [har] at c3 ⊢
       exact fun x hx => wx (c3 x hx)
      have hcs := hv.cells (zix hone c1)
      obtain ⟨g1,g2⟩ := hcs.plain c3
      have hes : es[i]? = some es[i] := haf hi
      obtain ⟨pe,s7,s8⟩ := s2.get hes
      have hgd : es.getD i [] = es[i] := by rw [hai,hes]; rfl
      have hre := ve q1 (List.getElem_mem hi)
      have hpe : pe.length = sz := by rw [← s8.len]; exact hre.1
      -- what is laid there
      have hnew : (if off = 0 ∧ n = sz then v.cells else over (es.getD i []) off v.cells) = over es[i] off v.cells := by
       split
       ·rename_i hz
        obtain ⟨rfl,rfl⟩ := hz
        unfold over
        simp [c1,hre.1]
       ·rw [hgd]
      rw [hnew]
      refine ⟨_,?_,(hK.put (σ' := σ.put id (.cells 0 (ps.set i (over pe off q.cells) ++ tl))) (o := .made true sz (es.set i (over es[i] off v.cells))) (by rw [hj]; rfl) (hah _) (fun x hx hnx => yb fun ex => hnx (by rw [e',ex]; exact .head _)) ?_ (fun hb => by rw [hj] at hb; cases hb) n0).imp (fun x => x) fun x => ⟨x,by simp⟩⟩
      ·simp only [zu,s1,zlp s7 tl,Option.bind_some,hn,List.set_append_left _ _ (show i < ps.length by rw [← s2.len]; exact hi)]
       rw [if_pos ⟨by rw [← hcs.len]; exact c1,by rw [hpe]; exact c2,hcs.ones hone,hbe _⟩]
      ·refine ⟨q0,znk q1 (by rw [zse (by rw [hre.1,c1]; exact c2)]; exact hre.1) (znq hre.2 c3),.inr ⟨id,cap,0,_,tl,by rw [e']; simp,xa _ _ _,s2.set (s8.over g1 off) i,by simpa using s3,s4,fun _ => rfl,s6⟩⟩
    ·cases h
   ·cases h
  ·cases h
 ·cases h
end
end Go.Pvm
namespace Go.Pvm
section
variable {P : Program} {ρ ρ' : Nat → PV} {m : Nat} {A A' : List KO} {env penv : List PV} {σ σ' : Store} {β : Type} {r : β}
theorem VFs.mapR {f g : PV → PV} : ∀ {cs ps : List PV},VKs ρ m cs ps → (∀ v p,VK ρ m v p → VF (f v) (g p)) → VFs (cs.map f) (ps.map g)
 | _,_,.nil,_ => .nil
 | _,_,.cons h t,hf => .cons (hf _ _ h) (VFs.mapR t hf)
theorem ur (hK : KS ρ A env penv σ) : ∀ (n : Nat) {v p : PV},VK ρ A.length v p → VF (fzK n A v) (fz n σ p)
 | 0,_,_,_ => .undef _
 | n + 1,v,p,h => by
   match h with
   | .fr (.undef _) => exact .undef _
   | .fr (.base v hb) => cases v <;> first | exact .base _ rfl | exact .nl _ | cases hb
   | .fr (.psl b b' h) => exact .psl b b' h
   | .fr (.nl b) => exact .nl b
   | .fr (.pref h) => exact .pref h
   | .fr (.agg h) => exact .agg (VFs.mapR (ρ := ρ) (m := A.length) h.k fun _ _ q => ur hK n q)
   | .fr (.tuple h) => exact .tuple (VFs.mapR (ρ := ρ) (m := A.length) h.k fun _ _ q => ur hK n q)
   | .fr (.func f h) => exact .func f (VFs.mapR (ρ := ρ) (m := A.length) h.k fun _ _ q => ur hK n q)
   | .agg h => exact .agg (VFs.mapR h fun _ _ q => ur hK n q)
   | .tuple h => exact .tuple (VFs.mapR h fun _ _ q => ur hK n q)
   | .func f h => exact .func f (VFs.mapR h fun _ _ q => ur hK n q)
   | .ref (k := k) (i := i) (o := o) hl hr =>
     unfold fzK
     simp only
     split
     ·rename_i w t cs hj
      split
      ·rename_i hi
       subst hi
       obtain ⟨id,pcs,ro,e,q1,q2,q3,q4⟩ := hK.get hl hj
       rw [e] at hr
       cases hr
       unfold fz
       simp only [q1,List.getElem?_cons_zero]
       exact .pref (VFs.mapR (q2.drop o) fun _ _ q => ur hK n q)
      ·exact .undef _
     ·rename_i w sz es hj
      split
      ·rename_i n' e hes
       obtain ⟨q0,q1,⟨e',rfl⟩ | ⟨id,cap,ro,ps,tl,e',s1,s2,s3,s4,s5,s6⟩⟩ := hK.get hl hj
       ·rw [e'] at hr; cases hr
       ·rw [e'] at hr
        cases hr
        obtain ⟨pe,s7,s8⟩ := s2.get hes
        unfold fz
        simp only [s1,zlp s7 tl]
        have hpl := (ve (jv s2 q1) (haj s7)).2
        rw [vo (fun c hc => by rw [har] at hpl; exact hpl c (hbu hc))]
        exact .pref (s8.drop o)
      ·exact .undef _
     ·exact .undef _
   | .whole (k := k) (sz := sz) hl hh =>
     unfold fzK
     simp only
     split
     ·rename_i w sz' es hj
      cases n with
      | zero => exact .undef _
      | succ n' =>
        obtain ⟨q0,q1,⟨e',rfl⟩ | ⟨id,cap,ro,ps,tl,e',s1,s2,s3,s4,s5,s6⟩⟩ := hK.get hl hj
        ·rw [e']; exact .nl _
        ·rw [e']
         rw [zk2 s1 (by rw [s2.len,hak]; omega)]
         rw [s2.len]
         simp only [ha8,List.take_left]
         rw [zpn (jv s2 q1)]
         exact .psl _ _ s2
     ·exact .undef _
   | .view (k := k) (sz := sz) (a := a) (n := nn) hl hh hv =>
     unfold fzK
     simp only
     split
     ·rename_i w sz' es hj
      cases n with
      | zero => exact .undef _
      | succ n' =>
        obtain ⟨q0,q1,⟨e',rfl⟩ | ⟨id,cap,ro,ps,tl,e',s1,s2,s3,s4,s5,s6⟩⟩ := hK.get hl hj
        ·rw [e'] at hv ⊢
         obtain ⟨rfl,rfl⟩ := hv
         exact .nl _
        ·rw [e'] at hv ⊢
         have hv : a + nn ≤ es.length := hv
         show VF _ (fz (n' + 1 + 1) σ (.lsl id _ a nn _))
         rw [zk2 s1 (by rw [hak,← s2.len]; omega),zrj (by rw [← s2.len]; exact hv)]
         have : ((ps.drop a).take nn).map (fun e => e.map (fz (n' + 1) σ)) = (ps.drop a).take nn := by
          have hq := zpn (jv s2 q1) n' σ
          rw [List.map_take,List.map_drop,hq]
         rw [this]
         exact .psl _ _ ((s2.drop a).take nn)
     ·exact .undef _
mutual
theorem VF.no_tops : ∀ {v p : PV},VF v p → v.clean = true → tops v = [] ∧ tops p = [] ∧ p.lf = true
 | _,_,.undef _,h => by cases h
 | _,_,.base v hb,h => by cases v <;> first | exact ⟨rfl,rfl,rfl⟩ | cases hb
 | _,_,.psl ..,h => ⟨rfl,rfl,rfl⟩
 | _,_,.nl _,h => ⟨rfl,rfl,rfl⟩
 | _,_,.pref _,h => ⟨rfl,rfl,rfl⟩
 | _,_,.agg hc,h => VFs.no_tops hc h
 | _,_,.tuple hc,h => VFs.no_tops hc h
 | _,_,.func _ hc,h => VFs.no_tops hc h
theorem VFs.no_tops : ∀ {v p : List PV},VFs v p → PV.clean.cleans v = true → tops.topss v = [] ∧ tops.topss p = [] ∧ PV.lf.lfs p = true
 | _,_,.nil,_ => ⟨rfl,rfl,rfl⟩
 | _,_,.cons hv ht,h => by
   unfold PV.clean.cleans at h
   rw [haq] at h
   obtain ⟨a1,a2,a3⟩ := VF.no_tops hv h.1
   obtain ⟨b1,b2,b3⟩ := VFs.no_tops ht h.2
   exact ⟨by unfold tops.topss; rw [a1,b1]; rfl,by unfold tops.topss; rw [a2,b2]; rfl,by unfold PV.lf.lfs; rw [a3,b3]; rfl⟩
end
mutual
theorem VK.tops_eq : ∀ {v p : PV},VK ρ m v p → v.clean = true → tops p = (tops v).flatMap fun k => tops (ρ k)
 | _,_,.fr h,hc => by obtain ⟨a1,a2,_⟩ := h.no_tops hc; rw [a1,a2]; rfl
 | _,_,.ref (k := k) h h2,_ => by
   unfold uv at h2
   split at h2
   ·rename_i e _; cases h2; simp [tops,e]
   ·rename_i e _; cases h2; simp [tops,e]
   ·cases h2
 | _,_,.whole (k := k) h hh,_ => by simp [tops]
 | _,_,.view (k := k) (a := a) (n := n) h hh h2,_ => by
   cases hq : ρ k <;> rw [hq] at hh <;> first | (cases hh; done) | simp [tops,zjk,hq]
 | _,_,.agg h,hc => VKs.tops_eq h hc
 | _,_,.tuple h,hc => VKs.tops_eq h hc
 | _,_,.func _ h,hc => VKs.tops_eq h hc
theorem VKs.tops_eq : ∀ {v p : List PV},VKs ρ m v p → PV.clean.cleans v = true → tops.topss p = (tops.topss v).flatMap fun k => tops (ρ k)
 | _,_,.nil,_ => rfl
 | _,_,.cons hv ht,h => by
   unfold PV.clean.cleans at h
   rw [haq] at h
   unfold tops.topss
   rw [VK.tops_eq hv h.1,VKs.tops_eq ht h.2,List.flatMap_append]
end
mutual
theorem VK.lf_eq : ∀ {v p : PV},VK ρ m v p → v.clean = true → v.lf = true → p.lf = true
 | _,_,.fr h,hc,_ => (h.no_tops hc).2.2
 | _,_,.ref ..,_,h => by cases h
 | _,_,.whole ..,_,h => by cases h
 | _,_,.view ..,_,h => by cases h
 | _,_,.agg h,hc,hl => VKs.lf_eq h hc hl
 | _,_,.tuple h,hc,hl => VKs.lf_eq h hc hl
 | _,_,.func _ h,hc,hl => VKs.lf_eq h hc hl
theorem VKs.lf_eq : ∀ {v p : List PV},VKs ρ m v p → PV.clean.cleans v = true → PV.lf.lfs v = true → PV.lf.lfs p = true
 | _,_,.nil,_,_ => rfl
 | _,_,.cons hv ht,h,hl => by
   unfold PV.clean.cleans at h
   unfold PV.lf.lfs at hl
   rw [haq] at h hl
   unfold PV.lf.lfs
   rw [VK.lf_eq hv h.1 hl.1,VKs.lf_eq ht h.2 hl.2]; rfl
end
theorem zc3 {e : List PV} (h : e.all PV.plain = true) : PV.lf.lfs e = true := ze0 (by rw [har] at h; exact h)
theorem zg5 : ∀ (ks : List Nat) {A A' : List KO},roK ks A = some A' → KS ρ A env penv σ → ∀ n0,KS ρ A' env penv σ ∧ Go2 n0 ρ A σ ρ A' σ
 | [],A,A',h,hK,n0 => by cases h; exact ⟨hK,Go2.refl _ _ _ _⟩
 | k :: ks,A,A',h,hK,n0 => by
   unfold roK at h
   split at h
   ·rename_i w sz es hj
    have hd : isDead (A.getD k .dead) = false := by rw [hj]; rfl
    obtain ⟨q0,q1,q2⟩ := hK.get (jt hd) hj
    obtain ⟨h1,h2⟩ := hK.put (σ' := σ) (o := .made false sz es) hd (hah _) (fun _ _ _ => rfl) ⟨q0,q1,q2.imp (fun x => x) fun ⟨id,cap,ro,ps,tl,e,s1,s2,s3,s4,_,s6⟩ => ⟨id,cap,ro,ps,tl,e,s1,s2,s3,s4,(fun h => by cases h),s6⟩⟩ (fun hb => by rw [hj] at hb; cases hb) n0
    obtain ⟨h3,h4⟩ := zg5 ks h h1 n0
    exact ⟨h3,h2.trans h4⟩
   ·rename_i w t cs hj
    split at h
    ·have hd : isDead (A.getD k .dead) = false := by rw [hj]; rfl
     obtain ⟨id,pcs,ro,e,s1,s2,_,s4⟩ := hK.get (jt hd) hj
     obtain ⟨h1,h2⟩ := hK.put (σ' := σ) (o := .box false t cs) hd (hah _) (fun _ _ _ => rfl) ⟨id,pcs,ro,e,s1,s2,(fun h => by cases h),s4⟩ (fun _ => rfl) n0
     obtain ⟨h3,h4⟩ := zg5 ks h h1 n0
     exact ⟨h3,h2.trans h4⟩
    ·cases h
   ·cases h
theorem zip : ∀ (ks : List Nat) {A A' : List KO} {σ : Store},roK ks A = some A' → KS ρ A env penv σ → ∀ n0,∃ σ',ke (ks.flatMap fun k => tops (ρ k)) σ = some σ' ∧ KS ρ A' env penv σ' ∧ Go2 n0 ρ A σ ρ A' σ'
 | [],A,A',σ,h,hK,n0 => by cases h; exact ⟨σ,rfl,hK,Go2.refl _ _ _ _⟩
 | k :: ks,A,A',σ,h,hK,n0 => by
   unfold roK at h
   split at h
   ·rename_i w sz es hj
    have hd : isDead (A.getD k .dead) = false := by rw [hj]; rfl
    obtain ⟨q0,q1,⟨e,rfl⟩ | ⟨id,cap,ro,ps,tl,e,s1,s2,s3,s4,s5,s6⟩⟩ := hK.get (jt hd) hj
    ·obtain ⟨h1,h2⟩ := hK.put (σ' := σ) (o := .made false sz []) hd (hah _) (fun _ _ _ => rfl) ⟨q0,q1,.inl ⟨e,rfl⟩⟩ (fun hb => by rw [hj] at hb; cases hb) n0
     obtain ⟨σ',h3,h4,h5⟩ := zip ks h h1 n0
     refine ⟨σ',?_,h4,h2.trans h5⟩
     rw [List.flatMap_cons,e]
     exact h3
    ·have hpl := jv s2 q1
     have hlf : ((ps ++ tl).all fun e => PV.lf.lfs e) = true := by
      rw [har]
      intro e he
      rcases hbn.1 he with he | he
      ·exact zc3 (ve hpl he).2
      ·exact zc3 (ve s4 he).2
     obtain ⟨h1,h2⟩ := hK.put (σ' := σ.put id (.cells (ps ++ tl).length (ps ++ tl))) (o := .made false sz es) hd (hah _) (fun x _ hx => yb fun ex => hx (by rw [e,ex]; exact .head _)) ⟨q0,q1,.inr ⟨id,cap,(ps ++ tl).length,ps,tl,e,xa _ _ _,s2,s3,s4,(fun h => by cases h),s6⟩⟩ (fun hb => by rw [hj] at hb; cases hb) n0
     obtain ⟨σ',h3,h4,h5⟩ := zip ks h h1 n0
     refine ⟨σ',?_,h4,h2.trans h5⟩
     rw [List.flatMap_cons,e]
     show ke (id :: _) σ = _
     unfold ke
     rw [s1]
     simp only
     rw [if_pos hlf]
     exact h3
   ·rename_i w t cs hj
    split at h
    ·rename_i hcs
     have hd : isDead (A.getD k .dead) = false := by rw [hj]; rfl
     obtain ⟨id,pcs,ro,e,s1,s2,_,s4⟩ := hK.get (jt hd) hj
     have hpl := (s2.plain hcs).2
     obtain ⟨h1,h2⟩ := hK.put (σ' := σ.put id (.cells 1 [pcs])) (o := .box false t cs) hd (hah _) (fun x _ hx => yb fun ex => hx (by rw [e,ex]; exact .head _)) ⟨id,pcs,1,e,xa _ _ _,s2,(fun h => by cases h),s4⟩ (fun _ => rfl) n0
     obtain ⟨σ',h3,h4,h5⟩ := zip ks h h1 n0
     refine ⟨σ',?_,h4,h2.trans h5⟩
     rw [List.flatMap_cons,e]
     show ke (id :: _) σ = _
     unfold ke
     rw [s1]
     simp only
     rw [if_pos (by simp [zc3 hpl])]
     exact h3
    ·cases h
   ·cases h
theorem k8 (f : Nat → Option Nat) : ∀ l : List PV,(rnm.rnms f l).length = l.length
 | [] => rfl
 | _ :: r => congrArg (· + 1) (k8 f r)
theorem zhm {l : List Nat} {k k' : Nat} (h : k7 l k = some k') : k' = k ∧ k ∉ l := by
 unfold k7 at h
 split at h
 ·cases h
 ·rename_i hc
  cases h
  exact ⟨rfl,by simpa using hc⟩
def Stp (n0 : Nat) (ρ : Nat → PV) (A : List KO) (σ : Store) (v : PV) (env' penv : List PV) (A' : List KO) (p : PV) (σ' : Store) : Prop := ∃ ρ',KS ρ' A' env' penv σ' ∧ VK ρ' A'.length v p ∧ Go2 n0 ρ A σ ρ' A' σ'
theorem zm3 {el : TypeId} {s x : PV} {k : PV → List PV → List KO → Option β} (h : zjz P el s x env A k = some r) : ∃ v env' A',k v env' A' = some r ∧ env'.length = env.length ∧
  ∀ ρ penv σ n0 p q,KS ρ A env penv σ → VK ρ A.length s p → VK ρ A.length x q → ∃ w σ',xz P σ el p q = some (w,σ') ∧ Stp n0 ρ A σ v env' penv A' w σ' := by
 unfold zjz at h
 simp only [haa] at h
 obtain ⟨sz,hsz,by_,hby,z,hz,h⟩ := h
 obtain ⟨new,h,hx⟩ := zg4 h
 split at h
 ·cases h
 rename_i hne
 have hne1 : sz ≠ 0 ∧ by_ ≠ 0 ∧ z.known = true ∧ z.cells.length = sz := by
  refine ⟨fun e => hne (.inl e),fun e => hne (.inr (.inl e)),?_,?_⟩
  ·cases hq : z.known with
   | true => rfl
   | false => exact absurd (.inr (.inr (.inl hq))) hne
  ·by_cases hq : z.cells.length = sz
   ·exact hq
   ·exact absurd (.inr (.inr (.inr hq))) hne
 have E : El P el sz by_ := ⟨hsz,hby,⟨z,hz,hne1.2.2⟩,hne1.1,hne1.2.1⟩
 split at h
 ·cases h
 rename_i hro
 have hro : zt sz new = true := by simpa using hro
 split at h
 ·-- nil
  split at h
  ·rename_i hb
   refine ⟨_,_,_,h,rfl,fun ρ penv σ n0 p q hK hp hq => ?_⟩
   obtain ⟨ps,e1,e2⟩ := hx ρ env penv σ q hK hq
   have hpl := jv e2 hro
   have hall := (rowsPl_els.1 hpl).all1
   rw [hp.nilsl_eq]
   by_cases hn : ps = []
   ·subst hn
    have hn' : new = [] := ha1 (by rw [e2.len]; rfl)
    subst hn'
    obtain ⟨h1,h2⟩ := hK.more (σ' := σ) (u := .nilsl) (o := .made true sz []) (hah _) (fun _ _ => rfl) (fun i hi => by cases hi) ⟨hne1.1,rfl,.inl ⟨rfl,rfl⟩⟩ n0
    refine ⟨.nilsl,σ,?_,_,h1,?_,h2⟩
    ·rw [xf E e1 hall]
     rfl
    ·have : VK (upd ρ A.length .nilsl) (A ++ [KO.made true sz []]).length (.lsl A.length sz 0 0 none) (upd ρ A.length .nilsl A.length) := .whole (by simp) (by rw [y8]; rfl)
     rw [y8] at this
     exact this
   ·have hbs : ps.length * by_ ≤ 140737488355328 := by rw [← e2.len]; exact hb
    obtain ⟨h1,h2⟩ := hK.more (σ' := σ.push (.cells 0 ps)) (u := .lsl σ.next sz 0 ps.length none) (o := .made true sz new) (hbd _) (fun i hi => yj hi) (fun i hi => by rw [ham.1 hi]; exact hah _)
     (KOR.mk0 (ρ := fun _ => .undef) (m := 0) hne1.1 hro (id := σ.next) (by rw [e2.len]) (zn _ _) e2 (.inl rfl) (fun _ => rfl) (haw _)) n0
    refine ⟨_,_,zb0 E e1 hall hn hbs,_,h1,?_,h2⟩
    have : VK (upd ρ A.length (.lsl σ.next sz 0 ps.length none)) (A ++ [KO.made true sz new]).length (.lsl A.length sz 0 0 none) (upd ρ A.length (.lsl σ.next sz 0 ps.length none) A.length) := .whole (by simp) (by rw [y8]; rfl)
    rw [y8] at this
    exact this
  ·cases h
 ·-- a slice that was made
  rename_i j sz' _
  split at h
  ·rename_i sz'' es hj
   split at h
   ·rename_i hszz
    subst hszz
    split at h
    ·rename_i hb
     unfold vm at h
     rw [forceVs_eq,y5] at h
     refine ⟨_,_,_,h,k8 _ _,fun ρ penv σ n0 p q hK hp hq => ?_⟩
     obtain ⟨ps,e1,e2⟩ := hx ρ env penv σ q hK hq
     have hpl := jv e2 hro
     have hall := (rowsPl_els.1 hpl).all1
     have hd : isDead (A.getD j .dead) = false := by rw [hj]; rfl
     have hjl := jt hd
     have hf : ∀ u k k',k < A.length → k7 [j] k = some k' → k' < A.length + 1 ∧ upd ρ A.length u k' = ρ k := fun u k k' hk e => by
      obtain ⟨rfl,b⟩ := zhm e
      exact ⟨by omega,qr _ (by omega)⟩
     have hrows : zt sz'' (es ++ new) = true := by
      have h1 := (hK.get hjl hj).2.1
      unfold zt at h1 hro ⊢
      rw [List.all_append,h1,hro]; rfl
     have hfin : ∀ (u : PV) (σ' : Store),hdl u = true → σ.next ≤ σ'.next → (∀ i,i < σ.next → i ∉ tops (ρ j) → σ'.objs i = σ.objs i) → (∀ i ∈ tops u,i ∈ tops (ρ j) ∨ σ.next ≤ i) → KOR (upd ρ A.length u) (A.length + 1) σ' u (.made true sz'' (es ++ new)) →
       Stp n0 ρ A σ (whole (A.map (uc (k7 [j]))).length sz'') (rnm.rnms (k7 [j]) env) penv ((A.map (uc (k7 [j]))).set j .dead ++ [.made true sz'' (es ++ new)]) u σ' := fun u σ' hu a b c d => by
      obtain ⟨h1,h2⟩ := hK.renew (f := k7 [j]) hd (by rw [hj]; rfl) (hf u) a b c d n0
      refine ⟨_,h1,?_,h2⟩
      have : VK (upd ρ A.length u) ((A.map (uc (k7 [j]))).set j .dead ++ [KO.made true sz'' (es ++ new)]).length (.lsl A.length sz'' 0 0 none) (upd ρ A.length u A.length) := .whole (by simp) (by rw [y8]; exact hu)
      rw [y8] at this
      rw [han]
      exact this
     obtain ⟨_,_,⟨_,_,_,rfl⟩ | ⟨e,_⟩⟩ := hp.lsl_inv
     ·obtain ⟨q0,q1,⟨e',rfl⟩ | ⟨id,cap,ro,pes,tl,e',s1,s2,s3,s4,s5,s6⟩⟩ := hK.get hjl hj
      ·rw [e']
       by_cases hn : ps = []
       ·subst hn
        have hn' : new = [] := ha1 (by rw [e2.len]; rfl)
        subst hn'
        exact ⟨.nilsl,σ,by rw [xf E e1 hall]; rfl,hfin .nilsl σ rfl (hah _) (fun _ _ _ => rfl) (fun i hi => by cases hi) ⟨q0,hrows,.inl ⟨rfl,rfl⟩⟩⟩
       ·exact ⟨_,_,zb0 E e1 hall hn (by rw [← e2.len]; simpa using hb),hfin _ _ rfl (hbd _) (fun i hi _ => yj hi) (fun i hi => by rw [ham.1 hi]; exact .inr (hah _))
         (KOR.mk0 (ρ := fun _ => .undef) (m := 0) q0 hrows (id := σ.next) (by rw [← e2.len]; rfl) (zn _ _) e2 (.inl rfl) (fun _ => rfl) (haw _))⟩
      ·rw [e']
       have hpes := s2.len
       by_cases hn : ps = []
       ·subst hn
        have hn' : new = [] := ha1 (by rw [e2.len]; rfl)
        subst hn'
        refine ⟨_,_,wj E e1,hfin _ σ rfl (hah _) (fun _ _ _ => rfl) (fun i hi => by rw [e']; exact .inl hi) ⟨q0,hrows,.inr ⟨id,cap,ro,pes,tl,by simp,s1,by simpa using s2,by simpa using s3,s4,s5,s6⟩⟩⟩
       ·have hb' : (es.length + ps.length) * by_ ≤ 140737488355328 := by rw [← e2.len]; exact hb
        have hro := s5 rfl
        subst hro
        by_cases hin : ps.length ≤ tl.length
        ·-- in the row
         have hcap : es.length + ps.length ≤ cap.getD (es.length + ps.length) := by
          rcases s3 with rfl | rfl
          ·exact hah _
          ·show es.length + ps.length ≤ es.length + tl.length; omega
         have hsp : (pes ++ tl).take (0 + es.length) ++ ps ++ (pes ++ tl).drop (0 + es.length + ps.length) = (pes ++ ps) ++ tl.drop ps.length := by
          rw [hb4,hpes,List.take_left,← List.drop_drop,List.drop_left]
         have happ : xz P σ el (.lsl id sz'' 0 es.length cap) q = some (.lsl id sz'' 0 (es.length + ps.length) cap,σ.put id (.cells 0 ((pes ++ ps) ++ tl.drop ps.length))) := by
          rw [xf E e1 hall]
          simp only [s1]
          rw [if_neg (fun e => hn (ha1 e)),if_neg (by simp),if_pos ⟨by rw [hak,← hpes]; omega,hcap⟩,if_pos (hbe _),hsp]
         refine ⟨_,_,happ,hfin _ _ rfl (hah _) (fun i hi hni => yb fun ex => hni (by rw [e',ex]; exact .head _)) (fun i hi => by rw [e']; exact .inl hi) ⟨q0,hrows,.inr ⟨id,cap,0,pes ++ ps,tl.drop ps.length,by rw [hak,e2.len],xa _ _ _,s2.app e2,?_,?_,fun _ => rfl,s6⟩⟩⟩
         ·rcases s3 with rfl | rfl
          ·exact .inl rfl
          ·right; congr 1; rw [hak,List.length_drop,e2.len]; omega
         ·unfold zt at s4 ⊢
          rw [har] at s4 ⊢
          exact fun e he => s4 e (hbu he)
        ·have htk : ((pes ++ tl).drop 0).take es.length ++ ps = pes ++ ps := by rw [ha8,hpes,List.take_left]
         rcases s3 with rfl | rfl
         ·have happ : xz P σ el (.lsl id sz'' 0 es.length none) q = some (.lsl σ.next sz'' 0 (es.length + ps.length) none,(σ.kill id).push (.cells 0 (pes ++ ps))) := by
           rw [xf E e1 hall]
           simp only [s1]
           rw [if_neg (fun e => hn (ha1 e)),if_neg (by simp),if_neg (by rw [hak,← hpes]; omega),if_pos (by rw [hak,← hpes]; omega),if_pos hb',if_pos (hbe _),htk]
          refine ⟨_,_,happ,hfin _ _ rfl (hbd _) (fun i hi hni => ?_) (fun i hi => by rw [ham.1 hi]; exact .inr (hah _)) (KOR.mk0 (ρ := fun _ => .undef) (m := 0) q0 hrows (id := σ.next) (by rw [hak,e2.len]) (k9 _ _ _) (s2.app e2) (.inl rfl) (fun _ => rfl) (haw _))⟩
          show (if i = σ.next then _ else if i = id then none else σ.objs i) = _
          rw [if_neg (by omega),if_neg (fun ex => hni (by rw [e',ex]; exact .head _))]
         ·have happ : xz P σ el (.lsl id sz'' 0 es.length (some (es.length + tl.length))) q = some (.lsl σ.next sz'' 0 (es.length + ps.length) none,σ.push (.cells 0 (pes ++ ps))) := by
           rw [xf E e1 hall]
           simp only [s1]
           rw [if_neg (fun e => hn (ha1 e)),if_neg (by simp),if_neg (by rw [hak,← hpes]; omega),if_pos (by rw [hak,← hpes]; omega),if_pos hb',if_pos (by omega),htk]
          exact ⟨_,_,happ,hfin _ _ rfl (hbd _) (fun i hi _ => yj hi) (fun i hi => by rw [ham.1 hi]; exact .inr (hah _)) (KOR.mk0 (ρ := fun _ => .undef) (m := 0) q0 hrows (id := σ.next) (by rw [hak,e2.len]) (zn _ _) (s2.app e2) (.inl rfl) (fun _ => rfl) (haw _))⟩
     ·cases e
    ·cases h
   ·cases h
  ·cases h
 ·cases h
def OpR (ρ : Nat → PV) (m : Nat) (x y : Option PV) : Prop := (x = none ∧ y = none) ∨ ∃ v p,x = some v ∧ y = some p ∧ VK ρ m v p
theorem xy {x y : Option PV} {d n : Nat} (h : OpR ρ m x y) (hn : xi x d = some n) : xi y d = some n := by
 rcases h with ⟨rfl,rfl⟩ | ⟨v,p,rfl,rfl,h⟩
 ·exact hn
 ·cases v <;> first | (cases hn; done) | skip
  rw [h.int_eq]
  exact hn
theorem OpR.map (h : VKs ρ m env penv) (o : Option Operand) : OpR ρ m (o.map (opd env)) (o.map (opd penv)) := by
 cases o with
 | none => exact .inl ⟨rfl,rfl⟩
 | some x => exact .inr ⟨_,_,rfl,rfl,xu h x⟩
theorem VFss.rowsAt {cs ps : List PV} (h : VFs cs ps) (sz l k : Nat) : VFss (rowsAt cs sz l k) (rowsAt ps sz l k) := by
 unfold Pvm.rowsAt
 have : ∀ r : List Nat,VFss (r.map fun i => (cs.drop ((l + i) * sz)).take sz) (r.map fun i => (ps.drop ((l + i) * sz)).take sz) := fun r => by
  induction r with
  | nil => exact .nil
  | cons i r ih => exact .cons ((h.drop _).take _) ih
 exact this _
theorem zs4 {t : TypeId} {x : PV} {lo hi mx : Option PV} {k : PV → Option β} (h : zoh P A t x lo hi mx k = some r) : ∃ v,k v = some r ∧ ∀ ρ env penv σ p plo phi pmx,KS ρ A env penv σ → VK ρ A.length x p → OpR ρ A.length lo plo → OpR ρ A.length hi phi → OpR ρ A.length mx pmx → ∃ q,zai P t p plo phi pmx = some q ∧ VK ρ A.length v q := by
 unfold zoh at h
 split at h
 ·cases h
 rename_i hmx
 have hmx : mx = none := by cases mx with | none => rfl | some _ => exact absurd rfl hmx
 subst hmx
 have nomx : ∀ {ρ m} {pmx : Option PV},OpR ρ m none pmx → pmx = none := fun h => by rcases h with ⟨_,e⟩ | ⟨_,_,e,_⟩ <;> first | exact e | cases e
 split at h
 ·rename_i s hu
  rw [haa] at h
  obtain ⟨v,h1,h2⟩ := h
  refine ⟨v,h2,fun ρ env penv σ p plo phi pmx hK hp hlo hhi hm => ?_⟩
  rw [hp.str_eq,nomx hm]
  simp only [zai,hu,Option.isSome_none,Bool.false_eq_true,false_and,if_false,haa] at h1 ⊢
  obtain ⟨a,h3,b,h4,h5⟩ := h1
  split at h5
  ·rename_i hc
   cases h5
   exact ⟨_,⟨a,xy hhi h3,b,xy hlo h4,by rw [if_pos hc]⟩,.fr (.base _ rfl)⟩
  ·cases h5
 ·rename_i el hu
  rw [haa] at h
  obtain ⟨v,h1,h2⟩ := h
  refine ⟨v,h2,fun ρ env penv σ p plo phi pmx hK hp hlo hhi hm => ?_⟩
  rw [hp.nilsl_eq,nomx hm]
  simp only [zai,hu,Option.isSome_none,Bool.false_eq_true,false_and,if_false,haa] at h1 ⊢
  obtain ⟨s,h3,a,h4,b,h5,c,h6,h7⟩ := h1
  split at h7
  ·rename_i hc
   cases h7
   exact ⟨_,⟨s,h3,a,xy hhi h4,b,xy hlo h5,c,h6,by rw [if_pos hc]⟩,.fr (.base _ rfl)⟩
  ·cases h7
 ·rename_i el b es hu
  simp only [haa] at h
  obtain ⟨sz,hsz,a,h3,l,h4,h⟩ := h
  split at h
  ·rename_i hall
   split at h
   ·rename_i hc
    refine ⟨_,h,fun ρ env penv σ p plo phi pmx hK hp hlo hhi hm => ?_⟩
    rw [nomx hm]
    rcases hp.psl_inv with ⟨rfl,rfl⟩ | ⟨b',ps,rfl,hps⟩
    ·have ha : a = 0 := by simpa using hc.2
     have hl : l = 0 := by have := hc.1; omega
     subst ha hl
     refine ⟨.nilsl,?_,.fr (.nl _)⟩
     simp only [zai,hu,Option.isSome_none,Bool.false_eq_true,false_and,if_false,hsz,Option.bind_some]
     have h3' : xi hi 0 = some 0 := h3
     rw [xy hhi h3',xy hlo h4]
     rfl
    ·have hall' : (ps.all fun e => e.length == sz) = true := by
      rw [har] at hall ⊢
      intro e he
      obtain ⟨i,hi⟩ := List.getElem?_of_mem he
      obtain ⟨e0,e1,e2⟩ := hps.all2.get hi
      rw [← e2.len]
      exact hall e0 (haj e1)
     refine ⟨.psl (b' && decide (a = ps.length)) ((ps.drop l).take (a - l)),?_,.fr (.psl _ _ ((hps.drop l).take (a - l)))⟩
     simp only [zai,hu,Option.isSome_none,Bool.false_eq_true,false_and,if_false,hsz,Option.bind_some]
     rw [← hps.len,xy hhi h3]
     simp only [Option.bind_some]
     rw [xy hlo h4]
     simp only [Option.bind_some,xi]
     rw [if_pos ⟨hc.1,hc.2,hah _,hall'⟩]
   ·cases h
  ·cases h
 ·rename_i el j sz' a n c hu
  simp only [haa] at h
  obtain ⟨sz,hsz,h⟩ := h
  split at h
  ·cases h
  rename_i hs1
  have hs1 : sz' = sz := by simpa using hs1
  subst hs1
  split at h
  ·rename_i w sz'' es hj
   split at h
   ·cases h
   rename_i hs2
   have hs2 : sz'' = sz' := by simpa using hs2
   subst hs2
   split at h
   ·simp only [haa] at h
    obtain ⟨b,h3,l,h4,h⟩ := h
    split at h
    ·rename_i hc
     refine ⟨_,h,fun ρ env penv σ p plo phi pmx hK hp hlo hhi hm => ?_⟩
     rw [nomx hm]
     obtain ⟨hl,hh,⟨_,_,_,rfl⟩ | ⟨e,_⟩⟩ := hp.lsl_inv
     ·obtain ⟨q0,q1,⟨e',rfl⟩ | ⟨id,cap,ro,ps,tl,e',s1,s2,s3,s4,s5,s6⟩⟩ := hK.get hl hj
      ·have hb : b = 0 := by simpa using hc.2
       have hl0 : l = 0 := by have := hc.1; omega
       subst hb hl0
       refine ⟨.nilsl,?_,?_⟩
       ·rw [e']
        simp only [zai,hu,Option.isSome_none,Bool.false_eq_true,false_and,if_false,hsz,Option.bind_some]
        have h3' : xi hi 0 = some 0 := h3
        rw [xy hhi h3',xy hlo h4]
        rfl
       ·have : VK ρ A.length (zdt j sz'' 0 (0 - 0)) (zjk (ρ j) 0 0) := .view hl hh (by rw [e']; exact ⟨rfl,rfl⟩)
        rw [e'] at this
        exact this
      ·refine ⟨.lsl id sz'' l (b - l) (cap.map (· - l)),?_,?_⟩
       ·rw [e']
        have hcap : b ≤ cap.getD es.length := by
         rcases s3 with rfl | rfl
         ·exact hc.2
         ·show b ≤ es.length + tl.length; have := hc.2; omega
        simp only [zai,hu,Option.isSome_none,Bool.false_eq_true,false_and,if_false,hsz,Option.bind_some]
        rw [if_neg (by simp),xy hhi h3]
        simp only [Option.bind_some]
        rw [xy hlo h4]
        simp only [Option.bind_some,xi]
        rw [if_pos ⟨hc.1,hcap,hah _⟩,hb4]
       ·have : VK ρ A.length (zdt j sz'' l (b - l)) (zjk (ρ j) l (b - l)) := .view hl hh (by rw [e']; show l + (b - l) ≤ es.length; omega)
        rw [e'] at this
        exact this
     ·cases e
    ·cases h
   ·simp only [haa] at h
    obtain ⟨b,h3,l,h4,h⟩ := h
    split at h
    ·rename_i hc
     refine ⟨_,h,fun ρ env penv σ p plo phi pmx hK hp hlo hhi hm => ?_⟩
     rw [nomx hm]
     obtain ⟨hl,hh,⟨e,_⟩ | ⟨_,hv,rfl⟩⟩ := hp.lsl_inv
     ·cases e
     ·obtain ⟨q0,q1,⟨e',rfl⟩ | ⟨id,cap,ro,ps,tl,e',s1,s2,s3,s4,s5,s6⟩⟩ := hK.get hl hj
      ·rw [e'] at hv
       obtain ⟨rfl,rfl⟩ := hv
       have hb : b = 0 := by simpa using hc.2
       have hl0 : l = 0 := by have := hc.1; omega
       subst hb hl0
       refine ⟨.nilsl,?_,?_⟩
       ·rw [e']
        simp only [zjk,zai,hu,Option.isSome_none,Bool.false_eq_true,false_and,if_false,hsz,Option.bind_some]
        rw [xy hhi h3,xy hlo h4]
        rfl
       ·have : VK ρ A.length (zdt j sz'' 0 (0 - 0)) (zjk (ρ j) 0 0) := .view hl hh (by rw [e']; exact ⟨rfl,rfl⟩)
        rw [e'] at this
        exact this
      ·rw [e'] at hv
       have hv : a + n ≤ es.length := hv
       refine ⟨.lsl id sz'' (a + l) (b - l) (cap.map (· - (a + l))),?_,?_⟩
       ·rw [e']
        have hcap : b ≤ (cap.map (· - a)).getD n := by
         rcases s3 with rfl | rfl
         ·exact hc.2
         ·have : b ≤ es.length + tl.length - a := by have := hc.2; omega
          exact this
        simp only [zjk,zai,hu,Option.isSome_none,Bool.false_eq_true,false_and,if_false,hsz,Option.bind_some]
        rw [if_neg (by simp),xy hhi h3]
        simp only [Option.bind_some]
        rw [xy hlo h4]
        simp only [Option.bind_some,xi]
        rw [if_pos ⟨hc.1,hcap,hah _⟩]
        congr 2
        cases cap with
        | none => rfl
        | some c => simp only [Option.map_some]; congr 1; omega
       ·have : VK ρ A.length (zdt j sz'' (a + l) (b - l)) (zjk (ρ j) (a + l) (b - l)) := .view hl hh (by rw [e']; show a + l + (b - l) ≤ es.length; have := hc.2; have := hc.1; omega)
        rw [e'] at this
        exact this
    ·cases h
  ·cases h
 ·rename_i n el cs hu
  simp only [haa] at h
  obtain ⟨sz,hsz,b,h3,l,h4,h⟩ := h
  split at h
  ·rename_i hc
   refine ⟨_,h,fun ρ env penv σ p plo phi pmx hK hp hlo hhi hm => ?_⟩
   rw [nomx hm]
   obtain ⟨ps,rfl,hps⟩ := hp.pref_inv
   refine ⟨_,?_,.fr (.psl _ false (VFss.rowsAt hps sz l (b - l)))⟩
   simp only [zai,hu,Option.isSome_none,Bool.false_eq_true,false_and,if_false,hsz,Option.bind_some]
   rw [xy hhi h3]
   simp only [Option.bind_some]
   rw [xy hlo h4]
   simp only [Option.bind_some,xi]
   rw [if_pos ⟨hc.1,hc.2.1,hah _,by rw [← hps.len]; exact hc.2.2⟩]
  ·cases h
 ·cases h
theorem zsu {t : TypeId} {x i : PV} {k : PV → Option β} (h : zn5 P A t x i k = some r) : ∃ v,k v = some r ∧ ∀ ρ env penv σ p pi,KS ρ A env penv σ → VK ρ A.length x p → VK ρ A.length i pi → ∃ q,zh P t p pi = some q ∧ VK ρ A.length v q := by
 unfold zn5 at h
 rw [haa] at h
 obtain ⟨n,hi,h⟩ := h
 have hi' : ∀ ρ m pi,VK ρ m i pi → uq pi = some n := fun ρ m pi hv => by
  cases i <;> first | (cases hi; done) | skip
  rw [hv.int_eq]
  exact hi
 split at h
 ·rename_i el hu
  rw [haa] at h
  obtain ⟨sz,hsz,h⟩ := h
  split at h
  ·rename_i b es
   split at h
   ·rename_i hn
    rw [haa] at h
    obtain ⟨e,he,h⟩ := h
    obtain ⟨cs,h1,h2,h3,_⟩ := asSks_ok _ h
    split at h1
    ·rename_i hl
     refine ⟨_,h1,fun ρ env penv σ p pi hK hp hpi => ?_⟩
     rcases hp.psl_inv with ⟨rfl,rfl⟩ | ⟨b',ps,rfl,hps⟩
     ·simp at he
     ·obtain ⟨pe,g1,g2⟩ := hps.get he
      have g3 := h3 _ g2
      refine ⟨.pref pe,?_,.fr (.pref g3)⟩
      simp only [zh,hi' _ _ _ hpi,Option.bind_some,hu,hsz]
      rw [if_pos hn,g1]
      simp only [Option.bind_some]
      rw [if_pos (by rw [← g3.len]; exact hl)]
    ·cases h1
   ·cases h
  ·rename_i j sz' a nn c
   split at h
   ·cases h
   rename_i hs1
   have hs1 : sz' = sz := by simpa using hs1
   subst hs1
   split at h
   ·rename_i w sz'' es hj
    split at h
    ·cases h
    rename_i hs2
    have hs2 : sz'' = sz' := by simpa using hs2
    subst hs2
    split at h
    ·split at h
     ·rename_i hb
      refine ⟨_,h,fun ρ env penv σ p pi hK hp hpi => ?_⟩
      obtain ⟨hl,hh,⟨_,_,_,rfl⟩ | ⟨e,_⟩⟩ := hp.lsl_inv
      ·obtain ⟨q0,q1,⟨e',rfl⟩ | ⟨id,cap,ro,ps,tl,e',s1,s2,s3,s4,s5,s6⟩⟩ := hK.get hl hj
       ·have := hb.2; simp at this; omega
       ·refine ⟨.ref id (0 + n.toNat) 0,?_,.ref hl (by rw [e',hb4]; rfl)⟩
        rw [e']
        simp only [zh,hi' _ _ _ hpi,Option.bind_some,hu,hsz]
        rw [if_pos ⟨hb.1,hb.2,trivial⟩]
      ·cases e
     ·cases h
    ·split at h
     ·rename_i hb
      refine ⟨_,h,fun ρ env penv σ p pi hK hp hpi => ?_⟩
      obtain ⟨hl,hh,⟨e,_⟩ | ⟨_,hv,rfl⟩⟩ := hp.lsl_inv
      ·cases e
      ·obtain ⟨q0,q1,⟨e',rfl⟩ | ⟨id,cap,ro,ps,tl,e',s1,s2,s3,s4,s5,s6⟩⟩ := hK.get hl hj
       ·rw [e'] at hv
        obtain ⟨rfl,rfl⟩ := hv
        have := hb.2; simp at this; omega
       ·refine ⟨.ref id (a + n.toNat) 0,?_,.ref hl (by rw [e']; rfl)⟩
        rw [e']
        simp only [zh,zjk,hi' _ _ _ hpi,Option.bind_some,hu,hsz]
        rw [if_pos ⟨hb.1,hb.2,trivial⟩]
     ·cases h
   ·cases h
  ·cases h
 ·rename_i nn el hu
  rw [haa] at h
  obtain ⟨sz,hsz,h⟩ := h
  have hS := zbl (hah _) h
  clear h
  obtain ⟨m,hm,hnm,h⟩ := hS
  have hb : 0 ≤ n ∧ n < nn := by omega
  have hnt : n.toNat = m := by omega
  ·split at h
   ·rename_i j ix off
    rw [← hnt] at h
    refine ⟨_,h,fun ρ env penv σ p pi hK hp hpi => ?_⟩
    obtain ⟨hl,hr⟩ := hp.ref_inv
    have key : ∃ id ix',p = .ref id ix' off ∧ uv (ρ j) ix (off + n.toNat * sz) = some (.ref id ix' (off + n.toNat * sz)) := by
     unfold uv at hr
     split at hr <;> first | (cases hr; rename_i e; exact ⟨_,_,rfl,by rw [e]; rfl⟩) | cases hr
    obtain ⟨id,ix',rfl,e⟩ := key
    refine ⟨_,?_,.ref hl e⟩
    simp only [zh,hi' _ _ _ hpi,Option.bind_some,hu,hsz]
    rw [if_pos hb]
   ·rename_i cs
    rw [← hnt] at h
    refine ⟨_,h,fun ρ env penv σ p pi hK hp hpi => ?_⟩
    obtain ⟨ps,rfl,hc⟩ := hp.pref_inv
    refine ⟨_,?_,.fr (.pref (hc.drop _))⟩
    simp only [zh,hi' _ _ _ hpi,Option.bind_some,hu,hsz]
    rw [if_pos hb]
   ·cases h
 ·cases h
def isSl : PV → Bool
 | .nilsl | .psl .. | .lsl .. => true
 | _ => false
theorem VK.nostr {x p : PV} (hp : VK ρ m x p) (h : isSl x = true) : zdy p = false := by
 cases x <;> first | (cases h; done) | skip
 case nilsl => rw [hp.nilsl_eq]; rfl
 case psl => rcases hp.psl_inv with ⟨rfl,_⟩ | ⟨_,_,rfl,_⟩ <;> rfl
 case lsl j _ a n _ =>
  obtain ⟨_,hh,⟨_,_,_,rfl⟩ | ⟨_,_,rfl⟩⟩ := hp.lsl_inv
  ·cases hq : ρ j <;> rw [hq] at hh <;> first | rfl | cases hh
  ·cases hq : ρ j <;> rw [hq] at hh <;> first | rfl | cases hh
theorem zdp : ∀ {es ps : List (List PV)} {l : List UInt8},VFss es ps → bytesOf es = some l → ps = es
 | _,_,_,.nil,_ => rfl
 | e :: es,p :: ps,l,.cons h t,hb => by
   unfold bytesOf at hb
   split at hb
   ·rename_i heq; cases heq
   ·rename_i n r heq
    cases heq
    rw [hac] at hb
    obtain ⟨l',h1,_⟩ := hb
    rw [zdp t h1,h.base_eq rfl]
   ·cases hb
theorem zq3 {s d : TypeId} {x : PV} {k : PV → Option β} (h : zgo P A s d x k = some r) : ∃ v,k v = some r ∧ ∀ ρ env penv σ p,KS ρ A env penv σ → VK ρ A.length x p → ∃ q,ul P σ s d p = some q ∧ VK ρ A.length v q := by
 unfold zgo at h
 split at h
 ·rename_i e hs hd
  split at h
  ·rename_i he
   split at h
   ·cases h
   rename_i hns
   have h0 := h
   obtain ⟨es,h,hx⟩ := zg4 h
   rw [haa] at h
   obtain ⟨l,h1,h2⟩ := h
   refine ⟨_,h2,fun ρ env penv σ p hK hp => ?_⟩
   obtain ⟨ps,e1,e2⟩ := hx ρ env penv σ p hK hp
   have := zdp e2 h1
   subst this
   refine ⟨_,?_,.fr (.base _ rfl)⟩
   have hnp : zdy p = false := by
    refine hp.nostr ?_
    cases x <;> first | (exact absurd rfl hns) | rfl | cases h0
   simp only [ul,hs,hd,he,hnp,e1,Bool.false_eq_true,if_false,Option.bind_some,h1,Option.map_some]
  ·cases h
 ·rename_i hno
  split at h
  ·rename_i hf
   rw [haa] at h
   obtain ⟨v,h1,h2⟩ := h
   refine ⟨v,h2,fun ρ env penv σ p hK hp => ?_⟩
   rw [hp.flat_eq hf]
   unfold ul at h1 ⊢
   split at h1
   ·cases h1; exact ⟨_,rfl,.fr (.base _ rfl)⟩
   ·cases h1; exact ⟨_,rfl,.fr (.base _ rfl)⟩
   ·rename_i e _ hs hd
    exact absurd hd (hno _ hs)
   ·cases h1
  ·cases h
end
end Go.Pvm
namespace Go.Pvm
section
variable {P : Program} {ρ ρ' : Nat → PV} {m : Nat} {A A' : List KO} {env penv : List PV} {σ σ' : Store} {β : Type} {r : β}
theorem xp {sz : Nat} {a b : List (List PV)} (h : zt sz a = true) (h' : zt sz b = true) : zt sz (a ++ b) = true := by
 unfold zt at h h' ⊢
 rw [List.all_append,h,h']; rfl
theorem jk {sz : Nat} {a : List (List PV)} (h : zt sz a = true) (n : Nat) : zt sz (a.take n) = true := by
 unfold zt at h ⊢
 rw [har] at h ⊢
 exact fun e he => h e (hbr he)
theorem kd {sz : Nat} {a : List (List PV)} (h : zt sz a = true) (n : Nat) : zt sz (a.drop n) = true := by
 unfold zt at h ⊢
 rw [har] at h ⊢
 exact fun e he => h e (hbu he)
theorem zcc {d : PV} {sz : Nat} {k : Nat → List (List PV) → Nat → Nat → Option β} (h : zba A d sz k = some r) : ∃ j es a n,k j es a n = some r ∧ A.getD j .dead = .made true sz es ∧
  ∀ ρ env penv σ p,KS ρ A env penv σ → VK ρ A.length d p → (p = .nilsl ∧ ρ j = .nilsl ∧ es = [] ∧ a = 0 ∧ n = 0) ∨ ∃ id cap cap' ps tl,p = .lsl id sz a n cap ∧ ρ j = .lsl id sz 0 es.length cap' ∧ (cap' = none ∨ cap' = some (es.length + tl.length)) ∧ σ.objs id = some (.cells 0 (ps ++ tl)) ∧ VFss es ps ∧ a + n ≤ es.length ∧ zt sz tl = true ∧ id < σ.next := by
 unfold zba at h
 split at h
 ·rename_i j sz' a n c
  split at h
  ·cases h
  rename_i hs1
  have hs1 : sz' = sz := by simpa using hs1
  subst hs1
  split at h
  ·rename_i sz'' es hj
   split at h
   ·cases h
   rename_i hs2
   have hs2 : sz'' = sz' := by simpa using hs2
   subst hs2
   split at h
   ·refine ⟨_,_,_,_,h,hj,fun ρ env penv σ p hK hp => ?_⟩
    obtain ⟨hl,hh,⟨_,_,_,rfl⟩ | ⟨e,_⟩⟩ := hp.lsl_inv
    ·obtain ⟨q0,q1,⟨e,rfl⟩ | ⟨id,cap,ro,ps,tl,e,s1,s2,s3,s4,s5,s6⟩⟩ := hK.get hl hj
     ·exact .inl ⟨e,e,rfl,rfl,rfl⟩
     ·have hro := s5 rfl
      subst hro
      exact .inr ⟨id,cap,cap,ps,tl,e,e,s3,s1,s2,by omega,s4,s6⟩
    ·cases e
   ·refine ⟨_,_,_,_,h,hj,fun ρ env penv σ p hK hp => ?_⟩
    obtain ⟨hl,hh,⟨e,_⟩ | ⟨_,hv,rfl⟩⟩ := hp.lsl_inv
    ·cases e
    ·obtain ⟨q0,q1,⟨e,rfl⟩ | ⟨id,cap,ro,ps,tl,e,s1,s2,s3,s4,s5,s6⟩⟩ := hK.get hl hj
     ·rw [e] at hv ⊢
      obtain ⟨rfl,rfl⟩ := hv
      exact .inl ⟨rfl,rfl,rfl,rfl,rfl⟩
     ·have hro := s5 rfl
      subst hro
      rw [e] at hv
      refine .inr ⟨id,cap.map (· - a),cap,ps,tl,by rw [e]; rfl,e,s3,s1,s2,hv,s4,s6⟩
  ·cases h
 ·cases h
theorem KS.anew (hK : KS ρ A env penv σ) {j sz : Nat} {w : Bool} {es new : List (List PV)} (hj : A.getD j .dead = .made w sz es) {u : PV} {σ' : Store} (n0 : Nat) (hu : hdl u = true) (hn : σ.next ≤ σ'.next) (hs : ∀ i,i < σ.next → i ∉ tops (ρ j) → σ'.objs i = σ.objs i) (ht : ∀ i ∈ tops u,i ∈ tops (ρ j) ∨ σ.next ≤ i)
  (ho : KOR (upd ρ A.length u) (A.length + 1) σ' u (.made w sz new)) :
  Stp n0 ρ A σ (whole (A.map (uc (k7 [j]))).length sz) (rnm.rnms (k7 [j]) env) penv ((A.map (uc (k7 [j]))).set j .dead ++ [.made w sz new]) u σ' := by
 have hd : isDead (A.getD j .dead) = false := by rw [hj]; rfl
 have hf : ∀ k k',k < A.length → k7 [j] k = some k' → k' < A.length + 1 ∧ upd ρ A.length u k' = ρ k := fun k k' hk e => by
  obtain ⟨rfl,b⟩ := zhm e
  exact ⟨by omega,qr _ (by omega)⟩
 obtain ⟨h1,h2⟩ := hK.renew (f := k7 [j]) hd (by rw [hj]; rfl) hf hn hs ht ho n0
 refine ⟨_,h1,?_,h2⟩
 have : VK (upd ρ A.length u) ((A.map (uc (k7 [j]))).set j .dead ++ [KO.made w sz new]).length (.lsl A.length sz 0 0 none) (upd ρ A.length u A.length) := .whole (by simp) (by rw [y8]; exact hu)
 rw [y8] at this
 rw [han]
 exact this
theorem VKs.cons_inv {v : PV} {l ps : List PV} (h : VKs ρ m (v :: l) ps) : ∃ p qs,ps = p :: qs ∧ VK ρ m v p ∧ VKs ρ m l qs := by
 cases h with
 | cons h t => exact ⟨_,_,rfl,h,t⟩
theorem VKs.nil_inv {ps : List PV} (h : VKs ρ m [] ps) : ps = [] := by cases h; rfl
theorem za3 {l : List PV} {k : PV → List PV → Option β} (h : jg l k = some r) : ∃ c t,l = c :: t ∧ k c t = some r := by
 unfold jg at h
 split at h
 ·exact ⟨_,_,rfl,h⟩
 ·cases h
theorem zjt {l : List PV} {k : Option β} (h : qz l k = some r) : l = [] ∧ k = some r := by
 unfold qz at h
 split at h
 ·exact ⟨rfl,h⟩
 ·cases h
theorem zvx {l : List PV} {k : PV → PV → PV → Option β} (h : (jg l fun s l => jg l fun i l => jg l fun x l => qz l (k s i x)) = some r) : ∃ s i x,l = [s,i,x] ∧ k s i x = some r := by
 obtain ⟨s,l1,e1,h1⟩ := za3 h
 obtain ⟨i,l2,e2,h2⟩ := za3 h1
 obtain ⟨x,l3,e3,h3⟩ := za3 h2
 obtain ⟨e4,h4⟩ := zjt h3
 subst e4
 exact ⟨s,i,x,by rw [e1,e2,e3],h4⟩
theorem zst {t : TypeId} {args : List PV} {k : PV → List PV → List KO → Option β} (h : zn2 P t args env A k = some r) : ∃ v env' A',k v env' A' = some r ∧ env'.length = env.length ∧
  ∀ ρ penv σ n0 pargs,KS ρ A env penv σ → VKs ρ A.length args pargs → ∃ w σ',zbx P t pargs σ = some (w,σ') ∧ Stp n0 ρ A σ v env' penv A' w σ' := by
 unfold zn2 at h
 replace h := zvx (k := fun s i x => _) h
 obtain ⟨s,iv,x,rfl,h⟩ := h
 unfold asInt at h
 split at h
 rotate_left
 ·cases h
 rename_i κ i
 split at h
 rotate_left
 ·cases h
 rename_i hκ
 subst hκ
 split at h
 rotate_left
 ·cases h
 rename_i el ht
 simp only [haa] at h
 obtain ⟨sz,hsz,by_,hby,z,hz,h⟩ := h
 split at h
 ·cases h
 rename_i hne
 simp only [not_or] at hne
 obtain ⟨h0,h1,h2,h3⟩ := hne
 split at h
 rotate_left
 ·cases h
 rename_i j2 szx
 split at h
 rotate_left
 ·cases h
 rename_i w2 sz2 new hj2
 split at h
 rotate_left
 ·cases h
 rename_i hnew
 obtain ⟨rfl,hnew⟩ := hnew
 have hn0 : new.length ≠ 0 := fun e => by rw [List.length_eq_zero_iff.1 e] at hnew; cases hnew
 have hd2 : isDead (A.getD j2 .dead) = false := by rw [hj2]; rfl
 -- what x is
 have hx : ∀ {ρ : Nat → PV} {penv : List PV} {σ : Store} {q : PV},KS ρ A env penv σ → VK ρ A.length (.lsl j2 szx 0 0 none) q → ∃ id2 cap2 ro2 ps tl,q = .lsl id2 sz2 0 new.length cap2 ∧ ρ j2 = q ∧ σ.objs id2 = some (.cells ro2 (ps ++ tl)) ∧ VFss new ps ∧ zt sz2 (ps ++ tl) = true ∧ zt sz2 new = true ∧ id2 < σ.next := fun {ρ penv σ q} hK hq => by
  obtain ⟨q0,q1,⟨e,rfl⟩ | ⟨id,cap,ro,ps,tl,e,s1,s2,s3,s4,s5,s6⟩⟩ := hK.get (jt hd2) hj2
  ·cases hnew
  ·obtain ⟨_,_,⟨_,_,_,rfl⟩ | ⟨e',_⟩⟩ := hq.lsl_inv
   ·exact ⟨id,cap,ro,ps,tl,e,rfl,s1,s2,xp (jv s2 q1) s4,q1,s6⟩
   ·cases e'
 split at h
 ·-- nil
  split at h
  rotate_left
  ·cases h
  rename_i hi
  subst hi
  split at h
  rotate_left
  ·cases h
  rename_i hb
  refine ⟨_,_,_,h,rfl,fun ρ penv σ n0 pargs hK ha => ?_⟩
  obtain ⟨p,qs,rfl,hp,ha⟩ := ha.cons_inv
  obtain ⟨pi,qs,rfl,hpi,ha⟩ := ha.cons_inv
  obtain ⟨q,qs,rfl,hq,ha⟩ := ha.cons_inv
  obtain rfl := ha.nil_inv
  rw [hp.nilsl_eq,hpi.int_eq]
  obtain ⟨id2,cap2,ro2,ps,tl2,rfl,e1,o1,f1,f2,f3,_⟩ := hx hK hq
  have hlp := f1.len
  obtain ⟨g1,g2⟩ := hK.more (σ' := σ.push (.cells 0 ps)) (u := .lsl σ.next sz2 0 new.length none) (o := .made true sz2 new) (hbd _) (fun i hi => yj hi) (fun i hi => by rw [ham.1 hi]; exact hah _)
   (KOR.mk0 (ρ := fun _ => .undef) (m := 0) h0 f3 (id := σ.next) rfl (zn _ _) f1 (.inl rfl) (fun _ => rfl) (haw _)) n0
  refine ⟨.lsl σ.next sz2 0 new.length none,_,?_,_,g1,?_,g2⟩
  ·unfold zbx
   simp only [ht,hsz,hby,hz,Option.bind_some]
   rw [if_neg (by simp only [not_or]; exact ⟨h0,h1,h2,h3,hn0⟩)]
   simp only [o1]
   rw [if_pos ⟨by rw [hak]; omega,f2⟩,if_pos ⟨trivial,hb⟩,ha8,hlp,List.take_left]
  ·have : VK (upd ρ A.length (.lsl σ.next sz2 0 new.length none)) (A ++ [KO.made true sz2 new]).length (.lsl A.length sz2 0 0 none) (upd ρ A.length (.lsl σ.next sz2 0 new.length none) A.length) := .whole (by simp) (by rw [y8]; rfl)
   rw [y8] at this
   exact this
 ·rename_i j szs a0 n c0
  split at h
  ·-- a slice that was made
   split at h
   rotate_left
   ·cases h
   rename_i ha0
   obtain ⟨rfl,rfl⟩ := ha0
   split at h
   rotate_left
   ·cases h
   rename_i sz'' es hj
   split at h
   rotate_left
   ·cases h
   rename_i hsj
   obtain ⟨rfl,hjj⟩ := hsj
   split at h
   rotate_left
   ·cases h
   rename_i hi
   split at h
   rotate_left
   ·cases h
   rename_i hb
   unfold vm at h
   rw [forceVs_eq,y5] at h
   refine ⟨_,_,_,h,k8 _ _,fun ρ penv σ n0 pargs hK ha => ?_⟩
   obtain ⟨p,qs,rfl,hp,ha⟩ := ha.cons_inv
   obtain ⟨pi,qs,rfl,hpi,ha⟩ := ha.cons_inv
   obtain ⟨q,qs,rfl,hq,ha⟩ := ha.cons_inv
   obtain rfl := ha.nil_inv
   rw [hpi.int_eq]
   obtain ⟨id2,cap2,ro2,ps,tl2,rfl,e1,o1,f1,f2,f3,_⟩ := hx hK hq
   have hlp := f1.len
   have hd : isDead (A.getD j .dead) = false := by rw [hj]; rfl
   obtain ⟨_,_,⟨_,_,_,rfl⟩ | ⟨e,_⟩⟩ := hp.lsl_inv
   rotate_left
   ·cases e
   obtain ⟨q0,q1,⟨e,rfl⟩ | ⟨id,cap,ro,pes,tl,e,s1,s2,s3,s4,s5,s6⟩⟩ := hK.get (jt hd) hj
   ·have hi0 : i = 0 := by
     have := hi.1; have := hi.2; simp only [List.length_nil] at this; omega
    subst hi0
    refine ⟨_,_,?_,hK.anew (u := .lsl σ.next sz'' 0 new.length none) (σ' := σ.push (.cells 0 ps)) (new := [].take (Int.toNat 0) ++ new ++ [].drop (Int.toNat 0)) hj n0 rfl (hbd _) (fun i hi _ => yj hi) (fun i hi => by rw [ham.1 hi]; exact .inr (hah _)) (KOR.mk0 (ρ := fun _ => .undef) (m := 0) q0 (by simpa using f3) (id := σ.next) (by simp) (zn _ _) (by simpa using f1) (.inl rfl) (fun _ => rfl) (haw _))⟩
    unfold zbx
    simp only [ht,hsz,hby,hz,Option.bind_some,e]
    rw [if_neg (by simp only [not_or]; exact ⟨h0,h1,h2,h3,hn0⟩)]
    simp only [o1]
    rw [if_pos ⟨by rw [hak]; omega,f2⟩,if_pos ⟨trivial,by simpa using hb⟩,ha8,hlp,List.take_left]
   ·have hro := s5 rfl
    subst hro
    have hpes := s2.len
    have hne : id ≠ id2 := fun e9 => hjj (hK.dis j j2 id (by unfold ko; rw [if_neg (by rw [hd]; decide),e]; exact .head _) (by unfold ko; rw [if_neg (by rw [hd2]; decide),e1,← e9]; exact .head _))
    have hrows : zt sz'' (es.take i.toNat ++ new ++ es.drop i.toNat) = true := xp (xp (jk q1 _) f3) (kd q1 _)
    refine ⟨_,_,?_,hK.anew (u := .lsl σ.next sz'' 0 (es.length + new.length) none) (σ' := (σ.kill id).push (.cells 0 (pes.take i.toNat ++ ps ++ pes.drop i.toNat))) (new := es.take i.toNat ++ new ++ es.drop i.toNat) hj n0 rfl (hbd _) (fun x hx hni => ?_) (fun i hi => by rw [ham.1 hi]; exact .inr (hah _))
     (KOR.mk0 (ρ := fun _ => .undef) (m := 0) q0 hrows (id := σ.next) ?_ (k9 _ _ _) (((s2.take _).app f1).app (s2.drop _)) (.inl rfl) (fun _ => rfl) (haw _))⟩
    ·unfold zbx
     simp only [ht,hsz,hby,hz,Option.bind_some,e]
     rw [if_neg (by simp only [not_or]; exact ⟨h0,h1,h2,h3,hn0⟩)]
     simp only [o1,s1]
     rw [if_pos ⟨by rw [hak]; omega,f2⟩,if_pos ⟨trivial,hne,hi.1,hi.2,(show es.length ≤ (pes ++ tl).length by rw [hak]; omega),xp (jv s2 q1) s4,hb⟩,ha8,show (ps ++ tl2).take new.length = ps by rw [hlp,List.take_left],show (pes ++ tl).take es.length = pes by rw [hpes,List.take_left]]
    ·show (if x = σ.next then _ else if x = id then none else σ.objs x) = _
     rw [if_neg (by omega),if_neg (fun ex => hni (by rw [e,ex]; exact .head _))]
    ·simp only [hak,ha7,List.length_drop]
     have := hi.2
     rw [show min i.toNat es.length + new.length + (es.length - i.toNat) = es.length + new.length by omega]
  ·-- a part of one
   rename_i c
   split at h
   rotate_left
   ·cases h
   rename_i sz'' es hj
   split at h
   rotate_left
   ·cases h
   rename_i hsj
   obtain ⟨rfl,rfl,hjj⟩ := hsj
   split at h
   rotate_left
   ·cases h
   rename_i hi
   obtain ⟨rfl,hi⟩ := hi
   split at h
   rotate_left
   ·cases h
   rename_i hb
   unfold vm at h
   rw [forceVs_eq,y5] at h
   refine ⟨_,_,_,h,k8 _ _,fun ρ penv σ n0 pargs hK ha => ?_⟩
   obtain ⟨p,qs,rfl,hp,ha⟩ := ha.cons_inv
   obtain ⟨pi,qs,rfl,hpi,ha⟩ := ha.cons_inv
   obtain ⟨q,qs,rfl,hq,ha⟩ := ha.cons_inv
   obtain rfl := ha.nil_inv
   rw [hpi.int_eq]
   obtain ⟨id2,cap2,ro2,ps,tl2,rfl,e1,o1,f1,f2,f3,_⟩ := hx hK hq
   have hlp := f1.len
   have hd : isDead (A.getD j .dead) = false := by rw [hj]; rfl
   obtain ⟨q0,q1,_⟩ := hK.get (jt hd) hj
   have hpk : zba A (.lsl j szs 0 n (some c)) szs (fun j es a n => some (j,es,a,n)) = some (j,es,0,n) := by
    unfold zba
    simp only [hj,ne_eq,not_true_eq_false,if_false]
   obtain ⟨j',es',a',n',e,hj',hdd⟩ := zcc hpk
   cases e
   rcases hdd ρ env penv σ p hK hp with ⟨rfl,e3,rfl,_,rfl⟩ | ⟨id,cap,cap',pes,tl,rfl,e3,e4,e5,e6,e7,e9,e8⟩
   ·have hi0 : i = 0 := by
     have := hi.2.1; have := hi.2.2; omega
    subst hi0
    refine ⟨_,_,?_,hK.anew (u := .lsl σ.next szs 0 new.length none) (σ' := σ.push (.cells 0 ps)) (new := (([] : List (List PV)).take 0).take (Int.toNat 0) ++ new ++ (([] : List (List PV)).take 0).drop (Int.toNat 0)) hj n0 rfl (hbd _) (fun i hi _ => yj hi) (fun i hi => by rw [ham.1 hi]; exact .inr (hah _)) (KOR.mk0 (ρ := fun _ => .undef) (m := 0) q0 (by simpa using f3) (id := σ.next) (by simp) (zn _ _) (by simpa using f1) (.inl rfl) (fun _ => rfl) (haw _))⟩
    unfold zbx
    simp only [ht,hsz,hby,hz,Option.bind_some]
    rw [if_neg (by simp only [not_or]; exact ⟨h0,h1,h2,h3,hn0⟩)]
    simp only [o1]
    rw [if_pos ⟨by rw [hak]; omega,f2⟩,if_pos ⟨trivial,by simpa using hb⟩,ha8,hlp,List.take_left]
   ·have hpes := e6.len
    have hne : id ≠ id2 := fun e9 => hjj (hK.dis j j2 id (by unfold ko; rw [if_neg (by rw [hd]; decide),e3]; exact .head _) (by unfold ko; rw [if_neg (by rw [hd2]; decide),e1,← e9]; exact .head _))
    have hrows : zt szs ((es.take n).take i.toNat ++ new ++ (es.take n).drop i.toNat) = true := xp (xp (jk (jk q1 _) _) f3) (kd (jk q1 _) _)
    refine ⟨_,_,?_,hK.anew (u := .lsl σ.next szs 0 (n + new.length) none) (σ' := (σ.kill id).push (.cells 0 ((pes.take n).take i.toNat ++ ps ++ (pes.take n).drop i.toNat))) (new := (es.take n).take i.toNat ++ new ++ (es.take n).drop i.toNat) hj n0 rfl (hbd _) (fun x hx hni => ?_) (fun i hi => by rw [ham.1 hi]; exact .inr (hah _))
     (KOR.mk0 (ρ := fun _ => .undef) (m := 0) q0 hrows (id := σ.next) ?_ (k9 _ _ _) ((((e6.take _).take _).app f1).app ((e6.take _).drop _)) (.inl rfl) (fun _ => rfl) (haw _))⟩
    ·unfold zbx
     simp only [ht,hsz,hby,hz,Option.bind_some]
     rw [if_neg (by simp only [not_or]; exact ⟨h0,h1,h2,h3,hn0⟩)]
     simp only [o1,e5]
     rw [if_pos ⟨by rw [hak]; omega,f2⟩,if_pos ⟨trivial,hne,hi.2.1,hi.2.2,(show n ≤ (pes ++ tl).length by rw [hak]; omega),xp (jv e6 q1) e9,hb⟩,ha8,show (ps ++ tl2).take new.length = ps by rw [hlp,List.take_left],show (pes ++ tl).take n = pes.take n by rw [List.take_append_of_le_length (by omega)]]
    ·show (if x = σ.next then _ else if x = id then none else σ.objs x) = _
     rw [if_neg (by omega),if_neg (fun ex => hni (by rw [e3,ex]; exact .head _))]
    ·simp only [hak,ha7,List.length_drop]
     have := hi.2.2
     have := hi.1
     rw [show min i.toNat (min n es.length) + new.length + (min n es.length - i.toNat) = n + new.length by omega]
 ·cases h
theorem zi8 : ∀ {es ps : List (List PV)} {l : List Int},VFss es ps → zad es = some l → zad ps = some l
 | _,_,_,.nil,h => h
 | _,_,l,.cons (e := e) he ht,h => by
   match e,he,h with
   | [.int .i64 n],.cons hv .nil,h =>
     simp only [zad,hac] at h
     obtain ⟨l',h1,rfl⟩ := h
     obtain rfl := hv.base_eq rfl
     simp only [zad,zi8 ht h1,Option.map_some]
theorem zkf (l : List Int) : zt 1 (l.map jr) = true := by
 unfold zt
 rw [har]
 intro e he
 obtain ⟨n,_,rfl⟩ := List.mem_map.1 he
 rfl
theorem VFss.ints (l : List Int) : VFss (l.map jr) (l.map jr) := by
 induction l with
 | nil => exact .nil
 | cons n l ih => exact .cons (.cons (.base _ rfl) .nil) ih
theorem zc4 : ∀ {es : List (List PV)} {l : List Int},zad es = some l → l.length = es.length
 | [],l,h => by cases h; rfl
 | e :: es,l,h => by
   unfold zad at h
   split at h
   ·rename_i heq; cases heq
   ·rename_i n r heq
    cases heq
    rw [hac] at h
    obtain ⟨l',h1,rfl⟩ := h
    rw [List.length_cons,List.length_cons,zc4 h1]
   ·cases h
theorem zrv {args : List PV} {k : PV → List PV → List KO → Option β} (h : znf args env A k = some r) : ∃ v env' A',k v env' A' = some r ∧ env'.length = env.length ∧
  ∀ ρ penv σ n0 pargs,KS ρ A env penv σ → VKs ρ A.length args pargs → ∃ w σ',zg0 pargs σ = some (w,σ') ∧ Stp n0 ρ A σ v env' penv A' w σ' := by
 unfold znf at h
 obtain ⟨s,l1,e1,h9⟩ := za3 h
 clear h
 obtain ⟨e2,h⟩ := zjt h9
 clear h9
 subst e1 e2
 have hnil : k (.tuple []) env A = some r → s = .nilsl → ∃ v env' A',k v env' A' = some r ∧ env'.length = env.length ∧
   ∀ ρ penv σ n0 pargs,KS ρ A env penv σ → VKs ρ A.length [s] pargs → ∃ w σ',zg0 pargs σ = some (w,σ') ∧ Stp n0 ρ A σ v env' penv A' w σ' := fun h hs => by
  subst hs
  refine ⟨_,_,_,h,rfl,fun ρ penv σ n0 pargs hK ha => ?_⟩
  obtain ⟨p,qs,rfl,hp,ha⟩ := ha.cons_inv
  obtain rfl := ha.nil_inv
  rw [hp.nilsl_eq]
  exact ⟨.tuple [],σ,rfl,ρ,hK,.fr (.tuple .nil),Go2.refl _ _ _ _⟩
 split at h
 ·exact hnil h rfl
 ·obtain ⟨j,es,a,n,h,hj,hd⟩ := zcc h
  split at h
  rotate_left
  ·cases h
  rename_i hn
  rw [haa] at h
  obtain ⟨l,hl,h⟩ := h
  refine ⟨_,_,_,h,rfl,fun ρ penv σ n0 pargs hK ha => ?_⟩
  obtain ⟨p,qs,rfl,hp,ha⟩ := ha.cons_inv
  obtain rfl := ha.nil_inv
  have hdd : isDead (A.getD j .dead) = false := by rw [hj]; rfl
  obtain ⟨q0,q1,_⟩ := hK.get (jt hdd) hj
  rcases hd ρ env penv σ p hK hp with ⟨rfl,e3,rfl,rfl,rfl⟩ | ⟨id,cap,cap',pes,tl,rfl,e3,e4,e5,e6,e7,e9,e8⟩
  ·have hl0 : l = [] := by
    have := zc4 hl
    exact ha1 (by simpa using this)
   subst hl0
   obtain ⟨g1,g2⟩ := hK.put (σ' := σ) (o := .made true 1 (([] : List (List PV)).take 0 ++ (([] : List Int).mergeSort fun x y => decide (x ≤ y)).map jr ++ ([] : List (List PV)).drop (0 + 0))) hdd (hah _) (fun _ _ _ => rfl) ⟨q0,by simp [zt],.inl ⟨e3,by simp⟩⟩ (fun hb => by rw [hj] at hb; cases hb) n0
   exact ⟨.tuple [],σ,rfl,ρ,g1,.fr (.tuple .nil),g2⟩
  ·have hll := zc4 hl
   have hlen : (es.take a ++ (l.mergeSort fun x y => decide (x ≤ y)).map jr ++ es.drop (a + n)).length = es.length := by
    simp only [hak,ha7,List.length_drop,han,List.length_mergeSort,hll]
    omega
   obtain ⟨g1,g2⟩ := hK.put (σ' := σ.put id (.cells 0 ((pes.take a ++ (l.mergeSort fun x y => decide (x ≤ y)).map jr ++ pes.drop (a + n)) ++ tl))) (o := .made true 1 (es.take a ++ (l.mergeSort fun x y => decide (x ≤ y)).map jr ++ es.drop (a + n))) hdd (hah _) (fun x _ hx => yb fun ex => hx (by rw [e3,ex]; exact .head _))
    ⟨q0,xp (xp (jk q1 _) (zkf _)) (kd q1 _),.inr ⟨id,cap',0,_,tl,by rw [hlen]; exact e3,xa _ _ _,((e6.take a).app (VFss.ints _)).app (e6.drop _),by rw [hlen]; exact e4,e9,fun _ => rfl,e8⟩⟩ (fun hb => by rw [hj] at hb; cases hb) n0
   refine ⟨.tuple [],_,?_,ρ,g1,.fr (.tuple .nil),g2⟩
   unfold zg0
   simp only [e5]
   have hle6 : a + n ≤ pes.length := by rw [← e6.len]; exact e7
   rw [if_pos ⟨hbe _,by rw [hak]; omega,hn⟩,zrj hle6,zi8 ((e6.drop a).take n) hl]
   simp only [Option.map_some,List.take_append_of_le_length (show a ≤ pes.length by omega),List.drop_append_of_le_length hle6,hbc]
theorem zo6 {u : Word} {args : List PV} {k : PV → List PV → List KO → Option β} (h : zls P u args env A k = some r) : ∃ v env' A',k v env' A' = some r ∧ env'.length = env.length ∧
  ∀ ρ penv σ n0 pargs,KS ρ A env penv σ → VKs ρ A.length args pargs → ∃ w σ',zef P u pargs σ = some (w,σ') ∧ Stp n0 ρ A σ v env' penv A' w σ' := by
 cases u with
 | insert t => exact zst h
 | sort => exact zrv h
 | keys g => cases h
 | sorted g => cases h
end
end Go.Pvm
