/- Part of the proof: an evaluator for the code of Go functions over plain values (a slice that nobody writes is a list), and a store for what is written. -/
import GoSem.Claims
import Derived.Calls
namespace Go.Pvm

/-- A value: what is only read stands whole; what may be written stands by a number of the store. -/
inductive PV where
  | undef
  | bool (b : Bool)
  | int (k : IntKind) (n : Int)
  | float (k : FloatKind) (bits : Nat)
  | str (s : ByteArray)
  | nilptr
  | ref (id idx off : Nat)
  | pref (cells : List PV)
  | nilsl
  | psl (full : Bool) (elems : List (List PV))
  | lsl (id sz idx len : Nat) (cap : Option Nat)
  | nilmap
  | mref (id : Nat)
  | nilfunc
  | func (f : FuncId) (caps : List PV)
  | niliface
  | agg (cells : List PV)
  | tuple (vs : List PV)
  deriving Inhabited

def PV.cells : PV → List PV
  | .agg cs => cs
  | v => [v]

/-- Is it known to be the value of one cell? -/
def PV.one : PV → Bool
  | .undef | .agg _ | .tuple _ => false
  | _ => true

/-- Is it known at all? -/
def PV.known : PV → Bool
  | .undef => false
  | _ => true

/-- Does it name nothing of the store? (What is only read never does.) -/
def PV.lf : PV → Bool
  | .ref .. | .lsl .. | .mref _ => false
  | .func _ cs | .agg cs | .tuple cs => lfs cs
  | _ => true
where lfs : List PV → Bool
  | [] => true
  | v :: r => v.lf && lfs r

/-- Is it made of numbers, texts and nils alone? -/
def PV.scalar : PV → Bool
  | .bool _ | .int .. | .float .. | .str _ | .nilptr | .nilsl | .nilmap | .nilfunc | .niliface => true
  | .agg cs | .tuple cs => scalars cs
  | _ => false
where scalars : List PV → Bool
  | [] => true
  | v :: r => v.scalar && scalars r

def ofCell : Value → PV
  | .bool b => .bool b
  | .int k n => .int k n
  | .float k n => .float k n
  | .string s => .str s
  | .pointer none => .nilptr
  | .slice none 0 0 => .nilsl
  | .map none => .nilmap
  | .nilFunc => .nilfunc
  | .nilIface => .niliface
  | _ => .undef

def ofValue : Value → PV
  | .agg cs => .agg (cs.toList.map ofCell)
  | .func (.func f) fs cs => if fs.size = 0 ∧ cs.size = 0 then .func f [] else .undef
  | .tuple vs => if vs.size = 0 then .tuple [] else .undef
  | v => ofCell v

inductive Obj where
  | cells (ro : Nat) (elems : List (List PV))     -- the first 'ro' elements are written no more
  | map (kvs : List (PV × PV))

structure Store where
  next : Nat
  objs : Nat → Option Obj

def Store.empty : Store := ⟨0, fun _ => none⟩
def Store.at_ (n : Nat) : Store := ⟨n, fun _ => none⟩
def Store.push (σ : Store) (o : Obj) : Store := ⟨σ.next + 1, fun i => if i = σ.next then some o else σ.objs i⟩
def Store.put (σ : Store) (id : Nat) (o : Obj) : Store := ⟨σ.next, fun i => if i = id then some o else σ.objs i⟩
def Store.kill (σ : Store) (id : Nat) : Store := ⟨σ.next, fun i => if i = id then none else σ.objs i⟩
/-- What a call made by itself is laid behind what there was. -/
def Store.join (σ τ : Store) : Store := ⟨τ.next, fun i => if i < σ.next then σ.objs i else τ.objs i⟩

/-- What a value reads as, nothing of the store being named: all that it names is read whole. -/
def fz : Nat → Store → PV → PV
  | 0, _, _ => .undef
  | n + 1, σ, v => match v with
    | .ref id idx off => match σ.objs id with
      | some (.cells _ es) => match es[idx]? with
        | some e => .pref ((e.drop off).map (fz n σ))
        | none => .undef
      | _ => .undef
    | .lsl id _ idx len cap => match σ.objs id with
      | some (.cells _ es) => if idx + len ≤ es.length then .psl (cap == some len) (((es.drop idx).take len).map fun e => e.map (fz n σ)) else .undef
      | _ => .undef
    | .mref _ => .undef
    | .agg cs => .agg (cs.map (fz n σ))
    | .tuple cs => .tuple (cs.map (fz n σ))
    | .func f cs => .func f (cs.map (fz n σ))
    | v => v

def fuelFz : Nat := 8

/-- How a call is made: in the store that there is; or by itself, all that it is given being read whole, and what it hands back too; or by itself, what it hands back (all of it its own) being laid into the store; or without a look at the store. -/
inductive Mode where
  | live | pure | own | blind
  deriving DecidableEq

/-- Does a value name nothing but what lies in the store? -/
def PV.own : PV → Bool
  | .pref _ => false
  | .psl _ es => es.isEmpty
  | .func _ cs | .agg cs | .tuple cs => owns cs
  | _ => true
where owns : List PV → Bool
  | [] => true
  | v :: r => v.own && owns r
/-- From a number on, what lies in the store is its own. -/
def ownObjs (τ : Store) (a : Nat) : Bool := (List.range (τ.next - a)).all fun i => match τ.objs (a + i) with
  | some (.cells _ es) => es.all PV.own.owns
  | some (.map _) => false
  | none => true

structure Cfg where
  P : Program
  mode : FuncId → Mode
  /-- Functions that make their calls in ways of their own. -/
  alt : FuncId → Option (FuncId → Mode) := fun _ => none
  /-- Nothing of what is handed over is closed (in regions of open order). -/
  strict : Bool := false
  /-- What is loaded is what nobody writes. -/
  calm : Bool := false
  /-- What is loaded by these slots is what nobody writes. -/
  calmA : List Nat := []
  /-- What a loop keeps (by its function and its first region's number): of each round's start, and behind it. -/
  mask : FuncId → Nat → Option (List Nat × List (Nat × TypeId) × List (Nat × TypeId)) := fun _ _ => none
  /-- Regions ahead of which some slots are closed; whether all that is loaded there is what nobody writes. -/
  close : FuncId → Nat → Option (Bool × List Nat) := fun _ _ => none
  /-- Functions that are told by a word of their own. -/
  told : FuncId → Option (List PV → Store → Option (PV × Store))

def Cfg.at_ (cfg : Cfg) (f : FuncId) : Cfg := { cfg with mode := match cfg.alt f with | none => cfg.mode | some m => m }

def calmL (cfg : Cfg) (a : Operand) : Bool := cfg.calm || (match a with | .tmp t => cfg.calmA.contains t | _ => false)

abbrev CallO := FuncId → List PV → Store → Option (PV × Store)

inductive Ex where
  | normal | exit (id : Nat) | ret
  deriving DecidableEq

abbrev LoopO := FuncId → Code → List PV → Store → Option (Ex × List PV × Store)

/-! ### Types -/
section
variable (P : Program)
def szOf (t : TypeId) : Option Nat := (P.info? t).map (·.size)
def byOf (t : TypeId) : Option Nat := (P.info? t).map (·.bytes)
def zeroOf (t : TypeId) : Option PV := ((P.info? t).bind (·.zero)).map ofValue
end

def opd (env : List PV) : Operand → PV
  | .tmp t => env.getD t .undef
  | .const v => ofValue v
  | .func f => .func f []
  | .global _ => .undef

def aggD : TypeDesc → Bool
  | .struct _ | .array _ _ => true
  | _ => false

def partOf (P : Program) (t : TypeId) (cs : List PV) (off : Nat) : Option PV :=
  (szOf P t).bind fun n => (P.underlying t).bind fun d =>
  if aggD d = true then (if off + n ≤ cs.length then some (.agg ((cs.drop off).take n)) else none) else cs[off]?

def eqFlds (P : Program) (E : TypeId → PV → PV → Option Bool) : List Field → List PV → List PV → Option Bool
  | [], _, _ => some true
  | f :: r, xs, ys =>
    if f.name = "_" then eqFlds P E r xs ys else
    (partOf P f.type xs f.offset).bind fun a => (partOf P f.type ys f.offset).bind fun b =>
    (E f.type a b).bind fun e => if e = true then eqFlds P E r xs ys else some false

/-- Whether two values are alike; only what may be told by sight. -/
def eqv (P : Program) : Nat → TypeId → PV → PV → Option Bool
  | 0, _, _, _ => none
  | d + 1, t, x, y => match P.underlying t, x, y with
    | some .bool, .bool a, .bool b => some (a == b)
    | some (.int _), .int k a, .int k' b => if k = k' then some (a == b) else none
    | some (.float _), .float k a, .float k' b => if k = k' then some (Op.floatEq k a b) else none
    | some .string, .str a, .str b => some (a == b)
    | some (.pointer _), .nilptr, .nilptr => some true
    | some (.pointer _), .nilptr, .ref .. | some (.pointer _), .nilptr, .pref _ | some (.pointer _), .ref .., .nilptr | some (.pointer _), .pref _, .nilptr => some false
    | some (.slice _), .nilsl, .nilsl => some true
    | some (.slice _), .nilsl, .psl .. | some (.slice _), .nilsl, .lsl .. | some (.slice _), .psl .., .nilsl | some (.slice _), .lsl .., .nilsl => some false
    | some (.map _ _), .nilmap, .nilmap => some true
    | some (.map _ _), .nilmap, .mref _ | some (.map _ _), .mref _, .nilmap => some false
    | some (.func _ _ _), .nilfunc, .nilfunc => some true
    | some (.func _ _ _), .nilfunc, .func .. | some (.func _ _ _), .func .., .nilfunc => some false
    | some (.struct fs), .agg xs, .agg ys => if P.stoodInHeld t then none else eqFlds P (eqv P d) fs.toList xs ys
    | _, _, _ => none

def arith (op : BinOp) (k : IntKind) (x y : Int) : Option PV :=
  match op with
  | .add => some (.int k (k.wrap (x + y)))
  | .sub => some (.int k (k.wrap (x - y)))
  | .mul => some (.int k (k.wrap (x * y)))
  | .quo => if y = 0 then none else some (.int k (k.wrap (x.tdiv y)))
  | .rem => if y = 0 then none else some (.int k (x.tmod y))
  | .and => some (.int k (k.wrap (BitVec.ofInt k.bits x &&& BitVec.ofInt k.bits y).toNat))
  | .or => some (.int k (k.wrap (BitVec.ofInt k.bits x ||| BitVec.ofInt k.bits y).toNat))
  | .xor => some (.int k (k.wrap (BitVec.ofInt k.bits x ^^^ BitVec.ofInt k.bits y).toNat))
  | .andNot => some (.int k (k.wrap (BitVec.ofInt k.bits x &&& ~~~ BitVec.ofInt k.bits y).toNat))
  | .eql => some (.bool (x == y))
  | .neq => some (.bool (x != y))
  | .lss => some (.bool (x < y))
  | .leq => some (.bool (x ≤ y))
  | .gtr => some (.bool (x > y))
  | .geq => some (.bool (x ≥ y))
  | _ => none

def shiftv (op : BinOp) (k : IntKind) (x y : Int) : Option PV :=
  if y < 0 then none else
  match op with
  | .shl => some (.int k (k.wrap (x * 2 ^ (min y.toNat k.bits))))
  | .shr => some (.int k (x.fdiv (2 ^ (min y.toNat k.bits))))
  | _ => none

def strv (op : BinOp) (x y : ByteArray) : Option PV :=
  match op with
  | .add => if ((x.size + y.size : Nat) : Int) ≤ IntKind.i64.max then some (.str (x ++ y)) else none
  | .eql => some (.bool (x.toList == y.toList))
  | .neq => some (.bool !(x.toList == y.toList))
  | _ => none

def guardT (P : Program) (t : TypeId) : PV → Bool
  | .agg _ => P.eqGuardType P.depth t
  | _ => false

def binv (P : Program) (op : BinOp) (t : TypeId) (x y : PV) : Option PV :=
  match x, y with
  | .int k a, .int k' b => (match op with
    | .shl | .shr => shiftv op k a b
    | _ => if k = k' then arith op k a b else none)
  | .str a, .str b => strv op a b
  | .float k a, .float k' b => if k = k' then (match op with
    | .eql => some (.bool (Op.floatEq k a b))
    | .neq => some (.bool !(Op.floatEq k a b))
    | _ => none) else none
  | x, y => if guardT P t x = true then none else (match op with
    | .eql => (eqv P 10000 t x y).map .bool
    | .neq => (eqv P 10000 t x y).map fun b => .bool !b
    | _ => none)

def unv (op : UnOp) (x : PV) : Option PV :=
  match op, x with
  | .neg, .int k n => some (.int k (k.wrap (0 - n)))
  | .xor, .int k n => some (.int k (k.wrap (BitVec.ofInt k.bits (if k.signed then -1 else k.max) ^^^ BitVec.ofInt k.bits n).toNat))
  | .not, .bool b => some (.bool !b)
  | _, _ => none

/-- The bytes of cells. -/
def bytesOf : List (List PV) → Option (List UInt8)
  | [] => some []
  | [.int .u8 n] :: r => (bytesOf r).map (UInt8.ofNat n.toNat :: ·)
  | _ => none

/-- The elements that a value has, if it is a slice (or a text, as bytes). -/
def elemsOf (σ : Store) : PV → Option (List (List PV))
  | .nilsl => some []
  | .psl _ es => some es
  | .lsl id _ idx len _ => match σ.objs id with
    | some (.cells _ es) => if idx + len ≤ es.length then some ((es.drop idx).take len) else none
    | _ => none
  | .str s => some (s.data.toList.map fun b => [.int .u8 b.toNat])
  | _ => none

def lenOfV : PV → Option Nat
  | .nilsl => some 0
  | .psl _ es => some es.length
  | .lsl _ _ _ len _ => some len
  | .str s => some s.size
  | _ => none

def all1 (n : Nat) (es : List (List PV)) : Bool := es.all fun e => e.length == n && e.all PV.one

/-- 'append': a new row where there is surely no room; in the row where there surely is; else the row is taken over. -/
def appendv (P : Program) (σ : Store) (el : TypeId) (s x : PV) : Option (PV × Store) :=
  (szOf P el).bind fun sz => (byOf P el).bind fun by_ => (zeroOf P el).bind fun z => (elemsOf σ x).bind fun new =>
  if sz = 0 ∨ by_ = 0 ∨ z.known = false ∨ z.cells.length ≠ sz then none else if all1 sz new = false then none else
  match s with
  | .nilsl => if new.length = 0 then some (.nilsl, σ) else
      if new.length * by_ ≤ 140737488355328 then some (.lsl σ.next sz 0 new.length none, σ.push (.cells 0 new)) else none
  | .psl full es => if new.length = 0 then some (.psl full es, σ) else
      if full = true then
        (if (es.length + new.length) * by_ ≤ 140737488355328 then
          (if (es.all fun e => e.length == sz) = true then some (.lsl σ.next sz 0 (es.length + new.length) none, σ.push (.cells 0 (es ++ new))) else none)
        else none)
      else none
  | .lsl id sz' idx len cap => if new.length = 0 then some (.lsl id sz' idx len cap, σ) else
      if sz' ≠ sz then none else
      match σ.objs id with
      | some (.cells ro es) =>
        if idx + len + new.length ≤ es.length ∧ len + new.length ≤ cap.getD (len + new.length) then
          (if ro ≤ idx + len then some (.lsl id sz idx (len + new.length) cap, σ.put id (.cells ro (es.take (idx + len) ++ new ++ es.drop (idx + len + new.length)))) else none)
        else if idx + len ≤ es.length then
          (if (len + new.length) * by_ ≤ 140737488355328 then
            (match cap with
            | some c => if c < len + new.length then
                some (.lsl σ.next sz 0 (len + new.length) none, σ.push (.cells 0 ((es.drop idx).take len ++ new))) else none
            | none => if ro ≤ idx + len then some (.lsl σ.next sz 0 (len + new.length) none, (σ.kill id).push (.cells (ro - idx) ((es.drop idx).take len ++ new))) else none)
          else none)
        else none
      | _ => none
  | _ => none

/-- Cells laid over others from a place on. -/
def over (cs : List PV) (off : Nat) (new : List PV) : List PV := cs.take off ++ new ++ cs.drop (off + new.length)

def copyv (P : Program) (σ : Store) (el : TypeId) (d s : PV) : Option (PV × Store) :=
  (szOf P el).bind fun sz => (elemsOf σ s).bind fun src => if sz = 0 then none else
  match d with
  | .nilsl => if all1 sz src = true then some (.int .i64 0, σ) else none
  | .lsl id sz' idx len _ => if sz' ≠ sz then none else
    match σ.objs id with
    | some (.cells ro es) =>
      if idx + len ≤ es.length ∧ ro ≤ idx then
        (if all1 sz src = true then some (.int .i64 (Nat.min src.length len), σ.put id (.cells ro (es.take idx ++ src.take len ++ es.drop (idx + (src.take len).length)))) else none)
      else none
    | _ => none
  | _ => none

def clearv (P : Program) (σ : Store) (el : TypeId) (d : PV) : Option (PV × Store) :=
  (szOf P el).bind fun sz => (zeroOf P el).bind fun z => if sz = 0 ∨ z.known = false ∨ z.cells.length ≠ sz ∨ z.cells.all PV.one = false then none else
  match d with
  | .nilsl => some (.tuple [], σ)
  | .lsl id sz' idx len _ => if sz' ≠ sz then none else
    match σ.objs id with
    | some (.cells ro es) =>
      if idx + len ≤ es.length ∧ ro ≤ idx then
        some (.tuple [], σ.put id (.cells ro (es.take idx ++ List.replicate len z.cells ++ es.drop (idx + len))))
      else none
    | _ => none
  | _ => none

def fillv (place : Nat → Option (Nat × Nat)) (cells : List PV) : List (Nat × PV) → Option (List PV)
  | [] => some cells
  | (i, v) :: r => (place i).bind fun (off, size) =>
    if v.cells.length = size ∧ off + size ≤ cells.length ∧ v.known = true then fillv place (over cells off v.cells) r else none

def buildv (P : Program) (t : TypeId) (parts : List (Nat × PV)) : Option PV :=
  (zeroOf P t).bind fun z => if z.known = false then none else match P.underlying t with
    | some (.struct fs) => (fs.toList.mapM fun f => (P.info? f.type).map fun i => (f.offset, i.size)).bind fun pl => (fillv (fun i => pl[i]?) z.cells parts).map .agg
    | some (.array _ el) => (szOf P el).bind fun n => (fillv (fun i => some (i * n, n)) z.cells parts).map .agg
    | _ => none

def setAll (es : List (List PV)) (sz : Nat) : List (Nat × PV) → Option (List (List PV))
  | [] => some es
  | (i, v) :: r => if v.cells.length = sz ∧ i < es.length ∧ v.known = true then setAll (es.set i v.cells) sz r else none

def buildSlv (P : Program) (σ : Store) (t : TypeId) (len : Nat) (parts : List (Nat × PV)) : Option (PV × Store) :=
  match P.underlying t with
  | some (.slice el) => (szOf P el).bind fun sz => (zeroOf P el).bind fun z =>
    if sz ≠ 0 ∧ z.known = true ∧ z.cells.length = sz ∧ len * sz ≤ 16777216 then
      (setAll (List.replicate len z.cells) sz parts).map fun es => (.lsl σ.next sz 0 len (some len), σ.push (.cells 0 es))
    else none
  | _ => none

def makeSlv (P : Program) (σ : Store) (t : TypeId) (len cap : PV) : Option (PV × Store) :=
  match P.underlying t, len, cap with
  | some (.slice el), .int .i64 l, .int .i64 c => (szOf P el).bind fun sz => (byOf P el).bind fun by_ => (zeroOf P el).bind fun z =>
    if sz ≠ 0 ∧ z.known = true ∧ z.cells.length = sz ∧ 0 ≤ l ∧ l ≤ c ∧ by_ * c ≤ 140737488355328 ∧ c ≤ 9223372036854775807 then
      some (.lsl σ.next sz 0 l.toNat (some c.toNat), σ.push (.cells 0 (List.replicate c.toNat z.cells)))
    else none
  | _, _, _ => none

def loadv (P : Program) (σ : Store) (t : TypeId) : PV → Option PV
  | .pref cs => partOf P t cs 0
  | .ref id idx off => match σ.objs id with
    | some (.cells _ es) => (es[idx]?).bind fun e => partOf P t e off
    | _ => none
  | _ => none

/-- What is read only is loaded. -/
def loadcv (P : Program) (t : TypeId) : PV → Option PV
  | .pref cs => partOf P t cs 0
  | _ => none

def storev (P : Program) (σ : Store) (t : TypeId) (a v : PV) : Option Store :=
  match a with
  | .ref id idx off => match σ.objs id with
    | some (.cells ro es) => (es[idx]?).bind fun e => (szOf P t).bind fun n =>
      if v.cells.length = n ∧ off + n ≤ e.length ∧ v.cells.all PV.one = true ∧ ro ≤ idx then some (σ.put id (.cells ro (es.set idx (over e off v.cells)))) else none
    | _ => none
  | _ => none

def fieldAddrv (P : Program) (s : TypeId) (x : PV) (f : Nat) : Option PV :=
  match P.underlying s with
  | some (.struct fs) => (fs[f]?).bind fun fd => (szOf P fd.type).bind fun n => if n = 0 then none else
    match x with
    | .ref id idx off => some (.ref id idx (off + fd.offset))
    | .pref cs => some (.pref (cs.drop fd.offset))
    | _ => none
  | _ => none

def fieldv (P : Program) (s : TypeId) (x : PV) (f : Nat) : Option PV :=
  match P.underlying s, x with
  | some (.struct fs), .agg cs => (fs[f]?).bind fun fd => partOf P fd.type cs fd.offset
  | _, _ => none

def intOf? : PV → Option Int
  | .int _ n => some n
  | _ => none

def indexAddrv (P : Program) (t : TypeId) (x i : PV) : Option PV :=
  (intOf? i).bind fun i => match P.underlying t with
    | some (.slice el) => (szOf P el).bind fun sz => (match x with
      | .psl _ es => if 0 ≤ i then (es[i.toNat]?).bind fun e => if e.length = sz then some (.pref e) else none else none
      | .lsl id sz' idx len _ => if 0 ≤ i ∧ i < len ∧ sz' = sz then some (.ref id (idx + i.toNat) 0) else none
      | _ => none)
    | some (.array n el) => (szOf P el).bind fun sz => if 0 ≤ i ∧ i < n then (match x with
      | .ref id idx off => some (.ref id idx (off + i.toNat * sz))
      | .pref cs => some (.pref (cs.drop (i.toNat * sz)))
      | _ => none) else none
    | _ => none

def indexv (P : Program) (t : TypeId) (x i : PV) : Option PV :=
  (intOf? i).bind fun i => match P.underlying t, x with
    | some (.array n el), .agg cs => (szOf P el).bind fun sz => if 0 ≤ i ∧ i < n then partOf P el cs (i.toNat * sz) else none
    | some .string, .str s => if 0 ≤ i then (s.data[i.toNat]?).map fun b => .int .u8 b.toNat else none
    | _, _ => none

/-- A bound of a cut, or what stands for it. -/
def numOf (o : Option PV) (d : Nat) : Option Nat :=
  match o with
  | none => some d
  | some (.int _ n) => if 0 ≤ n then some n.toNat else none
  | some _ => none

/-- A cut. -/
def cutv (P : Program) (t : TypeId) (x : PV) (lo hi mx : Option PV) : Option PV :=
  if mx.isSome = true ∧ hi.isSome = false then none else
  match P.underlying t, x with
  | some .string, .str s => if mx.isSome = true then none else (numOf hi s.size).bind fun h => (numOf lo 0).bind fun l =>
      if l ≤ h ∧ h ≤ s.size then some (.str (s.extract l h)) else none
  | some (.slice el), .nilsl => (szOf P el).bind fun _ => (numOf hi 0).bind fun h => (numOf lo 0).bind fun l => (numOf mx 0).bind fun m =>
      if l = 0 ∧ h = 0 ∧ m = 0 then some .nilsl else none
  | some (.slice el), .psl full es => (szOf P el).bind fun sz => (numOf hi es.length).bind fun h => (numOf lo 0).bind fun l => (numOf mx es.length).bind fun m =>
      if l ≤ h ∧ h ≤ m ∧ m ≤ es.length ∧ (es.all fun e => e.length == sz) = true then
        some (.psl (if mx.isSome = true then decide (m = h) else full && decide (h = es.length)) ((es.drop l).take (h - l)))
      else none
  | some (.slice el), .lsl id sz idx len cap => (szOf P el).bind fun sz' => if sz' ≠ sz then none else
      (numOf hi len).bind fun h => (numOf lo 0).bind fun l => (numOf mx (cap.getD len)).bind fun m =>
      if l ≤ h ∧ h ≤ m ∧ m ≤ cap.getD len then
        some (.lsl id sz (idx + l) (h - l) (if mx.isSome = true then some (m - l) else cap.map (· - l)))
      else none
  | _, _ => none

def isStr : PV → Bool
  | .str _ => true
  | _ => false

def convv (P : Program) (σ : Store) (src dst : TypeId) (x : PV) : Option PV :=
  match P.underlying src, P.underlying dst, x with
  | some (.int _), some (.int k), .int _ n => some (.int k (k.wrap n))
  | some .string, some .string, .str s => some (.str s)
  | some (.slice e), some .string, x => match P.underlying e with
    | some (.int .u8) => if isStr x = true then none else (elemsOf σ x).bind fun es => (bytesOf es).map fun l => .str ⟨l.toArray⟩
    | _ => none
  | _, _, _ => none

def max2v : PV → PV → Option PV
  | .int k x, .int _ y => some (.int k (if y > x then y else x))
  | _, _ => none
def min2v : PV → PV → Option PV
  | .int k x, .int _ y => some (.int k (if y < x then y else x))
  | _, _ => none
def foldv (f : PV → PV → Option PV) : PV → List PV → Option PV
  | x, [] => some x
  | x, y :: r => (f x y).bind fun z => foldv f z r

/-- Builtins that look at no memory. -/
def pureB (P : Program) (b : Builtin) (ts : List TypeId) (args : List PV) : Option PV :=
  match b, ts, args with
  | .len, t :: _, x :: _ => match P.underlying t, x with
    | some .string, .str s => some (.int .i64 (s.size : Nat))
    | some (.slice _), .nilsl => some (.int .i64 0)
    | some (.slice _), .psl _ es => some (.int .i64 (es.length : Nat))
    | some (.slice _), .lsl _ _ _ len _ => some (.int .i64 (len : Nat))
    | _, _ => none
  | .cap, t :: _, x :: _ => match P.underlying t, x with
    | some (.slice _), .nilsl => some (.int .i64 0)
    | some (.slice _), .psl true es => some (.int .i64 (es.length : Nat))
    | some (.slice _), .lsl _ _ _ _ (some c) => some (.int .i64 (c : Nat))
    | _, _ => none
  | .max, _, x :: r => foldv max2v x r
  | .min, _, x :: r => foldv min2v x r
  | _, _, _ => none

def writeB (P : Program) (σ : Store) (b : Builtin) (ts : List TypeId) (args : List PV) : Option (PV × Store) :=
  match b, ts, args with
  | .append, [t, u], [s, x] => match P.underlying t, P.underlying u with
    | some (.slice el), some (.slice _) => (match x with | .str _ => none | x => appendv P σ el s x)
    | some (.slice el), some .string => (match x with | .str b => appendv P σ el s (.str b) | _ => none)
    | _, _ => none
  | .copy, [t, u], [d, s] => match P.underlying t, P.underlying u with
    | some (.slice el), some (.slice _) => copyv P σ el d s
    | _, _ => none
  | .clear, [t], [d] => match P.underlying t with
    | some (.slice el) => clearv P σ el d
    | _ => none
  | _, _, _ => none

def calmB : Builtin → Bool
  | .len | .cap | .max | .min => true
  | _ => false

def builtinv (P : Program) (σ : Store) (b : Builtin) (ts : List TypeId) (args : List PV) : Option (PV × Store) :=
  if calmB b = true then (pureB P b ts args).map (·, σ) else writeB P σ b ts args

/-- The numbers that a value names. -/
def tops : PV → List Nat
  | .ref id _ _ | .lsl id _ _ _ _ => [id]
  | .mref id => [id]
  | .agg cs | .tuple cs | .func _ cs => topss cs
  | _ => []
where topss : List PV → List Nat
  | [] => []
  | v :: r => tops v ++ topss r

/-- What is named is written no more (if it names nothing itself). -/
def roAll : List Nat → Store → Option Store
  | [], σ => some σ
  | id :: r, σ => match σ.objs id with
    | some (.cells _ es) => if (es.all fun e => PV.lf.lfs e) = true then roAll r (σ.put id (.cells es.length es)) else none
    | _ => none

/-- A call of one of the program's functions. -/
def callv (cfg : Cfg) (C : CallO) (f : FuncId) (args : List PV) (σ : Store) : Option (PV × Store) :=
  match cfg.mode f with
  | .live => C f args σ
  | .pure => (C f (args.map (fz fuelFz σ)) .empty).bind fun (v, τ) =>
      let r := fz fuelFz τ v
      if r.scalar = true then some (r, σ) else if cfg.strict = true then (if PV.lf.lfs args = true then some (r, σ) else none) else (roAll (tops.topss args) σ).map fun σ' => (r, σ')
  | .own => (C f (args.map (fz fuelFz σ)) (.at_ σ.next)).bind fun (v, τ) => if (v.own && ownObjs τ σ.next) = true then some (v, σ.join τ) else none
  | .blind => (C f args .empty).bind fun (v, τ) => if τ.next = 0 then some (v, σ) else none

/-- Has a function a body of Go's? -/
def enters (P : Program) (f : FuncId) : Bool :=
  match P.funcs[f]? with
  | some fn => fn.body.isSome && fn.name != "runtime.NumGoroutine"
  | none => false

def mapO {α β : Type} (f : α → β) (l : Array α) : List β := l.toList.map f

/-- One operation: what it yields ('.tuple []': nothing), and the store behind it. -/
def evalOp (cfg : Cfg) (C : CallO) (env : List PV) (σ : Store) (o : Oper) : Option (PV × Store) :=
  let P := cfg.P
  match o.op with
  | .move x | .assign x => some (opd env x, σ)
  | .pick c a b => match opd env c with
    | .bool t => some (if t = true then opd env a else opd env b, σ)
    | _ => none
  | .alloc el => (zeroOf P el).bind fun z => if z.known = true ∧ z.cells.length ≠ 0 then some (.ref σ.next 0 0, σ.push (.cells 0 [z.cells])) else none
  | .box _ x => let v := opd env x; if v.known = true ∧ v.cells.length ≠ 0 then some (.ref σ.next 0 0, σ.push (.cells 0 [v.cells])) else none
  | .build t ps => (buildv P t (ps.toList.map fun (i, x) => (i, opd env x))).map (·, σ)
  | .buildSlice t n ps => buildSlv P σ t n (ps.toList.map fun (i, x) => (i, opd env x))
  | .load t a => if calmL cfg a = true then (loadcv P t (opd env a)).map (·, σ) else (loadv P σ t (opd env a)).map (·, σ)
  | .store t a x => (storev P σ t (opd env a) (opd env x)).map (.tuple [], ·)
  | .nilCheck x => match opd env x with
    | .ref a b c => some (.ref a b c, σ)
    | .pref cs => some (.pref cs, σ)
    | .func f cs => some (.func f cs, σ)
    | _ => none
  | .binOp op t x y _ => (binv P op t (opd env x) (opd env y)).map (·, σ)
  | .unOp op _ x => (unv op (opd env x)).map (·, σ)
  | .convert s d x => (convv P σ s d (opd env x)).map (·, σ)
  | .makeFunc (.func f) fs cs => if fs.size = 0 then some (.func f (cs.toList.map (opd env)), σ) else none
  | .makeSlice t l c => makeSlv P σ t (opd env l) (opd env c)
  | .slice t x lo hi mx => (cutv P t (opd env x) (lo.map (opd env)) (hi.map (opd env)) (mx.map (opd env))).map (·, σ)
  | .fieldAddr s x f => (fieldAddrv P s (opd env x) f).map (·, σ)
  | .field s x f => (fieldv P s (opd env x) f).map (·, σ)
  | .indexAddr t x i => (indexAddrv P t (opd env x) (opd env i)).map (·, σ)
  | .index t x i => (indexv P t (opd env x) (opd env i)).map (·, σ)
  | .extract x i => match opd env x with
    | .tuple vs => (vs[i]?).map (·, σ)
    | _ => none
  | .call c => match c.callee with
    | .builtin b => builtinv P σ b c.argTypes.toList (c.args.toList.map (opd env))
    | .value f => match opd env f with
      | .func g cs => if enters P g = true then callv cfg C g (c.args.toList.map (opd env) ++ cs) σ else none
      | _ => none
    | _ => none
  | _ => none

/-! ### Regions of open order: what may come up before what -/
/-- Does it look at the store, or write it? 0: neither, 1: it lays something new, 2: it reads, 3: it writes. -/
def touch (cfg : Cfg) (o : Oper) : Nat :=
  match o.op with
  | .alloc _ | .box .. | .buildSlice .. | .makeSlice .. => 1
  | .load _ a => if calmL cfg a = true then 0 else 2
  | .convert .. => 2
  | .store .. => 3
  | .call c => match c.callee with
    | .builtin b => if calmB b = true then 0 else 3
    | .value (.func f) => if cfg.mode f = .live then 3 else if cfg.mode f = .blind then 0 else 2
    | _ => 3
  | _ => 0

/-- The numbers that each operation comes behind, one bit each. -/
def beforeL (ops : List Oper) : List Nat :=
  ops.foldl (init := []) fun acc o => acc ++ [o.after.toList.foldl (fun s e => if Region.binds .any e then s ||| 2 ^ e.on ||| acc.getD e.on 0 else s) 0]

def tmpsOf (o : Oper) : List Nat := o.op.operands.toList.filterMap fun | .tmp t => some t | _ => none

def namesOf (ops : List Oper) (o : Oper) : List Nat :=
  o.dst.toList ++ tmpsOf o ++ (match o.guard with | some (g, _) => (match ops[g]? with | some p => p.dst.toList | none => []) | none => [])

/-- Is each pair of operations that may meet (in a slot, or in the store) in order? -/
def drawOk (cfg : Cfg) (ops : List Oper) : Bool :=
  let b := beforeL ops
  (List.range ops.length).all fun i => (List.range i).all fun j =>
    match ops[i]?, ops[j]? with
    | some x, some y =>
      (b.getD i 0).testBit j ||
      ((match y.dst with | some d => !(namesOf ops x).contains d | none => true) &&
       (match x.dst with | some d => !(namesOf ops y).contains d | none => true) &&
       !(touch cfg x == 3 && touch cfg y != 0) && !(touch cfg y == 3 && decide (2 ≤ touch cfg x)))
    | _, _ => true

/-- Do edges lead back alone, and guards too? -/
def edgesOk (ops : List Oper) : Bool :=
  (List.range ops.length).all fun i => match ops[i]? with
    | some o => o.after.toList.all (fun e => !Region.binds .any e || decide (e.on < i)) &&
      (match o.guard with | some (g, _) => o.after.toList.any (fun e => e.on == g && Region.binds .any e) | none => true)
    | none => true

/-- Whether an operation is carried out: 'none': it can't be told. -/
def wants (ops : List Oper) (env : List PV) (o : Oper) : Option Bool :=
  match o.guard with
  | none => some true
  | some (g, w) => match (ops[g]?).bind (·.dst) with
    | some d => match env.getD d .undef with
      | .bool b => some (b == w)
      | .tuple _ => some false
      | _ => none
    | none => none

def putv (env : List PV) (d : Option Nat) (v : PV) : List PV :=
  match d with
  | some t => env.set t v
  | none => env

def evalOps (cfg : Cfg) (C : CallO) (all : List Oper) : List Oper → List PV → Store → Option (List PV × Store)
  | [], env, σ => some (env, σ)
  | o :: rest, env, σ => (wants all env o).bind fun w =>
    if w = true then (evalOp cfg C env σ o).bind fun (v, τ) => evalOps cfg C all rest (putv env o.dst v) τ
    else evalOps cfg C all rest (putv env o.dst (.tuple [])) σ

/-- The slots that are read through, and not set, in a region. -/
def bases (ops : List Oper) : List Nat :=
  let ds := ops.filterMap (·.dst)
  (ops.filterMap fun o => match o.op with | .load _ (.tmp t) | .fieldAddr _ (.tmp t) _ | .indexAddr _ (.tmp t) _ => some t | _ => none).foldl (init := []) fun acc t => if acc.contains t || ds.contains t then acc else acc ++ [t]
/-- A variable that is written no more is read whole. -/
def close1 (t : Nat) (env : List PV) (σ : Store) : Option (List PV × Store) :=
  (roAll (tops (env.getD t .undef)) σ).map fun σ' => (env.set t (fz fuelFz σ (env.getD t .undef)), σ')
def closeAll : List Nat → List PV → Store → Option (List PV × Store)
  | [], env, σ => some (env, σ)
  | t :: r, env, σ => (close1 t env σ).bind fun x => closeAll r x.1 x.2

/-- What is closed ahead of a region. -/
def pre (cfg : Cfg) (f : FuncId) (id : Nat) (env : List PV) (σ : Store) : Option (Bool × List PV × Store) :=
  match cfg.close f id with
  | none => some (false, env, σ)
  | some (b, zs) => (closeAll zs env σ).map fun x => (b, x.1, x.2)
/-- What is reached from some slots, in a region. -/
def derived : List Nat → List Oper → List Nat
  | zs, [] => zs
  | zs, o :: r => match o.dst, o.op with
    | some d, .fieldAddr _ (.tmp t) _ | some d, .indexAddr _ (.tmp t) _ | some d, .nilCheck (.tmp t) | some d, .move (.tmp t) => derived (if zs.contains t = true then zs ++ [d] else zs) r
    | _, _ => derived zs r
def calmOf (cfg : Cfg) (f : FuncId) (id : Nat) (ops : List Oper) : List Nat :=
  match cfg.close f id with
  | some (false, zs) => derived zs ops
  | _ => []
def evalReg (cfg : Cfg) (C : CallO) (b : Bool) (l : List Nat) (ops : List Oper) (draw : Bool) (env : List PV) (σ : Store) : Option (List PV × Store) :=
  if draw = true then (if (drawOk { cfg with calm := b, calmA := l } ops && edgesOk ops) = true then evalOps { cfg with strict := true, calm := b, calmA := l } C ops ops env σ else none)
  else evalOps cfg C ops ops env σ

def firstRegion : Code → Nat
  | .region id _ _ => id
  | .seq a _ | .cond _ a _ | .block _ a => firstRegion a
  | .loop a => firstRegion a + 1000
  | _ => 0

def keepN (n : Nat) (l : List Nat) (env : List PV) : List PV := (List.range n).map fun i => if l.contains i = true then env.getD i .undef else .undef
def headM (cfg : Cfg) (f : FuncId) (c : Code) (n : Nat) (env : List PV) : List PV :=
  match cfg.mask f (firstRegion c) with
  | some (h, _) => keepN n h env
  | none => env
def outOf (l : List (Nat × TypeId) × List (Nat × TypeId)) : Ex → List (Nat × TypeId)
  | .ret => l.2
  | _ => l.1
def outM (cfg : Cfg) (f : FuncId) (c : Code) (x : Ex) (n : Nat) (env : List PV) : List PV :=
  match cfg.mask f (firstRegion c) with
  | some (_, l) => keepN n ((outOf l x).map (·.1)) env
  | none => env

def evalCode (cfg : Cfg) (C : CallO) (L : LoopO) (f : FuncId) : Code → List PV → Store → Option (Ex × List PV × Store)
  | .skip, env, σ | .label _, env, σ => some (.normal, env, σ)
  | .region id ops draw, env, σ => (pre cfg f id env σ).bind fun p => (evalReg (cfg.at_ f) C p.1 (calmOf cfg f id ops.toList) ops.toList draw p.2.1 p.2.2).map fun (e, s) => (.normal, e, s)
  | .seq a b, env, σ => (evalCode cfg C L f a env σ).bind fun (x, e, s) => match x with
    | .normal => evalCode cfg C L f b e s
    | x => some (x, e, s)
  | .cond c a b, env, σ => match opd env c with
    | .bool t => if t = true then evalCode cfg C L f a env σ else evalCode cfg C L f b env σ
    | _ => none
  | .block id c, env, σ => (evalCode cfg C L f c env σ).map fun (x, e, s) => (match x with | .exit i => if i = id then .normal else .exit i | x => x, e, s)
  | .loop c, env, σ => (L f c (headM cfg f c env.length env) σ).map fun (x, e, s) => (x, outM cfg f c x env.length e, s)
  | .exit id, env, σ => some (.exit id, env, σ)
  | .ret, env, σ => some (.ret, env, σ)
  | _, _, _ => none

def resultv (P : Program) (σ : Store) (env : List PV) : ResultVar → Option PV
  | .tmp t => some (env.getD t .undef)
  | .cell a t => loadv P σ t (env.getD a .undef)

def resultsv (P : Program) (σ : Store) (env : List PV) : List ResultVar → Option (List PV)
  | [] => some []
  | r :: rest => (resultv P σ env r).bind fun v => (resultsv P σ env rest).map (v :: ·)

def tuplev : List PV → PV
  | [v] => v
  | vs => .tuple vs

/-- A function of the program: its body in slots of its own. -/
def enterv (fn : Func) (args : List PV) : List PV := args ++ List.replicate (fn.ntmps - args.length) .undef

def stepC (cfg : Cfg) (C : CallO) (L : LoopO) : CallO := fun f args σ =>
  match cfg.told f with
  | some g => g args σ
  | none => match cfg.P.funcs[f]? with
    | some fn => match fn.body with
      | some c => (evalCode cfg C L f c (enterv fn args) σ).bind fun (x, e, s) => match x with
        | .exit _ => none
        | _ => (resultsv cfg.P s e fn.results.toList).map fun vs => (tuplev vs, s)
      | none => none
    | none => none

def stepL (cfg : Cfg) (C : CallO) (L : LoopO) : LoopO := fun f c env σ =>
  (evalCode cfg C L f c env σ).bind fun (x, e, s) => match x with
    | .normal => L f c (headM cfg f c env.length e) s
    | x => some (x, outM cfg f c x env.length e, s)

mutual
def callN (cfg : Cfg) : Nat → CallO
  | 0 => fun _ _ _ => none
  | n + 1 => stepC cfg (callN cfg n) (loopN cfg n)
def loopN (cfg : Cfg) : Nat → LoopO
  | 0 => fun _ _ _ _ => none
  | n + 1 => stepL cfg (callN cfg n) (loopN cfg n)
end

end Go.Pvm
