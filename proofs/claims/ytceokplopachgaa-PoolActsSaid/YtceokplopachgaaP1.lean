import GoSem.Claims
import Derived.Calls
import Derived.MapKept
import Derived.Laws.AppendOwn
import Derived.Laws.CopyRow
import Derived.Laws.Build
import Derived.Laws.StructEq
import Derived.Laws.BytesString
import Derived.Laws.BytesArg
import Derived.Laws.Tables
/- Part of the proof: an evaluator for the code of Go functions over plain values (a slice that nobody writes is a list), and a store for what is written. -/
namespace Go.Pvm
abbrev haa:=@Option.bind_eq_some_iff
abbrev hac:=@Option.map_eq_some_iff
abbrev had:=@List.getElem?_eq_some_iff
abbrev haf:=@List.getElem?_eq_getElem
abbrev hah:=@Nat.le_refl
abbrev hai:=@List.getD_eq_getElem?_getD
abbrev haj:=@List.mem_of_getElem?
abbrev hak:=@List.length_append
abbrev ham:=@List.mem_singleton
abbrev han:=@List.length_map
abbrev hao:=@Nat.lt_of_lt_of_le
abbrev haq:=@Bool.and_eq_true
abbrev har:=@List.all_eq_true
abbrev hau:=@List.mem_iff_getElem?
abbrev hav:=@List.getElem?_map
abbrev haw:=@Nat.lt_succ_self
abbrev hax:=@Int.toNat_natCast
abbrev hay:=@Array.getElem?_toList
abbrev haz:=@Nat.le_trans
abbrev ha1:=@List.eq_nil_of_length_eq_zero
abbrev ha2:=@Nat.mul_le_mul_right
abbrev ha3:=@List.getElem?_set_self
abbrev ha4:=@Nat.lt_or_ge
abbrev ha5:=@List.getElem?_set_ne
abbrev ha6:=@List.mem_cons
abbrev ha7:=@List.length_take
abbrev ha8:=@List.drop_zero
abbrev ha9:=@List.length_singleton
abbrev hbc:=@List.append_assoc
abbrev hbd:=@Nat.le_succ
abbrev hbe:=@Nat.zero_le
abbrev hbg:=@Array.getElem?_eq_some_iff
abbrev hbh:=@List.getElem?_append_left
abbrev hbi:=@List.take_of_length_le
abbrev hbj:=@List.append_nil
abbrev hbn:=@List.mem_append
abbrev hbo:=@List.drop_eq_getElem_cons
abbrev hbp:=@List.getElem?_drop
abbrev hbr:=@List.mem_of_mem_take
abbrev hbu:=@List.mem_of_mem_drop
abbrev hbv:=@List.getElem?_eq_none
abbrev hbw:=@decide_eq_true_eq
abbrev hbz:=@bne_self_eq_false
abbrev hb3:=@beq_self_eq_true
abbrev hb4:=@Nat.zero_add
inductive PV where
 | undef
 | bool (b : Bool)
 | int (k : IntKind) (n : Int)
 | float (k : FloatKind) (bits : Nat)
 | str (s : ByteArray)
 | nilptr
 | ref (id idx off : Nat)
 | pref (cells : List PV)
 | nilsl
 | psl (full : Bool) (elems : List (List PV))
 | lsl (id sz idx len : Nat) (cap : Option Nat)
 | nilmap
 | mref (id : Nat)
 | nilfunc
 | func (f : FuncId) (caps : List PV)
 | niliface
 | agg (cells : List PV)
 | tuple (vs : List PV)
 deriving Inhabited
def PV.cells : PV → List PV
 | .agg cs => cs
 | v => [v]
def PV.one : PV → Bool
 | .undef | .agg _ | .tuple _ => false
 | _ => true
def PV.known : PV → Bool
 | .undef => false
 | _ => true
def PV.lf : PV → Bool
 | .ref .. | .lsl .. | .mref _ => false
 | .func _ cs | .agg cs | .tuple cs => lfs cs
 | _ => true
where lfs : List PV → Bool
 | [] => true
 | v :: r => v.lf && lfs r
def PV.scalar : PV → Bool
 | .bool _ | .int .. | .float .. | .str _ | .nilptr | .nilsl | .nilmap | .nilfunc | .niliface => true
 | .agg cs | .tuple cs => scalars cs
 | _ => false
where scalars : List PV → Bool
 | [] => true
 | v :: r => v.scalar && scalars r
def ofCell : Value → PV
 | .bool b => .bool b
 | .int k n => .int k n
 | .float k n => .float k n
 | .string s => .str s
 | .pointer none => .nilptr
 | .slice none 0 0 => .nilsl
 | .map none => .nilmap
 | .nilFunc => .nilfunc
 | .nilIface => .niliface
 | _ => .undef
def ofValue : Value → PV
 | .agg cs => .agg (cs.toList.map ofCell)
 | .func (.func f) fs cs => if fs.size = 0 ∧ cs.size = 0 then .func f [] else .undef
 | .tuple vs => if vs.size = 0 then .tuple [] else .undef
 | v => ofCell v
inductive Obj where
 | cells (ro : Nat) (elems : List (List PV))     -- the first 'ro' elements are written no more
 | map (kvs : List (PV × PV))
 | mbox (id : Nat)     -- a variable of its own that holds a map
structure Store where
 next : Nat
 objs : Nat → Option Obj
def Store.empty : Store := ⟨0,fun _ => none⟩
def Store.at_ (n : Nat) : Store := ⟨n,fun _ => none⟩
def Store.push (σ : Store) (o : Obj) : Store := ⟨σ.next + 1,fun i => if i = σ.next then some o else σ.objs i⟩
def Store.put (σ : Store) (id : Nat) (o : Obj) : Store := ⟨σ.next,fun i => if i = id then some o else σ.objs i⟩
def Store.kill (σ : Store) (id : Nat) : Store := ⟨σ.next,fun i => if i = id then none else σ.objs i⟩
def Store.join (σ τ : Store) : Store := ⟨τ.next,fun i => if i < σ.next then σ.objs i else τ.objs i⟩
def fz : Nat → Store → PV → PV
 | 0,_,_ => .undef
 | n + 1,σ,v => match v with
   | .ref id idx off => match σ.objs id with
     | some (.cells _ es) => match es[idx]? with
       | some e => .pref ((e.drop off).map (fz n σ))
       | none => .undef
     | _ => .undef
   | .lsl id _ idx len cap => match σ.objs id with
     | some (.cells _ es) => if idx + len ≤ es.length then .psl (cap == some len) (((es.drop idx).take len).map fun e => e.map (fz n σ)) else .undef
     | _ => .undef
   | .mref _ => .undef
   | .agg cs => .agg (cs.map (fz n σ))
   | .tuple cs => .tuple (cs.map (fz n σ))
   | .func f cs => .func f (cs.map (fz n σ))
   | v => v
def zp : Nat := 8
inductive Mode where
 | live | pure | own | blind
 deriving DecidableEq
def PV.own : PV → Bool
 | .pref _ => false
 | .psl _ es => es.isEmpty
 | .func _ cs | .agg cs | .tuple cs => owns cs
 | _ => true
where owns : List PV → Bool
 | [] => true
 | v :: r => v.own && owns r
def qu (τ : Store) (a : Nat) : Bool := (List.range (τ.next - a)).all fun i => match τ.objs (a + i) with
 | some (.cells _ es) => es.all PV.own.owns
 | some (.map _) | some (.mbox _) => false
 | none => true
structure Cfg where
 P : Program
 mode : FuncId → Mode
 alt : FuncId → Option (FuncId → Mode) := fun _ => none
 strict : Bool := false
 calm : Bool := false
 calmA : List Nat := []
 mask : FuncId → Nat → Option (List Nat × List (Nat × TypeId) × List (Nat × TypeId)) := fun _ _ => none
 close : FuncId → Nat → Option (Bool × List Nat) := fun _ _ => none
 flo : FuncId → Nat → List Nat := fun _ _ => []
 floZ : List Nat := []
 floA : List Nat := []
 told : FuncId → Option (List PV → Store → Option (PV × Store))
def Cfg.at_ (cfg : Cfg) (f : FuncId) : Cfg := { cfg with mode := match cfg.alt f with | none => cfg.mode | some m => m }
def zjo (cfg : Cfg) (a : Operand) : Bool := cfg.calm || (match a with | .tmp t => cfg.calmA.contains t | _ => false)
abbrev z7 := FuncId → List PV → Store → Option (PV × Store)
inductive Ex where
 | normal | exit (id : Nat) | ret
 deriving DecidableEq
abbrev xg := FuncId → Code → List PV → Store → Option (Ex × List PV × Store)
section
variable (P : Program)
def qk (t : TypeId) : Option Nat := (P.info? t).map (·.size)
def zmy (t : TypeId) : Option Nat := (P.info? t).map (·.bytes)
def jc (t : TypeId) : Option PV := ((P.info? t).bind (·.zero)).map ofValue
end
def opd (env : List PV) : Operand → PV
 | .tmp t => env.getD t .undef
 | .const v => ofValue v
 | .func f => .func f []
 | .global _ => .undef
def zou : TypeDesc → Bool
 | .struct _ | .array _ _ => true
 | _ => false
def xl (P : Program) (t : TypeId) (cs : List PV) (off : Nat) : Option PV :=
 (qk P t).bind fun n => (P.underlying t).bind fun d =>
 if zou d = true then (if off + n ≤ cs.length then some (.agg ((cs.drop off).take n)) else none) else cs[off]?
def zji (P : Program) (E : TypeId → PV → PV → Option Bool) : List Field → List PV → List PV → Option Bool
 | [],_,_ => some true
 | f :: r,xs,ys =>
   if f.name = "_" then zji P E r xs ys else
   (xl P f.type xs f.offset).bind fun a => (xl P f.type ys f.offset).bind fun b =>
   (E f.type a b).bind fun e => if e = true then zji P E r xs ys else some false
def eqv (P : Program) : Nat → TypeId → PV → PV → Option Bool
 | 0,_,_,_ => none
 | d + 1,t,x,y => match P.underlying t,x,y with
   | some .bool,.bool a,.bool b => some (a == b)
   | some (.int _),.int k a,.int k' b => if k = k' then some (a == b) else none
   | some (.float _),.float k a,.float k' b => if k = k' then some (Op.floatEq k a b) else none
   | some .string,.str a,.str b => some (a == b)
   | some (.pointer _),.nilptr,.nilptr => some true
   | some (.pointer _),.nilptr,.ref .. | some (.pointer _),.nilptr,.pref _ | some (.pointer _),.ref ..,.nilptr | some (.pointer _),.pref _,.nilptr => some false
   | some (.slice _),.nilsl,.nilsl => some true
   | some (.slice _),.nilsl,.psl .. | some (.slice _),.nilsl,.lsl .. | some (.slice _),.psl ..,.nilsl | some (.slice _),.lsl ..,.nilsl => some false
   | some (.map _ _),.nilmap,.nilmap => some true
   | some (.map _ _),.nilmap,.mref _ | some (.map _ _),.mref _,.nilmap => some false
   | some (.func _ _ _),.nilfunc,.nilfunc => some true
   | some (.func _ _ _),.nilfunc,.func .. | some (.func _ _ _),.func ..,.nilfunc => some false
   | some (.struct fs),.agg xs,.agg ys => if P.stoodInHeld t then none else zji P (eqv P d) fs.toList xs ys
   | _,_,_ => none
def zln (op : BinOp) (k : IntKind) (x y : Int) : Option PV :=
 match op with
 | .add => some (.int k (k.wrap (x + y)))
 | .sub => some (.int k (k.wrap (x - y)))
 | .mul => some (.int k (k.wrap (x * y)))
 | .quo => if y = 0 then none else some (.int k (k.wrap (x.tdiv y)))
 | .rem => if y = 0 then none else some (.int k (x.tmod y))
 | .and => some (.int k (k.wrap (BitVec.ofInt k.bits x &&& BitVec.ofInt k.bits y).toNat))
 | .or => some (.int k (k.wrap (BitVec.ofInt k.bits x ||| BitVec.ofInt k.bits y).toNat))
 | .xor => some (.int k (k.wrap (BitVec.ofInt k.bits x ^^^ BitVec.ofInt k.bits y).toNat))
 | .andNot => some (.int k (k.wrap (BitVec.ofInt k.bits x &&& ~~~ BitVec.ofInt k.bits y).toNat))
 | .eql => some (.bool (x == y))
 | .neq => some (.bool (x != y))
 | .lss => some (.bool (x < y))
 | .leq => some (.bool (x ≤ y))
 | .gtr => some (.bool (x > y))
 | .geq => some (.bool (x ≥ y))
 | _ => none
def zij (op : BinOp) (k : IntKind) (x y : Int) : Option PV :=
 if y < 0 then none else
 match op with
 | .shl => some (.int k (k.wrap (x * 2 ^ (min y.toNat k.bits))))
 | .shr => some (.int k (x.fdiv (2 ^ (min y.toNat k.bits))))
 | _ => none
def zv5 (op : BinOp) (x y : ByteArray) : Option PV :=
 match op with
 | .add => if ((x.size + y.size : Nat) : Int) ≤ IntKind.i64.max then some (.str (x ++ y)) else none
 | .eql => some (.bool (x.toList == y.toList))
 | .neq => some (.bool !(x.toList == y.toList))
 | _ => none
def zjc (P : Program) (t : TypeId) : PV → Bool
 | .agg _ => P.eqGuardType P.depth t
 | _ => false
def j9 (P : Program) (op : BinOp) (t : TypeId) (x y : PV) : Option PV :=
 match x,y with
 | .int k a,.int k' b => (match op with
   | .shl | .shr => zij op k a b
   | _ => if k = k' then zln op k a b else none)
 | .str a,.str b => zv5 op a b
 | .float k a,.float k' b => if k = k' then (match op with
   | .eql => some (.bool (Op.floatEq k a b))
   | .neq => some (.bool !(Op.floatEq k a b))
   | .lss => some (.bool (k.format.order a b == some .lt))
   | .leq => some (.bool (k.format.order a b == some .lt || k.format.order a b == some .eq))
   | .gtr => some (.bool (k.format.order a b == some .gt))
   | .geq => some (.bool (k.format.order a b == some .gt || k.format.order a b == some .eq))
   | _ => none) else none
 | x,y => if zjc P t x = true then none else (match op with
   | .eql => (eqv P 10000 t x y).map .bool
   | .neq => (eqv P 10000 t x y).map fun b => .bool !b
   | _ => none)
def unv (op : UnOp) (x : PV) : Option PV :=
 match op,x with
 | .neg,.int k n => some (.int k (k.wrap (0 - n)))
 | .xor,.int k n => some (.int k (k.wrap (BitVec.ofInt k.bits (if k.signed then -1 else k.max) ^^^ BitVec.ofInt k.bits n).toNat))
 | .not,.bool b => some (.bool !b)
 | _,_ => none
def bytesOf : List (List PV) → Option (List UInt8)
 | [] => some []
 | [.int .u8 n] :: r => (bytesOf r).map (UInt8.ofNat n.toNat :: ·)
 | _ => none
def xo (σ : Store) : PV → Option (List (List PV))
 | .nilsl => some []
 | .psl _ es => some es
 | .lsl id _ idx len _ => match σ.objs id with
   | some (.cells _ es) => if idx + len ≤ es.length then some ((es.drop idx).take len) else none
   | _ => none
 | .str s => some (s.data.toList.map fun b => [.int .u8 b.toNat])
 | _ => none
def zxa : PV → Option Nat
 | .nilsl => some 0
 | .psl _ es => some es.length
 | .lsl _ _ _ len _ => some len
 | .str s => some s.size
 | _ => none
def all1 (n : Nat) (es : List (List PV)) : Bool := es.all fun e => e.length == n && e.all PV.one
def xz (P : Program) (σ : Store) (el : TypeId) (s x : PV) : Option (PV × Store) :=
 (qk P el).bind fun sz => (zmy P el).bind fun by_ => (jc P el).bind fun z => (xo σ x).bind fun new =>
 if sz = 0 ∨ by_ = 0 ∨ z.known = false ∨ z.cells.length ≠ sz then none else if all1 sz new = false then none else
 match s with
 | .nilsl => if new.length = 0 then some (.nilsl,σ) else
   if new.length * by_ ≤ 140737488355328 then some (.lsl σ.next sz 0 new.length none,σ.push (.cells 0 new)) else none
 | .psl full es => if new.length = 0 then some (.psl full es,σ) else
   if full = true then
    (if (es.length + new.length) * by_ ≤ 140737488355328 then
     (if (es.all fun e => e.length == sz) = true then some (.lsl σ.next sz 0 (es.length + new.length) none,σ.push (.cells 0 (es ++ new))) else none)
    else none)
   else none
 | .lsl id sz' idx len cap => if new.length = 0 then some (.lsl id sz' idx len cap,σ) else
   if sz' ≠ sz then none else
   match σ.objs id with
   | some (.cells ro es) =>
     if idx + len + new.length ≤ es.length ∧ len + new.length ≤ cap.getD (len + new.length) then
      (if ro ≤ idx + len then some (.lsl id sz idx (len + new.length) cap,σ.put id (.cells ro (es.take (idx + len) ++ new ++ es.drop (idx + len + new.length)))) else none)
     else if idx + len ≤ es.length then
      (if (len + new.length) * by_ ≤ 140737488355328 then
       (match cap with
       | some c => if c < len + new.length then
         some (.lsl σ.next sz 0 (len + new.length) none,σ.push (.cells 0 ((es.drop idx).take len ++ new))) else none
       | none => if ro ≤ idx + len then some (.lsl σ.next sz 0 (len + new.length) none,(σ.kill id).push (.cells (ro - idx) ((es.drop idx).take len ++ new))) else none)
      else none)
     else none
   | _ => none
 | _ => none
def over (cs : List PV) (off : Nat) (new : List PV) : List PV := cs.take off ++ new ++ cs.drop (off + new.length)
def zf0 (P : Program) (σ : Store) (el : TypeId) (d s : PV) : Option (PV × Store) :=
 (qk P el).bind fun sz => (xo σ s).bind fun src => if sz = 0 then none else
 match d with
 | .nilsl => if all1 sz src = true then some (.int .i64 0,σ) else none
 | .lsl id sz' idx len _ => if sz' ≠ sz then none else
   match σ.objs id with
   | some (.cells ro es) =>
     if idx + len ≤ es.length ∧ ro ≤ idx then
      (if (src.all fun e => e.length == sz) = true ∧ all1 sz (src.take len) = true then some (.int .i64 (Nat.min src.length len),σ.put id (.cells ro (es.take idx ++ src.take len ++ es.drop (idx + (src.take len).length)))) else none)
     else none
   | _ => none
 | _ => none
def zbd (P : Program) (σ : Store) (el : TypeId) (d : PV) : Option (PV × Store) :=
 (qk P el).bind fun sz => (jc P el).bind fun z => if sz = 0 ∨ z.known = false ∨ z.cells.length ≠ sz ∨ z.cells.all PV.one = false then none else
 match d with
 | .nilsl => some (.tuple [],σ)
 | .lsl id sz' idx len _ => if sz' ≠ sz then none else
   match σ.objs id with
   | some (.cells ro es) =>
     if idx + len ≤ es.length ∧ ro ≤ idx then
      some (.tuple [],σ.put id (.cells ro (es.take idx ++ List.replicate len z.cells ++ es.drop (idx + len))))
     else none
   | _ => none
 | _ => none
def zhw (place : Nat → Option (Nat × Nat)) (cells : List PV) : List (Nat × PV) → Option (List PV)
 | [] => some cells
 | (i,v) :: r => (place i).bind fun (off,size) =>
   if v.cells.length = size ∧ off + size ≤ cells.length ∧ v.known = true then zhw place (over cells off v.cells) r else none
def jz (P : Program) (t : TypeId) (parts : List (Nat × PV)) : Option PV :=
 (jc P t).bind fun z => if z.known = false then none else match P.underlying t with
  | some (.struct fs) => (fs.toList.mapM fun f => (P.info? f.type).map fun i => (f.offset,i.size)).bind fun pl => (zhw (fun i => pl[i]?) z.cells parts).map .agg
  | some (.array _ el) => (qk P el).bind fun n => (zhw (fun i => some (i * n,n)) z.cells parts).map .agg
  | _ => none
def uz (es : List (List PV)) (sz : Nat) : List (Nat × PV) → Option (List (List PV))
 | [] => some es
 | (i,v) :: r => if v.cells.length = sz ∧ i < es.length ∧ v.known = true then uz (es.set i v.cells) sz r else none
def xt (P : Program) (σ : Store) (t : TypeId) (len : Nat) (parts : List (Nat × PV)) : Option (PV × Store) :=
 match P.underlying t with
 | some (.slice el) => (qk P el).bind fun sz => (jc P el).bind fun z =>
   if sz ≠ 0 ∧ z.known = true ∧ z.cells.length = sz ∧ len * sz ≤ 16777216 then
    (uz (List.replicate len z.cells) sz parts).map fun es => (.lsl σ.next sz 0 len (some len),σ.push (.cells 0 es))
   else none
 | _ => none
def qw (P : Program) (σ : Store) (t : TypeId) (len cap : PV) : Option (PV × Store) :=
 match P.underlying t,len,cap with
 | some (.slice el),.int .i64 l,.int .i64 c => (qk P el).bind fun sz => (zmy P el).bind fun by_ => (jc P el).bind fun z =>
   if sz ≠ 0 ∧ z.known = true ∧ z.cells.length = sz ∧ 0 ≤ l ∧ l ≤ c ∧ by_ * c ≤ 140737488355328 ∧ c ≤ 9223372036854775807 then
    some (.lsl σ.next sz 0 l.toNat (some c.toNat),σ.push (.cells 0 (List.replicate c.toNat z.cells)))
   else none
 | _,_,_ => none
def zd (P : Program) (σ : Store) (t : TypeId) : PV → Option PV
 | .pref cs => xl P t cs 0
 | .ref id idx off => match σ.objs id with
   | some (.cells _ es) => (es[idx]?).bind fun e => xl P t e off
   | _ => none
 | _ => none
def zbb (P : Program) (t : TypeId) : PV → Option PV
 | .pref cs => xl P t cs 0
 | _ => none
def zu (P : Program) (σ : Store) (t : TypeId) (a v : PV) : Option Store :=
 match a with
 | .ref id idx off => match σ.objs id with
   | some (.cells ro es) => (es[idx]?).bind fun e => (qk P t).bind fun n =>
     if v.cells.length = n ∧ off + n ≤ e.length ∧ v.cells.all PV.one = true ∧ ro ≤ idx then some (σ.put id (.cells ro (es.set idx (over e off v.cells)))) else none
   | _ => none
 | _ => none
def zj (P : Program) (s : TypeId) (x : PV) (f : Nat) : Option PV :=
 match P.underlying s with
 | some (.struct fs) => (fs[f]?).bind fun fd => (qk P fd.type).bind fun n => if n = 0 then none else
   match x with
   | .ref id idx off => some (.ref id idx (off + fd.offset))
   | .pref cs => some (.pref (cs.drop fd.offset))
   | _ => none
 | _ => none
def zdm (P : Program) (s : TypeId) (x : PV) (f : Nat) : Option PV :=
 match P.underlying s,x with
 | some (.struct fs),.agg cs => (fs[f]?).bind fun fd => xl P fd.type cs fd.offset
 | _,_ => none
def uq : PV → Option Int
 | .int _ n => some n
 | _ => none
def zh (P : Program) (t : TypeId) (x i : PV) : Option PV :=
 (uq i).bind fun i => match P.underlying t with
  | some (.slice el) => (qk P el).bind fun sz => (match x with
    | .psl _ es => if 0 ≤ i then (es[i.toNat]?).bind fun e => if e.length = sz then some (.pref e) else none else none
    | .lsl id sz' idx len _ => if 0 ≤ i ∧ i < len ∧ sz' = sz then some (.ref id (idx + i.toNat) 0) else none
    | _ => none)
  | some (.array n el) => (qk P el).bind fun sz => if 0 ≤ i ∧ i < n then (match x with
    | .ref id idx off => some (.ref id idx (off + i.toNat * sz))
    | .pref cs => some (.pref (cs.drop (i.toNat * sz)))
    | _ => none) else none
  | _ => none
def zck (P : Program) (t : TypeId) (x i : PV) : Option PV :=
 (uq i).bind fun i => match P.underlying t,x with
  | some (.array n el),.agg cs => (qk P el).bind fun sz => if 0 ≤ i ∧ i < n then xl P el cs (i.toNat * sz) else none
  | some .string,.str s => if 0 ≤ i then (s.data[i.toNat]?).map fun b => .int .u8 b.toNat else none
  | _,_ => none
def xi (o : Option PV) (d : Nat) : Option Nat :=
 match o with
 | none => some d
 | some (.int _ n) => if 0 ≤ n then some n.toNat else none
 | some _ => none
def rowsAt (cs : List PV) (sz l k : Nat) : List (List PV) := (List.range k).map fun i => (cs.drop ((l + i) * sz)).take sz
def zai (P : Program) (t : TypeId) (x : PV) (lo hi mx : Option PV) : Option PV :=
 if mx.isSome = true ∧ hi.isSome = false then none else
 match P.underlying t,x with
 | some .string,.str s => if mx.isSome = true then none else (xi hi s.size).bind fun h => (xi lo 0).bind fun l =>
   if l ≤ h ∧ h ≤ s.size then some (.str (s.extract l h)) else none
 | some (.slice el),.nilsl => (qk P el).bind fun _ => (xi hi 0).bind fun h => (xi lo 0).bind fun l => (xi mx 0).bind fun m =>
   if l = 0 ∧ h = 0 ∧ m = 0 then some .nilsl else none
 | some (.slice el),.psl full es => (qk P el).bind fun sz => (xi hi es.length).bind fun h => (xi lo 0).bind fun l => (xi mx es.length).bind fun m =>
   if l ≤ h ∧ h ≤ m ∧ m ≤ es.length ∧ (es.all fun e => e.length == sz) = true then
    some (.psl (if mx.isSome = true then decide (m = h) else full && decide (h = es.length)) ((es.drop l).take (h - l)))
   else none
 | some (.slice el),.lsl id sz idx len cap => (qk P el).bind fun sz' => if sz' ≠ sz then none else
   (xi hi len).bind fun h => (xi lo 0).bind fun l => (xi mx (cap.getD len)).bind fun m =>
   if l ≤ h ∧ h ≤ m ∧ m ≤ cap.getD len then
    some (.lsl id sz (idx + l) (h - l) (if mx.isSome = true then some (m - l) else cap.map (· - l)))
   else none
 | some (.array n el),.pref cs => (qk P el).bind fun sz => (xi hi n).bind fun h => (xi lo 0).bind fun l => (xi mx n).bind fun m =>
   if l ≤ h ∧ h ≤ m ∧ m ≤ n ∧ n * sz ≤ cs.length then some (.psl false (rowsAt cs sz l (h - l))) else none
 | _,_ => none
def zdy : PV → Bool
 | .str _ => true
 | _ => false
def ul (P : Program) (σ : Store) (src dst : TypeId) (x : PV) : Option PV :=
 match P.underlying src,P.underlying dst,x with
 | some (.int _),some (.int k),.int _ n => some (.int k (k.wrap n))
 | some .string,some .string,.str s => some (.str s)
 | some (.slice e),some .string,x => match P.underlying e with
   | some (.int .u8) => if zdy x = true then none else (xo σ x).bind fun es => (bytesOf es).map fun l => .str ⟨l.toArray⟩
   | _ => none
 | _,_,_ => none
def zsm : PV → PV → Option PV
 | .int k x,.int _ y => some (.int k (if y > x then y else x))
 | _,_ => none
def zsl : PV → PV → Option PV
 | .int k x,.int _ y => some (.int k (if y < x then y else x))
 | _,_ => none
def zfz (f : PV → PV → Option PV) : PV → List PV → Option PV
 | x,[] => some x
 | x,y :: r => (f x y).bind fun z => zfz f z r
def jd (P : Program) (b : Builtin) (ts : List TypeId) (args : List PV) : Option PV :=
 match b,ts,args with
 | .len,t :: _,x :: _ => match P.underlying t,x with
   | some .string,.str s => some (.int .i64 (s.size : Nat))
   | some (.slice _),.nilsl => some (.int .i64 0)
   | some (.slice _),.psl _ es => some (.int .i64 (es.length : Nat))
   | some (.slice _),.lsl _ _ _ len _ => some (.int .i64 (len : Nat))
   | _,_ => none
 | .cap,t :: _,x :: _ => match P.underlying t,x with
   | some (.slice _),.nilsl => some (.int .i64 0)
   | some (.slice _),.psl true es => some (.int .i64 (es.length : Nat))
   | some (.slice _),.lsl _ _ _ _ (some c) => some (.int .i64 (c : Nat))
   | _,_ => none
 | .max,_,x :: r => zfz zsm x r
 | .min,_,x :: r => zfz zsl x r
 | _,_,_ => none
def vd (P : Program) (σ : Store) (el : TypeId) (s : PV) (n : Int) : Option (PV × Store) :=
 (qk P el).bind fun sz => (zmy P el).bind fun by_ => (jc P el).bind fun z =>
 if sz = 0 ∨ by_ = 0 ∨ z.known = false ∨ z.cells.length ≠ sz then none else
 match s with
 | .lsl id sz' idx len (some c) => match σ.objs id with
   | some (.cells _ es) => if sz' = sz ∧ 0 < n ∧ c < len + n.toNat ∧ (len + n.toNat) * by_ ≤ 140737488355328 ∧ idx + len ≤ es.length then
     some (.lsl σ.next sz 0 (len + n.toNat) none,σ.push (.cells 0 ((es.drop idx).take len ++ List.replicate n.toNat z.cells))) else none
   | _ => none
 | .nilsl => if 0 < n ∧ n.toNat * by_ ≤ 140737488355328 then some (.lsl σ.next sz 0 n.toNat none,σ.push (.cells 0 (List.replicate n.toNat z.cells))) else none
 | _ => none
def zfx (k : PV) : List (PV × PV) → Nat → Option (Option (Nat × PV))
 | [],_ => some none
 | e :: es,i => match k,e.1 with
   | .int κ a,.int κ' b => if κ = κ' then (if a = b then some (some (i,e.2)) else zfx k es (i + 1)) else none
   | _,_ => none
def zkx (P : Program) (t : TypeId) : Option (IntKind × TypeId) := match P.underlying t with
 | some (.map kt vt) => match P.underlying kt with
   | some (.int κ) => some (κ,vt)
   | _ => none
 | _ => none
def qg (P : Program) (σ : Store) (t : TypeId) (h : Option PV) : Option (PV × Store) := (zkx P t).bind fun _ => match h with
 | none | some (.int _ _) => some (.mref σ.next,σ.push (.map []))
 | _ => none
def js (P : Program) (σ : Store) (t : TypeId) (x k : PV) (ok : Bool) : Option PV := (zkx P t).bind fun (κ,vt) => match x,k with
 | .mref id,.int κ' n => if κ' = κ then (match σ.objs id with
   | some (.map kvs) => (zfx (.int κ n) kvs 0).bind fun r => (match r with
     | some (_,v) => some (v,true)
     | none => (jc P vt).map (·,false)).map fun (v,b) => if ok = true then .tuple [v,.bool b] else v
   | _ => none) else none
 | _,_ => none
def kz (P : Program) (σ : Store) (t : TypeId) (x k v : PV) : Option Store := (zkx P t).bind fun (κ,_) => match x,k with
 | .mref id,.int κ' n => if κ' = κ then (match σ.objs id with
   | some (.map kvs) => (zfx (.int κ n) kvs 0).map fun r => match r with
     | some (i,_) => σ.put id (.map (kvs.set i (.int κ n,v)))
     | none => σ.put id (.map (kvs ++ [(.int κ n,v)]))
   | _ => none) else none
 | _,_ => none
def zab (P : Program) (σ : Store) (t : TypeId) (x k : PV) : Option Store := (zkx P t).bind fun (κ,_) => match x,k with
 | .mref id,.int κ' n => if κ' = κ then (match σ.objs id with
   | some (.map kvs) => (zfx (.int κ n) kvs 0).map fun r => match r with
     | some (i,_) => σ.put id (.map (kvs.eraseIdx i))
     | none => σ.put id (.map kvs)
   | _ => none) else none
 | _,_ => none
def zew (σ : Store) (x : PV) : Option PV := match x with
 | .mref id => (match σ.objs id with
   | some (.map kvs) => some (.int .i64 (kvs.length : Nat))
   | _ => none)
 | _ => none
def va (P : Program) (b : Builtin) (ts : List TypeId) : Bool := match b,ts with
 | .len,[t] => (match P.underlying t with | some (.map _ _) => true | _ => false)
 | _,_ => false
def y7 (P : Program) (σ : Store) (b : Builtin) (ts : List TypeId) (args : List PV) : Option (PV × Store) :=
 match b,ts,args with
 | .append,[t,u],[s,x] => match P.underlying t,P.underlying u with
   | some (.slice el),some (.slice _) => (match x with | .str _ => none | x => xz P σ el s x)
   | some (.slice el),some .string => (match x with | .str b => xz P σ el s (.str b) | _ => none)
   | some (.slice el),some (.int _) => (match x with | .int _ n => vd P σ el s n | _ => none)
   | _,_ => none
 | .copy,[t,u],[d,s] => match P.underlying t,P.underlying u with
   | some (.slice el),some (.slice _) => zf0 P σ el d s
   | _,_ => none
 | .clear,[t],[d] => match P.underlying t with
   | some (.slice el) => zbd P σ el d
   | _ => none
 | .delete,[t,_],[x,k] => (zab P σ t x k).map (.tuple [],·)
 | _,_,_ => none
def zh4 : Builtin → Bool
 | .len | .cap | .max | .min => true
 | _ => false
def jo (P : Program) (σ : Store) (b : Builtin) (ts : List TypeId) (args : List PV) : Option (PV × Store) :=
 if zh4 b = true then (jd P b ts args).map (·,σ) else y7 P σ b ts args
def tops : PV → List Nat
 | .ref id _ _ | .lsl id _ _ _ _ => [id]
 | .mref id => [id]
 | .agg cs | .tuple cs | .func _ cs => topss cs
 | _ => []
where topss : List PV → List Nat
 | [] => []
 | v :: r => tops v ++ topss r
def ke : List Nat → Store → Option Store
 | [],σ => some σ
 | id :: r,σ => match σ.objs id with
   | some (.cells _ es) => if (es.all fun e => PV.lf.lfs e) = true then ke r (σ.put id (.cells es.length es)) else none
   | _ => none
def qq (cfg : Cfg) (C : z7) (f : FuncId) (args : List PV) (σ : Store) : Option (PV × Store) :=
 match cfg.mode f with
 | .live => C f args σ
 | .pure => (C f (args.map (fz zp σ)) .empty).bind fun (v,τ) =>
   let r := fz zp τ v
   if r.scalar = true then some (r,σ) else if cfg.strict = true then (if PV.lf.lfs args = true then some (r,σ) else none) else (ke (tops.topss args) σ).map fun σ' => (r,σ')
 | .own => (C f (args.map (fz zp σ)) (.at_ σ.next)).bind fun (v,τ) => if (v.own && qu τ σ.next) = true then some (v,σ.join τ) else none
 | .blind => (C f args .empty).bind fun (v,τ) => if τ.next = 0 then some (v,σ) else none
def enters (P : Program) (f : FuncId) : Bool :=
 match P.funcs[f]? with
 | some fn => fn.body.isSome && fn.name != "runtime.NumGoroutine"
 | none => false
inductive Ext where
 | f64bits | f64from | overlaps (t : TypeId)
 deriving DecidableEq
def zs0 (P : Program) (f : FuncId) : Option Ext :=
 match P.funcs[f]? with
 | some fn =>
   if (fn.body.isSome || fn.name == "runtime.NumGoroutine" || (Extern.findNext fn).isSome) = true then none
   else if (fn.name == "math.Float64bits") = true then some .f64bits
   else if (fn.name == "math.Float64frombits") = true then some .f64from
   else if (fn.origin == "slices.overlaps" && (Extern.allGenericRows.lookup fn.name).isNone && (Extern.allTypedRows.lookup fn.name).isNone && (Extern.allRows.lookup fn.name).isNone) = true then fn.params[0]?.map .overlaps
   else none
 | none => none
def zvd (P : Program) (f : FuncId) (args : List PV) : Option PV :=
 match zs0 P f,args with
 | some .f64bits,[.float .f64 n] => some (.int .u64 (n : Nat))
 | some .f64from,[.int .u64 n] => some (.float .f64 n.toNat)
 | _,_ => none
def zzt (P : Program) (f : FuncId) (args : List PV) (σ : Store) : Option PV :=
 match zs0 P f,args with
 | some (.overlaps t),[.lsl id _ _ _ _,.lsl id2 _ _ _ _] => match P.underlying t with
   | some (.slice el) => (qk P el).bind fun _ => if id = id2 then none else match σ.objs id,σ.objs id2 with
     | some (.cells _ _),some (.cells _ _) => some (.bool false)
     | _,_ => none
   | _ => none
 | _,_ => none
def ztu (cfg : Cfg) (f : FuncId) (args : List PV) (σ : Store) : Option (PV × Store) :=
 match cfg.mode f with
 | .blind => (zvd cfg.P f args).map (·,σ)
 | .pure => (zzt cfg.P f args σ).map (·,σ)
 | _ => none
def zi (cfg : Cfg) (C : z7) (g : FuncId) (args : List PV) (σ : Store) : Option (PV × Store) :=
 if enters cfg.P g = true then qq cfg C g args σ else ztu cfg g args σ
def yc (cfg : Cfg) (C : z7) (env : List PV) (σ : Store) (o : Oper) : Option (PV × Store) :=
 let P := cfg.P
 match o.op with
 | .move x | .assign x => some (opd env x,σ)
 | .pick c a b => match opd env c with
   | .bool t => some (if t = true then opd env a else opd env b,σ)
   | _ => none
 | .alloc el => (jc P el).bind fun z => if z.known = true ∧ z.cells.length ≠ 0 then some (.ref σ.next 0 0,σ.push (.cells 0 [z.cells])) else none
 | .box _ x => let v := opd env x; if v.known = true ∧ v.cells.length ≠ 0 then some (.ref σ.next 0 0,σ.push (.cells 0 [v.cells])) else none
 | .build t ps => (jz P t (ps.toList.map fun (i,x) => (i,opd env x))).map (·,σ)
 | .buildSlice t n ps => xt P σ t n (ps.toList.map fun (i,x) => (i,opd env x))
 | .load t a => if zjo cfg a = true then (zbb P t (opd env a)).map (·,σ) else (zd P σ t (opd env a)).map (·,σ)
 | .store t a x => (zu P σ t (opd env a) (opd env x)).map (.tuple [],·)
 | .nilCheck x => match opd env x with
   | .ref a b c => some (.ref a b c,σ)
   | .pref cs => some (.pref cs,σ)
   | .func f cs => some (.func f cs,σ)
   | _ => none
 | .binOp op t x y _ => (j9 P op t (opd env x) (opd env y)).map (·,σ)
 | .unOp op _ x => (unv op (opd env x)).map (·,σ)
 | .convert s d x => (ul P σ s d (opd env x)).map (·,σ)
 | .makeFunc (.func f) fs cs => if fs.size = 0 then some (.func f (cs.toList.map (opd env)),σ) else none
 | .makeSlice t l c => qw P σ t (opd env l) (opd env c)
 | .slice t x lo hi mx => (zai P t (opd env x) (lo.map (opd env)) (hi.map (opd env)) (mx.map (opd env))).map (·,σ)
 | .fieldAddr s x f => (zj P s (opd env x) f).map (·,σ)
 | .field s x f => (zdm P s (opd env x) f).map (·,σ)
 | .indexAddr t x i => (zh P t (opd env x) (opd env i)).map (·,σ)
 | .index t x i => (zck P t (opd env x) (opd env i)).map (·,σ)
 | .extract x i => match opd env x with
   | .tuple vs => (vs[i]?).map (·,σ)
   | _ => none
 | .makeMap t h => qg P σ t (h.map (opd env))
 | .lookup t x k ok => (js P σ t (opd env x) (opd env k) ok).map (·,σ)
 | .mapUpdate t x k v => (kz P σ t (opd env x) (opd env k) (opd env v)).map (.tuple [],·)
 | .call c => match c.callee with
   | .builtin b => if va P b c.argTypes.toList = true then (match c.args.toList with | [x] => (zew σ (opd env x)).map (·,σ) | _ => none) else jo P σ b c.argTypes.toList (c.args.toList.map (opd env))
   | .value f => match opd env f with
     | .func g cs => zi cfg C g (c.args.toList.map (opd env) ++ cs) σ
     | _ => none
   | _ => none
 | _ => none
def touch (cfg : Cfg) (o : Oper) : Nat :=
 match o.op with
 | .alloc _ | .box .. | .buildSlice .. | .makeSlice .. | .makeMap .. => 1
 | .lookup .. => 2
 | .mapUpdate .. => 3
 | .load _ a => if zjo cfg a = true then 0 else 2
 | .convert .. => 2
 | .store .. => 3
 | .call c => match c.callee with
   | .builtin b => if va cfg.P b c.argTypes.toList = true then 2 else if zh4 b = true then 0 else 3
   | .value (.func f) => if cfg.mode f = .live then 3 else if cfg.mode f = .blind then 0 else 2
   | _ => 3
 | _ => 0
def zbo : PV → Option Nat
 | .ref id _ _ => some id
 | _ => none
def zn1 (o : Oper) : Bool :=
 match o.op with
 | .call c => (match c.callee with | .builtin .append => true | _ => false)
 | _ => false
def zoa (cfg : Cfg) (o : Oper) : Bool :=
 match o.op with
 | .load _ (.tmp t) => !cfg.floZ.isEmpty && cfg.floA.contains t
 | _ => false
def zaf (cfg : Cfg) (env : List PV) (o : Oper) : Bool :=
 match cfg.floZ with
 | [] => true
 | z :: zs => match o.op with
   | .load _ (.tmp t) => !cfg.floA.contains t || (z :: zs).any fun u => (zbo (env.getD u .undef)).isSome && zbo (env.getD u .undef) == zbo (env.getD t .undef)
   | .call c => (match c.callee with
     | .builtin .append => (match c.args.toList with
       | s :: _ => (match opd env s with
         | .lsl id _ _ _ _ => (z :: zs).all fun u => match zbo (env.getD u .undef) with | some j => j != id | none => false
         | .nilsl | .psl _ _ => true
         | _ => false)
       | [] => false)
     | _ => true)
   | _ => true
def zof (cfg : Cfg) (C : z7) (env : List PV) (σ : Store) (o : Oper) : Option (PV × Store) := if zaf cfg env o = true then yc cfg C env σ o else none
def zrn (cfg : Cfg) (env : List PV) (σ : Store) : Bool := cfg.floZ.all fun u => match env.getD u .undef with
 | .ref id _ _ => (σ.objs id).isSome
 | _ => false
def zro (cfg : Cfg) (ops : List Oper) : Bool := cfg.floZ.all fun u => ops.all fun o => match o.dst with | some d => d != u | none => true
def jp (ops : List Oper) : List Nat :=
 ops.foldl (init := []) fun acc o => acc ++ [o.after.toList.foldl (fun s e => if Region.binds .any e then s ||| 2 ^ e.on ||| acc.getD e.on 0 else s) 0]
def ztg (o : Oper) : List Nat := o.op.operands.toList.filterMap fun | .tmp t => some t | _ => none
def qv (ops : List Oper) (o : Oper) : List Nat :=
 o.dst.toList ++ ztg o ++ (match o.guard with | some (g,_) => (match ops[g]? with | some p => p.dst.toList | none => []) | none => [])
def wg (cfg : Cfg) (ops : List Oper) : Bool :=
 let b := jp ops
 (List.range ops.length).all fun i => (List.range i).all fun j =>
  match ops[i]?,ops[j]? with
  | some x,some y =>
    (b.getD i 0).testBit j ||
    ((match y.dst with | some d => !(qv ops x).contains d | none => true) &&
     (match x.dst with | some d => !(qv ops y).contains d | none => true) &&
     !(touch cfg x == 3 && touch cfg y != 0) && (!(touch cfg y == 3 && decide (2 ≤ touch cfg x)) || zoa cfg x && zn1 y))
  | _,_ => true
def qm (ops : List Oper) : Bool :=
 (List.range ops.length).all fun i => match ops[i]? with
  | some o => o.after.toList.all (fun e => !Region.binds .any e || decide (e.on < i)) &&
    (match o.guard with | some (g,_) => o.after.toList.any (fun e => e.on == g && Region.binds .any e) | none => true)
  | none => true
def vy (ops : List Oper) (env : List PV) (o : Oper) : Option Bool :=
 match o.guard with
 | none => some true
 | some (g,w) => match (ops[g]?).bind (·.dst) with
   | some d => match env.getD d .undef with
     | .bool b => some (b == w)
     | .tuple _ => some false
     | _ => none
   | none => none
def zfu (env : List PV) (d : Option Nat) (v : PV) : List PV :=
 match d with
 | some t => env.set t v
 | none => env
def y4 (cfg : Cfg) (C : z7) (all : List Oper) : List Oper → List PV → Store → Option (List PV × Store)
 | [],env,σ => some (env,σ)
 | o :: rest,env,σ => (vy all env o).bind fun w =>
   if w = true then (zof cfg C env σ o).bind fun (v,τ) => y4 cfg C all rest (zfu env o.dst v) τ
   else y4 cfg C all rest (zfu env o.dst (.tuple [])) σ
def zff (t : Nat) (env : List PV) (σ : Store) : Option (List PV × Store) :=
 (ke (tops (env.getD t .undef)) σ).map fun σ' => (env.set t (fz zp σ (env.getD t .undef)),σ')
def kp : List Nat → List PV → Store → Option (List PV × Store)
 | [],env,σ => some (env,σ)
 | t :: r,env,σ => (zff t env σ).bind fun x => kp r x.1 x.2
def pre (cfg : Cfg) (f : FuncId) (id : Nat) (env : List PV) (σ : Store) : Option (Bool × List PV × Store) :=
 match cfg.close f id with
 | none => some (false,env,σ)
 | some (b,zs) => (kp zs env σ).map fun x => (b,x.1,x.2)
def ki : List Nat → List Oper → List Nat
 | zs,[] => zs
 | zs,o :: r => match o.dst,o.op with
   | some d,.fieldAddr _ (.tmp t) _ | some d,.indexAddr _ (.tmp t) _ | some d,.nilCheck (.tmp t) | some d,.move (.tmp t) => ki (if zs.contains t = true then zs ++ [d] else zs) r
   | _,_ => ki zs r
def zbe (cfg : Cfg) (f : FuncId) (id : Nat) (ops : List Oper) : List Nat :=
 match cfg.close f id with
 | some (false,zs) => ki zs ops
 | _ => []
def kf (cfg : Cfg) (C : z7) (b : Bool) (l z : List Nat) (ops : List Oper) (draw : Bool) (env : List PV) (σ : Store) : Option (List PV × Store) :=
 if draw = true then (if (wg { cfg with calm := b,calmA := l,floZ := z,floA := ki z ops } ops && qm ops && (zro { cfg with floZ := z } ops && zrn { cfg with floZ := z } env σ)) = true then y4 { cfg with strict := true,calm := b,calmA := l,floZ := z,floA := ki z ops } C ops ops env σ else none)
 else y4 cfg C ops ops env σ
def zq : Code → Nat
 | .region id _ _ => id
 | .seq a _ | .cond _ a _ | .block _ a => zq a
 | .loop a => zq a + 1000
 | _ => 0
def za4 (n : Nat) (l : List Nat) (env : List PV) : List PV := (List.range n).map fun i => if l.contains i = true then env.getD i .undef else .undef
def ux (cfg : Cfg) (f : FuncId) (c : Code) (n : Nat) (env : List PV) : List PV :=
 match cfg.mask f (zq c) with
 | some (h,_) => za4 n h env
 | none => env
def zur (l : List (Nat × TypeId) × List (Nat × TypeId)) : Ex → List (Nat × TypeId)
 | .ret => l.2
 | _ => l.1
def zhc (cfg : Cfg) (f : FuncId) (c : Code) (x : Ex) (n : Nat) (env : List PV) : List PV :=
 match cfg.mask f (zq c) with
 | some (_,l) => za4 n ((zur l x).map (·.1)) env
 | none => env
def zg (cfg : Cfg) (C : z7) (L : xg) (f : FuncId) : Code → List PV → Store → Option (Ex × List PV × Store)
 | .skip,env,σ | .label _,env,σ => some (.normal,env,σ)
 | .region id ops draw,env,σ => (pre cfg f id env σ).bind fun p => (kf (cfg.at_ f) C p.1 (zbe cfg f id ops.toList) (cfg.flo f id) ops.toList draw p.2.1 p.2.2).map fun (e,s) => (.normal,e,s)
 | .seq a b,env,σ => (zg cfg C L f a env σ).bind fun (x,e,s) => match x with
   | .normal => zg cfg C L f b e s
   | x => some (x,e,s)
 | .cond c a b,env,σ => match opd env c with
   | .bool t => if t = true then zg cfg C L f a env σ else zg cfg C L f b env σ
   | _ => none
 | .block id c,env,σ => (zg cfg C L f c env σ).map fun (x,e,s) => (match x with | .exit i => if i = id then .normal else .exit i | x => x,e,s)
 | .loop c,env,σ => (L f c (ux cfg f c env.length env) σ).map fun (x,e,s) => (x,zhc cfg f c x env.length e,s)
 | .exit id,env,σ => some (.exit id,env,σ)
 | .ret,env,σ => some (.ret,env,σ)
 | _,_,_ => none
def u5 (P : Program) (σ : Store) (env : List PV) : ResultVar → Option PV
 | .tmp t => some (env.getD t .undef)
 | .cell a t => zd P σ t (env.getD a .undef)
def jl (P : Program) (σ : Store) (env : List PV) : List ResultVar → Option (List PV)
 | [] => some []
 | r :: rest => (u5 P σ env r).bind fun v => (jl P σ env rest).map (v :: ·)
def up : List PV → PV
 | [v] => v
 | vs => .tuple vs
def zcp (fn : Func) (args : List PV) : List PV := args ++ List.replicate (fn.ntmps - args.length) .undef
def uu (cfg : Cfg) (C : z7) (L : xg) : z7 := fun f args σ =>
 match cfg.told f with
 | some g => g args σ
 | none => match cfg.P.funcs[f]? with
   | some fn => match fn.body with
     | some c => (zg cfg C L f c (zcp fn args) σ).bind fun (x,e,s) => match x with
       | .exit _ => none
       | _ => (jl cfg.P s e fn.results.toList).map fun vs => (up vs,s)
     | none => none
   | none => none
def ue (cfg : Cfg) (C : z7) (L : xg) : xg := fun f c env σ =>
 (zg cfg C L f c env σ).bind fun (x,e,s) => match x with
  | .normal => L f c (ux cfg f c env.length e) s
  | x => some (x,zhc cfg f c x env.length e,s)
mutual
def vx (cfg : Cfg) : Nat → z7
 | 0 => fun _ _ _ => none
 | n + 1 => uu cfg (vx cfg n) (loopN cfg n)
def loopN (cfg : Cfg) : Nat → xg
 | 0 => fun _ _ _ _ => none
 | n + 1 => ue cfg (vx cfg n) (loopN cfg n)
end
end Go.Pvm
namespace Go.Pvm
abbrev xx := Nat → Nat → Prop
inductive VP (F : xx) (w : World) : PV → Value → Prop where
 | undef (v : Value) : VP F w .undef v
 | bool (b : Bool) : VP F w (.bool b) (.bool b)
 | int (k : IntKind) (n : Int) : VP F w (.int k n) (.int k n)
 | float (k : FloatKind) (n : Nat) : VP F w (.float k n) (.float k n)
 | str (s : ByteArray) : VP F w (.str s) (.string s)
 | nilptr : VP F w .nilptr (.pointer none)
 | pref (cs : List PV) (b o : Nat) (vs : Nat → Value) (h1 : ∀ i c,cs[i]? = some c → F b (o + i) ∧ w.cell? ⟨b,o + i,none⟩ = some (vs i))
   (h2 : ∀ i c,cs[i]? = some c → VP F w c (vs i)) : VP F w (.pref cs) (.pointer (some ⟨b,o,none⟩))
 | nilsl : VP F w .nilsl (.slice none 0 0)
 | psl (full : Bool) (es : List (List PV)) (sz b o : Nat) (sp : Option Nat) (c : Nat) (vs : Nat → Nat → Value) (hsp : c ≠ 0 → sp = none) (hs : ∀ e ∈ es,e.length = sz) (hc : es.length ≤ c) (hf : full = true → c = es.length)
   (h1 : ∀ i e,es[i]? = some e → ∀ j x,e[j]? = some x → F b (o + i * sz + j) ∧ w.cell? ⟨b,o + i * sz + j,none⟩ = some (vs i j))
   (h2 : ∀ i e,es[i]? = some e → ∀ j x,e[j]? = some x → VP F w x (vs i j)) : VP F w (.psl full es) (.slice (some ⟨b,o,sp⟩) es.length c)
 | nilmap : VP F w .nilmap (.map none)
 | nilfunc : VP F w .nilfunc .nilFunc
 | niliface : VP F w .niliface .nilIface
 | func (f : FuncId) (cs : List PV) (us : List Value) (vs : Nat → Value) (hl : us.length = cs.length) (h1 : ∀ i c,cs[i]? = some c → us[i]? = some (vs i))
   (h2 : ∀ i c,cs[i]? = some c → VP F w c (vs i)) : VP F w (.func f cs) (.func (.func f) #[] us.toArray)
 | agg (cs : List PV) (us : List Value) (vs : Nat → Value) (hl : us.length = cs.length) (h1 : ∀ i c,cs[i]? = some c → us[i]? = some (vs i))
   (h2 : ∀ i c,cs[i]? = some c → VP F w c (vs i)) : VP F w (.agg cs) (.agg us.toArray)
 | tuple (cs : List PV) (us : List Value) (vs : Nat → Value) (hl : us.length = cs.length) (h1 : ∀ i c,cs[i]? = some c → us[i]? = some (vs i))
   (h2 : ∀ i c,cs[i]? = some c → VP F w c (vs i)) : VP F w (.tuple cs) (.tuple us.toArray)
structure Rec where
 block : Nat
 sh : Nat
 sz : Nat
 n : Nat
 phys : Nat
abbrev Where := Nat → Option Rec
inductive VR (ρ : Where) (F : xx) (w : World) : PV → Value → Prop where
 | pure {v : PV} {c : Value} (h : VP F w v c) : VR ρ F w v c
 | ref (id idx off : Nat) (r : Rec) (h : ρ id = some r) : VR ρ F w (.ref id idx off) (.pointer (some ⟨r.block,r.sh + idx * r.sz + off,none⟩))
 | lsl (id idx len : Nat) (cap : Option Nat) (r : Rec) (b o c : Nat) (h : ρ id = some r) (ha : c ≠ 0 → b = r.block ∧ o = r.sh + idx * r.sz) (hl : len ≤ c)
   (hk : ∀ k,cap = some k → c = k ∧ idx + k ≤ r.n) (hn : cap = none → r.n ≤ idx + c) (hp : r.sh + (idx + c) * r.sz ≤ r.phys) (hi : idx + len ≤ r.n) :
   VR ρ F w (.lsl id r.sz idx len cap) (.slice (some ⟨b,o,none⟩) len c)
 | mref (id : Nat) (r : Rec) (h : ρ id = some r) : VR ρ F w (.mref id) (.map (some r.block))
 | func (f : FuncId) (cs : List PV) (us : List Value) (vs : Nat → Value) (hl : us.length = cs.length) (h1 : ∀ i c,cs[i]? = some c → us[i]? = some (vs i))
   (h2 : ∀ i c,cs[i]? = some c → VR ρ F w c (vs i)) : VR ρ F w (.func f cs) (.func (.func f) #[] us.toArray)
 | agg (cs : List PV) (us : List Value) (vs : Nat → Value) (hl : us.length = cs.length) (h1 : ∀ i c,cs[i]? = some c → us[i]? = some (vs i))
   (h2 : ∀ i c,cs[i]? = some c → VR ρ F w c (vs i)) : VR ρ F w (.agg cs) (.agg us.toArray)
 | tuple (cs : List PV) (us : List Value) (vs : Nat → Value) (hl : us.length = cs.length) (h1 : ∀ i c,cs[i]? = some c → us[i]? = some (vs i))
   (h2 : ∀ i c,cs[i]? = some c → VR ρ F w c (vs i)) : VR ρ F w (.tuple cs) (.tuple us.toArray)
inductive OR (ρ : Where) (F : xx) (w : World) (r : Rec) : Obj → Prop where
 | cells (ro : Nat) (es : List (List PV)) (arr : Array Value) (ty : TypeId) (hb : w.heap[r.block]? = some (.cells arr ty (0,0))) (hp : arr.size = r.phys) (hn : es.length = r.n)
   (hs : ∀ e ∈ es,e.length = r.sz) (hf : r.sh + r.n * r.sz ≤ r.phys) (hro : ro ≤ r.n) (hz : 0 < r.sz) (hF : ∀ o,r.sh + ro * r.sz ≤ o → ¬ F r.block o)
   (hc : ∀ i e,es[i]? = some e → ∀ j x,e[j]? = some x → ∃ v,arr[r.sh + i * r.sz + j]? = some v ∧ VR ρ F w x v) : OR ρ F w r (.cells ro es)
 | map (kvs : List (PV × PV)) (es : Array MapEntry) (clock : Nat) (hb : w.heap[r.block]? = some (.map es clock)) (hst : MapKept.Stamped es clock) (hn : es.size = kvs.length) (hF : ∀ o,¬ F r.block o)
   (hc : ∀ (i : Nat) (p : PV × PV),kvs[i]? = some p → ∃ e : MapEntry,es[i]? = some e ∧ VR ρ F w p.1 e.key ∧ VR ρ F w p.2 e.val) : OR ρ F w r (.map kvs)
 | mbox (id b : Nat) (ty : TypeId) (hv : VR ρ F w (.mref id) (.map (some b))) (hb : w.heap[r.block]? = some (.cells #[.map (some b)] ty (0,0))) (hs : r.sh = 0) (hF : ∀ o,¬ F r.block o) : OR ρ F w r (.mbox id)
theorem OR.alike {ρ ρ' : Where} {F F' : xx} {w w' : World} {r : Rec} {o : Obj} (h : OR ρ F w r o) (hb : w'.heap[r.block]? = w.heap[r.block]?) (hv : ∀ {v : PV} {c : Value},VR ρ F w v c → VR ρ' F' w' v c) (hF : ∀ o,F' r.block o → F r.block o) : OR ρ' F' w' r o := by
 cases h with
 | cells ro es arr ty hb' hp hn hs hf hro hz hF' hc => exact .cells ro es arr ty (by rw [hb]; exact hb') hp hn hs hf hro hz (fun o k e => hF' o k (hF o e)) fun i e he j x hx => let ⟨v,q1,q2⟩ := hc i e he j x hx; ⟨v,q1,hv q2⟩
 | map kvs es clock hb' hst hn hF' hc => exact .map kvs es clock (by rw [hb]; exact hb') hst hn (fun o e => hF' o (hF o e)) fun i p hp => let ⟨e,q1,q2,q3⟩ := hc i p hp; ⟨e,q1,hv q2,hv q3⟩
 | mbox id b ty hv' hb' hs hF' => exact .mbox id b ty (hv hv') (by rw [hb]; exact hb') hs fun o e => hF' o (hF o e)
theorem OR.in_ {ρ : Where} {F : xx} {w : World} {r : Rec} {o : Obj} (h : OR ρ F w r o) : r.block < w.heap.size := by
 cases h with
 | cells ro es arr ty hb => exact (hbg.1 hb).1
 | map kvs es clock hb => exact (hbg.1 hb).1
 | mbox id b ty hv hb => exact (hbg.1 hb).1
def Lv (ρ : Where) (σ : Store) (b : Nat) : Prop := ∃ id r o,ρ id = some r ∧ σ.objs id = some o ∧ r.block = b
structure SR (ρ : Where) (F : xx) (σ : Store) (w : World) : Prop where
 obj : ∀ id r o,ρ id = some r → σ.objs id = some o → OR ρ F w r o
 apart : ∀ id id' r r' o o',ρ id = some r → σ.objs id = some o → ρ id' = some r' → σ.objs id' = some o' → id ≠ id' → r.block ≠ r'.block
 old : ∀ b o,F b o → b < w.heap.size
 new : ∀ id,σ.next ≤ id → σ.objs id = none
structure Go1 (ρ : Where) (F : xx) (σ : Store) (w : World) (ρ' : Where) (F' : xx) (σ' : Store) (w' : World) : Prop where
 rec_ : ∀ id r,ρ id = some r → ρ' id = some r
 rng : ∀ id r,ρ' id = some r → ρ id = none → σ.next ≤ id ∧ id < σ'.next
 nx : σ.next ≤ σ'.next
 fro : ∀ b o,F b o → F' b o
 cell : ∀ b o,F b o → w'.cell? ⟨b,o,none⟩ = w.cell? ⟨b,o,none⟩
 size : w.heap.size ≤ w'.heap.size
 frame : ∀ b,b < w.heap.size → ¬ Lv ρ σ b → w'.heap[b]? = w.heap[b]?
 froN : ∀ b o,F' b o → F b o ∨ w.heap.size ≤ b ∨ Lv ρ σ b
 live : ∀ b,Lv ρ' σ' b → w.heap.size ≤ b ∨ Lv ρ σ b
 os : w'.os = w.os
 tape : w'.tape = w.tape
 out : w'.output = w.output
theorem Go1.refl (ρ : Where) (F : xx) (σ : Store) (w : World) : Go1 ρ F σ w ρ F σ w :=
 ⟨fun _ _ h => h,fun _ _ h h' => absurd (h.symm.trans h') (by simp),hah _,fun _ _ h => h,fun _ _ _ => rfl,hah _,fun _ _ _ => rfl,fun _ _ h => .inl h,fun _ h => .inr h,rfl,rfl,rfl⟩
theorem Go1.trans {ρ ρ1 ρ2 : Where} {F F1 F2 : xx} {σ σ1 σ2 : Store} {w w1 w2 : World} (h : Go1 ρ F σ w ρ1 F1 σ1 w1) (k : Go1 ρ1 F1 σ1 w1 ρ2 F2 σ2 w2) : Go1 ρ F σ w ρ2 F2 σ2 w2 where
 rec_ id r e := k.rec_ id r (h.rec_ id r e)
 rng id r e e0 := by
  cases h1 : ρ1 id with
  | none => have := k.rng id r e h1; have := h.nx; omega
  | some r1 => have := h.rng id r1 h1 e0; have := k.nx; omega
 nx := haz h.nx k.nx
 fro b o e := k.fro b o (h.fro b o e)
 cell b o e := (k.cell b o (h.fro b o e)).trans (h.cell b o e)
 size := haz h.size k.size
 frame b hb hn := by
  rw [k.frame b (hao hb h.size) (fun hl => ?_),h.frame b hb hn]
  rcases h.live b hl with h1 | h1
  ·omega
  ·exact hn h1
 froN b o e := by
  rcases k.froN b o e with h1 | h1 | h1
  ·exact h.froN b o h1
  ·exact .inr (.inl (haz h.size h1))
  ·exact .inr (h.live b h1)
 live b hl := by
  rcases k.live b hl with h1 | h1
  ·exact .inl (haz h.size h1)
  ·exact h.live b h1
 os := k.os.trans h.os
 tape := k.tape.trans h.tape
 out := k.out.trans h.out
theorem VP.mono {F F' : xx} {w w' : World} (hF : ∀ b o,F b o → F' b o) (hc : ∀ b o,F b o → w'.cell? ⟨b,o,none⟩ = w.cell? ⟨b,o,none⟩) {v : PV} {c : Value} (h : VP F w v c) : VP F' w' v c := by
 induction h with
 | undef v => exact .undef v
 | bool b => exact .bool b
 | int k n => exact .int k n
 | float k n => exact .float k n
 | str s => exact .str s
 | nilptr => exact .nilptr
 | pref cs b o vs h1 h2 ih => exact .pref cs b o vs (fun i c e => ⟨hF _ _ (h1 i c e).1,(hc _ _ (h1 i c e).1).trans (h1 i c e).2⟩) ih
 | nilsl => exact .nilsl
 | psl full es sz b o sp c vs hsp hs hc' hf h1 h2 ih => exact .psl full es sz b o sp c vs hsp hs hc' hf (fun i e he j x hx => ⟨hF _ _ (h1 i e he j x hx).1,(hc _ _ (h1 i e he j x hx).1).trans (h1 i e he j x hx).2⟩) ih
 | nilmap => exact .nilmap
 | nilfunc => exact .nilfunc
 | niliface => exact .niliface
 | func f cs us vs hl h1 h2 ih => exact .func f cs us vs hl h1 ih
 | agg cs us vs hl h1 h2 ih => exact .agg cs us vs hl h1 ih
 | tuple cs us vs hl h1 h2 ih => exact .tuple cs us vs hl h1 ih
theorem VR.mono {ρ ρ' : Where} {F F' : xx} {w w' : World} (hρ : ∀ id r,ρ id = some r → ρ' id = some r) (hF : ∀ b o,F b o → F' b o)
  (hc : ∀ b o,F b o → w'.cell? ⟨b,o,none⟩ = w.cell? ⟨b,o,none⟩) {v : PV} {c : Value} (h : VR ρ F w v c) : VR ρ' F' w' v c := by
 induction h with
 | pure h => exact .pure (h.mono hF hc)
 | ref id idx off r h => exact .ref id idx off r (hρ _ _ h)
 | lsl id idx len cap r b o c h ha hl hk hn hp hi => exact .lsl id idx len cap r b o c (hρ _ _ h) ha hl hk hn hp hi
 | mref id r h => exact .mref id r (hρ _ _ h)
 | func f cs us vs hl h1 h2 ih => exact .func f cs us vs hl h1 ih
 | agg cs us vs hl h1 h2 ih => exact .agg cs us vs hl h1 ih
 | tuple cs us vs hl h1 h2 ih => exact .tuple cs us vs hl h1 ih
theorem Go1.vr {ρ ρ' : Where} {F F' : xx} {σ σ' : Store} {w w' : World} (h : Go1 ρ F σ w ρ' F' σ' w') {v : PV} {c : Value} (k : VR ρ F w v c) : VR ρ' F' w' v c := k.mono h.rec_ h.fro h.cell
theorem zqm {cs : List PV} (h : PV.lf.lfs cs = true) : ∀ (i : Nat) (c : PV),cs[i]? = some c → c.lf = true := by
 induction cs with
 | nil => intro i c e; simp at e
 | cons v r ih =>
   simp only [PV.lf.lfs,haq] at h
   intro i c e
   cases i with
   | zero => simp at e; subst e; exact h.1
   | succ i => exact ih h.2 i c (by simpa using e)
theorem zek {cs : List PV} (h : PV.scalar.scalars cs = true) : ∀ (i : Nat) (c : PV),cs[i]? = some c → c.scalar = true := by
 induction cs with
 | nil => intro i c e; simp at e
 | cons v r ih =>
   simp only [PV.scalar.scalars,haq] at h
   intro i c e
   cases i with
   | zero => simp at e; subst e; exact h.1
   | succ i => exact ih h.2 i c (by simpa using e)
theorem VP.scalar {F F' : xx} {w w' : World} {v : PV} {c : Value} (h : VP F w v c) : v.scalar = true → VP F' w' v c := by
 induction h with
 | bool b => exact fun _ => .bool b
 | int k n => exact fun _ => .int k n
 | float k n => exact fun _ => .float k n
 | str s => exact fun _ => .str s
 | nilptr => exact fun _ => .nilptr
 | nilsl => exact fun _ => .nilsl
 | nilmap => exact fun _ => .nilmap
 | nilfunc => exact fun _ => .nilfunc
 | niliface => exact fun _ => .niliface
 | agg cs us vs hl h1 h2 ih => intro k; exact .agg cs us vs hl h1 fun i c e => ih i c e (zek (by simpa [PV.scalar] using k) i c e)
 | tuple cs us vs hl h1 h2 ih => intro k; exact .tuple cs us vs hl h1 fun i c e => ih i c e (zek (by simpa [PV.scalar] using k) i c e)
 | undef v => intro k; simp [PV.scalar] at k
 | pref cs b o vs h1 h2 ih => intro k; simp [PV.scalar] at k
 | psl full es sz b o sp c vs hsp hs hc' hf h1 h2 ih => intro k; simp [PV.scalar] at k
 | func f cs us vs hl h1 h2 ih => intro k; simp [PV.scalar] at k
theorem ziz (F : xx) (w : World) (v : Value) : VP F w (ofCell v) v := by
 unfold ofCell
 split <;> constructor
theorem zc1 (F : xx) (w : World) (v : Value) : VP F w (ofValue v) v := by
 unfold ofValue
 split
 ·rename_i cs
  have := VP.agg (F := F) (w := w) (cs.toList.map ofCell) cs.toList (fun i => cs.toList.getD i (.tuple #[])) (by simp)
   (fun i c e => by
    simp only [hav,hac] at e
    obtain ⟨a,h1,_⟩ := e
    simp [h1])
   (fun i c e => by
    simp only [hav,hac] at e
    obtain ⟨a,h1,rfl⟩ := e
    rw [hai,h1]
    exact ziz F w a)
  simpa using this
 ·rename_i f fs cs
  split
  ·rename_i h
   obtain ⟨h1,h2⟩ := h
   obtain rfl : fs = #[] := by simpa using h1
   obtain rfl : cs = #[] := by simpa using h2
   exact .func _ [] [] (fun _ => .nilFunc) rfl (fun i c e => by simp at e) (fun i c e => by simp at e)
  ·exact .undef _
 ·rename_i vs
  split
  ·rename_i h
   obtain rfl : vs = #[] := by simpa using h
   exact .tuple [] [] (fun _ => .nilFunc) rfl (fun i c e => by simp at e) (fun i c e => by simp at e)
  ·exact .undef _
 ·exact ziz F w v
def VRs (ρ : Where) (F : xx) (w : World) (cs : List PV) (us : List Value) : Prop := us.length = cs.length ∧ ∀ (i : Nat) (c : PV) (u : Value),cs[i]? = some c → us[i]? = some u → VR ρ F w c u
def VPs (F : xx) (w : World) (cs : List PV) (us : List Value) : Prop := us.length = cs.length ∧ ∀ (i : Nat) (c : PV) (u : Value),cs[i]? = some c → us[i]? = some u → VP F w c u
theorem zn9 {cs : List PV} {us : List Value} (hl : us.length = cs.length) {Q : PV → Value → Prop} (h : ∀ (i : Nat) (c : PV) (u : Value),cs[i]? = some c → us[i]? = some u → Q c u) :
  ∃ vs : Nat → Value,(∀ (i : Nat) (c : PV),cs[i]? = some c → us[i]? = some (vs i)) ∧ ∀ (i : Nat) (c : PV),cs[i]? = some c → Q c (vs i) := by
 refine ⟨fun i => us.getD i (.tuple #[]),fun i c e => ?_,fun i c e => ?_⟩ <;>
 ·have hi : i < us.length := by rw [hl]; exact (had.1 e).1
  have e2 : us[i]? = some (us.getD i (.tuple #[])) := by rw [hai,haf hi]; rfl
  first | exact e2 | exact h i c _ e e2
theorem VR.agg' {ρ : Where} {F : xx} {w : World} {cs : List PV} {us : List Value} (h : VRs ρ F w cs us) : VR ρ F w (.agg cs) (.agg us.toArray) := by
 obtain ⟨vs,h1,h2⟩ := zn9 h.1 h.2
 exact .agg cs us vs h.1 h1 h2
theorem VR.tuple' {ρ : Where} {F : xx} {w : World} {cs : List PV} {us : List Value} (h : VRs ρ F w cs us) : VR ρ F w (.tuple cs) (.tuple us.toArray) := by
 obtain ⟨vs,h1,h2⟩ := zn9 h.1 h.2
 exact .tuple cs us vs h.1 h1 h2
theorem VR.func' {ρ : Where} {F : xx} {w : World} {f : FuncId} {cs : List PV} {us : List Value} (h : VRs ρ F w cs us) : VR ρ F w (.func f cs) (.func (.func f) #[] us.toArray) := by
 obtain ⟨vs,h1,h2⟩ := zn9 h.1 h.2
 exact .func f cs us vs h.1 h1 h2
section
variable {ρ : Where} {F : xx} {w : World} {c : Value}
theorem VR.bool_inv {b : Bool} (h : VR ρ F w (.bool b) c) : c = .bool b := by cases h with | pure h => cases h; rfl
theorem VR.int_inv {k : IntKind} {n : Int} (h : VR ρ F w (.int k n) c) : c = .int k n := by cases h with | pure h => cases h; rfl
theorem VR.float_inv {k : FloatKind} {n : Nat} (h : VR ρ F w (.float k n) c) : c = .float k n := by cases h with | pure h => cases h; rfl
theorem VR.str_inv {s : ByteArray} (h : VR ρ F w (.str s) c) : c = .string s := by cases h with | pure h => cases h; rfl
theorem VR.nilptr_inv (h : VR ρ F w .nilptr c) : c = .pointer none := by cases h with | pure h => cases h; rfl
theorem VR.nilsl_inv (h : VR ρ F w .nilsl c) : c = .slice none 0 0 := by cases h with | pure h => cases h; rfl
theorem VR.nilmap_inv (h : VR ρ F w .nilmap c) : c = .map none := by cases h with | pure h => cases h; rfl
theorem VR.nilfunc_inv (h : VR ρ F w .nilfunc c) : c = .nilFunc := by cases h with | pure h => cases h; rfl
theorem VR.agg_inv {cs : List PV} (h : VR ρ F w (.agg cs) c) : ∃ us : List Value,c = .agg us.toArray ∧ VRs ρ F w cs us := by
 cases h with
 | pure h =>
   cases h with
   | agg _ us vs hl h1 h2 => exact ⟨us,rfl,hl,fun i c u e e' => by have := h1 i c e; rw [e'] at this; cases this; exact .pure (h2 i c e)⟩
 | agg _ us vs hl h1 h2 => exact ⟨us,rfl,hl,fun i c u e e' => by have := h1 i c e; rw [e'] at this; cases this; exact h2 i c e⟩
theorem VR.tuple_inv {cs : List PV} (h : VR ρ F w (.tuple cs) c) : ∃ us : List Value,c = .tuple us.toArray ∧ VRs ρ F w cs us := by
 cases h with
 | pure h =>
   cases h with
   | tuple _ us vs hl h1 h2 => exact ⟨us,rfl,hl,fun i c u e e' => by have := h1 i c e; rw [e'] at this; cases this; exact .pure (h2 i c e)⟩
 | tuple _ us vs hl h1 h2 => exact ⟨us,rfl,hl,fun i c u e e' => by have := h1 i c e; rw [e'] at this; cases this; exact h2 i c e⟩
theorem VR.func_inv {f : FuncId} {cs : List PV} (h : VR ρ F w (.func f cs) c) : ∃ us : List Value,c = .func (.func f) #[] us.toArray ∧ VRs ρ F w cs us := by
 cases h with
 | pure h =>
   cases h with
   | func _ _ us vs hl h1 h2 => exact ⟨us,rfl,hl,fun i c u e e' => by have := h1 i c e; rw [e'] at this; cases this; exact .pure (h2 i c e)⟩
 | func _ _ us vs hl h1 h2 => exact ⟨us,rfl,hl,fun i c u e e' => by have := h1 i c e; rw [e'] at this; cases this; exact h2 i c e⟩
theorem VR.ref_inv {id idx off : Nat} (h : VR ρ F w (.ref id idx off) c) : ∃ r,ρ id = some r ∧ c = .pointer (some ⟨r.block,r.sh + idx * r.sz + off,none⟩) := by
 cases h with
 | pure h => cases h
 | ref _ _ _ r h => exact ⟨r,h,rfl⟩
theorem VR.mref_inv {id : Nat} (h : VR ρ F w (.mref id) c) : ∃ r,ρ id = some r ∧ c = .map (some r.block) := by
 cases h with
 | pure h => cases h
 | mref _ r h => exact ⟨r,h,rfl⟩
theorem VR.pref_inv {cs : List PV} (h : VR ρ F w (.pref cs) c) : ∃ b o,c = .pointer (some ⟨b,o,none⟩) ∧ ∀ i x,cs[i]? = some x → ∃ v,F b (o + i) ∧ w.cell? ⟨b,o + i,none⟩ = some v ∧ VP F w x v := by
 cases h with
 | pure h =>
   cases h with
   | pref _ b o vs h1 h2 => exact ⟨b,o,rfl,fun i x e => ⟨vs i,(h1 i x e).1,(h1 i x e).2,h2 i x e⟩⟩
theorem VR.psl_inv {full : Bool} {es : List (List PV)} (h : VR ρ F w (.psl full es) c) : ∃ sz b o sp k,c = .slice (some ⟨b,o,sp⟩) es.length k ∧ (∀ e ∈ es,e.length = sz) ∧ es.length ≤ k ∧ (full = true → k = es.length) ∧
  (∀ i e,es[i]? = some e → ∀ j x,e[j]? = some x → ∃ v,F b (o + i * sz + j) ∧ w.cell? ⟨b,o + i * sz + j,none⟩ = some v ∧ VP F w x v) ∧ (k ≠ 0 → sp = none) := by
 cases h with
 | pure h =>
   cases h with
   | psl _ _ sz b o sp k vs hsp hs hc hf h1 h2 => exact ⟨sz,b,o,sp,k,rfl,hs,hc,hf,fun i e he j x hx => ⟨vs i j,(h1 i e he j x hx).1,(h1 i e he j x hx).2,h2 i e he j x hx⟩,hsp⟩
theorem VR.lsl_inv {id sz idx len : Nat} {cap : Option Nat} (h : VR ρ F w (.lsl id sz idx len cap) c) : ∃ r b o k,ρ id = some r ∧ sz = r.sz ∧ c = .slice (some ⟨b,o,none⟩) len k ∧
  (k ≠ 0 → b = r.block ∧ o = r.sh + idx * r.sz) ∧ len ≤ k ∧ (∀ j,cap = some j → k = j ∧ idx + j ≤ r.n) ∧ (cap = none → r.n ≤ idx + k) ∧ r.sh + (idx + k) * r.sz ≤ r.phys ∧ idx + len ≤ r.n := by
 cases h with
 | pure h => cases h
 | lsl _ _ _ _ r b o k h ha hl hk hn hp hi => exact ⟨r,b,o,k,h,rfl,rfl,ha,hl,hk,hn,hp,hi⟩
end
end Go.Pvm
namespace Go.Pvm
section
variable {P : Program} {ρ : Where} {F : xx} {w : World}
theorem wm (b o n : Nat) : (⟨b,o,none⟩ : Addr).add n = ⟨b,o + n,none⟩ := by unfold Addr.add; split <;> simp_all
theorem vh {t : TypeId} {n : Nat} (h : qk P t = some n) : ∃ i,P.info? t = some i ∧ i.size = n := by
 unfold qk at h
 cases hi : P.info? t with
 | none => rw [hi] at h; cases h
 | some i => rw [hi] at h; exact ⟨i,rfl,by simpa using h⟩
theorem xm {t : TypeId} {n : Nat} (h : qk P t = some n) (w : World) : (sizeOf t).run P w = .ok n w := by
 obtain ⟨i,hi,rfl⟩ := vh h
 simp [sizeOf,typeInfo,hi]
def CellsAt (ρ : Where) (F : xx) (w : World) (b o : Nat) (cs : List PV) : Prop := ∀ i x,cs[i]? = some x → ∃ v,w.cell? ⟨b,o + i,none⟩ = some v ∧ VR ρ F w x v
theorem CellsAt.drop {b o : Nat} {cs : List PV} (h : CellsAt ρ F w b o cs) (k : Nat) : CellsAt ρ F w b (o + k) (cs.drop k) := fun i x e => by
 rw [hbp] at e
 obtain ⟨v,h1,h2⟩ := h _ _ e
 exact ⟨v,by rw [Nat.add_assoc]; exact h1,h2⟩
theorem CellsAt.take {b o : Nat} {cs : List PV} (h : CellsAt ρ F w b o cs) (k : Nat) : CellsAt ρ F w b o (cs.take k) := fun i x e => by
 rw [List.getElem?_take] at e
 split at e
 ·exact h _ _ e
 ·cases e
theorem CellsAt.list {b o : Nat} {cs : List PV} (h : CellsAt ρ F w b o cs) : ∃ us : List Value,VRs ρ F w cs us ∧ ∀ j v,us[j]? = some v → w.cell? ⟨b,o + j,none⟩ = some v := by
 refine ⟨(List.range cs.length).map fun i => (w.cell? ⟨b,o + i,none⟩).getD undef,⟨by simp,fun i c u e e' => ?_⟩,fun j v e => ?_⟩
 ·obtain ⟨v,h1,h2⟩ := h i c e
  simp only [hav,hac,List.getElem?_range,(had.1 e).1] at e'
  obtain ⟨a,ha,rfl⟩ := e'
  cases ha
  rw [h1]
  exact h2
 ·simp only [hav,hac] at e
  obtain ⟨a,ha,rfl⟩ := e
  have hj : j < cs.length := by
   have := (had.1 ha).1
   simpa using this
  rw [List.getElem?_range hj] at ha
  cases ha
  obtain ⟨v,h1,_⟩ := h j _ (haf hj)
  rw [h1]; rfl
theorem VRs.drop {cs : List PV} {us : List Value} (h : VRs ρ F w cs us) (k : Nat) : VRs ρ F w (cs.drop k) (us.drop k) :=
 ⟨by simp [h.1],fun i c u e e' => by rw [hbp] at e e'; exact h.2 _ _ _ e e'⟩
theorem VRs.take {cs : List PV} {us : List Value} (h : VRs ρ F w cs us) (k : Nat) : VRs ρ F w (cs.take k) (us.take k) :=
 ⟨by simp [h.1],fun i c u e e' => by
  rw [List.getElem?_take] at e e'
  split at e
  ·rename_i hk
   rw [if_pos hk] at e'
   exact h.2 _ _ _ e e'
  ·cases e⟩
theorem VRs.get {cs : List PV} {us : List Value} (h : VRs ρ F w cs us) {i : Nat} {c : PV} (e : cs[i]? = some c) : ∃ u,us[i]? = some u ∧ VR ρ F w c u := by
 have hi : i < us.length := by rw [h.1]; exact (had.1 e).1
 exact ⟨us[i],haf hi,h.2 _ _ _ e (haf hi)⟩
theorem VRs.nil : VRs ρ F w [] [] := ⟨rfl,fun i c u e => by simp at e⟩
theorem VRs.cons {c : PV} {u : Value} {cs : List PV} {us : List Value} (h : VR ρ F w c u) (k : VRs ρ F w cs us) : VRs ρ F w (c :: cs) (u :: us) :=
 ⟨by simp [k.1],fun i x y e e' => by
  cases i with
  | zero => simp at e e'; subst e; subst e'; exact h
  | succ i => exact k.2 i x y (by simpa using e) (by simpa using e')⟩
theorem VRs.cons_inv {c : PV} {cs : List PV} {us : List Value} (h : VRs ρ F w (c :: cs) us) : ∃ u us',us = u :: us' ∧ VR ρ F w c u ∧ VRs ρ F w cs us' := by
 cases us with
 | nil => have := h.1; simp at this
 | cons u us' => exact ⟨u,us',rfl,h.2 0 c u rfl rfl,by have := h.1; simpa using this,fun i x y e e' => h.2 (i + 1) x y (by simpa using e) (by simpa using e')⟩
theorem VRs.nil_inv {us : List Value} (h : VRs ρ F w [] us) : us = [] := List.length_eq_zero_iff.1 h.1
theorem VRs.append {cs ds : List PV} {us vs : List Value} (h : VRs ρ F w cs us) (k : VRs ρ F w ds vs) : VRs ρ F w (cs ++ ds) (us ++ vs) :=
 ⟨by simp [h.1,k.1],fun i c u e e' => by
  rw [List.getElem?_append] at e e'
  rw [h.1] at e'
  split at e
  ·rename_i hi; rw [if_pos hi] at e'; exact h.2 _ _ _ e e'
  ·rename_i hi; rw [if_neg hi] at e'; exact k.2 _ _ _ e e'⟩
theorem VRs.one {c : PV} {u : Value} (h : VR ρ F w c u) : VRs ρ F w [c] [u] := .cons h .nil
theorem VR.cells {v : PV} {c : Value} (h : VR ρ F w v c) (hk : v.known = true) : VRs ρ F w v.cells c.cells.toList := by
 cases v with
 | undef => cases hk
 | agg cs => obtain ⟨us,rfl,hs⟩ := h.agg_inv; exact hs
 | tuple cs => obtain ⟨us,rfl,hs⟩ := h.tuple_inv; exact .one h
 | bool b => obtain rfl := h.bool_inv; exact .one h
 | int k n => obtain rfl := h.int_inv; exact .one h
 | float k n => obtain rfl := h.float_inv; exact .one h
 | str s => obtain rfl := h.str_inv; exact .one h
 | nilptr => obtain rfl := h.nilptr_inv; exact .one h
 | nilsl => obtain rfl := h.nilsl_inv; exact .one h
 | nilmap => obtain rfl := h.nilmap_inv; exact .one h
 | nilfunc => obtain rfl := h.nilfunc_inv; exact .one h
 | niliface =>
   cases h with
   | pure h => cases h; exact .one (.pure .niliface)
 | ref a b c => obtain ⟨r,_,rfl⟩ := h.ref_inv; exact .one h
 | pref cs => obtain ⟨b,o,rfl,_⟩ := h.pref_inv; exact .one h
 | psl f es => obtain ⟨sz,b,o,sp,k,rfl,_⟩ := h.psl_inv; exact .one h
 | lsl a b c d e => obtain ⟨r,b,o,k,_,_,rfl,_⟩ := h.lsl_inv; exact .one h
 | mref a => obtain ⟨r,_,rfl⟩ := h.mref_inv; exact .one h
 | func f cs => obtain ⟨us,rfl,_⟩ := h.func_inv; exact .one h
theorem VR.one {v : PV} {c : Value} (h : VR ρ F w v c) (hk : v.one = true) : c.oneCell' = true := by
 cases v with
 | undef => cases hk
 | agg cs => cases hk
 | tuple cs => cases hk
 | bool b => obtain rfl := h.bool_inv; rfl
 | int k n => obtain rfl := h.int_inv; rfl
 | float k n => obtain rfl := h.float_inv; rfl
 | str s => obtain rfl := h.str_inv; rfl
 | nilptr => obtain rfl := h.nilptr_inv; rfl
 | nilsl => obtain rfl := h.nilsl_inv; rfl
 | nilmap => obtain rfl := h.nilmap_inv; rfl
 | nilfunc => obtain rfl := h.nilfunc_inv; rfl
 | niliface =>
   cases h with
   | pure h => cases h; rfl
 | ref a b c => obtain ⟨r,_,rfl⟩ := h.ref_inv; rfl
 | pref cs => obtain ⟨b,o,rfl,_⟩ := h.pref_inv; rfl
 | psl f es => obtain ⟨sz,b,o,sp,k,rfl,_⟩ := h.psl_inv; rfl
 | lsl a b c d e => obtain ⟨r,b,o,k,_,_,rfl,_⟩ := h.lsl_inv; rfl
 | mref a => obtain ⟨r,_,rfl⟩ := h.mref_inv; rfl
 | func f cs => obtain ⟨us,rfl,_⟩ := h.func_inv; rfl
theorem zb7 {t : TypeId} {d : TypeDesc} (h : P.underlying t = some d) (w : World) : (isAgg t).run P w = .ok (zou d) w := by
 simp only [isAgg,Sem.run_bind,run_underlying h,Result.andThen_ok]
 cases d <;> rfl
theorem zar {t : TypeId} {cs : List PV} {off : Nat} {v : PV} (h : xl P t cs off = some v) {us : List Value} (hs : VRs ρ F w cs us) :
  ∃ c,(part t us.toArray off).run P w = .ok c w ∧ VR ρ F w v c := by
 unfold xl at h
 simp only [haa] at h
 obtain ⟨n,hn,d,hd,h⟩ := h
 split at h
 ·rename_i ha
  split at h
  ·cases h
   refine ⟨.agg ((us.drop off).take n).toArray,?_,.agg' ((hs.drop off).take n)⟩
   simp only [part,Sem.run_bind,zb7 hd,Result.andThen_ok,ha,if_true,xm hn,Sem.run_pure]
   congr 2
   apply Array.ext'
   simp [List.extract_eq_take_drop]
  ·cases h
 ·rename_i ha
  obtain ⟨u,hu,hv⟩ := hs.get h
  refine ⟨u,?_,hv⟩
  simp [part,Sem.run_bind,zb7 hd,Result.andThen_ok,hu,ha]
theorem za7 {t : TypeId} {cs : List PV} {off : Nat} {v : PV} (h : xl P t cs off = some v) {b o : Nat} (hs : CellsAt ρ F w b o cs) :
  ∃ c,(loadVar t ⟨b,o + off,none⟩).run P w = .ok c w ∧ VR ρ F w v c := by
 unfold xl at h
 simp only [haa] at h
 obtain ⟨n,hn,d,hd,h⟩ := h
 split at h
 ·rename_i ha
  split at h
  ·rename_i hle
   cases h
   obtain ⟨us,h1,h2⟩ := ((hs.drop off).take n).list
   have hl : us.length = n := by rw [h1.1]; simp; omega
   refine ⟨.agg us.toArray,?_,.agg' h1⟩
   have hr := run_loadCells_list (P := P) w ⟨b,o + off,none⟩ us (fun j v e => by rw [wm]; exact h2 j v e)
   rw [hl] at hr
   simp only [loadVar,Sem.run_bind,zb7 hd,Result.andThen_ok,ha,if_true,xm hn,hr,Sem.run_pure]
  ·cases h
 ·rename_i ha
  obtain ⟨u,hu,hv⟩ := hs off v h
  refine ⟨u,?_,hv⟩
  simp [loadVar,Sem.run_bind,zb7 hd,Result.andThen_ok,run_load,hu,ha]
theorem VP.cellsAt {cs : List PV} {b o : Nat} (h : ∀ i x,cs[i]? = some x → ∃ v,F b (o + i) ∧ w.cell? ⟨b,o + i,none⟩ = some v ∧ VP F w x v) : CellsAt ρ F w b o cs :=
 fun i x e => let ⟨v,_,h2,h3⟩ := h i x e; ⟨v,h2,.pure h3⟩
theorem OR.cells_inv {r : Rec} {ro : Nat} {es : List (List PV)} (h : OR ρ F w r (.cells ro es)) : ∃ (arr : Array Value) (ty : TypeId),w.heap[r.block]? = some (.cells arr ty (0,0)) ∧ arr.size = r.phys ∧ es.length = r.n ∧
  (∀ e ∈ es,e.length = r.sz) ∧ r.sh + r.n * r.sz ≤ r.phys ∧ ro ≤ r.n ∧ 0 < r.sz ∧ (∀ o,r.sh + ro * r.sz ≤ o → ¬ F r.block o) ∧
  ∀ i e,es[i]? = some e → ∀ j x,e[j]? = some x → ∃ v,arr[r.sh + i * r.sz + j]? = some v ∧ VR ρ F w x v := by
 cases h with
 | cells _ _ arr ty hb hp hn hs hf hro hz hF hc => exact ⟨arr,ty,hb,hp,hn,hs,hf,hro,hz,hF,hc⟩
theorem OR.elem {r : Rec} {ro : Nat} {es : List (List PV)} (h : OR ρ F w r (.cells ro es)) {i : Nat} {e : List PV} (he : es[i]? = some e) : CellsAt ρ F w r.block (r.sh + i * r.sz) e := fun j x hx => by
 obtain ⟨arr,ty,hb,_,_,_,_,_,_,_,hc⟩ := h.cells_inv
 obtain ⟨v,h1,h2⟩ := hc i e he j x hx
 exact ⟨v,by simp [World.cell?,hb,h1],h2⟩
theorem zim {σ : Store} {t : TypeId} {a v : PV} (h : zd P σ t a = some v) (hs : SR ρ F σ w) {c : Value} (ha : VR ρ F w a c) :
  ∃ u,(Instr.loadAt t c).run P w = .ok u w ∧ VR ρ F w v u := by
 unfold zd at h
 split at h
 ·obtain ⟨b,o,rfl,h1⟩ := ha.pref_inv
  obtain ⟨u,h2,h3⟩ := za7 h (VP.cellsAt h1)
  refine ⟨u,?_,h3⟩
  simpa [Instr.loadAt,Instr.sureAddr] using h2
 ·rename_i id idx off
  split at h
  ·rename_i ro es ho
   simp only [haa] at h
   obtain ⟨e,he,h⟩ := h
   obtain ⟨r,hr,rfl⟩ := ha.ref_inv
   obtain ⟨u,h2,h3⟩ := za7 h ((hs.obj id r _ hr ho).elem he)
   refine ⟨u,?_,h3⟩
   simpa [Instr.loadAt,Instr.sureAddr] using h2
  ·cases h
 ·cases h
theorem zft {s : TypeId} {x v : PV} {f : Nat} (h : zj P s x f = some v) {c : Value} (hx : VR ρ F w x c) :
  ∃ u,(Instr.fieldAt s c f).run P w = .ok u w ∧ VR ρ F w v u := by
 unfold zj at h
 split at h
 ·rename_i fs hu
  simp only [haa] at h
  obtain ⟨fd,hf,n,hn,h⟩ := h
  split at h
  ·cases h
  ·rename_i hn0
   have hp : ∀ b o,(Instr.fieldAt s (.pointer (some ⟨b,o,none⟩)) f).run P w = .ok (.pointer (some ⟨b,o + fd.offset,none⟩)) w := by
    intro b o
    simp [Instr.fieldAt,run_underlying hu,hf,Instr.sureAddr,fieldPlace,xm hn,hn0,wm]
   split at h
   ·rename_i id idx off
    cases h
    obtain ⟨r,hr,rfl⟩ := hx.ref_inv
    exact ⟨_,hp _ _,by have := VR.ref (ρ := ρ) (F := F) (w := w) id idx (off + fd.offset) r hr; rwa [← Nat.add_assoc] at this⟩
   ·rename_i cs
    cases h
    obtain ⟨b,o,rfl,h1⟩ := hx.pref_inv
    refine ⟨_,hp _ _,.pure ?_⟩
    have : ∀ i c,(cs.drop fd.offset)[i]? = some c → ∃ v,F b (o + fd.offset + i) ∧ w.cell? ⟨b,o + fd.offset + i,none⟩ = some v ∧ VP F w c v := fun i c e => by
     rw [hbp] at e
     rw [Nat.add_assoc]
     exact h1 _ _ e
    refine .pref _ _ _ (fun i => (w.cell? ⟨b,o + fd.offset + i,none⟩).getD undef) (fun i c e => ?_) (fun i c e => ?_)
    ·obtain ⟨v,h2,h3,_⟩ := this i c e
     exact ⟨h2,by rw [h3]; rfl⟩
    ·obtain ⟨v,h2,h3,h4⟩ := this i c e
     rw [h3]; exact h4
   ·cases h
 ·cases h
theorem VP.pref' {cs : List PV} {b o : Nat} (h : ∀ i x,cs[i]? = some x → ∃ v,F b (o + i) ∧ w.cell? ⟨b,o + i,none⟩ = some v ∧ VP F w x v) : VP F w (.pref cs) (.pointer (some ⟨b,o,none⟩)) := by
 refine .pref _ _ _ (fun i => (w.cell? ⟨b,o + i,none⟩).getD Go.undef) (fun i c e => ?_) (fun i c e => ?_)
 ·obtain ⟨v,h2,h3,_⟩ := h i c e
  exact ⟨h2,by rw [h3]; rfl⟩
 ·obtain ⟨v,h2,h3,h4⟩ := h i c e
  rw [h3]; exact h4
theorem zi9 {i : PV} {n : Int} (h : uq i = some n) {c : Value} (hi : VR ρ F w i c) : ∃ k,c = .int k n := by
 unfold uq at h
 split at h
 ·cases h; exact ⟨_,hi.int_inv⟩
 ·cases h
theorem zfs {t : TypeId} {x i v : PV} (h : zh P t x i = some v) {c ci : Value} (hx : VR ρ F w x c) (hi : VR ρ F w i ci) :
  ∃ u,(Instr.indexAt t c ci).run P w = .ok u w ∧ VR ρ F w v u := by
 unfold zh at h
 simp only [haa] at h
 obtain ⟨n,hn,h⟩ := h
 obtain ⟨k,rfl⟩ := zi9 hn hi
 split at h
 ·rename_i el hu
  simp only [haa] at h
  obtain ⟨sz,hsz,h⟩ := h
  split at h
  ·rename_i full es
   split at h
   ·rename_i h0
    simp only [haa] at h
    obtain ⟨e,he,h⟩ := h
    split at h
    ·rename_i hel
     cases h
     obtain ⟨sz',b,o,sp,cap,rfl,hs,hc,hf,hcell,hsp⟩ := hx.psl_inv
     obtain rfl := hsp (by have := (had.1 he).1; omega)
     have hz : sz' = sz := by rw [← hs e (haj he)]; exact hel
     subst hz
     have hlt : n.toNat < es.length := (had.1 he).1
     have hlt' : n < (es.length : Int) := by omega
     refine ⟨.pointer (some ⟨b,o + n.toNat * sz',none⟩),?_,.pure (.pref' fun j x hx => hcell _ _ he _ _ hx)⟩
     simp [Instr.indexAt,asIntOf,run_underlying hu,xm hsz,h0,hlt',wm]
    ·cases h
   ·cases h
  ·rename_i id sz' idx len cap
   split at h
   ·rename_i hh
    obtain ⟨h0,hlt,rfl⟩ := hh
    cases h
    obtain ⟨r,b,o,kk,hr,rfl,rfl,ha,hl,_,_,_⟩ := hx.lsl_inv
    obtain ⟨rfl,rfl⟩ := ha (by omega)
    refine ⟨.pointer (some ⟨r.block,r.sh + idx * r.sz + n.toNat * r.sz,none⟩),?_,?_⟩
    ·simp [Instr.indexAt,asIntOf,run_underlying hu,xm hsz,h0,hlt,wm]
    ·have := VR.ref (ρ := ρ) (F := F) (w := w) id (idx + n.toNat) 0 r hr
     rwa [Nat.add_zero,Nat.add_mul,← Nat.add_assoc] at this
   ·cases h
  ·cases h
 ·rename_i len el hu
  simp only [haa] at h
  obtain ⟨sz,hsz,h⟩ := h
  split at h
  ·rename_i hh
   obtain ⟨h0,hlt⟩ := hh
   split at h
   ·rename_i id idx off
    cases h
    obtain ⟨r,hr,rfl⟩ := hx.ref_inv
    refine ⟨.pointer (some ⟨r.block,r.sh + idx * r.sz + off + n.toNat * sz,none⟩),?_,?_⟩
    ·simp [Instr.indexAt,asIntOf,run_underlying hu,xm hsz,h0,hlt,wm,Instr.sureAddr]
    ·have := VR.ref (ρ := ρ) (F := F) (w := w) id idx (off + n.toNat * sz) r hr
     rwa [← Nat.add_assoc] at this
   ·rename_i cs
    cases h
    obtain ⟨b,o,rfl,h1⟩ := hx.pref_inv
    refine ⟨.pointer (some ⟨b,o + n.toNat * sz,none⟩),?_,.pure (.pref' fun j x hx => ?_)⟩
    ·simp [Instr.indexAt,asIntOf,run_underlying hu,xm hsz,h0,hlt,wm,Instr.sureAddr]
    ·rw [hbp] at hx
     rw [Nat.add_assoc]
     exact h1 _ _ hx
   ·cases h
  ·cases h
 ·cases h
theorem znj {s : TypeId} {x v : PV} {f : Nat} (h : zdm P s x f = some v) {c : Value} (hx : VR ρ F w x c) :
  ∃ u,(Instr.field s c f).run P w = .ok u w ∧ VR ρ F w v u := by
 unfold zdm at h
 split at h
 ·rename_i fs cs hu
  simp only [haa] at h
  obtain ⟨fd,hf,h⟩ := h
  obtain ⟨us,rfl,hs⟩ := hx.agg_inv
  obtain ⟨u,h1,h2⟩ := zar h hs
  refine ⟨u,?_,h2⟩
  simpa [Instr.field,run_underlying hu,hf,asAgg] using h1
 ·cases h
theorem zni {t : TypeId} {x i v : PV} (h : zck P t x i = some v) {c ci : Value} (hx : VR ρ F w x c) (hi : VR ρ F w i ci) :
  ∃ u,(Instr.index t c ci).run P w = .ok u w ∧ VR ρ F w v u := by
 unfold zck at h
 simp only [haa] at h
 obtain ⟨n,hn,h⟩ := h
 obtain ⟨k,rfl⟩ := zi9 hn hi
 split at h
 ·rename_i len el cs hu
  simp only [haa] at h
  obtain ⟨sz,hsz,h⟩ := h
  split at h
  ·rename_i hh
   obtain ⟨h0,hlt⟩ := hh
   obtain ⟨us,rfl,hs⟩ := hx.agg_inv
   obtain ⟨u,h1,h2⟩ := zar h hs
   refine ⟨u,?_,h2⟩
   simpa [Instr.index,asIntOf,run_underlying hu,xm hsz,h0,hlt] using h1
  ·cases h
 ·rename_i s hu
  split at h
  ·rename_i h0
   simp only [hac] at h
   obtain ⟨b,hb,rfl⟩ := h
   obtain rfl := hx.str_inv
   refine ⟨_,?_,.pure (.int _ _)⟩
   have : s[n.toNat]? = some b := by
    obtain ⟨hlt,he⟩ := hbg.1 hb
    have hlt' : n.toNat < s.size := hlt
    rw [getElem?_pos s n.toNat hlt',← he]
    rfl
   simp [Instr.index,asIntOf,run_underlying hu,h0,this]
  ·cases h
 ·cases h
end
end Go.Pvm
set_option linter.unusedSimpArgs false
set_option maxHeartbeats 1000000
namespace Go.Pvm
section
variable {P : Program} {ρ : Where} {F : xx} {w : World}
theorem zfb {t : TypeId} {fs : Array Field} (h : P.underlying t = some (.struct fs)) : P.fieldsOf t = fs := by simp [Program.fieldsOf,h]
theorem zpk : ∀ (d : Nat) (t : TypeId) (x y : PV) (b : Bool) (cx cy : Value),eqv P d t x y = some b → VR ρ F w x cx → VR ρ F w y cy → (Op.equalIn d t cx cy).run P w = .ok b w
 | 0,t,x,y,b,cx,cy,h,_,_ => by simp [eqv] at h
 | d + 1,t,x,y,b,cx,cy,h,hx,hy => by
   unfold eqv at h
   split at h
   ·rename_i hu; cases h; obtain rfl := hx.bool_inv; obtain rfl := hy.bool_inv; simp [Op.equalIn,run_underlying hu]
   ·rename_i hu
    split at h
    ·rename_i hk; cases h; subst hk; obtain rfl := hx.int_inv; obtain rfl := hy.int_inv; simp [Op.equalIn,run_underlying hu]
    ·cases h
   ·rename_i hu
    split at h
    ·rename_i hk; cases h; subst hk; obtain rfl := hx.float_inv; obtain rfl := hy.float_inv; simp [Op.equalIn,run_underlying hu]
    ·cases h
   ·rename_i hu; cases h; obtain rfl := hx.str_inv; obtain rfl := hy.str_inv; simp [Op.equalIn,run_underlying hu]
   ·rename_i hu; cases h; obtain rfl := hx.nilptr_inv; obtain rfl := hy.nilptr_inv; simp [Op.equalIn,run_underlying hu]
   ·rename_i hu; cases h; obtain rfl := hx.nilptr_inv; obtain ⟨r,_,rfl⟩ := hy.ref_inv; simp [Op.equalIn,run_underlying hu]
   ·rename_i hu; cases h; obtain rfl := hx.nilptr_inv; obtain ⟨b,o,rfl,_⟩ := hy.pref_inv; simp [Op.equalIn,run_underlying hu]
   ·rename_i hu; cases h; obtain rfl := hy.nilptr_inv; obtain ⟨r,_,rfl⟩ := hx.ref_inv; simp [Op.equalIn,run_underlying hu]
   ·rename_i hu; cases h; obtain rfl := hy.nilptr_inv; obtain ⟨b,o,rfl,_⟩ := hx.pref_inv; simp [Op.equalIn,run_underlying hu]
   ·rename_i hu; cases h; obtain rfl := hx.nilsl_inv; obtain rfl := hy.nilsl_inv; simp [Op.equalIn,run_underlying hu]
   ·rename_i hu; cases h; obtain rfl := hx.nilsl_inv; obtain ⟨_,_,_,_,_,rfl,_⟩ := hy.psl_inv; simp [Op.equalIn,run_underlying hu]
   ·rename_i hu; cases h; obtain rfl := hx.nilsl_inv; obtain ⟨_,_,_,_,_,_,rfl,_⟩ := hy.lsl_inv; simp [Op.equalIn,run_underlying hu]
   ·rename_i hu; cases h; obtain rfl := hy.nilsl_inv; obtain ⟨_,_,_,_,_,rfl,_⟩ := hx.psl_inv; simp [Op.equalIn,run_underlying hu]
   ·rename_i hu; cases h; obtain rfl := hy.nilsl_inv; obtain ⟨_,_,_,_,_,_,rfl,_⟩ := hx.lsl_inv; simp [Op.equalIn,run_underlying hu]
   ·rename_i hu; cases h; obtain rfl := hx.nilmap_inv; obtain rfl := hy.nilmap_inv; simp [Op.equalIn,run_underlying hu]
   ·rename_i hu; cases h; obtain rfl := hx.nilmap_inv; obtain ⟨r,_,rfl⟩ := hy.mref_inv; simp [Op.equalIn,run_underlying hu]
   ·rename_i hu; cases h; obtain rfl := hy.nilmap_inv; obtain ⟨r,_,rfl⟩ := hx.mref_inv; simp [Op.equalIn,run_underlying hu]
   ·rename_i hu; cases h; obtain rfl := hx.nilfunc_inv; obtain rfl := hy.nilfunc_inv; simp [Op.equalIn,run_underlying hu]
   ·rename_i hu; cases h; obtain rfl := hx.nilfunc_inv; obtain ⟨_,rfl,_⟩ := hy.func_inv; simp [Op.equalIn,run_underlying hu]
   ·rename_i hu; cases h; obtain rfl := hy.nilfunc_inv; obtain ⟨_,rfl,_⟩ := hx.func_inv; simp [Op.equalIn,run_underlying hu]
   ·rename_i fs xs ys hu
    split at h
    ·cases h
    ·rename_i hst
     obtain ⟨us,rfl,hus⟩ := hx.agg_inv
     obtain ⟨vs,rfl,hvs⟩ := hy.agg_inv
     have hf := zfb hu
     rw [run_equalIn_struct w d t _ _ (by rw [hf]; exact hu) (by simpa using hst),hf]
     clear hf hu
     revert h
     generalize fs.toList = l
     intro h
     induction l with
     | nil => simp only [zji] at h; cases h; simp [Op.eqFields]
     | cons f r ih =>
       simp only [zji] at h
       split at h
       ·rename_i hn
        simp only [Op.eqFields,ne_eq,hn,not_true,if_false]
        exact ih h
       ·rename_i hn
        simp only [haa] at h
        obtain ⟨a,ha,b',hb,e,he,h⟩ := h
        obtain ⟨ca,h1,h2⟩ := zar ha hus
        obtain ⟨cb,h3,h4⟩ := zar hb hvs
        have h5 := zpk d f.type a b' e ca cb he h2 h4
        simp only [Op.eqFields,ne_eq,hn,not_false_eq_true,if_true,Sem.run_bind,h1,h3,h5,Result.andThen_ok]
        cases e
        ·simp at h; subst h; simp
        ·simp only [if_true] at h; simpa using ih h
   ·cases h
theorem zpm {op : BinOp} {k : IntKind} {x y : Int} {v : PV} (h : zln op k x y = some v) (t : TypeId) : ∃ u,(binOp op t (.int k x) (.int k y)).run P w = .ok u w ∧ VR ρ F w v u := by
 unfold zln at h
 split at h
 all_goals first
  | (cases h; refine ⟨_,?_,.pure (.int _ _)⟩; simp [binOp,Op.intArith,Op.intBits,Op.intCmp]; done)
  | (cases h; refine ⟨_,?_,.pure (.bool _)⟩; simp [binOp,Op.intArith,Op.intBits,Op.intCmp]; done)
  | (split at h
     ·cases h
     ·rename_i hy; cases h; refine ⟨_,?_,.pure (.int _ _)⟩; simp [binOp,Op.intDiv,hy])
  | cases h
theorem zf8 {op : BinOp} {k k' : IntKind} {x y : Int} {v : PV} (h : zij op k x y = some v) (t : TypeId) : ∃ u,(binOp op t (.int k x) (.int k' y)).run P w = .ok u w ∧ VR ρ F w v u := by
 unfold zij at h
 split at h
 ·cases h
 ·rename_i hy
  split at h
  all_goals first
   | (cases h; refine ⟨_,?_,.pure (.int _ _)⟩; simp [binOp,Op.shift,hy]; done)
   | cases h
theorem zr2 {op : BinOp} {x y : ByteArray} {v : PV} (h : zv5 op x y = some v) (t : TypeId) : ∃ u,(binOp op t (.string x) (.string y)).run P w = .ok u w ∧ VR ρ F w v u := by
 unfold zv5 at h
 split at h
 ·split at h
  ·rename_i hle
   cases h
   refine ⟨_,?_,.pure (.str _)⟩
   have : ¬ (((x.size + y.size : Nat) : Int) > IntKind.i64.max) := by omega
   simp only [binOp,Op.stringOp,this,if_false,Sem.run_pure]
  ·cases h
 ·cases h; refine ⟨_,?_,.pure (.bool _)⟩; simp [binOp,Op.stringOp]
 ·cases h; refine ⟨_,?_,.pure (.bool _)⟩; simp [binOp,Op.stringOp]
 ·cases h
theorem zco {op : BinOp} {t : TypeId} {x y : Operand} {v : PV} {a b : Value} (h : zjc P t v ≠ true) (ha : VR ρ F w v a) (hk : v ≠ .undef) (hi : v ≠ .niliface) :
  (eqGuard op t x y a b).run P w = .ok () w := by
 have other : (∀ cs,a ≠ .agg cs) → a ≠ .nilIface → (eqGuard op t x y a b).run P w = .ok () w := by
  intro h1 h2
  cases a <;> first | (exact absurd rfl (h1 _)) | (exact absurd rfl h2) | (cases op <;> rfl)
 cases v with
 | undef => exact absurd rfl hk
 | niliface => exact absurd rfl hi
 | agg cs =>
   obtain ⟨us,rfl,_⟩ := ha.agg_inv
   have hg : P.eqGuardType P.depth t = false := by simpa [zjc] using h
   cases b <;> first | (exact run_eqGuard_agg w op t x y _ _ hg) | (cases op <;> rfl)
 | bool b => obtain rfl := ha.bool_inv; exact other (by simp) (by simp)
 | int k n => obtain rfl := ha.int_inv; exact other (by simp) (by simp)
 | float k n => obtain rfl := ha.float_inv; exact other (by simp) (by simp)
 | str s => obtain rfl := ha.str_inv; exact other (by simp) (by simp)
 | nilptr => obtain rfl := ha.nilptr_inv; exact other (by simp) (by simp)
 | nilsl => obtain rfl := ha.nilsl_inv; exact other (by simp) (by simp)
 | nilmap => obtain rfl := ha.nilmap_inv; exact other (by simp) (by simp)
 | nilfunc => obtain rfl := ha.nilfunc_inv; exact other (by simp) (by simp)
 | ref a b c => obtain ⟨r,_,rfl⟩ := ha.ref_inv; exact other (by simp) (by simp)
 | pref cs => obtain ⟨b,o,rfl,_⟩ := ha.pref_inv; exact other (by simp) (by simp)
 | psl f es => obtain ⟨sz,b,o,sp,k,rfl,_⟩ := ha.psl_inv; exact other (by simp) (by simp)
 | lsl a b c d e => obtain ⟨r,b,o,k,_,_,rfl,_⟩ := ha.lsl_inv; exact other (by simp) (by simp)
 | mref a => obtain ⟨r,_,rfl⟩ := ha.mref_inv; exact other (by simp) (by simp)
 | func f cs => obtain ⟨us,rfl,_⟩ := ha.func_inv; exact other (by simp) (by simp)
 | tuple cs => obtain ⟨us,rfl,_⟩ := ha.tuple_inv; exact other (by simp) (by simp)
theorem zjh {d : Nat} {t : TypeId} {x y : PV} {b : Bool} (h : eqv P d t x y = some b) : x ≠ .undef ∧ x ≠ .niliface ∧ y ≠ .undef := by
 cases d with
 | zero => simp [eqv] at h
 | succ d =>
   unfold eqv at h
   split at h <;> first | (cases h; done) | exact ⟨by simp,by simp,by simp⟩
theorem zfi {op : BinOp} (hop : op = .eql ∨ op = .neq) {t : TypeId} {x y : PV} {b : Bool} (h : eqv P 10000 t x y = some b) {cx cy : Value} (hx : VR ρ F w x cx) (hy : VR ρ F w y cy)
  (h1 : ∀ k a k' b,¬ (x = .int k a ∧ y = .int k' b)) (h2 : ∀ a b,¬ (x = .str a ∧ y = .str b)) (h3 : ∀ k a k' b,¬ (x = .float k a ∧ y = .float k' b)) :
  (binOp op t cx cy).run P w = .ok (.bool (if op = .eql then b else !b)) w := by
 have hr := zpk (ρ := ρ) (F := F) (w := w) 10000 t x y b cx cy h hx hy
 have he : ∀ (q : Bool),(Op.equal t cx cy).run P w = .ok b w := fun _ => hr
 have g : binOp op t cx cy = (match op with | .eql => (do pure (.bool (← Op.equal t cx cy))) | _ => (do pure (.bool (!(← Op.equal t cx cy))))) := by
  have h4 := h
  unfold eqv at h4
  split at h4
  all_goals first
   | (cases h4; done)
   | (exfalso; exact h1 _ _ _ _ ⟨rfl,rfl⟩)
   | (exfalso; exact h2 _ _ ⟨rfl,rfl⟩)
   | (exfalso; exact h3 _ _ _ _ ⟨rfl,rfl⟩)
   | (obtain rfl := hx.bool_inv; rcases hop with rfl | rfl <;> rfl)
   | (obtain rfl := hx.nilptr_inv; rcases hop with rfl | rfl <;> rfl)
   | (obtain rfl := hx.nilsl_inv; rcases hop with rfl | rfl <;> rfl)
   | (obtain rfl := hx.nilmap_inv; rcases hop with rfl | rfl <;> rfl)
   | (obtain rfl := hx.nilfunc_inv; rcases hop with rfl | rfl <;> rfl)
   | (obtain ⟨r,_,rfl⟩ := hx.ref_inv; rcases hop with rfl | rfl <;> rfl)
   | (obtain ⟨b,o,rfl,_⟩ := hx.pref_inv; rcases hop with rfl | rfl <;> rfl)
   | (obtain ⟨_,_,_,_,_,rfl,_⟩ := hx.psl_inv; rcases hop with rfl | rfl <;> rfl)
   | (obtain ⟨_,_,_,_,_,_,rfl,_⟩ := hx.lsl_inv; rcases hop with rfl | rfl <;> rfl)
   | (obtain ⟨r,_,rfl⟩ := hx.mref_inv; rcases hop with rfl | rfl <;> rfl)
   | (obtain ⟨_,rfl,_⟩ := hx.func_inv; rcases hop with rfl | rfl <;> rfl)
   | (obtain ⟨_,rfl,_⟩ := hx.agg_inv; rcases hop with rfl | rfl <;> rfl)
 rw [g]
 rcases hop with rfl | rfl <;> simp [Sem.run_bind,he true]
theorem zr4 {op : BinOp} {t : TypeId} {x y v : PV} (h : j9 P op t x y = some v) {cx cy : Value} (hx : VR ρ F w x cx) (hy : VR ρ F w y cy) (ox oy : Operand) :
  ∃ u,(do eqGuard op t ox oy cx cy; binOp op t cx cy : Sem Value).run P w = .ok u w ∧ VR ρ F w v u := by
 unfold j9 at h
 split at h
 ·rename_i k a k' b
  obtain rfl := hx.int_inv
  obtain rfl := hy.int_inv
  have : ∃ u,(binOp op t (.int k a) (.int k' b)).run P w = .ok u w ∧ VR ρ F w v u := by
   split at h
   ·exact zf8 h t
   ·exact zf8 h t
   ·split at h
    ·rename_i hk; subst hk; exact zpm h t
    ·cases h
  obtain ⟨u,h1,h2⟩ := this
  exact ⟨u,by simpa [Sem.run_bind,eqGuard_at_int] using h1,h2⟩
 ·obtain rfl := hx.str_inv
  obtain rfl := hy.str_inv
  obtain ⟨u,h1,h2⟩ := zr2 (P := P) (w := w) (ρ := ρ) (F := F) h t
  exact ⟨u,by simpa [Sem.run_bind,eqGuard_at_string] using h1,h2⟩
 ·obtain rfl := hx.float_inv
  obtain rfl := hy.float_inv
  split at h
  ·rename_i hk
   subst hk
   split at h
   ·cases h; refine ⟨_,?_,.pure (.bool _)⟩; simp [Sem.run_bind,eqGuard_at_float,binOp,Op.floatCmp,Op.floatEq]
   ·cases h; refine ⟨_,?_,.pure (.bool _)⟩; simp [Sem.run_bind,eqGuard_at_float,binOp,Op.floatCmp,Op.floatEq,bne]
   ·cases h; refine ⟨_,?_,.pure (.bool _)⟩; simp [Sem.run_bind,eqGuard_at_float,binOp,Op.floatCmp]
   ·cases h; refine ⟨_,?_,.pure (.bool _)⟩; simp [Sem.run_bind,eqGuard_at_float,binOp,Op.floatCmp]
   ·cases h; refine ⟨_,?_,.pure (.bool _)⟩; simp [Sem.run_bind,eqGuard_at_float,binOp,Op.floatCmp]
   ·cases h; refine ⟨_,?_,.pure (.bool _)⟩; simp [Sem.run_bind,eqGuard_at_float,binOp,Op.floatCmp]
   ·cases h
  ·cases h
 ·rename_i h1 h2 h3
  split at h
  ·cases h
  ·rename_i hg
   split at h
   ·simp only [hac] at h
    obtain ⟨b,hb,rfl⟩ := h
    have hk := zjh hb
    refine ⟨_,?_,.pure (.bool _)⟩
    rw [Sem.run_bind,zco hg hx hk.1 hk.2.1,Result.andThen_ok]
    exact zfi (.inl rfl) hb hx hy (fun k a k' b e => h1 k a k' b e.1 e.2) (fun a b e => h2 a b e.1 e.2) (fun k a k' b e => h3 k a k' b e.1 e.2)
   ·simp only [hac] at h
    obtain ⟨b,hb,rfl⟩ := h
    have hk := zjh hb
    refine ⟨_,?_,.pure (.bool _)⟩
    rw [Sem.run_bind,zco hg hx hk.1 hk.2.1,Result.andThen_ok]
    exact zfi (.inr rfl) hb hx hy (fun k a k' b e => h1 k a k' b e.1 e.2) (fun a b e => h2 a b e.1 e.2) (fun k a k' b e => h3 k a k' b e.1 e.2)
   ·cases h
theorem zuj {op : UnOp} {x v : PV} (h : unv op x = some v) {cx : Value} (hx : VR ρ F w x cx) : ∃ u,(Op.unary op cx).run P w = .ok u w ∧ VR ρ F w v u := by
 unfold unv at h
 split at h
 ·cases h; obtain rfl := hx.int_inv; refine ⟨_,?_,.pure (.int _ _)⟩; simp [Op.unary,Op.intArith]
 ·cases h; obtain rfl := hx.int_inv; refine ⟨_,?_,.pure (.int _ _)⟩; simp [Op.unary,Op.intBits]
 ·cases h; obtain rfl := hx.bool_inv; refine ⟨_,?_,.pure (.bool _)⟩; simp [Op.unary]
 ·cases h
end
end Go.Pvm
set_option linter.unusedSimpArgs false
namespace Go.Pvm
section
variable {P : Program} {ρ : Where} {F : xx} {w : World} {σ : Store}
theorem CellsAt.append {b o : Nat} {cs ds : List PV} (h : CellsAt ρ F w b o cs) (k : CellsAt ρ F w b (o + cs.length) ds) : CellsAt ρ F w b o (cs ++ ds) := fun i x e => by
 rw [List.getElem?_append] at e
 split at e
 ·exact h i x e
 ·rename_i hi
  obtain ⟨v,h1,h2⟩ := k _ x e
  refine ⟨v,?_,h2⟩
  rw [← h1]
  congr 2
  omega
theorem CellsAt.flatten {b sz : Nat} : ∀ (es : List (List PV)) (o : Nat),(∀ e ∈ es,e.length = sz) → (∀ (i : Nat) (e : List PV),es[i]? = some e → CellsAt ρ F w b (o + i * sz) e) → CellsAt ρ F w b o es.flatten
 | [],o,_,_ => fun i x e => by simp at e
 | e :: r,o,hs,hc => by
   rw [List.flatten_cons]
   have h0 := hc 0 e rfl
   simp only [Nat.zero_mul,Nat.add_zero] at h0
   refine h0.append ?_
   have he : e.length = sz := hs e (by simp)
   rw [he]
   exact CellsAt.flatten r (o + sz) (fun x hx => hs x (by simp [hx])) (fun i x hx => by
    have := hc (i + 1) x (by simpa using hx)
    rwa [show o + (i + 1) * sz = o + sz + i * sz by rw [Nat.add_mul]; omega] at this)
theorem uj {α : Type} {sz : Nat} : ∀ (es : List (List α)),(∀ e ∈ es,e.length = sz) → ∀ (i j : Nat) (e : List α) (x : α),es[i]? = some e → e[j]? = some x → es.flatten[i * sz + j]? = some x
 | [],_,i,j,e,x,h,_ => by simp at h
 | e0 :: r,hs,i,j,e,x,h,hx => by
   have h0 : e0.length = sz := hs e0 (by simp)
   rw [List.flatten_cons]
   cases i with
   | zero =>
     simp at h; subst h
     have : j < e0.length := (had.1 hx).1
     rw [Nat.zero_mul,hb4,hbh this]
     exact hx
   | succ i =>
     rw [List.getElem?_append_right (by rw [h0,Nat.add_mul]; omega),h0,show (i + 1) * sz + j - sz = i * sz + j by rw [Nat.add_mul]; omega]
     exact uj r (fun x hx => hs x (by simp [hx])) i j e x (by simpa using h) hx
theorem z8 {α : Type} {sz : Nat} : ∀ (es : List (List α)),(∀ e ∈ es,e.length = sz) → es.flatten.length = es.length * sz
 | [],_ => by simp
 | e :: r,hs => by
   rw [List.flatten_cons,hak,hs e (by simp),z8 r (fun x hx => hs x (by simp [hx])),List.length_cons,Nat.add_mul]
   omega
theorem zfl {sz : Nat} {es : List (List PV)} (h : all1 sz es = true) : (∀ e ∈ es,e.length = sz) ∧ ∀ e ∈ es,∀ x ∈ e,x.one = true := by
 simp only [all1,har,haq,beq_iff_eq] at h
 exact ⟨fun e he => (h e he).1,fun e he x hx => (h e he).2 x hx⟩
theorem zj1 {sz : Nat} {es : List (List PV)} (h : all1 sz es = true) (n : Nat) : (es.all fun e => e.length == sz) = true ∧ all1 sz (es.take n) = true := by
 simp only [all1,har,haq] at h ⊢
 exact ⟨fun e he => (h e he).1,fun e he => h e (hbr he)⟩
theorem zjj {x : PV} {es : List (List PV)} (h : xo σ x = some es) (hns : ∀ s,x ≠ .str s) (hs : SR ρ F σ w) {c : Value} (hx : VR ρ F w x c) {sz : Nat} (hz : ∀ e ∈ es,e.length = sz) :
  ∃ a k us,c = .slice a es.length k ∧ VRs ρ F w es.flatten us ∧ (0 < es.length → ∃ b o,a = some ⟨b,o,none⟩ ∧ ∀ (j : Nat) (v : Value),us[j]? = some v → w.cell? ⟨b,o + j,none⟩ = some v) := by
 unfold xo at h
 split at h
 ·cases h
  obtain rfl := hx.nilsl_inv
  exact ⟨none,0,[],rfl,.nil,fun h => by simp at h⟩
 ·cases h
  obtain ⟨sz',b,o,sp,k,rfl,hs',hc,hf,hcell,hsp⟩ := hx.psl_inv
  have hca : CellsAt ρ F w b o es.flatten := CellsAt.flatten (sz := sz') es o hs' fun i e he => VP.cellsAt fun j x hx => hcell i e he j x hx
  obtain ⟨us,h1,h2⟩ := hca.list
  exact ⟨_,k,us,rfl,h1,fun hpos => ⟨b,o,by rw [hsp (by omega)],h2⟩⟩
 ·rename_i id sz' idx len cap
  split at h
  ·rename_i ro es0 ho
   split at h
   ·rename_i hle
    cases h
    obtain ⟨r,b,o,k,hr,rfl,rfl,ha,hl,_,_,_⟩ := hx.lsl_inv
    have hO := hs.obj id r _ hr ho
    obtain ⟨arr,ty,hb,hp,hn,hsz,hfit,hro,hz0,hF,hc⟩ := hO.cells_inv
    have hlen : ((es0.drop idx).take len).length = len := by simp; omega
    rcases Nat.eq_zero_or_pos len with h0 | h0
    ·subst h0
     exact ⟨some ⟨b,o,none⟩,k,[],by simp,by simpa using VRs.nil,fun h => by simp at h⟩
    ·obtain ⟨rfl,rfl⟩ := ha (by omega)
     have hca : CellsAt ρ F w r.block (r.sh + idx * r.sz) ((es0.drop idx).take len).flatten := by
      refine CellsAt.flatten (sz := r.sz) _ _ (fun e he => hsz e (hbu (hbr he))) fun i e he => ?_
      rw [List.getElem?_take] at he
      split at he
      ·rw [hbp] at he
       have := hO.elem he
       rwa [Nat.add_mul,← Nat.add_assoc] at this
      ·cases he
     obtain ⟨us,h1,h2⟩ := hca.list
     refine ⟨some ⟨r.block,r.sh + idx * r.sz,none⟩,k,us,by rw [hlen],h1,fun _ => ⟨r.block,r.sh + idx * r.sz,rfl,h2⟩⟩
   ·cases h
  ·cases h
 ·exact absurd rfl (hns _)
 ·cases h
theorem SR.kill (h : SR ρ F σ w) (id : Nat) : SR ρ F (σ.kill id) w := by
 have sub : ∀ i o,(σ.kill id).objs i = some o → σ.objs i = some o := fun i o e => by
  simp only [Store.kill] at e
  split at e
  ·cases e
  ·exact e
 exact ⟨fun i r o hr ho => h.obj i r o hr (sub i o ho),fun i j r r' o o' a b c d => h.apart i j r r' o o' a (sub _ _ b) c (sub _ _ d),h.old,fun i hi => by
  simp only [Store.kill]
  split
  ·rfl
  ·exact h.new i hi⟩
theorem Go1.kill (id : Nat) : Go1 ρ F σ w ρ F (σ.kill id) w :=
 ⟨fun _ _ h => h,fun _ _ h h' => absurd (h.symm.trans h') (by simp),hah _,fun _ _ h => h,fun _ _ _ => rfl,hah _,fun _ _ _ => rfl,fun _ _ h => .inl h,fun b ⟨i,r,o,h1,h2,h3⟩ => .inr ⟨i,r,o,h1,by
  simp only [Store.kill] at h2
  split at h2
  ·cases h2
  ·exact h2,h3⟩,rfl,rfl,rfl⟩
def Where.put (ρ : Where) (id : Nat) (r : Rec) : Where := fun i => if i = id then some r else ρ i
theorem zgb (hs : SR ρ F σ w) {w1 : World} {arr : Array Value} {ty : TypeId} (hh : w1.heap = w.heap.push (.cells arr ty)) (h1 : w1.os = w.os) (h2 : w1.tape = w.tape) (h3 : w1.output = w.output)
  (hn : ρ σ.next = none) {sz : Nat} {es : List (List PV)} (ro : Nat) (hro : ro ≤ es.length) (hz : 0 < sz) (hes : ∀ e ∈ es,e.length = sz) (hfit : es.length * sz ≤ arr.size)
  (hc : ∀ (i : Nat) (e : List PV),es[i]? = some e → ∀ (j : Nat) (x : PV),e[j]? = some x → ∃ v,arr[i * sz + j]? = some v ∧ VR ρ F w x v) :
  Go1 ρ F σ w (ρ.put σ.next ⟨w.heap.size,0,sz,es.length,arr.size⟩) F (σ.push (.cells ro es)) w1 ∧
  SR (ρ.put σ.next ⟨w.heap.size,0,sz,es.length,arr.size⟩) F (σ.push (.cells ro es)) w1 := by
 generalize hr0 : (⟨w.heap.size,0,sz,es.length,arr.size⟩ : Rec) = r0
 have hold : ∀ b,b < w.heap.size → w1.heap[b]? = w.heap[b]? := fun b hb => by rw [hh,Array.getElem?_push]; simp [Nat.ne_of_lt hb]
 have hnew : w1.heap[w.heap.size]? = some (.cells arr ty (0,0)) := by rw [hh]; simp
 have hcell : ∀ b o,F b o → w1.cell? ⟨b,o,none⟩ = w.cell? ⟨b,o,none⟩ := fun b o hF => by simp [World.cell?,hold b (hs.old b o hF)]
 have hrec : ∀ id r,ρ id = some r → ρ.put σ.next r0 id = some r := fun id r hr => by
  unfold Where.put
  rw [if_neg (by rintro rfl; rw [hn] at hr; cases hr)]
  exact hr
 have hput : ∀ id r,ρ.put σ.next r0 id = some r → (id = σ.next ∧ r = r0) ∨ (id ≠ σ.next ∧ ρ id = some r) := fun id r e => by
  unfold Where.put at e
  split at e
  ·cases e; exact .inl ⟨by assumption,rfl⟩
  ·exact .inr ⟨by assumption,e⟩
 have hobj : ∀ id o,(σ.push (.cells ro es)).objs id = some o → (id = σ.next ∧ o = .cells ro es) ∨ (id ≠ σ.next ∧ σ.objs id = some o) := fun id o e => by
  simp only [Store.push] at e
  split at e
  ·cases e; exact .inl ⟨by assumption,rfl⟩
  ·exact .inr ⟨by assumption,e⟩
 have hblk : ∀ id r o,ρ id = some r → σ.objs id = some o → r.block < w.heap.size := fun id r o hr ho => by
  exact (hs.obj id r o hr ho).in_
 have hmono : ∀ {v : PV} {c : Value},VR ρ F w v c → VR (ρ.put σ.next r0) F w1 v c := fun h => h.mono hrec (fun _ _ e => e) hcell
 have hGo : Go1 ρ F σ w (ρ.put σ.next r0) F (σ.push (.cells ro es)) w1 := by
  refine ⟨hrec,fun id r e e0 => ?_,by simp [Store.push],fun _ _ e => e,hcell,by rw [hh]; simp,fun b hb _ => hold b hb,fun _ _ e => .inl e,fun b hl => ?_,h1,h2,h3⟩
  ·rcases hput id r e with ⟨rfl,_⟩ | ⟨_,e1⟩
   ·simp [Store.push]
   ·rw [e0] at e1; cases e1
  ·obtain ⟨id,r,o,e1,e2,rfl⟩ := hl
   rcases hput id r e1 with ⟨rfl,rfl⟩ | ⟨hne,e1⟩
   ·subst hr0; exact .inl (hah _)
   ·rcases hobj id o e2 with ⟨rfl,_⟩ | ⟨_,e2⟩
    ·exact absurd rfl hne
    ·exact .inr ⟨id,r,o,e1,e2,rfl⟩
 refine ⟨hGo,fun id r o e1 e2 => ?_,fun id id' r r' o o' e1 e2 e3 e4 hne => ?_,fun b o hF => hao (hs.old b o hF) hGo.size,fun id hid => ?_⟩
 ·rcases hput id r e1 with ⟨rfl,rfl⟩ | ⟨hne,e1⟩
  ·rcases hobj _ o e2 with ⟨_,rfl⟩ | ⟨hne,_⟩
   ·subst hr0
    refine .cells ro es arr ty hnew rfl rfl hes (by simpa using hfit) hro hz (fun o _ hF => ?_) fun i e he j x hx => ?_
    ·exact Nat.lt_irrefl _ (hs.old _ _ hF)
    ·obtain ⟨v,e3,e4⟩ := hc i e he j x hx
     exact ⟨v,by simpa using e3,hmono e4⟩
   ·exact absurd rfl hne
  ·rcases hobj id o e2 with ⟨rfl,_⟩ | ⟨_,e2⟩
   ·exact absurd rfl hne
   ·exact (hs.obj id r o e1 e2).alike (hold _ (hs.obj id r o e1 e2).in_) hmono fun _ e => e
 ·rcases hput id r e1 with ⟨rfl,rfl⟩ | ⟨hn1,_⟩
  ·rcases hput id' r' e3 with ⟨rfl,_⟩ | ⟨hn2,e3⟩
   ·exact absurd rfl hne
   ·rcases hobj id' o' e4 with ⟨rfl,_⟩ | ⟨_,e4⟩
    ·exact absurd rfl hn2
    ·have := hblk _ _ _ e3 e4
     subst hr0
     exact fun e => by simp only at e; omega
  ·rename_i e1
   rcases hobj id o e2 with ⟨rfl,_⟩ | ⟨_,e2⟩
   ·exact absurd rfl hn1
   ·have hlt := hblk _ _ _ e1 e2
    rcases hput id' r' e3 with ⟨rfl,rfl⟩ | ⟨hn2,e3⟩
    ·subst hr0
     exact fun e => by simp only at e; omega
    ·rcases hobj id' o' e4 with ⟨rfl,_⟩ | ⟨_,e4⟩
     ·exact absurd rfl hn2
     ·exact hs.apart id id' r r' o o' e1 e2 e3 e4 hne
 ·simp only [Store.push] at hid ⊢
  rw [if_neg (by omega)]
  exact hs.new id (by omega)
theorem zee (hs : SR ρ F σ w) {id : Nat} {r : Rec} {o : Obj} (hr : ρ id = some r) (ho : σ.objs id = some o) {arr arr' : Array Value} {ty : TypeId} (hb : w.heap[r.block]? = some (.cells arr ty (0,0)))
  (_hsz : arr'.size = arr.size) (hfro : ∀ k,F r.block k → arr'[k]? = arr[k]?)
  {id' : Nat} {r' : Rec} {o' : Obj} (hblk : r'.block = r.block) (hcase : (id' = id ∧ r' = r) ∨ (id' = σ.next ∧ ρ σ.next = none))
  {σ' : Store} (hσ : ∀ i x,σ'.objs i = some x → (i = id' ∧ x = o') ∨ (i ≠ id' ∧ i ≠ id ∧ σ.objs i = some x)) (hnx : σ.next ≤ σ'.next) (hid' : id' = σ.next → σ.next < σ'.next)
  (hnew : ∀ i,σ'.next ≤ i → σ'.objs i = none)
  (hor : ∀ {ρ' : Where} {w' : World},w'.heap[r.block]? = some (.cells arr' ty (0,0)) → (∀ {v : PV} {c : Value},VR ρ F w v c → VR ρ' F w' v c) → OR ρ' F w' r' o') :
  Go1 ρ F σ w (ρ.put id' r') F σ' (w.setRow r.block arr') ∧ SR (ρ.put id' r') F σ' (w.setRow r.block arr') := by
 have hnewb := setRow_heap w r.block arr arr' ty (0,0) hb
 have hoth : ∀ b,b ≠ r.block → (w.setRow r.block arr').heap[b]? = w.heap[b]? := fun b hne => setRow_other w r.block b arr' hne
 have hcell : ∀ b k,F b k → (w.setRow r.block arr').cell? ⟨b,k,none⟩ = w.cell? ⟨b,k,none⟩ := fun b k hF => by
  by_cases hbb : b = r.block
  ·subst hbb
   simp [World.cell?,hnewb,hb,hfro k hF]
  ·simp [World.cell?,hoth b hbb]
 have hrec : ∀ i q,ρ i = some q → ρ.put id' r' i = some q := fun i q e => by
  unfold Where.put
  split
  ·rename_i hi
   subst hi
   rcases hcase with ⟨rfl,rfl⟩ | ⟨rfl,hn⟩
   ·rw [← hr]; exact e
   ·rw [hn] at e; cases e
  ·exact e
 have hput : ∀ i q,ρ.put id' r' i = some q → (i = id' ∧ q = r') ∨ (i ≠ id' ∧ ρ i = some q) := fun i q e => by
  unfold Where.put at e
  split at e
  ·cases e; exact .inl ⟨by assumption,rfl⟩
  ·exact .inr ⟨by assumption,e⟩
 have hmono : ∀ {v : PV} {c : Value},VR ρ F w v c → VR (ρ.put id' r') F (w.setRow r.block arr') v c := fun h => h.mono hrec (fun _ _ e => e) hcell
 have hlive : Lv ρ σ r.block := ⟨id,r,o,hr,ho,rfl⟩
 have hGo : Go1 ρ F σ w (ρ.put id' r') F σ' (w.setRow r.block arr') := by
  refine ⟨hrec,fun i q e e0 => ?_,hnx,fun _ _ e => e,hcell,by simp,fun b _ hl => hoth b (fun e => hl (e ▸ hlive)),fun _ _ e => .inl e,fun b hl => ?_,rfl,rfl,rfl⟩
  ·rcases hput i q e with ⟨rfl,_⟩ | ⟨_,e1⟩
   ·rcases hcase with ⟨rfl,_⟩ | ⟨rfl,_⟩
    ·rw [hr] at e0; cases e0
    ·exact ⟨hah _,hid' rfl⟩
   ·rw [e0] at e1; cases e1
  ·obtain ⟨i,q,x,e1,e2,rfl⟩ := hl
   rcases hput i q e1 with ⟨rfl,rfl⟩ | ⟨hne,e1⟩
   ·rw [hblk]; exact .inr hlive
   ·rcases hσ i x e2 with ⟨rfl,_⟩ | ⟨_,_,e2⟩
    ·exact absurd rfl hne
    ·exact .inr ⟨i,q,x,e1,e2,rfl⟩
 refine ⟨hGo,fun i q x e1 e2 => ?_,fun i j q q' x x' e1 e2 e3 e4 hne => ?_,fun b k hF => by simpa using hs.old b k hF,hnew⟩
 ·rcases hput i q e1 with ⟨rfl,rfl⟩ | ⟨hne,e1⟩
  ·rcases hσ _ x e2 with ⟨_,rfl⟩ | ⟨hne,_⟩
   ·exact hor hnewb hmono
   ·exact absurd rfl hne
  ·rcases hσ i x e2 with ⟨rfl,_⟩ | ⟨_,hni,e2⟩
   ·exact absurd rfl hne
   ·have hnb : q.block ≠ r.block := hs.apart i id q r x o e1 e2 hr ho hni
    exact (hs.obj i q x e1 e2).alike (hoth _ hnb) hmono fun _ e => e
 ·rcases hput i q e1 with ⟨rfl,rfl⟩ | ⟨hn1,e1⟩
  ·rcases hput j q' e3 with ⟨rfl,_⟩ | ⟨hn2,e3⟩
   ·exact absurd rfl hne
   ·rcases hσ j x' e4 with ⟨rfl,_⟩ | ⟨_,hni,e4⟩
    ·exact absurd rfl hn2
    ·rw [hblk]; exact (hs.apart j id q' r x' o e3 e4 hr ho hni).symm
  ·rcases hσ i x e2 with ⟨rfl,_⟩ | ⟨_,hni,e2⟩
   ·exact absurd rfl hn1
   ·have hap := hs.apart i id q r x o e1 e2 hr ho hni
    rcases hput j q' e3 with ⟨rfl,rfl⟩ | ⟨hn2,e3⟩
    ·rw [hblk]; exact hap
    ·rcases hσ j x' e4 with ⟨rfl,_⟩ | ⟨_,_,e4⟩
     ·exact absurd rfl hn2
     ·exact hs.apart i j q q' x x' e1 e2 e3 e4 hne
theorem Where.put_self {id : Nat} {r : Rec} (h : ρ id = some r) : ρ.put id r = ρ := by
 funext i
 unfold Where.put
 split
 ·rename_i e; rw [e,h]
 ·rfl
end
end Go.Pvm
set_option linter.unusedSimpArgs false
set_option linter.unusedVariables false
namespace Go.Pvm
section
variable {P : Program} {ρ : Where} {F : xx} {w : World} {σ : Store}
def Res (P : Program) (ρ : Where) (F : xx) (σ : Store) (w : World) (σ' : Store) (v : PV) (s : Sem Value) : Prop :=
 ∃ u ρ' F' w',s.run P w = .ok u w' ∧ Go1 ρ F σ w ρ' F' σ' w' ∧ SR ρ' F' σ' w' ∧ VR ρ' F' w' v u
theorem Res.read {v : PV} {s : Sem Value} (hs : SR ρ F σ w) (h : ∃ u,s.run P w = .ok u w ∧ VR ρ F w v u) : Res P ρ F σ w σ v s :=
 let ⟨u,h1,h2⟩ := h; ⟨u,ρ,F,w,h1,.refl _ _ _ _,hs,h2⟩
theorem ji {t : TypeId} {z : PV} (h : jc P t = some z) : ∃ i v,P.info? t = some i ∧ i.zero = some v ∧ z = ofValue v := by
 unfold jc at h
 cases hi : P.info? t with
 | none => simp [hi] at h
 | some i =>
   cases hz : i.zero with
   | none => simp [hi,hz] at h
   | some v => simp [hi,hz] at h; exact ⟨i,v,rfl,hz,h.symm⟩
theorem qt {t : TypeId} {i : TypeInfo} {v : Value} (h : P.info? t = some i) (hz : i.zero = some v) (w : World) : (zeroValue t).run P w = .ok v w := by
 simp [zeroValue,typeInfo,h,hz]
theorem wn (v : Value) : VR ρ F w (ofValue v) v := .pure (zc1 F w v)
theorem zas (r : Rec) (id : Nat) : (ρ.put id r) id = some r := by simp [Where.put]
theorem zpt (r : Rec) {id j : Nat} (h : j ≠ id) : (ρ.put id r) j = ρ j := by simp [Where.put,h]
theorem zgi (hs : SR ρ F σ w) (hn : ρ σ.next = none) (el : TypeId) {v : PV} {c : Value} (hv : VR ρ F w v c) (hk : v.known = true) (hl : v.cells.length ≠ 0) :
  Res P ρ F σ w (σ.push (.cells 0 [v.cells])) (.ref σ.next 0 0) (do pure (.pointer (some (← newVar el c)))) := by
 have hc := hv.cells hk
 obtain ⟨g,s⟩ := zgb (w1 := w.alloc (.cells c.cells el)) hs rfl rfl rfl rfl hn (sz := v.cells.length) (es := [v.cells]) 0 (by simp) (by omega) (by simp)
  (by have := hc.1; simp at this; simp; omega) (fun i e he j x hx => by
   cases i with
   | zero =>
     simp at he; subst he
     obtain ⟨u,h1,h2⟩ := hc.get hx
     exact ⟨u,by simpa using h1,h2⟩
   | succ i => simp at he)
 refine ⟨_,_,_,_,by simp [newVar,newRow]; rfl,g,s,?_⟩
 have := VR.ref (ρ := ρ.put σ.next ⟨w.heap.size,0,v.cells.length,[v.cells].length,c.cells.size⟩) (F := F) (w := w.alloc (.cells c.cells el)) σ.next 0 0 _ (zas _ _)
 simpa using this
theorem zrl (hs : SR ρ F σ w) (hn : ρ σ.next = none) {el : TypeId} {z : PV} (hz : jc P el = some z) (hk : z.known = true) (hl : z.cells.length ≠ 0) :
  Res P ρ F σ w (σ.push (.cells 0 [z.cells])) (.ref σ.next 0 0) (Instr.alloc el true (.tuple #[])) := by
 obtain ⟨i,v,hi,hv,rfl⟩ := ji hz
 obtain ⟨u,ρ',F',w',h,r⟩ := zgi (P := P) hs hn el (wn v) hk hl
 exact ⟨u,ρ',F',w',by simpa [Instr.alloc,qt hi hv] using h,r⟩
theorem zvl (hs : SR ρ F σ w) (hn : ρ σ.next = none) {el : TypeId} {v : PV} {c : Value} (hv : VR ρ F w v c) (hk : v.known = true) (hl : v.cells.length ≠ 0) :
  Res P ρ F σ w (σ.push (.cells 0 [v.cells])) (.ref σ.next 0 0) (Instr.box el c) := zgi hs hn el hv hk hl
theorem zsf {cs new : List PV} {off i : Nat} (h : off + new.length ≤ cs.length) : (over cs off new)[i]? = if i < off then cs[i]? else if i < off + new.length then new[i - off]? else cs[i]? := by
 unfold over
 rw [List.getElem?_append,List.getElem?_append]
 simp only [hak,ha7,List.getElem?_take,hbp]
 rw [Nat.min_eq_left (by omega)]
 by_cases h1 : i < off
 ·simp [h1,show i < off + new.length by omega]
 ·by_cases h2 : i < off + new.length
  ·simp [h1,h2]
  ·simp [h1,h2]
   congr 1
   omega
theorem zes {cs new : List PV} {off : Nat} (h : off + new.length ≤ cs.length) : (over cs off new).length = cs.length := by
 unfold over; simp; omega
theorem zgw : ∀ (l : List Value) (k off : Nat) (arr : Array Value),off + k + l.length ≤ arr.size →
  (((l.zipIdx k).foldl (fun (cs : Array Value) (x : Value × Nat) => cs.setIfInBounds (off + x.2) x.1) arr).size = arr.size) ∧
  ∀ i,((l.zipIdx k).foldl (fun (cs : Array Value) (x : Value × Nat) => cs.setIfInBounds (off + x.2) x.1) arr)[i]? = if i < off + k then arr[i]? else if i < off + k + l.length then l[i - (off + k)]? else arr[i]?
 | [],k,off,arr,_ => by
   refine ⟨by simp,fun i => ?_⟩
   simp
   intros
   omega
 | a :: l,k,off,arr,h => by
   simp only [List.zipIdx_cons,List.foldl_cons,List.length_cons] at h ⊢
   obtain ⟨h1,h2⟩ := zgw l (k + 1) off (arr.setIfInBounds (off + k) a) (by simp; omega)
   refine ⟨by rw [h1]; simp,fun i => ?_⟩
   rw [h2 i]
   by_cases c1 : i < off + k
   ·rw [if_pos (by omega),if_pos c1]
    simp [show off + k ≠ i by omega]
   ·by_cases c2 : i = off + k
    ·subst c2
     have hin : off + k < arr.size := by omega
     rw [if_pos (by omega),if_neg (by omega),if_pos (by omega)]
     simp [hin]
    ·rw [if_neg (by omega),if_neg c1]
     by_cases c3 : i < off + k + (l.length + 1)
     ·rw [if_pos (by omega),if_pos c3,show i - (off + k) = (i - (off + (k + 1))) + 1 by omega,List.getElem?_cons_succ]
     ·rw [if_neg (by omega),if_neg c3]
      simp [show off + k ≠ i by omega]
theorem zc6 (c : Array Value) (off : Nat) (arr : Array Value) :
  (c.zipIdx.foldl (fun cs (x : Value × Nat) => cs.setIfInBounds (off + x.2) x.1) arr) = (c.toList.zipIdx 0).foldl (fun cs (x : Value × Nat) => cs.setIfInBounds (off + x.2) x.1) arr := by
 rw [← Array.foldl_toList,Array.toList_zipIdx]
def zic (ρ : Where) (F : xx) (w : World) : List (Nat × PV) → List (Nat × Value) → Prop
 | [],[] => True
 | (i,v) :: r,(j,c) :: s => i = j ∧ VR ρ F w v c ∧ zic ρ F w r s
 | _,_ => False
theorem zhx {place : Nat → Option (Nat × Nat)} : ∀ (parts : List (Nat × PV)) (vs : List (Nat × Value)) (cs cs' : List PV) (arr : Array Value),zic ρ F w parts vs → zhw place cs parts = some cs' →
  VRs ρ F w cs arr.toList → ∃ arr',Instr.fill place arr vs = some arr' ∧ VRs ρ F w cs' arr'.toList
 | [],[],cs,cs',arr,_,h,hr => by simp [zhw] at h; subst h; exact ⟨arr,rfl,hr⟩
 | [],_ :: _,_,_,_,h,_,_ => h.elim
 | _ :: _,[],_,_,_,h,_,_ => by
   simp [zic] at h
 | (i,v) :: parts,(j,c) :: vs,cs,cs',arr,hp,h,hr => by
   obtain ⟨rfl,hv,hp⟩ := hp
   simp only [zhw,haa] at h
   obtain ⟨⟨off,size⟩,hpl,h⟩ := h
   simp only at h
   split at h
   ·rename_i hh
    obtain ⟨h1,h2,h3⟩ := hh
    have hc := hv.cells h3
    have hcl : c.cells.size = size := by have := hc.1; simp at this; omega
    have hal : arr.size = cs.length := by have := hr.1; simpa using this
    obtain ⟨z1,z2⟩ := zgw c.cells.toList 0 off arr (by simp; omega)
    have hnew : VRs ρ F w (over cs off v.cells) ((c.cells.zipIdx.foldl (fun cs (x : Value × Nat) => cs.setIfInBounds (off + x.2) x.1) arr)).toList := by
     rw [zc6]
     refine ⟨by rw [zes (by omega)]; simpa [hal] using z1,fun k x u e e' => ?_⟩
     rw [zsf (by omega)] at e
     rw [hay,z2 k] at e'
     simp only [Nat.add_zero,Array.length_toList,hcl,h1] at e e'
     split at e
     ·rename_i q; rw [if_pos q] at e'; exact hr.2 k x u e (by simpa using e')
     ·rename_i q
      rw [if_neg q] at e'
      split at e
      ·rename_i q2; rw [if_pos q2] at e'; exact hc.2 _ x u e e'
      ·rename_i q2; rw [if_neg q2] at e'; exact hr.2 k x u e (by simpa using e')
    obtain ⟨arr',h4,h5⟩ := zhx parts vs _ cs' _ hp h hnew
    refine ⟨arr',?_,h5⟩
    have hg : ¬ (c.cells.size ≠ size ∨ off + c.cells.size > arr.size) := by omega
    simp only [Instr.fill,hpl,Bool.or_eq_true,hbw]
    rw [if_neg (by simpa using hg)]
    exact h4
   ·cases h
theorem zre {t : TypeId} {parts : List (Nat × PV)} {v : PV} (h : jz P t parts = some v) {vs : Array (Nat × Value)} (hp : zic ρ F w parts vs.toList) :
  ∃ u,(Instr.build t vs).run P w = .ok u w ∧ VR ρ F w v u := by
 unfold jz at h
 simp only [haa] at h
 obtain ⟨z,hz,h⟩ := h
 split at h
 ·cases h
 ·rename_i hk
  obtain ⟨i,zv,hi,hzv,rfl⟩ := ji hz
  have hz0 := (wn (ρ := ρ) (F := F) (w := w) zv).cells (by simpa using hk)
  split at h
  ·rename_i fs hu
   simp only [haa,hac] at h
   obtain ⟨pl,hpl,cs,hf,rfl⟩ := h
   obtain ⟨arr',h1,h2⟩ := zhx _ _ _ _ _ hp hf hz0
   refine ⟨.agg arr',run_build w t vs arr' ?_,by have := VR.agg' h2; simpa using this⟩
   simp only [Program.built,hi,hu,hzv,hpl]
   simpa using h1
  ·rename_i n el hu
   simp only [haa,hac] at h
   obtain ⟨sz,hsz,cs,hf,rfl⟩ := h
   obtain ⟨ie,hie,rfl⟩ := vh hsz
   obtain ⟨arr',h1,h2⟩ := zhx _ _ _ _ _ hp hf hz0
   refine ⟨.agg arr',run_build w t vs arr' ?_,by have := VR.agg' h2; simpa using this⟩
   simp only [Program.built,hi,hu,hzv,hie]
   exact h1
  ·cases h
def Flat (ρ : Where) (F : xx) (w : World) (sz : Nat) (es : List (List PV)) (arr : Array Value) : Prop :=
 (∀ e ∈ es,e.length = sz) ∧ es.length * sz ≤ arr.size ∧ ∀ (i : Nat) (e : List PV),es[i]? = some e → ∀ (j : Nat) (x : PV),e[j]? = some x → ∃ v,arr[i * sz + j]? = some v ∧ VR ρ F w x v
theorem Flat.replicate {sz n : Nat} {z : List PV} {zs : Array Value} (hz : VRs ρ F w z zs.toList) (hl : z.length = sz) (h0 : sz ≠ 0) :
  Flat ρ F w sz (List.replicate n z) ((Array.range (n * sz)).map (zs[· % zs.size]!)) := by
 have hzs : zs.size = sz := by have := hz.1; simp at this; omega
 refine ⟨fun e he => by rw [List.eq_of_mem_replicate he]; exact hl,by simp,fun i e he j x hx => ?_⟩
 have hi : i < n := by have := (had.1 he).1; simpa using this
 obtain rfl : z = e := by
  rw [List.getElem?_replicate,if_pos hi] at he
  simpa using he
 obtain ⟨u,h1,h2⟩ := hz.get hx
 have hj : j < sz := by rw [← hl]; exact (had.1 hx).1
 refine ⟨u,?_,h2⟩
 have hlt : i * sz + j < n * sz := by
  have : (i + 1) * sz ≤ n * sz := ha2 _ hi
  rw [Nat.add_mul] at this
  omega
 rw [Array.getElem?_map,Array.getElem?_range,if_pos hlt,Option.map_some,hzs,Nat.mul_add_mod_of_lt hj]
 have h3 : zs[j]? = some u := by simpa using h1
 congr 1
 obtain ⟨hj2,h4⟩ := hbg.1 h3
 simp [hj2,h4]
theorem zf7 {sz : Nat} : ∀ (parts : List (Nat × PV)) (vs : List (Nat × Value)) (es es' : List (List PV)) (arr : Array Value),zic ρ F w parts vs → uz es sz parts = some es' →
  Flat ρ F w sz es arr → ∃ arr',Instr.fill (fun i => some (i * sz,sz)) arr vs = some arr' ∧ Flat ρ F w sz es' arr' ∧ es'.length = es.length ∧ arr'.size = arr.size
 | [],[],es,es',arr,_,h,hr => by simp [uz] at h; subst h; exact ⟨arr,rfl,hr,rfl,rfl⟩
 | [],_ :: _,_,_,_,h,_,_ => h.elim
 | _ :: _,[],_,_,_,h,_,_ => by simp [zic] at h
 | (i,v) :: parts,(j,c) :: vs,es,es',arr,hp,h,hr => by
   obtain ⟨rfl,hv,hp⟩ := hp
   simp only [uz] at h
   split at h
   ·rename_i hh
    obtain ⟨h1,h2,h3⟩ := hh
    have hc := hv.cells h3
    have hcl : c.cells.size = sz := by have := hc.1; simp at this; omega
    have hin : i * sz + sz ≤ es.length * sz := by
     have : (i + 1) * sz ≤ es.length * sz := ha2 _ h2
     rw [Nat.add_mul] at this; omega
    have hfit : i * sz + sz ≤ arr.size := haz hin hr.2.1
    obtain ⟨z1,z2⟩ := zgw c.cells.toList 0 (i * sz) arr (by simp; omega)
    have hnew : Flat ρ F w sz (es.set i v.cells) ((c.cells.zipIdx.foldl (fun cs (x : Value × Nat) => cs.setIfInBounds (i * sz + x.2) x.1) arr)) := by
     rw [zc6]
     refine ⟨fun e he => ?_,by rw [List.length_set,z1]; exact hr.2.1,fun k e he m x hx => ?_⟩
     ·rcases List.mem_or_eq_of_mem_set he with he | rfl
      ·exact hr.1 e he
      ·exact h1
     ·have hml : m < sz := by
       have hm := (had.1 hx).1
       have : e.length = sz := by
        rcases List.mem_or_eq_of_mem_set (haj he) with he | rfl
        ·exact hr.1 e he
        ·exact h1
       omega
      rw [z2]
      simp only [Nat.add_zero,Array.length_toList,hcl]
      by_cases hk : k = i
      ·subst hk
       rw [ha3 (by omega)] at he
       cases he
       rw [if_neg (by omega),if_pos (by omega)]
       obtain ⟨u,e1,e2⟩ := hc.get hx
       exact ⟨u,by rw [← e1]; congr 1; omega,e2⟩
      ·rw [ha5 (Ne.symm hk)] at he
       obtain ⟨u,e1,e2⟩ := hr.2.2 k e he m x hx
       refine ⟨u,?_,e2⟩
       by_cases hlt : k < i
       ·have : (k + 1) * sz ≤ i * sz := ha2 _ hlt
        rw [Nat.add_mul] at this
        rw [if_pos (by omega)]; exact e1
       ·have : (i + 1) * sz ≤ k * sz := ha2 _ (by omega)
        rw [Nat.add_mul] at this
        rw [if_neg (by omega),if_neg (by omega)]; exact e1
    obtain ⟨arr',h4,h5,h6,h7⟩ := zf7 parts vs _ es' _ hp h hnew
    refine ⟨arr',?_,h5,by rw [h6,List.length_set],by rw [h7,zc6,z1]⟩
    have hg : ¬ (c.cells.size ≠ sz ∨ i * sz + c.cells.size > arr.size) := by omega
    simp only [Instr.fill,Bool.or_eq_true,hbw]
    rw [if_neg (by simpa using hg)]
    exact h4
   ·cases h
theorem wy (hs : SR ρ F σ w) (hn : ρ σ.next = none) {w1 : World} {arr : Array Value} {ty : TypeId} (hh : w1.heap = w.heap.push (.cells arr ty)) (h1 : w1.os = w.os) (h2 : w1.tape = w.tape) (h3 : w1.output = w.output)
  {sz : Nat} {es : List (List PV)} (ro : Nat) (hro : ro ≤ es.length) (hz : sz ≠ 0) (hf : Flat ρ F w sz es arr) (n c : Nat) (cap : Option Nat) (hne : n ≤ es.length) (hnc : n ≤ c) (hcap : ∀ k,cap = some k → c = k ∧ k ≤ es.length) (hcn : cap = none → es.length ≤ c) (hfit : c * sz ≤ arr.size) :
  ∃ ρ',Go1 ρ F σ w ρ' F (σ.push (.cells ro es)) w1 ∧ SR ρ' F (σ.push (.cells ro es)) w1 ∧ VR ρ' F w1 (.lsl σ.next sz 0 n cap) (.slice (some ⟨w.heap.size,0,none⟩) n c) := by
 obtain ⟨g,s⟩ := zgb hs hh h1 h2 h3 hn ro hro (by omega) hf.1 hf.2.1 hf.2.2
 refine ⟨_,g,s,?_⟩
 exact VR.lsl σ.next 0 n cap ⟨w.heap.size,0,sz,es.length,arr.size⟩ w.heap.size 0 c (zas _ _) (fun _ => ⟨rfl,by simp⟩) hnc (fun k hk => ⟨(hcap k hk).1,by simpa using (hcap k hk).2⟩)
  (fun hk => by simpa using hcn hk) (by simpa using hfit) (by simpa using hne)
theorem zl5 (f : Nat → Value) : (Array.range 0).map f = #[] := by apply Array.ext'; simp
theorem zlh (hs : SR ρ F σ w) {t : TypeId} {len : Nat} {parts : List (Nat × PV)} {v : PV} {σ' : Store} (h : xt P σ t len parts = some (v,σ')) (hn : ∀ id,σ.next ≤ id → id < σ'.next → ρ id = none)
  {vs : Array (Nat × Value)} (hp : zic ρ F w parts vs.toList) : Res P ρ F σ w σ' v (Instr.buildSlice t len vs) := by
 unfold xt at h
 split at h
 ·rename_i el hu
  simp only [haa] at h
  obtain ⟨sz,hsz,z,hz,h⟩ := h
  split at h
  ·rename_i hh
   obtain ⟨h0,hk,hl,hle⟩ := hh
   simp only [hac] at h
   obtain ⟨es,hes,heq⟩ := h
   cases heq
   obtain ⟨i,zv,hi,hzv,rfl⟩ := ji hz
   have hz0 := (wn (ρ := ρ) (F := F) (w := w) zv).cells hk
   have hzs : zv.cells.size = sz := by have := hz0.1; simp at this; omega
   obtain ⟨arr',f1,f2,f3,f4⟩ := zf7 _ _ _ _ _ hp hes (Flat.replicate (n := len) hz0 hl h0)
   have hel : es.length = len := by rw [f3]; simp
   obtain ⟨ρ',g,s,hv⟩ := wy (w1 := w.alloc (.cells arr' el)) hs (hn _ (hah _) (by simp [Store.push])) rfl rfl rfl rfl 0 (hbe _) h0 f2 len len (some len) (by omega) (hah _) (fun k hk => by cases hk; exact ⟨rfl,by omega⟩) (fun hk => by cases hk) (by rw [← hel]; exact f2.2.1)
   refine ⟨_,ρ',F,_,?_,g,s,hv⟩
   have hle' : ¬ (len * sz > 2 ^ 24) := by omega
   rcases Nat.eq_zero_or_pos (len * sz) with hq | hq
   ·have f1' := f1
    rw [hq,zl5] at f1'
    simp only [Instr.buildSlice,Sem.run_bind,run_underlying hu,xm hsz,Result.andThen_ok,hq]
    simp [newRow,zl5,f1']
   ·simp [Instr.buildSlice,run_underlying hu,xm hsz,hle',Nat.ne_of_gt hq,newRow,qt hi hzv,f1]
  ·cases h
 ·cases h
theorem znw (hs : SR ρ F σ w) {t : TypeId} {len cap v : PV} {σ' : Store} (h : qw P σ t len cap = some (v,σ')) (hn : ∀ id,σ.next ≤ id → id < σ'.next → ρ id = none)
  {cl cc : Value} (hl : VR ρ F w len cl) (hc : VR ρ F w cap cc) : Res P ρ F σ w σ' v (Instr.makeSlice t cl cc) := by
 unfold qw at h
 split at h
 ·rename_i el l c hu
  obtain rfl := hl.int_inv
  obtain rfl := hc.int_inv
  simp only [haa] at h
  obtain ⟨sz,hsz,by_,hby,z,hz,h⟩ := h
  split at h
  ·rename_i hh
   obtain ⟨h0,hk,hzl,hl0,hlc,hb,hc63⟩ := hh
   cases h
   obtain ⟨i,zv,hi,hzv,rfl⟩ := ji hz
   have hz0 := (wn (ρ := ρ) (F := F) (w := w) zv).cells hk
   have hf := Flat.replicate (n := c.toNat) hz0 hzl h0
   obtain ⟨ρ',g,s,hv⟩ := wy (w1 := w.alloc (.cells ((Array.range (c.toNat * sz)).map (zv.cells[· % zv.cells.size]!)) el)) hs (hn _ (hah _) (by simp [Store.push])) rfl rfl rfl rfl 0 (hbe _) h0 hf l.toNat c.toNat (some c.toNat) (by simp; omega) (by omega)
    (fun k hk => by cases hk; exact ⟨rfl,by simp⟩) (fun hk => by cases hk) (by simp)
   refine ⟨_,ρ',F,_,?_,g,s,hv⟩
   have hby' : i.bytes = by_ := by unfold zmy at hby; rw [hi] at hby; simpa using hby
   have hsz' : i.size = sz := by unfold qk at hsz; rw [hi] at hsz; simpa using hsz
   have w1 : IntKind.i64.wrap l = l := by simp only [IntKind.wrap,IntKind.signed,IntKind.bits]; simp; omega
   have w2 : IntKind.i64.wrap c = c := by simp only [IntKind.wrap,IntKind.signed,IntKind.bits]; simp; omega
   have t1 : ¬ (c < 0) := by omega
   have t2 : ¬ ((by_ : Int) * c > 2 ^ 48) := by omega
   have t3 : ¬ (l < 0) := by omega
   have t4 : ¬ (l > c) := by omega
   have t5 : (askRoom (c.toNat * by_)).run P w = .ok () w := by unfold askRoom; split <;> rfl
   have e1 : (zeroValue el).run P w = .ok zv w := qt hi hzv w
   simp only [Instr.makeSlice,Sem.run_bind,run_underlying hu,Result.andThen_ok,asInt,asIntOf,Sem.run_pure,typeInfo,run_program,hi,hby',w1,w2,t1,t2,t3,t4,decide_false,Bool.or_self,Bool.false_eq_true,if_false,t5,xm hsz]
   rcases Nat.eq_zero_or_pos (c.toNat * sz) with hq | hq
   ·simp [hq,newRow,zl5]
   ·simp [Nat.ne_of_gt hq,newRow,e1]
  ·cases h
 ·cases h
end
end Go.Pvm
set_option linter.unusedSimpArgs false
set_option linter.unusedVariables false
namespace Go.Pvm
section
variable {P : Program} {ρ : Where} {F : xx} {w : World} {σ : Store}
def laid (arr : Array Value) (o : Nat) (us : List Value) : Array Value := (arr.toList.take o ++ us ++ arr.toList.drop (o + us.length)).toArray
theorem zch {arr : Array Value} {o : Nat} {us : List Value} (h : o + us.length ≤ arr.size) : (laid arr o us).size = arr.size := by
 unfold laid; simp; omega
theorem zci {arr : Array Value} {o : Nat} {us : List Value} (h : o + us.length ≤ arr.size) (i : Nat) :
  (laid arr o us)[i]? = if i < o then arr[i]? else if i < o + us.length then us[i - o]? else arr[i]? := by
 unfold laid
 rw [List.getElem?_toArray,List.getElem?_append,List.getElem?_append]
 simp only [hak,ha7,List.getElem?_take,hbp,Array.length_toList]
 rw [Nat.min_eq_left (by omega)]
 by_cases h1 : i < o
 ·simp [h1,show i < o + us.length by omega]
 ·by_cases h2 : i < o + us.length
  ·simp [h1,h2]
  ·simp [h1,h2]
   congr 1
   omega
def kr (es : List (List PV)) (idx : Nat) (new : List (List PV)) : List (List PV) := es.take idx ++ new ++ es.drop (idx + new.length)
theorem zg2 {es new : List (List PV)} {idx : Nat} (h : idx + new.length ≤ es.length) : (kr es idx new).length = es.length := by
 unfold kr; simp; omega
theorem zf6 {es new : List (List PV)} {idx : Nat} (h : idx + new.length ≤ es.length) (i : Nat) : (kr es idx new)[i]? = if i < idx then es[i]? else if i < idx + new.length then new[i - idx]? else es[i]? := by
 unfold kr
 rw [List.getElem?_append,List.getElem?_append]
 simp only [hak,ha7,List.getElem?_take,hbp]
 rw [Nat.min_eq_left (by omega)]
 by_cases h1 : i < idx
 ·simp [h1,show i < idx + new.length by omega]
 ·by_cases h2 : i < idx + new.length
  ·simp [h1,h2]
  ·simp [h1,h2]
   congr 1
   omega
theorem wz {i n sz j : Nat} (hi : i < n) (hj : j < sz) : i * sz + j < n * sz := by
 have : (i + 1) * sz ≤ n * sz := ha2 _ hi
 rw [Nat.add_mul] at this
 omega
theorem vz (hs : SR ρ F σ w) {id : Nat} {r : Rec} {ro : Nat} {es : List (List PV)} (hr : ρ id = some r) (ho : σ.objs id = some (.cells ro es)) {idx : Nat} {new : List (List PV)} {us : List Value}
  (hnew : ∀ e ∈ new,e.length = r.sz) (hus : VRs ρ F w new.flatten us) (hle : idx + new.length ≤ es.length) (hro : ro ≤ idx) {arr : Array Value} {ty : TypeId} (hb : w.heap[r.block]? = some (.cells arr ty (0,0))) :
  r.sh + idx * r.sz + us.length ≤ arr.size ∧ Go1 ρ F σ w ρ F (σ.put id (.cells ro (kr es idx new))) (w.setRow r.block (laid arr (r.sh + idx * r.sz) us)) ∧
  SR ρ F (σ.put id (.cells ro (kr es idx new))) (w.setRow r.block (laid arr (r.sh + idx * r.sz) us)) := by
 obtain ⟨arr',ty',hb',hp,hn,hsz,hfit,hrn,hz0,hF,hc⟩ := (hs.obj id r _ hr ho).cells_inv
 rw [hb] at hb'
 cases hb'
 have hul : us.length = new.length * r.sz := by rw [hus.1,z8 new hnew]
 have hend : r.sh + idx * r.sz + us.length ≤ arr.size := by
  have : (idx + new.length) * r.sz ≤ r.n * r.sz := ha2 _ (by omega)
  rw [Nat.add_mul] at this
  rw [hul,hp]
  omega
 have hlg := zci hend
 refine ⟨hend,?_⟩
 have := zee (id' := id) (r' := r) (o' := .cells ro (kr es idx new)) (σ' := σ.put id (.cells ro (kr es idx new))) (arr' := laid arr (r.sh + idx * r.sz) us) hs hr ho hb (zch hend) (fun k hk => ?_) rfl (.inl ⟨rfl,rfl⟩)
  (fun i x e => ?_) (hah _) (fun e => ?_) (fun i hi => ?_) (fun {ρ' w'} hnb hm => ?_)
 ·rwa [Where.put_self hr] at this
 ·rw [hlg,if_pos]
  rcases ha4 k (r.sh + idx * r.sz) with h | h
  ·exact h
  ·have : ro * r.sz ≤ idx * r.sz := ha2 _ hro
   exact absurd hk (hF k (by omega))
 ·simp only [Store.put] at e
  split at e
  ·rename_i hi; cases e; exact .inl ⟨hi,rfl⟩
  ·rename_i hi; exact .inr ⟨hi,hi,e⟩
 ·have := hs.new id (by omega)
  rw [ho] at this
  cases this
 ·simp only [Store.put] at hi ⊢
  split
  ·rename_i hid
   subst hid
   have := hs.new i hi
   rw [ho] at this
   cases this
  ·exact hs.new i hi
 ·refine .cells ro _ _ ty hnb (by rw [zch hend,hp]) (by rw [zg2 hle,hn]) (fun e he => ?_) hfit hrn hz0 hF fun i e he j x hx => ?_
  ·unfold kr at he
   simp only [hbn] at he
   rcases he with (he | he) | he
   ·exact hsz e (hbr he)
   ·exact hnew e he
   ·exact hsz e (hbu he)
  ·rw [zf6 hle] at he
   rw [hlg]
   have hj : j < r.sz := by
    have h1 := (had.1 hx).1
    have : e.length = r.sz := by
     split at he
     ·exact hsz e (haj he)
     ·split at he
      ·exact hnew e (haj he)
      ·exact hsz e (haj he)
    omega
   split at he
   ·rename_i hi
    have := wz hi hj
    rw [if_pos (by omega)]
    obtain ⟨v,h1,h2⟩ := hc i e he j x hx
    exact ⟨v,h1,hm h2⟩
   ·rename_i hi
    have h3 : idx * r.sz ≤ i * r.sz := ha2 _ (by omega)
    split at he
    ·rename_i hi2
     have h4 : (i - idx) * r.sz = i * r.sz - idx * r.sz := Nat.sub_mul _ _ _
     have h5 : (i - idx) * r.sz + j < new.length * r.sz := wz (by omega) hj
     rw [if_neg (by omega),if_pos (by rw [hul]; omega)]
     obtain ⟨u,h1,h2⟩ := hus.get (uj new hnew _ _ _ _ he hx)
     exact ⟨u,by rw [← h1]; congr 1; omega,hm h2⟩
    ·rename_i hi2
     have h4 : (idx + new.length) * r.sz ≤ i * r.sz := ha2 _ (by omega)
     rw [Nat.add_mul] at h4
     rw [if_neg (by omega),if_neg (by rw [hul]; omega)]
     obtain ⟨v,h1,h2⟩ := hc i e he j x hx
     exact ⟨v,h1,hm h2⟩
theorem zlq {cs : List PV} {us : List Value} (h : VRs ρ F w cs us) (h1 : ∀ x ∈ cs,x.one = true) : ∀ u ∈ us,u.oneCell' = true := by
 intro u hu
 obtain ⟨i,hi⟩ := hau.1 hu
 have hlt : i < cs.length := by rw [← h.1]; exact (had.1 hi).1
 exact (h.2 i _ u (haf hlt) hi).one (h1 _ (List.getElem_mem _))
theorem zi5 : ∀ v : PV,(v.cells.all PV.one) = true → v.known = true
 | .undef => by simp [PV.cells,PV.one]
 | .bool _ | .int _ _ | .float _ _ | .str _ | .nilptr | .ref .. | .pref _ | .nilsl | .psl .. | .lsl .. | .nilmap | .mref _ | .nilfunc | .func .. | .niliface | .agg _ | .tuple _ => fun _ => rfl
theorem zo8 (hs : SR ρ F σ w) {t : TypeId} {a v : PV} {σ' : Store} (h : zu P σ t a v = some σ') {ca cv : Value} (ha : VR ρ F w a ca) (hv : VR ρ F w v cv) :
  ∃ w',(Instr.storeAt t ca cv).run P w = .ok () w' ∧ Go1 ρ F σ w ρ F σ' w' ∧ SR ρ F σ' w' ∧ σ'.next = σ.next := by
 unfold zu at h
 split at h
 ·rename_i id idx off
  split at h
  ·rename_i ro es ho
   simp only [haa] at h
   obtain ⟨e,he,n,hn,h⟩ := h
   split at h
   ·rename_i hh
    obtain ⟨h1,h2,h3,h4⟩ := hh
    cases h
    obtain ⟨r,hr,rfl⟩ := ha.ref_inv
    have hO := hs.obj id r _ hr ho
    obtain ⟨arr,ty,hb,hp,hnn,hsz,hfit,hrn,hz0,hF,hc⟩ := hO.cells_inv
    have hcv := hv.cells (zi5 v h3)
    have hcl : cv.cells.size = n := by have := hcv.1; simp at this; omega
    have hel : e.length = r.sz := hsz e (haj he)
    have hlt : idx < es.length := (had.1 he).1
    obtain ⟨us0,q1,q2⟩ := (hO.elem he).list
    have hus : VRs ρ F w [over e off v.cells].flatten (us0.take off ++ cv.cells.toList ++ us0.drop (off + cv.cells.toList.length)) := by
     simp only [List.flatten_cons,List.flatten_nil,hbj,over]
     have e1 : v.cells.length = cv.cells.toList.length := hcv.1.symm
     rw [e1]
     exact ((q1.take off).append hcv).append (q1.drop _)
    have e2 : kr es idx [over e off v.cells] = es.set idx (over e off v.cells) := by
     apply List.ext_getElem?
     intro i
     rw [zf6 (by simp; omega)]
     simp only [ha9]
     by_cases hi : i = idx
     ·subst hi; simp [hlt]
     ·rw [ha5 (Ne.symm hi)]
      by_cases hl : i < idx
      ·rw [if_pos hl]
      ·rw [if_neg hl,if_neg (by omega)]
    obtain ⟨hend,g,s⟩ := vz hs hr ho (idx := idx) (new := [over e off v.cells]) (by intro x hx; simp at hx; subst hx; rw [zes (by omega)]; exact hel) hus (by simp; omega) h4 hb
    rw [e2] at g s
    refine ⟨_,?_,g,s,rfl⟩
    have hul : us0.length = r.sz := by rw [q1.1,hel]
    have h1c : ∀ u ∈ cv.cells.toList,u.oneCell' = true := zlq hcv (by simpa using h3)
    have hst := run_storeCells_at P r.block (r.sh + idx * r.sz + off) ty cv.cells.toList 0 arr w hb (by
     have : (idx + 1) * r.sz ≤ r.n * r.sz := ha2 _ (by omega)
     rw [Nat.add_mul] at this
     simp; omega) h1c
    simp only [Nat.add_zero] at hst
    simp only [Instr.storeAt,Instr.sureAddr,Sem.run_bind,Sem.run_pure,Result.andThen_ok,storeVar,xm hn,hcl,ne_eq,not_true,if_false,hst]
    congr 2
    apply Array.ext'
    apply List.ext_getElem?
    intro i
    rw [hay,hay,zci hend]
    have hfin : r.sh + idx * r.sz + off + cv.cells.toList.length ≤ arr.size := by
     have : (idx + 1) * r.sz ≤ r.n * r.sz := ha2 _ (by omega)
     rw [Nat.add_mul] at this
     simp; omega
    rw [show (arr.toList.take (r.sh + idx * r.sz + off) ++ cv.cells.toList ++ arr.toList.drop (r.sh + idx * r.sz + off + cv.cells.toList.length)).toArray = laid arr (r.sh + idx * r.sz + off) cv.cells.toList from rfl,zci hfin]
    have hcl' : cv.cells.toList.length = n := by simpa using hcl
    have htot : (us0.take off ++ cv.cells.toList ++ us0.drop (off + cv.cells.toList.length)).length = r.sz := by simp [hul,hcl]; omega
    rw [htot,hcl']
    have hold : ∀ j,j < r.sz → us0[j]? = arr[r.sh + idx * r.sz + j]? := by
     intro j hj
     have hj' : j < us0.length := by omega
     have := q2 j _ (haf hj')
     simp only [World.cell?,hb,Option.isSome_none,Bool.false_eq_true,if_false] at this
     rw [haf hj',this]
    by_cases c1 : i < r.sh + idx * r.sz
    ·rw [if_pos (by omega),if_pos c1]
    ·rw [if_neg c1]
     by_cases c2 : i < r.sh + idx * r.sz + r.sz
     ·rw [if_pos c2,List.getElem?_append,List.getElem?_append]
      simp only [hak,ha7,hul,hcl',Nat.min_eq_left (show off ≤ r.sz by omega)]
      by_cases c3 : i < r.sh + idx * r.sz + off
      ·rw [if_pos c3,if_pos (by omega),if_pos (by omega),List.getElem?_take,if_pos (by omega),hold _ (by omega)]
       congr 1; omega
      ·rw [if_neg c3]
       by_cases c4 : i < r.sh + idx * r.sz + off + n
       ·rw [if_pos c4,if_pos (by omega),if_neg (by omega)]
        congr 1; omega
       ·rw [if_neg c4,if_neg (by omega),hbp,hold _ (by omega)]
        congr 1; omega
     ·rw [if_neg c2,if_neg (by omega),if_neg (by omega)]
   ·cases h
  ·cases h
 ·cases h
end
end Go.Pvm
