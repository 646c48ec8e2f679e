/- Part of the proof: the device: made, read, armed; behind a crash; what is pending. -/
import Derived.Test.YtceokplopachgaaDevG
set_option linter.unusedSimpArgs false
set_option linter.unusedVariables false
set_option maxRecDepth 100000
namespace Go.Pvm.S
open Go.Pvm Go.Proofs
def Tn.units (t : Tn) : Int := if t.trim = true then 1 else (t.b.length : Nat)
def z2r : Dk → List Tn → Int → Dk
 | x,[],_ => x
 | x,t :: r,u => if t.units > u then (if u > 0 then x.turn ⟨t.b.take u.toNat,false,0⟩ else x) else z2r (x.turn t) r (u - t.units)
def z2q (pat : List Bool) : Dk → List (Int × By) → Nat → Dk
 | x,[],_ => x
 | x,w :: r,i => z2q pat (if 0 < pat.length ∧ pat.getD (i % pat.length) false = true then x.put w else x) r (i + 1)
def Dv.crash (d : Dv) (pat : List Bool) (u : Int) : Dv :=
 let k := z2r (z2q pat d.kept d.ws 0) d.ts u
 { seen := k,kept := k,ws := [],ts := [],armed := -1,gone := false }
def Dk.new (P : Nat) : Dk := ⟨List.replicate (512 * P) 0,0,[]⟩
def Dv.new (P : Nat) : Dv := ⟨Dk.new P,Dk.new P,[],[],-1,false⟩
theorem z2s {P : Nat} (pat : List Bool) : ∀ (ws : List (Int × By)) (x : Dk) (i : Nat),zys P ws → x.pg.length = 512 * P → (z2q pat x ws i).pg.length = 512 * P ∧ (z2q pat x ws i).st = x.st ∧ (z2q pat x ws i).base = x.base
 | [],_,_,_,h => ⟨h,rfl,rfl⟩
 | w :: ws,x,i,hw,h => by
   obtain ⟨h1,h2,h3⟩ := hw w (.head _)
   unfold z2q
   split
   ·refine z2s pat ws (x.put w) (i + 1) (fun y hy => hw y (.tail _ hy)) ?_
    show (putP x.pg w).length = _
    rw [zg8 (by omega) h3,h]
   ·exact z2s pat ws x (i + 1) (fun y hy => hw y (.tail _ hy)) h
theorem z3b : ∀ (ts : List Tn) (x : Dk) (u : Int),(z2r x ts u).pg = x.pg
 | [],_,_ => rfl
 | t :: ts,x,u => by
   unfold z2r
   split
   ·split
    ·exact zt3 _ _
    ·rfl
   ·exact (z3b ts _ _).trans (zt3 _ _)
abbrev RBo : ElR Bool := Fn fun b => [.bool b]
theorem z4r : ROk 1 RBo := ROk.fn fun a => ⟨rfl,by simp [PV.plain]⟩
theorem TBo : SlT Try.prog 34 4 1 1 := ⟨by kernel_rfl,by kernel_rfl,by kernel_rfl,⟨.bool false,by kernel_rfl,rfl,rfl⟩,by decide,by decide⟩
section
variable {g g' : Nat → Nat} {σ τ : Store} {id : Nat} {d : Dv} {x : Vals} {u v : PV} {b : By}
theorem QS.out {α : Type} {R : ElR α} {sz : Nat} {l : List α} (h : QS R σ sz v l) (k : Out g σ g' τ) (h7 : ∀ i ∈ tops v,7 ≤ g i) : QS R τ sz v l := by
 obtain ⟨es,h1,h2⟩ := h
 refine ⟨es,?_,h2⟩
 rcases h1 with h | ⟨i,idx,cap,ro,full,rfl,o2,o3,o4,o5⟩
 ·exact .inl h
 ·rcases k.2.2 i o5 (h7 i (.head _)) with e | ⟨_,ro',es',e1,e2⟩
  ·exact .inr ⟨i,idx,cap,ro,full,rfl,e.trans o2,o3,o4,Nat.lt_of_lt_of_le o5 k.1⟩
  ·rw [o2] at e1; cases e1; exact .inr ⟨i,idx,cap,_,full,rfl,e2,o3,o4,Nat.lt_of_lt_of_le o5 k.1⟩
theorem Out.seven {α : Type} {R : ElR α} {sz : Nat} {l : List α} (k : Out g σ g' τ) (h : QS R σ sz v l) (h7 : ∀ i ∈ tops v,7 ≤ g i) : ∀ i ∈ tops v,7 ≤ g' i := fun i hi => by rw [k.2.1 i (h.lt i hi)]; exact h7 i hi
theorem zwa (h : DevS g σ id d) {P : Nat} (hP : P ≤ 1000000) (hl : d.seen.pg.length = 512 * P) {page : Nat} (hp : page < P) :
  ∃ g' τ u,ze cfg 35 [.ref id 0 0,.int .i64 (page : Nat)] σ = some (.tuple [u,.int .i64 0],τ) ∧ QS RB τ 1 u ((d.seen.pg.drop (page * 512)).take 512) ∧ (∀ i ∈ tops u,7 ≤ g' i) ∧ DevS g' τ id d ∧ Out g σ g' τ := by
 have ev := zzx (ze cfg) (y2 cfg) σ id 0 0 (page : Nat)
 obtain ⟨vp,l1,l2⟩ := h.ldPg
 have d1 : decide (((page : Nat) : Int) < 0) = false := decide_eq_false (by omega)
 have d2 : decide (((page : Nat) : Int) ≥ ((P : Nat) : Int)) = false := decide_eq_false (by omega)
 have w1 : IntKind.wrap .i64 (((page : Nat) : Int) * 512) = ((page * 512 : Nat) : Int) := by rw [q9 (by omega) (by omega)]; omega
 have w2 : IntKind.wrap .i64 (IntKind.wrap .i64 (((page : Nat) : Int) + 1) * 512) = (((page + 1) * 512 : Nat) : Int) := by rw [q9 (x := ((page : Nat) : Int) + 1) (by omega) (by omega),q9 (by omega) (by omega)]; omega
 obtain ⟨v',c1,c2,c3⟩ := l2.ax.cut TB okB (lo := some (.int .i64 ((page * 512 : Nat) : Int))) (hi := some (.int .i64 (((page + 1) * 512 : Nat) : Int))) (x8 .i64 _ 0) (x8 .i64 _ _) (by omega) (by omega)
 rw [show (page + 1) * 512 - page * 512 = 512 by omega] at c2
 obtain ⟨u,τ,j1,j2,j3,j4,_⟩ := zra (c2 := cfg) rfl rfl (sz := 1) c2 (by simp; omega)
 simp only [d1,d2,Bool.false_eq_true,if_false,zak (c2 := cfg) rfl rfl h hl hP,za,zb,Nat.add_zero,l1,w1,w2,c1,j1] at ev
 have hg : ∀ i,i < σ.next → tag g σ.next 7 i = g i := fun i hi => je hi
 exact ⟨tag g σ.next 7,τ,u,zf (hT _) ev,j4.q,fun i hi => by rw [qj (j3 i hi).1]; exact Nat.le_refl _,(h.retag hg).mod j2 fun i hi _ => by (cases hi),Out.mod j2 (fun i hi _ => by cases hi) hg⟩
theorem zlz (h : DevS g σ id d) (hl : d.seen.st.length ≤ 1000000000) :
  ∃ g' τ u,ze cfg 34 [.ref id 0 0] σ = some (.tuple [.int .i64 d.seen.base,u],τ) ∧ QS RB τ 1 u d.seen.st ∧ (∀ i ∈ tops u,7 ≤ g' i) ∧ DevS g' τ id d ∧ Out g σ g' τ := by
 have ev := z0t (ze cfg) (y2 cfg) σ id 0 0
 obtain ⟨vs,l1,l2⟩ := h.ldSt
 obtain ⟨u,τ,j1,j2,j3,j4,_⟩ := zra (c2 := zf1) rfl rfl (sz := 1) l2.q hl
 simp only [(zwz id).1,zc,Bool.false_eq_true,if_false,za,zb,Nat.add_zero,Nat.zero_add,h.ldBase,l1,j1] at ev
 have hg : ∀ i,i < σ.next → tag g σ.next 7 i = g i := fun i hi => je hi
 exact ⟨tag g σ.next 7,τ,u,zf (hT _) ev,j4.q,fun i hi => by rw [qj (j3 i hi).1]; exact Nat.le_refl _,(h.retag hg).mod j2 fun i hi _ => by (cases hi),Out.mod j2 (fun i hi _ => by cases hi) hg⟩
theorem msB (σ : Store) (n : Nat) (hn : n ≤ 1000000000) : qw Try.prog σ 33 (.int .i64 (n : Nat)) (.int .i64 (n : Nat)) = some (.lsl σ.next 1 0 n (some n),σ.push (.cells 0 (List.replicate n [.int .u8 0]))) := by
 have hz : jc Try.prog 5 = some (.int .u8 0) := by kernel_rfl
 simp only [qw,TB.u,TB.el.hsz,TB.el.hby,hz,Option.bind_some]
 rw [if_pos ⟨by decide,rfl,rfl,by omega,by omega,by omega,by omega⟩]
 simp only [Int.toNat_natCast]
 rfl
theorem z04 (i n : Nat) (c : Option Nat) : jz Try.prog 53 [(0,.lsl i 1 0 n c)] = some (.agg [.lsl i 1 0 n c,.int .i64 0,.nilsl]) := by kernel_rfl
theorem z03 (a b c d e f : PV) : jz Try.prog 57 [(0,.agg [a,b,c]),(1,.agg [d,e,f]),(4,.int .i64 (-1))] = some (.agg [a,b,c,d,e,f,.nilsl,.nilsl,.int .i64 (-1),.bool false]) := by kernel_rfl
theorem zyj {P : Nat} (hP : 1 ≤ P ∧ P ≤ 64) (g : Nat → Nat) (σ : Store) : ∃ g' τ,ze cfg 8 [.int .i64 (P : Nat)] σ = some (.tuple [.ref (σ.next + 2) 0 0,.int .i64 0],τ) ∧ DevS g' τ (σ.next + 2) (Dv.new P) ∧ Out g σ g' τ := by
 have ev := eq8 (ze cfg) (y2 cfg) σ (P : Nat)
 have d1 : decide (((P : Nat) : Int) < 1) = false := decide_eq_false (by omega)
 have d2 : decide (((P : Nat) : Int) > 64) = false := decide_eq_false (by omega)
 have w1 : IntKind.wrap .i64 (((P : Nat) : Int) * 512) = ((512 * P : Nat) : Int) := by rw [q9 (by omega) (by omega)]; omega
 simp only [d1,d2,Bool.false_eq_true,if_false,w1,msB _ (512 * P) (by omega),za,z04,z03] at ev
 rw [if_pos ⟨rfl,by show 10 ≠ 0; decide⟩] at ev
 have hm : Mod σ (((σ.push (.cells 0 (List.replicate (512 * P) [.int .u8 0]))).push (.cells 0 (List.replicate (512 * P) [.int .u8 0]))).push (.cells 0 [PV.cells (.agg [.lsl σ.next 1 0 (512 * P) (some (512 * P)),.int .i64 0,.nilsl,.lsl (σ.push (.cells 0 (List.replicate (512 * P) [PV.int .u8 0]))).next 1 0 (512 * P) (some (512 * P)),.int .i64 0,.nilsl,.nilsl,.nilsl,.int .i64 (-1),.bool false])])) [] :=
  ((Mod.push σ _ []).trans (Mod.push _ _ [])).trans (Mod.push _ _ []) |>.mono fun _ _ h => h
 let g' : Nat → Nat := fun i => if i < σ.next then g i else if i = σ.next then 1 else if i = σ.next + 1 then 3 else 0
 have hg : ∀ i,i < σ.next → g' i = g i := fun i hi => if_pos hi
 have hr : All2 RB (List.replicate (512 * P) [PV.int .u8 0]) (List.replicate (512 * P) (0 : UInt8)) := All2.replicate (show RB [PV.int .u8 0] (0 : UInt8) from rfl) _
 refine ⟨g',_,zf (hT _) ev,⟨⟨.lsl σ.next 1 0 (512 * P) (some (512 * P)),.nilsl,.lsl (σ.next + 1) 1 0 (512 * P) (some (512 * P)),.nilsl,.nilsl,.nilsl⟩,zn _ _,Nat.lt_succ_self _,?_,?_⟩,Out.mod hm (fun i hi => by cases hi) hg⟩
 ·show (if σ.next + 2 < σ.next then _ else if σ.next + 2 = σ.next then 1 else if σ.next + 2 = σ.next + 1 then 3 else 0) = 0
  rw [if_neg (by omega),if_neg (by omega),if_neg (by omega)]
 ·have n0 : (List.replicate (512 * P) (0 : UInt8)).length = 512 * P := by simp
  refine ⟨⟨σ.next,some (512 * P),_,?_,.inr ?_,?_,hr,?_⟩,AxS.nil _,⟨σ.next + 1,some (512 * P),_,?_,.inr ?_,?_,hr,?_⟩,AxS.nil _,AxS.nil _,AxS.nil _,fun i hi => ?_,fun i hi => (by cases hi),fun i hi => ?_,fun i hi => (by cases hi),fun i hi => (by cases hi),fun i hi => (by cases hi)⟩
  ·show PV.lsl _ _ _ _ _ = PV.lsl _ _ _ (List.replicate (512 * P) (0 : UInt8)).length _; rw [n0]
  ·show some _ = some (List.replicate (512 * P) (0 : UInt8)).length; rw [n0]
  ·rw [yj (by show σ.next < σ.next + 1 + 1; omega),yj (by show σ.next < σ.next + 1; omega)]; exact zn _ _
  ·show σ.next < σ.next + 1 + 1 + 1; omega
  ·show PV.lsl _ _ _ _ _ = PV.lsl _ _ _ (List.replicate (512 * P) (0 : UInt8)).length _; rw [n0]
  ·show some _ = some (List.replicate (512 * P) (0 : UInt8)).length; rw [n0]
  ·rw [yj (by show σ.next + 1 < σ.next + 1 + 1; omega)]; exact zn (σ.push _) _
  ·show σ.next + 1 < σ.next + 1 + 1 + 1; omega
  ·have hi : i = σ.next := by simpa [tops] using hi
   show (if i < σ.next then _ else if i = σ.next then 1 else _) = 1
   rw [if_neg (by omega),if_pos hi]
  ·have hi : i = σ.next + 1 := by simpa [tops] using hi
   show (if i < σ.next then _ else if i = σ.next then 1 else if i = σ.next + 1 then 3 else _) = 3
   rw [if_neg (by omega),if_neg (by omega),if_pos hi]
end
end Go.Pvm.S
