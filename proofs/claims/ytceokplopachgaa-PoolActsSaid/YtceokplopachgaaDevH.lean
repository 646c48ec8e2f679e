/- Part of the proof: the device: made, read, armed; behind a crash; what is pending. -/
import Derived.Test.YtceokplopachgaaDevE
set_option linter.unusedSimpArgs false
set_option linter.unusedVariables false
set_option maxRecDepth 100000
namespace Go.Pvm.S
open Go.Pvm Go.Proofs
def Tn.units (t : Tn) : Int := if t.trim = true then 1 else (t.b.length : Nat)
def Dk.new (P : Nat) : Dk := ⟨List.replicate (512 * P) 0,0,[]⟩
def Dv.new (P : Nat) : Dv := ⟨Dk.new P,Dk.new P,[],[],-1,false⟩
abbrev RBo : ElR Bool := Fn fun b => [.bool b]
section
variable {g g' : Nat → Nat} {σ τ : Store} {id : Nat} {d : Dv} {x : Vals} {u v : PV} {b : By}
theorem zwa (h : DevS g σ id d) {P : Nat} (hP : P ≤ 1000000) (hl : d.seen.pg.length = 512 * P) {page : Nat} (hp : page < P) :
  ∃ g' τ u,ze cfg 35 [.ref id 0 0,.int .i64 (page : Nat)] σ = some (.tuple [u,.int .i64 0],τ) ∧ QS RB τ 1 u ((d.seen.pg.drop (page * 512)).take 512) ∧ (∀ i ∈ tops u,7 ≤ g' i) ∧ DevS g' τ id d ∧ Out g σ g' τ := by
 have ev := zzx (ze cfg) (y2 cfg) σ id 0 0 (page : Nat)
 obtain ⟨vp,l1,l2⟩ := h.ldPg
 have d1 : decide (((page : Nat) : Int) < 0) = false := decide_eq_false (by omega)
 have d2 : decide (((page : Nat) : Int) ≥ ((P : Nat) : Int)) = false := decide_eq_false (by omega)
 have w1 : IntKind.wrap .i64 (((page : Nat) : Int) * 512) = ((page * 512 : Nat) : Int) := by rw [q9 (by omega) (by omega)]; omega
 have w2 : IntKind.wrap .i64 (IntKind.wrap .i64 (((page : Nat) : Int) + 1) * 512) = (((page + 1) * 512 : Nat) : Int) := by rw [q9 (x := ((page : Nat) : Int) + 1) (by omega) (by omega),q9 (by omega) (by omega)]; omega
 obtain ⟨v',c1,c2,c3⟩ := l2.ax.cut TB okB (lo := some (.int .i64 ((page * 512 : Nat) : Int))) (hi := some (.int .i64 (((page + 1) * 512 : Nat) : Int))) (x8 .i64 _ 0) (x8 .i64 _ _) (by omega) (by omega)
 rw [show (page + 1) * 512 - page * 512 = 512 by omega] at c2
 obtain ⟨u,τ,j1,j2,j3,j4,_⟩ := zra (c2 := cfg) rfl rfl (sz := 1) c2 (by simp; omega)
 simp only [d1,d2,Bool.false_eq_true,if_false,zak (c2 := cfg) rfl rfl h hl hP,za,zb,Nat.add_zero,l1,w1,w2,c1,j1] at ev
 have hg : ∀ i,i < σ.next → tag g σ.next 7 i = g i := fun i hi => je hi
 exact ⟨tag g σ.next 7,τ,u,zf (hT _) ev,j4.q,fun i hi => by rw [qj (j3 i hi).1]; exact hah _,(h.retag hg).mod j2 fun i hi _ => by (cases hi),Out.mod j2 (fun i hi _ => by cases hi) hg⟩
theorem zlz (h : DevS g σ id d) (hl : d.seen.st.length ≤ 1000000000) :
  ∃ g' τ u,ze cfg 34 [.ref id 0 0] σ = some (.tuple [.int .i64 d.seen.base,u],τ) ∧ QS RB τ 1 u d.seen.st ∧ (∀ i ∈ tops u,7 ≤ g' i) ∧ DevS g' τ id d ∧ Out g σ g' τ := by
 have ev := z0t (ze cfg) (y2 cfg) σ id 0 0
 obtain ⟨vs,l1,l2⟩ := h.ldSt
 obtain ⟨u,τ,j1,j2,j3,j4,_⟩ := zra (c2 := zf1) rfl rfl (sz := 1) l2.q hl
 simp only [(zwz id).1,zc,Bool.false_eq_true,if_false,za,zb,Nat.add_zero,hb4,h.ldBase,l1,j1] at ev
 have hg : ∀ i,i < σ.next → tag g σ.next 7 i = g i := fun i hi => je hi
 exact ⟨tag g σ.next 7,τ,u,zf (hT _) ev,j4.q,fun i hi => by rw [qj (j3 i hi).1]; exact hah _,(h.retag hg).mod j2 fun i hi _ => by (cases hi),Out.mod j2 (fun i hi _ => by cases hi) hg⟩
theorem msB (σ : Store) (n : Nat) (hn : n ≤ 1000000000) : qw Try.prog σ 33 (.int .i64 (n : Nat)) (.int .i64 (n : Nat)) = some (.lsl σ.next 1 0 n (some n),σ.push (.cells 0 (List.replicate n [.int .u8 0]))) := by
 have hz : jc Try.prog 5 = some (.int .u8 0) := by kernel_rfl
 simp only [qw,TB.u,TB.el.hsz,TB.el.hby,hz,Option.bind_some]
 rw [if_pos ⟨by decide,rfl,rfl,by omega,by omega,by omega,by omega⟩]
 simp only [hax]
 rfl
theorem z04 (i n : Nat) (c : Option Nat) : jz Try.prog 53 [(0,.lsl i 1 0 n c)] = some (.agg [.lsl i 1 0 n c,.int .i64 0,.nilsl]) := by kernel_rfl
theorem z03 (a b c d e f : PV) : jz Try.prog 57 [(0,.agg [a,b,c]),(1,.agg [d,e,f]),(4,.int .i64 (-1))] = some (.agg [a,b,c,d,e,f,.nilsl,.nilsl,.int .i64 (-1),.bool false]) := by kernel_rfl
theorem zyj {P : Nat} (hP : 1 ≤ P ∧ P ≤ 64) (g : Nat → Nat) (σ : Store) : ∃ g' τ,ze cfg 8 [.int .i64 (P : Nat)] σ = some (.tuple [.ref (σ.next + 2) 0 0,.int .i64 0],τ) ∧ DevS g' τ (σ.next + 2) (Dv.new P) ∧ Out g σ g' τ := by
 have ev := eq8 (ze cfg) (y2 cfg) σ (P : Nat)
 have d1 : decide (((P : Nat) : Int) < 1) = false := decide_eq_false (by omega)
 have d2 : decide (((P : Nat) : Int) > 64) = false := decide_eq_false (by omega)
 have w1 : IntKind.wrap .i64 (((P : Nat) : Int) * 512) = ((512 * P : Nat) : Int) := by rw [q9 (by omega) (by omega)]; omega
 simp only [d1,d2,Bool.false_eq_true,if_false,w1,msB _ (512 * P) (by omega),za,z04,z03] at ev
 rw [if_pos ⟨rfl,by show 10 ≠ 0; decide⟩] at ev
 have hm : Mod σ (((σ.push (.cells 0 (List.replicate (512 * P) [.int .u8 0]))).push (.cells 0 (List.replicate (512 * P) [.int .u8 0]))).push (.cells 0 [PV.cells (.agg [.lsl σ.next 1 0 (512 * P) (some (512 * P)),.int .i64 0,.nilsl,.lsl (σ.push (.cells 0 (List.replicate (512 * P) [PV.int .u8 0]))).next 1 0 (512 * P) (some (512 * P)),.int .i64 0,.nilsl,.nilsl,.nilsl,.int .i64 (-1),.bool false])])) [] :=
  ((Mod.push σ _ []).trans (Mod.push _ _ [])).trans (Mod.push _ _ []) |>.mono fun _ _ h => h
 let g' : Nat → Nat := fun i => if i < σ.next then g i else if i = σ.next then 1 else if i = σ.next + 1 then 3 else 0
 have hg : ∀ i,i < σ.next → g' i = g i := fun i hi => if_pos hi
 have hr : All2 RB (List.replicate (512 * P) [PV.int .u8 0]) (List.replicate (512 * P) (0 : UInt8)) := All2.replicate (show RB [PV.int .u8 0] (0 : UInt8) from rfl) _
 refine ⟨g',_,zf (hT _) ev,⟨⟨.lsl σ.next 1 0 (512 * P) (some (512 * P)),.nilsl,.lsl (σ.next + 1) 1 0 (512 * P) (some (512 * P)),.nilsl,.nilsl,.nilsl⟩,zn _ _,haw _,?_,?_⟩,Out.mod hm (fun i hi => by cases hi) hg⟩
 ·show (if σ.next + 2 < σ.next then _ else if σ.next + 2 = σ.next then 1 else if σ.next + 2 = σ.next + 1 then 3 else 0) = 0
  rw [if_neg (by omega),if_neg (by omega),if_neg (by omega)]
 ·have n0 : (List.replicate (512 * P) (0 : UInt8)).length = 512 * P := by simp
  refine ⟨⟨σ.next,some (512 * P),_,?_,.inr ?_,?_,hr,?_⟩,AxS.nil _,⟨σ.next + 1,some (512 * P),_,?_,.inr ?_,?_,hr,?_⟩,AxS.nil _,AxS.nil _,AxS.nil _,fun i hi => ?_,fun i hi => (by cases hi),fun i hi => ?_,fun i hi => (by cases hi),fun i hi => (by cases hi),fun i hi => (by cases hi)⟩
  ·show PV.lsl _ _ _ _ _ = PV.lsl _ _ _ (List.replicate (512 * P) (0 : UInt8)).length _; rw [n0]
  ·show some _ = some (List.replicate (512 * P) (0 : UInt8)).length; rw [n0]
  ·rw [yj (by show σ.next < σ.next + 1 + 1; omega),yj (by show σ.next < σ.next + 1; omega)]; exact zn _ _
  ·show σ.next < σ.next + 1 + 1 + 1; omega
  ·show PV.lsl _ _ _ _ _ = PV.lsl _ _ _ (List.replicate (512 * P) (0 : UInt8)).length _; rw [n0]
  ·show some _ = some (List.replicate (512 * P) (0 : UInt8)).length; rw [n0]
  ·rw [yj (by show σ.next + 1 < σ.next + 1 + 1; omega)]; exact zn (σ.push _) _
  ·show σ.next + 1 < σ.next + 1 + 1 + 1; omega
  ·have hi : i = σ.next := by simpa [tops] using hi
   show (if i < σ.next then _ else if i = σ.next then 1 else _) = 1
   rw [if_neg (by omega),if_pos hi]
  ·have hi : i = σ.next + 1 := by simpa [tops] using hi
   show (if i < σ.next then _ else if i = σ.next then 1 else if i = σ.next + 1 then 3 else _) = 3
   rw [if_neg (by omega),if_neg (by omega),if_pos hi]
end
end Go.Pvm.S
set_option linter.unusedSimpArgs false
set_option linter.unusedVariables false
set_option maxRecDepth 100000
namespace Go.Pvm.S
open Go.Pvm Go.Proofs
section
variable {g g' : Nat → Nat} {σ τ : Store} {id : Nat} {d : Dv} {x : Vals} {u v : PV} {b : By} {pat : List Bool}
theorem z4h {c2 : Cfg} (hm : c2.mode 62 = .pure) (hP : c2.P = Try.prog) {t : Tn} (hu : IsS RB u t.b) (σ : Store) : zi c2 (ze cfg) 62 [.agg [u,.bool t.trim,.int .i64 t.place]] σ = some (.int .i64 t.units,σ) := by
 refine w8 hm (by rw [hP]; kernel_rfl) (args' := [.agg [u,.bool t.trim,.int .i64 t.place]]) ?_ ?_ (.inl rfl)
 ·show [PV.agg ([u,.bool t.trim,.int .i64 t.place].map (fz 7 σ))] = _
  rw [vo (pl3 hu.plain _ _ _) 6]
 ·have ev := z4t (ze cfg) (y2 cfg) .empty u t.trim t.place
  have l1 : zd Try.prog (Store.empty.push (.cells 0 [[u,.bool t.trim,.int .i64 t.place]])) 4 (.ref Store.empty.next 0 (0 + 1)) = some (.bool t.trim) := qc oBool (zn _ _) rfl
  have l2 : zd Try.prog (Store.empty.push (.cells 0 [[u,.bool t.trim,.int .i64 t.place]])) 33 (.ref Store.empty.next 0 (0 + 0)) = some u := qc otB (zn _ _) rfl
  simp only [l1,l2,za,zc,hu.len TB,zb] at ev
  unfold Tn.units
  by_cases h : t.trim = true
  ·rw [if_pos h] at ev ⊢
   exact zl8 (hT _) ev rfl
  ·rw [if_neg h] at ev ⊢
   exact zl8 (hT _) ev rfl
end
end Go.Pvm.S
set_option linter.unusedSimpArgs false
set_option linter.unusedVariables false
set_option maxRecDepth 100000
namespace Go.Pvm.S
open Go.Pvm Go.Proofs
def okt (x : Dk) (t : Tn) : Prop := (t.trim = true → x.base ≤ t.place ∧ t.place ≤ x.base + x.st.length) ∧ (0 ≤ x.base ∧ x.base ≤ 1000000000) ∧ x.st.length + t.b.length ≤ 65536
theorem z3s : ∀ (ts : List Tn) (x : Dk) (t : Tn),oks x ts → okt (ts.foldl Dk.turn x) t → oks x (ts ++ [t])
 | [],x,t,_,h => ⟨h.1,h.2.1,h.2.2,trivial⟩
 | s :: ts,x,t,h,k => ⟨h.1,h.2.1,h.2.2.1,z3s ts _ t h.2.2.2 k⟩
theorem zrs (x : Dk) (w : Int × By) (t : Tn) : (x.put w).turn t = (x.turn t).put w := by
 unfold Dk.turn Dk.put
 split <;> rfl
theorem zdl : ∀ (ts : List Tn) (x : Dk) (w : Int × By),ts.foldl Dk.turn (x.put w) = (ts.foldl Dk.turn x).put w
 | [],_,_ => rfl
 | t :: ts,x,w => by rw [List.foldl_cons,zrs,zdl ts]; rfl
theorem z2t : ∀ (ts : List Tn) (x y : Dk),x.st = y.st → x.base = y.base → (ts.foldl Dk.turn x).st = (ts.foldl Dk.turn y).st ∧ (ts.foldl Dk.turn x).base = (ts.foldl Dk.turn y).base
 | [],_,_,h1,h2 => ⟨h1,h2⟩
 | t :: ts,x,y,h1,h2 => by
   refine z2t ts _ _ ?_ ?_
   ·unfold Dk.turn; split <;> simp [h1,h2]
   ·unfold Dk.turn; split <;> simp [h2]
theorem z3n {x : Dk} {t : Tn} (h : okt x t) {T : Int} (hb : x.base + x.st.length ≤ T) (h0 : 0 ≤ x.base) : 0 ≤ (x.turn t).base ∧ (x.turn t).base + (x.turn t).st.length ≤ T + t.b.length ∧ (x.turn t).st.length ≤ 65536 := by
 obtain ⟨a,b,c⟩ := h
 unfold Dk.turn
 split
 ·rename_i ht
  have := a ht
  simp only [List.length_drop]
  omega
 ·simp only [hak]
  omega
structure Inv (P : Nat) (T : Int) (d : Dv) : Prop where
 hP : 1 ≤ P ∧ P ≤ 1000000
 pl : d.seen.pg.length = 512 * P
 kl : d.kept.pg.length = 512 * P
 arm : -1 ≤ d.armed ∧ d.armed ≤ 9223372036854775807
 ws : zys P d.ws
 st : d.seen.st.length ≤ 65536
 bs : 0 ≤ d.seen.base ∧ d.seen.base + d.seen.st.length ≤ T
 ts : oks d.kept d.ts
 kb : 0 ≤ d.kept.base ∧ d.kept.base + d.kept.st.length ≤ T ∧ d.kept.st.length ≤ 65536
 sy : d.gone = false → d.ts.foldl Dk.turn (d.ws.foldl Dk.put d.kept) = d.seen
 fe : (d.ts.foldl Dk.turn d.kept).base + (d.ts.foldl Dk.turn d.kept).st.length ≤ T
theorem Inv.new {P : Nat} (h : 1 ≤ P ∧ P ≤ 64) : Inv P 0 (Dv.new P) := by
 have hl : (Dk.new P).pg.length = 512 * P := by simp [Dk.new]
 exact ⟨⟨h.1,by omega⟩,hl,hl,⟨show (-1 : Int) ≤ -1 by decide,show (-1 : Int) ≤ 9223372036854775807 by decide⟩,fun w hw => by (cases hw),show 0 ≤ 65536 by decide,⟨show (0 : Int) ≤ 0 by decide,show (0 : Int) + ((0 : Nat) : Int) ≤ 0 by decide⟩,trivial,⟨show (0 : Int) ≤ 0 by decide,show (0 : Int) + ((0 : Nat) : Int) ≤ 0 by decide,show 0 ≤ 65536 by decide⟩,fun _ => rfl,show (0 : Int) + ((0 : Nat) : Int) ≤ 0 by decide⟩
theorem Inv.mono {P : Nat} {T T' : Int} {d : Dv} (h : Inv P T d) (hT : T ≤ T') : Inv P T' d :=
 ⟨h.hP,h.pl,h.kl,h.arm,h.ws,h.st,⟨h.bs.1,by have := h.bs.2; omega⟩,h.ts,⟨h.kb.1,by have := h.kb.2.1; omega,h.kb.2.2⟩,h.sy,by have := h.fe; omega⟩
theorem zk8 (d : Dv) (n : Int) : ((d.counts n).2.gone = false → d.gone = false ∧ (d.counts n).1 = n) := by
 unfold Dv.counts
 intro h
 split at h
 ·rename_i hg; rw [hg] at h; cases h
 ·rename_i hg
  have hg : d.gone = false := by simpa using hg
  split at h
  ·rename_i c; exact ⟨hg,by rw [if_neg (by simp [hg]),if_pos c]⟩
  ·split at h
   ·cases h
   ·rename_i c c2; exact ⟨hg,by rw [if_neg (by simp [hg]),if_neg c,if_neg c2]⟩
theorem Inv.wr1 {P : Nat} {T : Int} {d : Dv} (h : Inv P T d) {w : Int × By} (hw : 0 ≤ w.1 ∧ 128 * w.1.toNat + 128 ≤ 512 * P ∧ w.2.length = 128) : Inv P T (d.wr1 w) := by
 obtain ⟨e1,e2,e3,e4⟩ := zd1 d w
 have hpl : (d.wr1 w).seen.pg.length = 512 * P := by
  rw [e1]
  show (putP d.seen.pg w).length = _
  rw [zg8 (by rw [h.pl]; exact hw.2.1) hw.2.2,h.pl]
 have hst : (d.wr1 w).seen.st = d.seen.st ∧ (d.wr1 w).seen.base = d.seen.base := by rw [e1]; exact ⟨rfl,rfl⟩
 refine ⟨h.hP,hpl,by rw [e2]; exact h.kl,zo0 d w h.arm,?_,by rw [hst.1]; exact h.st,by rw [hst.1,hst.2]; exact h.bs,by rw [e2,e3]; exact h.ts,by rw [e2]; exact h.kb,fun hg => ?_,by rw [e2,e3]; exact h.fe⟩
 ·rcases e4 with e4 | e4
  ·rw [e4]; exact h.ws
  ·rw [e4]
   intro y hy
   rcases hbn.1 hy with hy | hy
   ·exact h.ws y hy
   ·rw [ham.1 hy]; exact hw
 ·have key : d.gone = false ∧ (({ d with seen := d.seen.put w } : Dv).counts 1).1 = 1 := by
   refine zk8 { d with seen := d.seen.put w } 1 ?_
   unfold Dv.wr1 at hg
   split at hg <;> exact hg
  have e5 : (d.wr1 w).ws = d.ws ++ [w] := by unfold Dv.wr1; rw [if_pos key.2]
  rw [e1,e2,e3,e5,List.foldl_append]
  show List.foldl Dk.turn ((List.foldl Dk.put d.kept d.ws).put w) d.ts = _
  rw [zdl,h.sy key.1]
theorem Inv.wrF {P : Nat} {T : Int} {page : Nat} {b : By} (hp : page < P) (hb : b.length = 512) : ∀ (k i : Nat) (d : Dv),i + k = 4 → Inv P T d → Inv P T (wrF page b k i d)
 | 0,_,_,_,h => h
 | k + 1,i,d,hi,h => Inv.wrF hp hb k (i + 1) _ (by omega) (h.wr1 ⟨by omega,by show 128 * Int.toNat ((page * 4 + i : Nat) : Int) + 128 ≤ _; rw [hax]; omega,by simp; omega⟩)
theorem zte {page : Nat} {b : By} : ∀ (k i : Nat) (d : Dv),(wrF page b k i d).ws.length ≤ d.ws.length + k ∧ (wrF page b k i d).ts = d.ts ∧ (wrF page b k i d).kept = d.kept ∧ (wrF page b k i d).seen.st = d.seen.st ∧ (wrF page b k i d).seen.base = d.seen.base
 | 0,_,_ => ⟨by exact hah _,rfl,rfl,rfl,rfl⟩
 | k + 1,i,d => by
   obtain ⟨e1,e2,e3,e4⟩ := zd1 d (((page * 4 + i : Nat) : Int),(b.drop (i * 128)).take 128)
   obtain ⟨f1,f2,f3,f4,f5⟩ := zte k (i + 1) (d.wr1 (((page * 4 + i : Nat) : Int),(b.drop (i * 128)).take 128)) (page := page) (b := b)
   refine ⟨?_,f2.trans e3,f3.trans e2,?_,?_⟩
   ·show (Go.Pvm.S.wrF page b k (i + 1) _).ws.length ≤ _
    rcases e4 with e4 | e4
    ·rw [e4] at f1; omega
    ·rw [e4,hak,ha9] at f1; omega
   ·exact f4.trans (by rw [e1]; rfl)
   ·exact f5.trans (by rw [e1]; rfl)
theorem Inv.seenSt {P : Nat} {T : Int} {d : Dv} (h : Inv P T d) (hg : d.gone = false) : (d.ts.foldl Dk.turn d.kept).st = d.seen.st ∧ (d.ts.foldl Dk.turn d.kept).base = d.seen.base := by
 have h1 := zgl d.ws d.kept
 have h2 := z2t d.ts d.kept _ h1.1.symm h1.2.symm
 rw [h.sy hg] at h2
 exact h2
theorem Inv.app {P : Nat} {T : Int} {d : Dv} (h : Inv P T d) (hT : T ≤ 1000000000) {b : By} (hb : b.length + d.seen.st.length ≤ 65536) : Inv P (T + b.length) (d.app b) := by
 have hbs := h.bs
 have hkb := h.kb
 have hok : ∀ n : Nat,okt d.seen ⟨b.take n,false,0⟩ := fun n => ⟨fun e => by (cases e),⟨h.bs.1,by omega⟩,by show _ + (b.take n).length ≤ _; rw [ha7]; omega⟩
 have hok' : okt d.seen ⟨b,false,0⟩ := ⟨fun e => by (cases e),⟨h.bs.1,by omega⟩,by show _ + b.length ≤ _; omega⟩
 obtain ⟨t1,t2,t3⟩ := z3n hok' hbs.2 hbs.1
 have hsame := zfe { d with seen := d.seen.turn ⟨b,false,0⟩ } (b.length : Nat)
 have harm := zoi { d with seen := d.seen.turn ⟨b,false,0⟩ } (n := (b.length : Nat)) (by omega) h.arm
 have hle := z3j { d with seen := d.seen.turn ⟨b,false,0⟩ } (n := (b.length : Nat)) (by omega)
 have hgn := zk8 { d with seen := d.seen.turn ⟨b,false,0⟩ } (b.length : Nat)
 have hgone : (({ d with seen := d.seen.turn ⟨b,false,0⟩ } : Dv).counts (b.length : Nat)).1 > 0 → d.gone = false := fun hc => by
  cases hg : d.gone with
  | false => rfl
  | true =>
    unfold Dv.counts at hc
    rw [if_pos (by exact hg)] at hc
    have hc : (0 : Int) > 0 := hc
    omega
 have happ : d.app b = if (({ d with seen := d.seen.turn ⟨b,false,0⟩ } : Dv).counts (b.length : Nat)).1 > 0 then { (({ d with seen := d.seen.turn ⟨b,false,0⟩ } : Dv).counts (b.length : Nat)).2 with ts := d.ts ++ [⟨b.take (({ d with seen := d.seen.turn ⟨b,false,0⟩ } : Dv).counts (b.length : Nat)).1.toNat,false,0⟩] } else (({ d with seen := d.seen.turn ⟨b,false,0⟩ } : Dv).counts (b.length : Nat)).2 := rfl
 rw [happ]
 generalize (({ d with seen := d.seen.turn ⟨b,false,0⟩ } : Dv).counts (b.length : Nat)) = r at hsame harm hle hgn hgone
 obtain ⟨n,d2⟩ := r
 simp only at hsame harm hle hgn hgone
 obtain ⟨s1,s2,s3,s4⟩ := hsame
 have hkb' : 0 ≤ d.kept.base ∧ d.kept.base + d.kept.st.length ≤ T + b.length ∧ d.kept.st.length ≤ 65536 := ⟨hkb.1,by omega,hkb.2.2⟩
 by_cases c : n > 0
 ·rw [if_pos c]
  have hg := hgone c
  have hss := h.seenSt hg
  refine ⟨h.hP,by show d2.seen.pg.length = _; rw [s1,zt3]; exact h.pl,by show d2.kept.pg.length = _; rw [s2]; exact h.kl,harm,by show zys P d2.ws; rw [s3]; exact h.ws,by show d2.seen.st.length ≤ _; rw [s1]; exact t3,by show 0 ≤ d2.seen.base ∧ d2.seen.base + d2.seen.st.length ≤ _; rw [s1]; exact ⟨t1,t2⟩,?_,by show 0 ≤ d2.kept.base ∧ d2.kept.base + d2.kept.st.length ≤ _ ∧ d2.kept.st.length ≤ _; rw [s2]; exact hkb',fun hg2 => ?_,?_⟩
  ·show oks d2.kept (d.ts ++ [_])
   rw [s2]
   refine z3s _ _ _ h.ts ?_
   have := hok n.toNat
   exact ⟨fun e => by (cases e),by rw [hss.2]; exact this.2.1,by rw [hss.1]; exact this.2.2⟩
  ·have hn := (hgn hg2).2
   show List.foldl Dk.turn (List.foldl Dk.put d2.kept d2.ws) (d.ts ++ [_]) = d2.seen
   rw [s1,s2,s3,List.foldl_append,h.sy hg,hn,hax,hbi (hah _)]
   rfl
  ·show (List.foldl Dk.turn d2.kept (d.ts ++ [_])).base + (List.foldl Dk.turn d2.kept (d.ts ++ [_])).st.length ≤ _
   rw [s2,List.foldl_append]
   show (List.foldl Dk.turn d.kept d.ts).base + (((List.foldl Dk.turn d.kept d.ts).st ++ b.take n.toNat).length : Nat) ≤ _
   rw [hss.1,hss.2,hak,ha7]
   omega
 ·rw [if_neg c]
  refine ⟨h.hP,by rw [s1,zt3]; exact h.pl,by rw [s2]; exact h.kl,harm,by rw [s3]; exact h.ws,by rw [s1]; exact t3,by rw [s1]; exact ⟨t1,t2⟩,by rw [s2,s4]; exact h.ts,by rw [s2]; exact hkb',fun hg2 => ?_,by rw [s2,s4]; have := h.fe; omega⟩
  obtain ⟨hg,hn⟩ := hgn hg2
  have hb0 : b = [] := ha1 (by omega)
  rw [s1,s2,s3,s4,h.sy hg,hb0]
  unfold Dk.turn
  simp
theorem Inv.sync {P : Nat} {T : Int} {d : Dv} (h : Inv P T d) : Inv P T d.sync := by
 unfold Dv.sync
 by_cases hg : d.gone = true
 ·rw [if_pos hg]; exact h
 ·rw [if_neg hg]
  have hg : d.gone = false := by simpa using hg
  rw [h.sy hg]
  exact ⟨h.hP,h.pl,h.pl,h.arm,fun w hw => by (cases hw),h.st,h.bs,trivial,⟨h.bs.1,h.bs.2,h.st⟩,fun _ => rfl,h.bs.2⟩
end Go.Pvm.S
