/- Part of the proof: the pool: what is dirty; all written. -/
import Derived.Test.YtceokplopachgaaPolJ
set_option linter.unusedSimpArgs false
set_option linter.unusedVariables false
set_option maxRecDepth 100000
namespace Go.Pvm.S
open Go.Pvm Go.Proofs
def Po.dty (p : Po) (k : Int) : Bool := match wc p.m k with
 | some i => (p.m.getD i (0,⟨[],false,0⟩)).2.dirty
 | none => false
def Po.dirts (p : Po) : List Int := p.ins.filter p.dty
def OwnN (σ τ : Store) (v : PV) (l : List Int) : Prop := (v = .nilsl ∧ l = []) ∨ ∃ (id : Nat) (full : List Int),v = .lsl id 1 0 l.length none ∧ τ.objs id = some (.cells 0 (full.map ie)) ∧ l.length ≤ full.length ∧ full.take l.length = l ∧ σ.next ≤ id ∧ id < τ.next
section
variable {g g' : Nat → Nat} {σ τ : Store} {pid did mid : Nat} {p : Po} {vs v : PV} {ids : List Nat}
theorem Own1.n {l : List Int} (h : Own1 σ τ v l) : OwnN σ τ v l := by
 rcases h with h | ⟨id,h1,h2,h3,h4⟩
 ·exact .inl h
 ·exact .inr ⟨id,l,h1,h2,hah _,List.take_length,h3,h4⟩
theorem OwnN.len {l : List Int} (h : OwnN σ τ v l) : jd Try.prog .len [50] [v] = some (.int .i64 (l.length : Nat)) := by
 rcases h with ⟨rfl,rfl⟩ | ⟨id,full,rfl,_⟩
 ·simp [jd,zcw]
 ·exact zhj zcw _ _ _ _ _
theorem OwnN.at_ {l : List Int} (h : OwnN σ τ v l) {i : Nat} (hi : i < l.length) : ∃ id,zh Try.prog 50 v (.int .i64 (i : Nat)) = some (.ref id i 0) ∧ zd Try.prog τ 3 (.ref id i 0) = some (.int .i64 l[i]) ∧ σ.next ≤ id ∧ id < τ.next := by
 rcases h with ⟨rfl,rfl⟩ | ⟨id,full,rfl,h1,h2,h3,h4,h5⟩
 ·cases hi
 ·refine ⟨id,?_,?_,h4,h5⟩
  ·rw [zmn zcw oInt.1 hi,hb4]
  ·have hf : i < full.length := by omega
   have e : full[i] = l[i] := by
    have : (full.take l.length)[i]? = l[i]? := by rw [h3]
    rw [List.getElem?_take_of_lt hi,haf hf,haf hi] at this
    exact Option.some.inj this
   have := ldN (σ := τ) h1 hf
   rw [hb4,e] at this
   exact this
theorem ins_mem {k : Int} : k ∈ p.ins ↔ ∃ x,(k,x) ∈ p.m := by
 unfold Po.ins
 rw [(List.mergeSort_perm _ _).mem_iff,List.mem_map]
 exact ⟨fun ⟨e,h1,h2⟩ => ⟨e.2,by rw [← h2]; exact h1⟩,fun ⟨x,h⟩ => ⟨_,h,rfl⟩⟩
theorem zvf (hn : (p.m.map (·.1)).Nodup) {k : Int} {x : Sh} (h : (k,x) ∈ p.m) : p.dty k = x.dirty := by
 obtain ⟨i,hi⟩ := hau.1 h
 have hil := (had.1 hi).1
 have he : p.m[i] = (k,x) := (had.1 hi).2
 unfold Po.dty
 rw [zcz hn hil (by rw [he])]
 simp only [zk1 hil,he]
theorem zs9 (r : PoR g τ pid did mid p vs ids) {bx : Nat} (hb : τ.objs bx = some (.cells 0 [[.ref pid 0 0]])) {k : Int} {x : Sh} (hn : (p.m.map (·.1)).Nodup) (hx : (k,x) ∈ p.m) : zi cfg (ze cfg) 46 ([.int .i64 k] ++ [.ref bx 0 0]) τ = some (.bool (!p.dty k),τ) := by
 rw [zvf hn hx]
 obtain ⟨i,hi⟩ := hau.1 hx
 have hil := (had.1 hi).1
 have he : p.m[i] = (k,x) := (had.1 hi).2
 have hq := zcz hn hil (by rw [he])
 obtain ⟨g8,lt8,u,ob,hu⟩ := r.sh i hil
 rw [he] at ob
 have lo := zqj r k
 rw [hq] at lo
 have ev := z0o (ze cfg) (y2 cfg) τ k (.ref bx 0 0)
 have ldp : zd Try.prog τ 27 (.ref bx 0 0) = some (.ref pid 0 0) := qc zth hb rfl
 have ldm : zd Try.prog τ 47 (.ref pid 0 3) = some (.mref mid) := r.ldM
 have ldb : zd Try.prog τ 4 (.ref (ids.getD i 0) 0 1) = some (.bool x.dirty) := qc oBool ob rfl
 rw [ldp,za,nvR,za,ztt,za,ldm,za,lo,za,show zrm ids (some i) = .ref (ids.getD i 0) 0 0 from rfl,nvR,za,(zvc _).2.1,za,ldb,za,zc] at ev
 rw [zk rfl (by kernel_rfl)]
 exact zf (hT _) ev
theorem zuy {σ τ : Store} (m : Mod σ τ []) {id : Nat} (h : σ.next ≤ id) (o : Obj) : Mod σ (τ.put id o) [] := ⟨m.1,fun i hi hn => (yb fun e => by omega).trans (m.2 i hi hn)⟩
theorem zug (hd : DevS g σ did p.d) (r : PoR g σ pid did mid p vs ids) {P n : Nat} {T : Int} (hK : PoK P n T p) (hP : P ≤ 64) (hm : p.m.length ≤ 100000) :
  ∃ τ v,ze cfg 19 [.ref pid 0 0] σ = some (v,τ) ∧ OwnN σ τ v p.dirts ∧ Mod σ τ [] := by
 have ev := z0v (ze cfg) (y2 cfg) σ pid 0 0
 have m0 : Mod σ (σ.push (.cells 0 [[.ref pid 0 0]])) [] := Mod.push _ _ _
 have hb0 : (σ.push (.cells 0 [[.ref pid 0 0]])).objs σ.next = some (.cells 0 [[.ref pid 0 0]]) := zn _ _
 have ldp : zd Try.prog (σ.push (.cells 0 [[.ref pid 0 0]])) 27 (.ref σ.next 0 0) = some (.ref pid 0 0) := qc zth hb0 rfl
 obtain ⟨τ1,v1,a1,a2,a3⟩ := zz6 (hd.push (.cells 0 [[.ref pid 0 0]])) (r.push (.cells 0 [[.ref pid 0 0]])) hK hP (by omega)
 have ci : zi cfg (ze cfg) 18 [.ref pid 0 0] (σ.push (.cells 0 [[.ref pid 0 0]])) = some (v1,τ1) := by rw [zk rfl (by kernel_rfl)]; exact a1
 have m1 : Mod σ τ1 [] := m0.trans a3
 have hb1 : τ1.objs σ.next = some (.cells 0 [[.ref pid 0 0]]) := (a3.2 σ.next (haw _) (by simp)).trans hb0
 have hil : p.ins.length ≤ 100000 := by unfold Po.ins; rw [List.length_mergeSort,han]; exact hm
 rw [ldp,za,ci,za] at ev
 rcases a2 with ⟨rfl,hnil⟩ | ⟨id,rfl,b1,b2,b3⟩
 ·have dn := zzv (ze cfg) (y2 cfg) τ1 .nilsl (.func 46 [.ref σ.next 0 0])
  have inn := zzu (ze cfg) (y2 cfg) τ1 .nilsl (.func 46 [.ref σ.next 0 0])
  have l0 : jd Try.prog .len [50] [.nilsl] = some (.int .i64 0) := by simp [jd,zcw]
  have lp : y2 cfg 72 zi2 (zie .nilsl (.func 46 [.ref σ.next 0 0]) 0 0) τ1 = some (.exit 0,zkr,τ1) := by
   refine yi ((zqb _ _ _ _ _ _ _).trans ?_)
   rw [if_neg (by decide)]
  rw [l0,za,zb,lp,za] at inn
  simp only [ya,if_true] at inn
  have cin : zi cfg (ze cfg) 72 [.nilsl,.func 46 [.ref σ.next 0 0]] τ1 = some (.int .i64 (-1),τ1) := by rw [zk rfl (by kernel_rfl)]; exact zf (hT _) inn
  rw [cin,za,zb,if_pos (by decide)] at dn
  have cd : zi cfg (ze cfg) 45 [.nilsl,.func 46 [.ref σ.next 0 0]] τ1 = some (.nilsl,τ1) := by rw [zk rfl (by kernel_rfl)]; exact zf (hT _) dn
  rw [cd,za] at ev
  exact ⟨_,_,zf (hT _) ev,.inl ⟨rfl,by unfold Po.dirts; rw [hnil]; rfl⟩,m1⟩
 ·have hn1 : σ.next + 1 ≤ id := b2
  obtain ⟨τ2,full,c1,c2,c3,c4,c5,c6⟩ := zwi (f := 46) (cs := [.ref σ.next 0 0]) (q := fun k => !p.dty k) (id := id) (Inv := fun τ => Mod σ τ [] ∧ τ.objs σ.next = some (.cells 0 [[.ref pid 0 0]])) (l := p.ins) (σ := τ1) (fun τ h x hx => by
   obtain ⟨y,hy⟩ := ins_mem.1 hx
   exact zs9 (r.mod h.1 fun _ _ => rfl) h.2 hK.nd hy) (fun τ o h => ⟨zuy h.1 (by omega) o,(yb (by omega)).trans h.2⟩) (by omega) ⟨m1,hb1⟩ b1
  have hf : p.ins.filter (fun e => !(fun k => !p.dty k) e) = p.dirts := by
   unfold Po.dirts
   congr 1
   funext k
   simp
  rw [hf] at c1 c5
  have cd : zi cfg (ze cfg) 45 [.lsl id 1 0 p.ins.length none,.func 46 [.ref σ.next 0 0]] τ1 = some (.lsl id 1 0 p.dirts.length none,τ2) := by rw [zk rfl (by kernel_rfl)]; exact c1
  rw [cd,za] at ev
  have hdl : p.dirts.length ≤ p.ins.length := by unfold Po.dirts; exact List.length_filter_le _ _
  exact ⟨_,_,zf (hT _) ev,.inr ⟨id,full,rfl,c3,by omega,c5,by omega,hao b3 c6.1⟩,c2.1⟩
def Po.wrk (p : Po) (k : Int) : Po := match wc p.m k with
 | none => p
 | some i => match p.m[i]? with
   | none => p
   | some e => p.wr i k e.2
def Po.flush (p : Po) : Po := p.dirts.foldl Po.wrk p
theorem ztd (hn : (p.m.map (·.1)).Nodup) {k : Int} {x : Sh} (h : (k,x) ∈ p.m) : ∃ i,wc p.m k = some i ∧ p.m[i]? = some (k,x) ∧ p.wrk k = p.wr i k x := by
 obtain ⟨i,hi⟩ := hau.1 h
 have hil := (had.1 hi).1
 have he : p.m[i] = (k,x) := (had.1 hi).2
 have hq := zcz hn hil (by rw [he])
 refine ⟨i,hq,hi,?_⟩
 unfold Po.wrk
 rw [hq]
 simp only [hi]
theorem PoA.wrk {P n : Nat} {T : Int} (h : PoA P n T p) {k : Int} {x : Sh} (hx : (k,x) ∈ p.m) : PoA P n T (p.wrk k) ∧ (∀ j : Int,0 ≤ j → j < P → (p.wrk k).val j = p.val j) ∧ (∀ e ∈ p.m,∃ y,(e.1,y) ∈ (p.wrk k).m ∧ (e.1 ≠ k → y = e.2) ∧ (e.1 = k → y.dirty = false)) ∧ (p.wrk k).m.map (·.1) = p.m.map (·.1) := by
 obtain ⟨i,h1,h2,h3⟩ := ztd h.k.nd hx
 rw [h3]
 obtain ⟨a,b⟩ := h.wr h2
 refine ⟨a,b,fun e he => ?_,zg1 h2⟩
 obtain ⟨j,hj⟩ := hau.1 he
 by_cases c : i = j
 ·subst c
  rw [h2] at hj
  cases hj
  exact ⟨_,haj (ha3 (had.1 h2).1),fun e => absurd rfl e,fun _ => rfl⟩
 ·exact ⟨e.2,haj ((ha5 c).trans hj),fun _ => rfl,fun e' => absurd e' (zns h.k.nd (fun q => c q.symm) h2 hj)⟩
theorem zqe {P n : Nat} {T : Int} (hP : P ≤ 64) (hT' : T ≤ 900000000) {l : List Int} (hl : l.length ≤ 100000) {σ0 : Store} : ∀ (k i : Nat) (g : Nat → Nat) (σ : Store) (p : Po),i + k = l.length → DevS g σ did p.d → PoR g σ pid did mid p vs ids → PoA P n T p → Lim (4 * i + 400000) 900000 p → OwnN σ0 σ v l → (∀ id,σ0.next ≤ id → id < σ.next → id ∈ tops v → g id = 11) → (∀ x ∈ l.drop i,∃ y,(x,y) ∈ p.m) →
  ∃ g' τ,y2 cfg 14 zmj (zlx (.ref pid 0 0) v v (l.length : Nat) (i : Nat)) σ = some (.exit 0,zku v,τ) ∧ DevS g' τ did ((l.drop i).foldl Po.wrk p).d ∧ PoR g' τ pid did mid ((l.drop i).foldl Po.wrk p) vs ids ∧ PoA P n T ((l.drop i).foldl Po.wrk p) ∧ OutP g σ g' τ ∧ ∀ j : Int,0 ≤ j → j < P → ((l.drop i).foldl Po.wrk p).val j = p.val j
 | 0,i,g,σ,p,hi,hd,r,hA,hL,hv,ht,hm => by
   have hdr : l.drop i = [] := List.drop_of_length_le (by omega)
   rw [hdr]
   refine ⟨g,σ,yi ((ztp _ _ _ _ _ _ _ _).trans ?_),hd,r,hA,OutP.refl _ _,fun _ _ _ => rfl⟩
   rw [if_neg (by simp; omega)]
 | k + 1,i,g,σ,p,hi,hd,r,hA,hL,hv,ht,hm => by
   have hil : i < l.length := by omega
   have hdr : l.drop i = l[i] :: l.drop (i + 1) := hbo hil
   rw [hdr] at hm ⊢
   obtain ⟨x,hx⟩ := hm l[i] (.head _)
   obtain ⟨j,q1,q2,q3⟩ := ztd hA.k.nd hx
   obtain ⟨id,z1,z2,z3,z4⟩ := hv.at_ hil
   have hr := hA.k.rg _ hx
   obtain ⟨g1,τ1,a1,a2,a3,a4⟩ := zyh hd r hA.k.iv hT' (by have := hL.w; omega) (by have := hL.t; omega) q2 ⟨hr.1,hr.2.1⟩ hr.2.2
   have cw : zi cfg (ze cfg) 41 [.ref pid 0 0,.int .i64 l[i],.ref (ids.getD j 0) 0 0] σ = some (.tuple [],τ1) := by rw [zk rfl (by kernel_rfl)]; exact a1
   rw [← q3] at a2 a3
   obtain ⟨b1,b2,b3,b4⟩ := hA.wrk hx
   have lo := zqj r l[i]
   rw [q1] at lo
   have ldm : zd Try.prog σ 47 (.ref pid 0 3) = some (.mref mid) := r.ldM
   have hv1 : OwnN σ0 τ1 v l := by
    rcases hv with h | ⟨id,full,rfl,h1,h2,h3,h4,h5⟩
    ·exact .inl h
    ·have h11 := ht id h4 h5 (.head _)
     exact .inr ⟨id,full,rfl,(a4.same h5 (by rw [h11]; exact hah _)).trans h1,h2,h3,h4,hao h5 a4.1⟩
   obtain ⟨g',τ,c1,c2,c3,c4,c5,c6⟩ := zqe hP hT' hl k (i + 1) g1 τ1 (p.wrk l[i]) (by omega) a2 a3 b1 (by rw [q3]; exact (hL.wr j l[i] x).mono (by omega) (hah _)) hv1 (fun id h1 h2 h3 => by
    rcases hv with ⟨rfl,_⟩ | ⟨id',full,rfl,_,_,_,h4,h5⟩
    ·cases h3
    ·have : id = id' := by simpa [tops] using h3
     subst this
     rw [a4.2.1 id h5]
     exact ht id h4 h5 (.head _)) (fun y hy => by
    obtain ⟨s,hs⟩ := hm y (.tail _ hy)
    obtain ⟨s',h1,_⟩ := b3 _ hs
    exact ⟨s',h1⟩)
   refine ⟨g',τ,yi ((ztp _ _ _ _ _ _ _ _).trans ?_),c2,c3,c4,a4.trans c5,fun j h0 h1 => (c6 j h0 h1).trans (b2 j h0 h1)⟩
   rw [if_pos (by simp; omega),z1,za,z2,za,zb,nvR,za,ztt,za,ldm,za,lo,za,show zrm ids (some j) = .ref (ids.getD j 0) 0 0 from rfl,cw,za,y6 (by omega)]
   exact c1
theorem zue (hd : DevS g σ did p.d) (r : PoR g σ pid did mid p vs ids) {P n : Nat} {T : Int} (hA : PoA P n T p) (hP : P ≤ 64) (hT' : T ≤ 900000000) (hL : Lim 400000 900000 p) (hm : p.m.length ≤ 100000) :
  ∃ g' τ,ze cfg 14 [.ref pid 0 0] σ = some (.int .i64 (p.dirts.length : Nat),τ) ∧ DevS g' τ did p.flush.d ∧ PoR g' τ pid did mid p.flush vs ids ∧ PoA P n T p.flush ∧ OutP g σ g' τ ∧ ∀ j : Int,0 ≤ j → j < P → p.flush.val j = p.val j := by
 have ev := z0z (ze cfg) (y2 cfg) σ pid 0 0
 obtain ⟨τ1,v,a1,a2,a3⟩ := zug hd r hA.k hP hm
 have cd : zi cfg (ze cfg) 19 [.ref pid 0 0] σ = some (v,τ1) := by rw [zk rfl (by kernel_rfl)]; exact a1
 have hg : ∀ i,i < σ.next → tag g σ.next 11 i = g i := fun i hi => je hi
 have hdl : p.dirts.length ≤ 100000 := by
  have h1 : p.dirts.length ≤ p.ins.length := by unfold Po.dirts; exact List.length_filter_le _ _
  have h2 : p.ins.length ≤ 100000 := by unfold Po.ins; rw [List.length_mergeSort,han]; exact hm
  omega
 obtain ⟨g',τ,b1,b2,b3,b4,b5,b6⟩ := zqe (v := v) hP hT' hdl (σ0 := σ) p.dirts.length 0 (tag g σ.next 11) τ1 p (by omega) ((hd.retag hg).mod a3 fun i hi _ => by (cases hi)) (r.mod a3 hg) hA (hL.mono (by omega) (by omega)) a2 (fun id h1 _ _ => qj h1) (fun x hx => by
  rw [ha8] at hx
  exact ins_mem.1 (List.mem_filter.1 hx).1)
 rw [zp3] at b1
 rw [ha8] at b2 b3 b4 b6
 rw [cd,za,a2.len,za,zb,b1,za] at ev
 simp only [ya,if_true,out14_3_3,a2.len,za,zb] at ev
 exact ⟨g',τ,zf (hT _) ev,b2,b3,b4,(OutP.mod a3 hg).trans b5,b6⟩
end
end Go.Pvm.S
