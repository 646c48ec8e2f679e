/- Part of the proof: the document's pool and the program's, plainly: they are alike step by step. -/
import Derived.Test.YtceokplopachgaaPdE
import Derived.Test.YtceokplopachgaaPolQ
set_option linter.unusedSimpArgs false
set_option linter.unusedVariables false
namespace Go.Pvm.S
open Go.Pvm Go.Proofs
theorem Sim.wrF {page : Nat} {b : By} : ∀ (k i : Nat) (d : Dv) (r : Rf),Sim d r → Sim (Go.Pvm.S.wrF page b k i d) (rwF page b k i r)
 | 0,_,_,_,h => h
 | k + 1,i,d,r,h => Sim.wrF k (i + 1) _ _ (h.wr1 (((page * 4 + i : Nat) : Int),(b.drop (i * 128)).take 128) (by show (0 : Int) ≤ ((page * 4 + i : Nat) : Int); omega))
theorem z7m : ∀ (a b : List Int),a.Pairwise (· < ·) → b.Pairwise (· < ·) → (∀ x,x ∈ a ↔ x ∈ b) → a = b
 | [],[],_,_,_ => rfl
 | [],y :: b,_,_,h => absurd ((h y).2 (.head _)) (List.not_mem_nil)
 | x :: a,[],_,_,h => absurd ((h x).1 (.head _)) (List.not_mem_nil)
 | x :: a,y :: b,ha,hb,h => by
   obtain ⟨a1,a2⟩ := List.pairwise_cons.1 ha
   obtain ⟨b1,b2⟩ := List.pairwise_cons.1 hb
   have hxy : x = y := by
    rcases ha6.1 ((h x).1 (.head _)) with e | e
    ·exact e
    ·rcases ha6.1 ((h y).2 (.head _)) with f | f
     ·exact f.symm
     ·have := b1 x e; have := a1 y f; omega
   subst hxy
   rw [z7m a b a2 b2 fun z => ⟨fun hz => by
    rcases ha6.1 ((h z).1 (.tail _ hz)) with e | e
    ·have := a1 z hz; omega
    ·exact e,fun hz => by
    rcases ha6.1 ((h z).2 (.tail _ hz)) with e | e
    ·have := b1 z hz; omega
    ·exact e⟩]
def Up (l : List (Int × Sh)) : Prop := (l.map (·.1)).Pairwise (· < ·)
theorem outR_mem {k : Int} {l : List (Int × Sh)} {e : Int × Sh} : e ∈ z6b k l ↔ e ∈ l ∧ e.1 ≠ k := by
 unfold z6b
 rw [List.mem_filter,bne_iff_ne]
theorem z7q {k : Int} {l : List (Int × Sh)} (h : Up l) : Up (z6b k l) := List.Pairwise.sublist ((List.filter_sublist).map _) h
theorem z6l (x : Int × Sh) : ∀ l : List (Int × Sh),zph x true l = (z6b x.1 l,true)
 | [] => rfl
 | e :: l => by
   unfold zph
   rw [if_neg (fun h => by cases h.1),z6l x l]
   unfold z6b
   by_cases c : e.1 = x.1
   ·rw [if_pos c,List.filter_cons_of_neg (by rw [bne_iff_ne]; exact fun h => h c)]; rfl
   ·rw [if_neg c,List.filter_cons_of_pos (by rw [bne_iff_ne]; exact c)]; rfl
theorem z6k (x e : Int × Sh) (l : List (Int × Sh)) : z5u x (e :: l) = if x.1 ≤ e.1 then x :: z6b x.1 (e :: l) else e :: z5u x l := by
 unfold z5u
 by_cases c : x.1 ≤ e.1
 ·rw [if_pos c]
  have h : zph x false (e :: l) = (x :: ((if e.1 = x.1 then [] else [e]) ++ (zph x true l).1),(zph x true l).2) := by
   rw [zph]; rw [if_pos ⟨rfl,c⟩]
  rw [h,z6l,if_pos rfl,hbj]
  unfold z6b
  by_cases c2 : e.1 = x.1
  ·rw [if_pos c2,List.filter_cons_of_neg (by rw [bne_iff_ne]; exact fun h => h c2)]; rfl
  ·rw [if_neg c2,List.filter_cons_of_pos (by rw [bne_iff_ne]; exact c2)]; rfl
 ·rw [if_neg c]
  have h : zph x false (e :: l) = ((if e.1 = x.1 then [] else [e]) ++ (zph x false l).1,(zph x false l).2) := by
   rw [zph]; rw [if_neg (fun h => c h.2)]
  rw [h,if_neg (show ¬ e.1 = x.1 by omega)]
  rfl
theorem z5c (x : Int × Sh) : ∀ (l : List (Int × Sh)) (e : Int × Sh),e ∈ z5u x l ↔ e = x ∨ (e ∈ l ∧ e.1 ≠ x.1)
 | [],e => by
   show e ∈ [] ++ [x] ↔ _
   rw [List.nil_append,ham]
   exact ⟨.inl,fun h => h.elim id fun h => absurd h.1 List.not_mem_nil⟩
 | f :: l,e => by
   rw [z6k]
   split
   ·rw [ha6,outR_mem]
   ·rename_i c
    rw [ha6,z5c x l e,ha6]
    constructor
    ·rintro (h | h | h)
     ·exact .inr ⟨.inl h,by rw [h]; omega⟩
     ·exact .inl h
     ·exact .inr ⟨.inr h.1,h.2⟩
    ·rintro (h | ⟨h | h,h2⟩)
     ·exact .inr (.inl h)
     ·exact .inl h
     ·exact .inr (.inr ⟨h,h2⟩)
theorem z58 (x : Int × Sh) : ∀ (l : List (Int × Sh)),Up l → Up (z5u x l)
 | [],_ => List.pairwise_singleton _ _
 | f :: l,h => by
   have h' : (f.1 :: l.map (·.1)).Pairwise (· < ·) := h
   obtain ⟨h1,h2⟩ := List.pairwise_cons.1 h'
   rw [z6k]
   split
   ·rename_i c
    show (x.1 :: (z6b x.1 (f :: l)).map (·.1)).Pairwise (· < ·)
    refine List.pairwise_cons.2 ⟨fun y hy => ?_,z7q h⟩
    obtain ⟨e,he,rfl⟩ := List.mem_map.1 hy
    obtain ⟨m1,m2⟩ := outR_mem.1 he
    rcases ha6.1 m1 with rfl | m1
    ·have m2 : e.1 ≠ x.1 := m2; omega
    ·have := h1 _ (List.mem_map_of_mem m1); omega
   ·rename_i c
    show (f.1 :: (z5u x l).map (·.1)).Pairwise (· < ·)
    refine List.pairwise_cons.2 ⟨fun y hy => ?_,z58 x l h2⟩
    obtain ⟨e,he,rfl⟩ := List.mem_map.1 hy
    rcases (z5c x l e).1 he with rfl | ⟨m1,_⟩
    ·omega
    ·exact h1 _ (List.mem_map_of_mem m1)
theorem Up.nd {l : List (Int × Sh)} (h : Up l) : (l.map (·.1)).Nodup := List.Pairwise.imp (fun h => by omega) h
structure Rel (p : Po) (w : Rp) : Prop where
 d : Sim p.d w.d
 c : w.c = p.c
 sy : w.sy = p.sy
 up : Up w.l
 mm : ∀ e,e ∈ w.l ↔ e ∈ p.m
section
variable {P n N : Nat} {T : Int} {p : Po} {w : Rp}
theorem z5d {l : List (Int × Sh)} (hn : (l.map (·.1)).Nodup) {k : Int} {x : Sh} (h : (k,x) ∈ l) : ∃ i,wc l k = some i ∧ l[i]? = some (k,x) := by
 obtain ⟨i,hi⟩ := hau.1 h
 have hl := (had.1 hi).1
 have he : l[i] = (k,x) := (had.1 hi).2
 exact ⟨i,zcz hn hl (by rw [he]),hi⟩
theorem z6r {l : List (Int × Sh)} {k : Int} {i : Nat} (h : wc l k = some i) : ∃ x,l[i]? = some (k,x) := by
 obtain ⟨hi,hk⟩ := qd h
 refine ⟨(l[i]).2,?_⟩
 rw [haf hi,← hk]
theorem Rel.none (h : Rel p w) {k : Int} (hq : wc p.m k = none) : wc w.l k = none := by
 cases hw : wc w.l k with
 | none => rfl
 | some j =>
   obtain ⟨x,hx⟩ := z6r hw
   exact absurd rfl (u9 hq _ ((h.mm _).1 (haj hx)))
theorem Rel.some (h : Rel p w) {k : Int} {i : Nat} (hq : wc p.m k = some i) : ∃ x j,p.m[i]? = Option.some (k,x) ∧ wc w.l k = Option.some j ∧ w.l[j]? = Option.some (k,x) := by
 obtain ⟨x,hx⟩ := z6r hq
 obtain ⟨j,h1,h2⟩ := z5d h.up.nd ((h.mm _).2 (haj hx))
 exact ⟨x,j,hx,h1,h2⟩
theorem z5p {m : List (Int × Sh)} (hn : (m.map (·.1)).Nodup) {i : Nat} {k : Int} {x y : Sh} (hi : m[i]? = Option.some (k,x)) (e : Int × Sh) : e ∈ m.set i (k,y) ↔ e = (k,y) ∨ (e ∈ m ∧ e.1 ≠ k) := by
 have hl := (had.1 hi).1
 constructor
 ·intro h
  rcases zbt h with h | ⟨j,hj,h⟩
  ·exact .inl h
  ·exact .inr ⟨haj h,zns hn hj hi h⟩
 ·rintro (rfl | ⟨h,h2⟩)
  ·exact haj (ha3 hl)
  ·obtain ⟨j,hj⟩ := hau.1 h
   have hne : i ≠ j := fun e' => by subst e'; rw [hi] at hj; cases hj; exact h2 rfl
   exact haj ((ha5 hne).trans hj)
theorem z6x {m : List (Int × Sh)} (hn : (m.map (·.1)).Nodup) {i : Nat} {k : Int} {x : Sh} (hi : m[i]? = Option.some (k,x)) (e : Int × Sh) : e ∈ m.eraseIdx i ↔ e ∈ m ∧ e.1 ≠ k := by
 constructor
 ·intro h
  obtain ⟨j,hj,h⟩ := qe h
  exact ⟨haj h,zns hn hj hi h⟩
 ·rintro ⟨h,h2⟩
  obtain ⟨j,hj⟩ := hau.1 h
  have hne : j ≠ i := fun e' => by subst e'; rw [hi] at hj; cases hj; exact h2 rfl
  exact zeu hne hj
theorem Rel.rs (h : Rel p w) (hI : Inv P T p.d) (x : Sh) : Sim (p.syn x).d (w.rs x).d ∧ (w.rs x).c = w.c ∧ (w.rs x).sy = (p.syn x).sy ∧ (w.rs x).l = w.l := by
 unfold Po.syn Rp.rs
 rw [h.sy]
 by_cases c : x.place > p.sy
 ·rw [if_pos c,if_pos c]
  have hs := h.d.sync hI
  refine ⟨hs,rfl,?_,rfl⟩
  show w.d.sync.now.base + (w.d.sync.now.st.length : Nat) = p.d.sync.seen.base + (p.d.sync.seen.st.length : Nat)
  rw [hs.n]
 ·rw [if_neg c,if_neg c]
  exact ⟨h.d,rfl,h.sy,rfl⟩
theorem Rel.wr (h : Rel p w) (hI : Inv P T p.d) (hn : (p.m.map (·.1)).Nodup) {i j : Nat} {k : Int} {x : Sh} (hi : p.m[i]? = Option.some (k,x)) (hj : w.l[j]? = Option.some (k,x)) (hd : x.dirty = true) : Rel (p.wr i k x) (w.wr j) := by
 obtain ⟨r1,r2,r3,r4⟩ := h.rs hI x
 have e : w.wr j = { w.rs x with d := rwF k.toNat x.b 4 0 (w.rs x).d,l := z5u (k,{ x with dirty := false }) w.l } := by
  unfold Rp.wr
  rw [hj]
  simp only
  rw [if_neg (by rw [hd]; decide)]
 rw [e]
 refine ⟨Sim.wrF 4 0 _ _ r1,?_,r3,z58 _ _ h.up,fun e => ?_⟩
 ·show (w.rs x).c = (p.syn x).c
  rw [r2,(p.syn_m x).2.1]; exact h.c
 ·rw [z5c,h.mm e]
  exact (z5p hn hi e).symm
theorem Rel.clean (h : Rel p w) {j : Nat} {k : Int} {x : Sh} (hj : w.l[j]? = Option.some (k,x)) (hd : x.dirty = false) : w.wr j = w := by
 unfold Rp.wr
 rw [hj]
 simp only
 rw [if_pos hd]
theorem Rel.out (h : Rel p w) (hn : (p.m.map (·.1)).Nodup) {i : Nat} {k : Int} {x : Sh} (hi : p.m[i]? = Option.some (k,x)) : Rel (p.out i) { w with l := z6b k w.l } :=
 ⟨h.d,h.c,h.sy,z7q h.up,fun e => by
  show e ∈ z6b k w.l ↔ e ∈ p.m.eraseIdx i
  rw [outR_mem,h.mm e]; exact (z6x hn hi e).symm⟩
theorem Rel.wd (h : Rel p w) (hI : Inv P T p.d) (hn : (p.m.map (·.1)).Nodup) {i j : Nat} {k : Int} {x : Sh} (hi : p.m[i]? = Option.some (k,x)) (hj : w.l[j]? = Option.some (k,x)) : Rel (if x.dirty = true then p.wr i k x else p) (w.wr j) ∧ ∃ y,(if x.dirty = true then p.wr i k x else p).m[i]? = Option.some (k,y) ∧ ((if x.dirty = true then p.wr i k x else p).m.map (·.1)).Nodup := by
 by_cases c : x.dirty = true
 ·rw [if_pos c]
  refine ⟨h.wr hI hn hi hj c,{ x with dirty := false },ha3 (had.1 hi).1,?_⟩
  show ((p.m.set i (k,{ x with dirty := false })).map (·.1)).Nodup
  rw [zg1 hi]; exact hn
 ·rw [if_neg c,h.clean hj (by simpa using c)]
  exact ⟨h,x,hi,hn⟩
theorem Rel.lv (h : Rel p w) (hI : Inv P T p.d) (hn : (p.m.map (·.1)).Nodup) (was : Int) : Rel (p.lv was) (w.lv was) := by
 unfold Po.lv Rp.lv
 cases hq : wc p.m was with
 | none => rw [h.none hq]; exact h
 | some i =>
   obtain ⟨x,j,h1,h2,h3⟩ := h.some hq
   rw [h2]
   simp only [h1]
   obtain ⟨k1,y,k2,k3⟩ := h.wd hI hn h1 h3
   exact k1.out k3 k2
theorem Rel.rd (h : Rel p w) (k : Int) : Rel (p.rd k) (w.rd k) := by
 unfold Po.rd Rp.rd
 cases hq : wc p.m k with
 | some i =>
   obtain ⟨x,j,h1,h2,h3⟩ := h.some hq
   rw [h2]
   exact h
 | none =>
   rw [h.none hq]
   have hpg : (w.d.now.pg.drop (k.toNat * 512)).take 512 = za9 p.d k := by rw [h.d.n]; rfl
   simp only [hpg]
   refine ⟨h.d,h.c,h.sy,z58 _ _ h.up,fun e => ?_⟩
   show e ∈ z5u (k,⟨za9 p.d k,false,0⟩) w.l ↔ e ∈ p.m ++ [(k,⟨za9 p.d k,false,0⟩)]
   rw [z5c,h.mm e,hbn,ham]
   constructor
   ·rintro (h | h)
    ·exact .inr h
    ·exact .inl h.1
   ·rintro (h | h)
    ·exact .inr ⟨h,u9 hq _ h⟩
    ·exact .inl h
theorem Rel.letP (h : Rel p w) (hI : Inv P T p.d) (hn : (p.m.map (·.1)).Nodup) (k : Int) : Rel (p.letP k) (w.letP k) := by
 unfold Po.letP Rp.letP
 rw [h.c]
 have h1 : Rel (p.tch k) (w.tch k) := ⟨h.d,by show (j8 w.c k).1 = (j8 p.c k).1; rw [h.c],h.sy,h.up,h.mm⟩
 exact (h1.lv hI hn _).rd k
theorem Rel.putP (h : Rel p w) (hA : PoA P n T p) (hP : P ≤ 64) {k : Int} (hk : 0 ≤ k ∧ k < P) (b : By) (place : Int) : Rel (p.putP k b place) (w.putP k b place) := by
 have h1 := h.letP hA.k.iv hA.k.nd k
 obtain ⟨h2,_,x,hx⟩ := hA.letP hP hk
 obtain ⟨i,q1,q2⟩ := z5d h2.k.nd hx
 unfold Po.putP Rp.putP
 rw [q1]
 refine ⟨h1.d,h1.c,h1.sy,z58 _ _ h1.up,fun e => ?_⟩
 show e ∈ z5u (k,⟨b,true,place⟩) (w.letP k).l ↔ e ∈ (p.letP k).m.set i (k,⟨b,true,place⟩)
 rw [z5c,h1.mm e]
 exact (z5p h2.k.nd q2 e).symm
theorem Rel.evP (h : Rel p w) (hA : PoA P n T p) (k : Int) : Rel (p.evP k) (w.evP k) := by
 unfold Po.evP Rp.evP
 cases hq : wc p.m k with
 | none => rw [h.none hq]; exact h
 | some i =>
   obtain ⟨x,j,h1,h2,h3⟩ := h.some hq
   rw [h2]
   simp only [h1]
   obtain ⟨k1,y,k2,k3⟩ := h.wd hA.k.iv hA.k.nd h1 h3
   have k4 := k1.out k3 k2
   exact ⟨k4.d,by show (w7 w.c k).1 = (w7 p.c k).1; rw [h.c],k4.sy,k4.up,k4.mm⟩
theorem Rel.keys (h : Rel p w) (hn : (p.m.map (·.1)).Nodup) : z44 w.l = p.ins := by
 refine z7m _ _ h.up (z1s hn) fun x => ?_
 rw [(z1e p).mem_iff]
 unfold z44
 rw [List.mem_map,List.mem_map]
 exact ⟨fun ⟨e,h1,h2⟩ => ⟨e,(h.mm e).1 h1,h2⟩,fun ⟨e,h1,h2⟩ => ⟨e,(h.mm e).2 h1,h2⟩⟩
theorem Rel.drts (h : Rel p w) (hn : (p.m.map (·.1)).Nodup) : z7e w.l = p.dirts := by
 unfold Po.dirts
 rw [← h.keys hn]
 unfold z7e z44
 rw [List.filter_map]
 congr 1
 refine List.filter_congr fun e he => ?_
 exact (zvf hn ((h.mm e).1 he)).symm
theorem Rel.val (h : Rel p w) (hn : (p.m.map (·.1)).Nodup) {k : Int} {x : Sh} (hx : (k,x) ∈ p.m) : ∃ j,wc w.l k = Option.some j ∧ w.val k = p.val k := by
 obtain ⟨j,h1,h2⟩ := z5d h.up.nd ((h.mm _).2 hx)
 obtain ⟨i,h3,h4⟩ := z5d hn hx
 refine ⟨j,h1,?_⟩
 unfold Rp.val Po.val
 rw [h1,h3]
 simp only
 rw [hai,h2,hai,h4]
end
end Go.Pvm.S
set_option linter.unusedSimpArgs false
set_option linter.unusedVariables false
namespace Go.Pvm.S
open Go.Pvm Go.Proofs
section
variable {P n N : Nat} {T : Int} {p : Po} {w : Rp}
theorem z6i (r : Rf) : r.sync.done.length ≤ r.done.length := by
 unfold Rf.sync
 split
 ·exact hah _
 ·exact hbe _
theorem z7l {page : Nat} {b : By} : ∀ (k i : Nat) (r : Rf),(rwF page b k i r).done.length ≤ r.done.length + k
 | 0,_,_ => hah _
 | k + 1,i,r => by
   have h1 := z7l k (i + 1) (r.act ⟨((page * 4 + i : Nat) : Int),(b.drop (i * 128)).take 128,false,0⟩) (page := page) (b := b)
   have h2 := (z5j r ⟨((page * 4 + i : Nat) : Int),(b.drop (i * 128)).take 128,false,0⟩).2.1
   show (rwF page b k (i + 1) _).done.length ≤ _
   omega
theorem z6t (w : Rp) (i : Nat) : (w.wr i).d.done.length ≤ w.d.done.length + 4 := by
 unfold Rp.wr
 cases w.l[i]? with
 | none => exact Nat.le_add_right _ _
 | some e =>
   simp only
   split
   ·exact Nat.le_add_right _ _
   ·have h1 := z7l (page := e.1.toNat) (b := e.2.b) 4 0 (w.rs e.2).d
    have h2 : (w.rs e.2).d.done.length ≤ w.d.done.length := by
     unfold Rp.rs
     split
     ·exact z6i w.d
     ·exact hah _
    show (rwF e.1.toNat e.2.b 4 0 (w.rs e.2).d).done.length ≤ _
    omega
theorem z9b (w : Rp) (was : Int) : (w.lv was).d.done.length ≤ w.d.done.length + 4 := by
 unfold Rp.lv
 cases wc w.l was with
 | none => exact Nat.le_add_right _ _
 | some i => exact z6t w i
theorem z9a (w : Rp) (k : Int) : (w.rd k).d = w.d := by
 unfold Rp.rd
 cases wc w.l k <;> rfl
theorem z6o (w : Rp) (k : Int) : (w.letP k).d.done.length ≤ w.d.done.length + 4 := by
 unfold Rp.letP
 rw [z9a]
 exact z9b (w.tch k) _
theorem z7o (w : Rp) (k : Int) (b : By) (pl : Int) : (w.putP k b pl).d.done.length ≤ w.d.done.length + 4 := z6o w k
theorem z8o (w : Rp) (k : Int) : (w.evP k).d.done.length ≤ w.d.done.length + 4 := by
 unfold Rp.evP
 cases wc w.l k with
 | none => exact Nat.le_add_right _ _
 | some i => exact z6t w i
theorem Rel.len (h : Rel p w) (hn : (p.m.map (·.1)).Nodup) : w.l.length = p.m.length := by
 have := h.keys hn
 have h2 := congrArg List.length this
 unfold z44 at h2
 rw [han,z1o] at h2
 exact h2
theorem Rel.wok (h : Rel p w) (hA : PoA P n T p) (hP : P ≤ 64) (hT : T ≤ 900000000) (hd : w.d.done.length ≤ N) (hN : N + 8 ≤ 1000000) : Wok P N n w where
 r := ⟨hP,by rw [h.d.n]; exact hA.k.iv.pl,by rw [h.d.n]; exact ⟨hA.k.iv.bs.1,by have := hA.k.iv.bs; omega⟩,by rw [h.d.n]; exact hA.k.iv.st,hd,by rw [h.d.a]; exact hA.k.iv.arm,by rw [h.d.k]; exact hA.k.iv.kl⟩
 nb := hN
 c := by rw [h.c]; exact hA.k.ck
 l := by
   have h1 := h.len hA.k.nd
   have h2 := hA.few
   have h3 := hA.k.ck.n1
   omega
 g := fun e he => hA.k.rg e ((h.mm e).1 he)
theorem Rel.short (h : Rel p w) (hA : PoA P n T p) : w.l.length ≤ 64 := by
 have h1 := h.len hA.k.nd
 have h2 := hA.few
 have h3 := hA.k.ck.n1
 omega
theorem Rel.fl : ∀ (j i : Nat) {p : Po} {w : Rp},Rel p w → PoA P n T p → i + j ≤ w.l.length →
  ∃ q,q = ((((z44 w.l).drop i).take j).filter p.dty).foldl Po.wrk p ∧ Rel q (Rp.fl j i w) ∧ PoA P n T q ∧ (Rp.fl j i w).l.length = w.l.length ∧ (Rp.fl j i w).d.done.length ≤ w.d.done.length + 4 * j
 | 0,i,p,w,h,hA,hl => ⟨p,by rw [List.take_zero]; rfl,h,hA,rfl,hah _⟩
 | j + 1,i,p,w,h,hA,hl => by
   obtain ⟨⟨k,x⟩,hj⟩ : ∃ e,w.l[i]? = Option.some e := ⟨_,haf (show i < w.l.length by omega)⟩
   have hm : (k,x) ∈ p.m := (h.mm _).1 (haj hj)
   obtain ⟨i',h1,h2⟩ := z5d hA.k.nd hm
   have hks := h.keys hA.k.nd
   have hki : (z44 w.l)[i]? = Option.some k := by unfold z44; rw [hav,hj]; rfl
   have hdr : (z44 w.l).drop i = k :: (z44 w.l).drop (i + 1) := by
    have hlt := (had.1 hki).1
    rw [hbo hlt,(had.1 hki).2]
   have hin : k ∈ p.ins := by rw [← hks]; exact haj hki
   have hup : ((z44 w.l).drop i).Pairwise (· < ·) := List.Pairwise.sublist (List.drop_sublist _ _) h.up
   rw [hdr,List.pairwise_cons] at hup
   have hdt := zvf hA.k.nd hm
   cases hd : x.dirty with
   | false =>
     have hc : w.wr i = w := h.clean hj hd
     obtain ⟨q,e1,e2,e3,e4,e5⟩ := Rel.fl j (i + 1) h hA (by omega)
     refine ⟨q,?_,?_,e3,?_,?_⟩
     ·rw [e1,hdr,List.take_succ_cons,List.filter_cons_of_neg (by rw [hdt,hd]; decide)]
     ·show Rel q (Rp.fl j (i + 1) (w.wr i)); rw [hc]; exact e2
     ·show (Rp.fl j (i + 1) (w.wr i)).l.length = _; rw [hc]; exact e4
     ·show (Rp.fl j (i + 1) (w.wr i)).d.done.length ≤ _; rw [hc]; omega
   | true =>
     have r1 := h.wr hA.k.iv hA.k.nd h2 hj hd
     obtain ⟨i2,a1,a2,a3⟩ := ztd hA.k.nd hm
     have hii : i2 = i' := by rw [h1] at a1; exact (Option.some.inj a1).symm
     subst hii
     obtain ⟨w1,w2,w3⟩ := z1n hA hin
     rw [← a3] at r1
     have hk2 : z44 (w.wr i).l = z44 w.l := by rw [r1.keys w1.k.nd,w2,hks]
     have hlen : (w.wr i).l.length = w.l.length := by
      have := congrArg List.length hk2
      unfold z44 at this
      rw [han,han] at this
      exact this
     obtain ⟨q,e1,e2,e3,e4,e5⟩ := Rel.fl j (i + 1) r1 w1 (by omega)
     have hdn := z6t w i
     refine ⟨q,?_,e2,e3,e4.trans hlen,by show (Rp.fl j (i + 1) (w.wr i)).d.done.length ≤ _; omega⟩
     rw [e1,hdr,List.take_succ_cons,List.filter_cons_of_pos (by rw [hdt,hd]),hk2]
     show _ = (List.filter p.dty (List.take j ((z44 w.l).drop (i + 1)))).foldl Po.wrk (p.wrk k)
     congr 1
     refine List.filter_congr fun y hy => ?_
     have hy1 : y ∈ (z44 w.l).drop (i + 1) := hbr hy
     have hyi : y ∈ p.ins := by rw [← hks]; exact hbu hy1
     rw [w3 y hyi,if_neg]
     have := hup.1 y hy1
     omega
theorem Rel.flush (h : Rel p w) (hA : PoA P n T p) : Rel p.flush (Rp.fl w.l.length 0 w) ∧ (Rp.fl w.l.length 0 w).d.done.length ≤ w.d.done.length + 4 * w.l.length := by
 obtain ⟨q,e1,e2,e3,e4,e5⟩ := Rel.fl w.l.length 0 h hA (by omega)
 have hk : (z44 w.l).length = w.l.length := by unfold z44; rw [han]
 rw [ha8,hbi (by omega),h.keys hA.k.nd] at e1
 have : q = p.flush := e1
 rw [← this]
 exact ⟨e2,e5⟩
theorem Rel.flok (h : Rel p w) (hA : PoA P n T p) (hP : P ≤ 64) (hT : T ≤ 900000000) (hd : w.d.done.length ≤ N) (hN : N + 4 * w.l.length + 8 ≤ 1000000) : ∀ (j : Nat),j ≤ w.l.length → Wok P (N + 4 * j) n (Rp.fl j 0 w) ∧ (Rp.fl j 0 w).l.length = w.l.length := fun j hj => by
 obtain ⟨q,e1,e2,e3,e4,e5⟩ := Rel.fl j 0 h hA (by omega)
 exact ⟨e2.wok e3 hP hT (by omega) (by omega),e4⟩
end
end Go.Pvm.S
