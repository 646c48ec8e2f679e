/- Part of the proof: the pool: a page read, put, let out. -/
import Derived.Test.YtceokplopachgaaPolF
set_option linter.unusedSimpArgs false
set_option linter.unusedVariables false
set_option maxRecDepth 100000
namespace Go.Pvm.S
open Go.Pvm Go.Proofs
section
variable {g g' : Nat → Nat} {σ τ : Store} {pid did mid : Nat} {p : Po} {vs u : PV} {ids : List Nat} {b : By}
theorem nvR (i : Nat) : zc2 (.ref i 0 0) = some (.ref i 0 0) := rfl
theorem zud (hd : DevS g σ did p.d) (r : PoR g σ pid did mid p vs ids) {P : Nat} (hl : p.d.seen.pg.length = 512 * P) (hP : P ≤ 64) {k : Int} (hk : k < 0 ∨ P ≤ k) : ze cfg 39 [.ref pid 0 0,.int .i64 k] σ = some (.nilptr,σ) := by
 have ev := zxu σ pid k
 have h1 := zvk (c2 := cfg) rfl rfl ⟨hd,vs,ids,r⟩
 have hpg := zak (c2 := cfg) rfl rfl hd hl (by omega)
 rw [h1,za,zc,if_neg (by decide)] at ev
 by_cases c : k < 0
 ·rw [if_pos (decide_eq_true c)] at ev
  exact zf (hT _) ev
 ·rw [if_neg (by simpa using c),r.ldD,za,hpg,za,zb,if_pos (decide_eq_true (by omega))] at ev
  exact zf (hT _) ev
theorem PoR.mod (r : PoR g σ pid did mid p vs ids) (m : Mod σ τ []) (hg : ∀ i,i < σ.next → g' i = g i) : PoR g' τ pid did mid p vs ids where
 g9 := by rw [hg _ r.lp]; exact r.g9
 gA := by rw [hg _ r.lm]; exact r.gA
 lp := hao r.lp m.1
 lm := hao r.lm m.1
 po := (m.2 _ r.lp (by simp)).trans r.po
 sp := r.sp
 mo := (m.2 _ r.lm (by simp)).trans r.mo
 il := r.il
 nd := r.nd
 sh := fun i hi => by
  obtain ⟨s1,s2,v,s3,s4⟩ := r.sh i hi
  exact ⟨by rw [hg _ s2]; exact s1,hao s2 m.1,v,(m.2 _ s2 (by simp)).trans s3,s4⟩
theorem OutP.mod (m : Mod σ τ []) (hg : ∀ i,i < σ.next → g' i = g i) : OutP g σ g' τ := ⟨m.1,hg,fun i hi _ => .inl (m.2 i hi (by simp))⟩
def Po.val (p : Po) (k : Int) : By := match wc p.m k with
 | some i => (p.m.getD i (0,⟨[],false,0⟩)).2.b
 | none => za9 p.d k
theorem zk1 {m : List (Int × Sh)} {i : Nat} (hi : i < m.length) : m.getD i (0,⟨[],false,0⟩) = m[i] := by rw [hai,haf hi]; rfl
theorem zub (hd : DevS g σ did p.d) (r : PoR g σ pid did mid p vs ids) {P n : Nat} {T : Int} (hK : PoK P n T p) (hP : P ≤ 64) (hT' : T ≤ 900000000) (hw : p.d.ws.length + 4 ≤ 1000000) (ht : p.d.ts.length ≤ 1000000) {k : Int} (hk : 0 ≤ k ∧ k < P) (hb : ((p.letP k).val k).length = 512) :
  ∃ g' τ vs' ids' u,ze cfg 16 [.ref pid 0 0,.int .i64 k] σ = some (.tuple [u,.int .i64 0],τ) ∧ AxS RB τ 1 u ((p.letP k).val k) ∧ (∀ i ∈ tops u,g' i = 7) ∧ DevS g' τ did (p.letP k).d ∧ PoR g' τ pid did mid (p.letP k) vs' ids' ∧ OutP g σ g' τ := by
 have ev := zzy (ze cfg) (y2 cfg) σ pid 0 0 k
 obtain ⟨g1,τ1,vs',ids',i,a1,a2,a3,a4,a5⟩ := zwf hd r hK hP hT' hw ht hk (hK.ck.touch hk.1 (by omega)).1
 have cl : zi cfg (ze cfg) 39 [.ref pid 0 0,.int .i64 k] σ = some (.ref (ids'.getD i 0) 0 0,τ1) := by rw [zk rfl (by kernel_rfl)]; exact a1
 generalize p.letP k = q at a2 a3 a4 hb ⊢
 obtain ⟨hi,hkey⟩ := qd a2
 obtain ⟨g8,lt8,u0,ob,hu⟩ := a4.sh i hi
 have hv : q.val k = (q.m[i]).2.b := by unfold Po.val; rw [a2]; simp only [zk1 hi]
 rw [hv] at hb ⊢
 have ldb : zd Try.prog τ1 33 (.ref (ids'.getD i 0) 0 0) = some u0 := qc otB ob rfl
 obtain ⟨u,τ2,j1,j2,j3,j4,_⟩ := zra (c2 := cfg) rfl rfl (sz := 1) (hu.q τ1 1) (by omega)
 rw [cl,za,(zya _ _ _).2,za,zc,if_neg (by decide),nvR,za,(zvc _).1,za,ldb,za,j1,za] at ev
 have hg : ∀ j,j < τ1.next → tag g1 τ1.next 7 j = g1 j := fun j hj => je hj
 exact ⟨tag g1 τ1.next 7,τ2,vs',ids',u,zf (hT _) ev,j4,fun j hj => qj (j3 j hj).1,(a3.retag hg).mod j2 fun j hj _ => by (cases hj),a4.mod j2 hg,a5.trans (OutP.mod j2 hg)⟩
theorem zpd (hd : DevS g σ did p.d) (r : PoR g σ pid did mid p vs ids) {P : Nat} (hl : p.d.seen.pg.length = 512 * P) (hP : P ≤ 64) {k : Int} (hk : k < 0 ∨ P ≤ k) : ze cfg 16 [.ref pid 0 0,.int .i64 k] σ = some (.tuple [.nilsl,.int .i64 3],σ) := by
 have ev := zzy (ze cfg) (y2 cfg) σ pid 0 0 k
 have cl : zi cfg (ze cfg) 39 [.ref pid 0 0,.int .i64 k] σ = some (.nilptr,σ) := by rw [zk rfl (by kernel_rfl)]; exact zud hd r hl hP hk
 rw [cl,za,nilSh.2,za,zc,if_pos (by decide)] at ev
 exact zf (hT _) ev
def Po.putP (p : Po) (k : Int) (b : By) (place : Int) : Po := match wc (p.letP k).m k with
 | some i => { p.letP k with m := (p.letP k).m.set i (k,⟨b,true,place⟩) }
 | none => p.letP k
theorem zwc (hd : DevS g σ did p.d) (r : PoR g σ pid did mid p vs ids) {P n : Nat} {T : Int} (hK : PoK P n T p) (hP : P ≤ 64) (hT' : T ≤ 900000000) (hw : p.d.ws.length + 4 ≤ 1000000) (ht : p.d.ts.length ≤ 1000000) {k : Int} (hk : 0 ≤ k ∧ k < P) (hu : IsS RB u b) (hb : b.length = 512) (place : Int) :
  ∃ g' τ vs' ids',ze cfg 12 [.ref pid 0 0,.int .i64 k,u,.int .i64 place] σ = some (.int .i64 0,τ) ∧ DevS g' τ did (p.putP k b place).d ∧ PoR g' τ pid did mid (p.putP k b place) vs' ids' ∧ OutP g σ g' τ := by
 have ev := zzz (ze cfg) (y2 cfg) σ pid 0 0 k u place
 have h1 := zvk (c2 := zf2) rfl rfl ⟨hd,vs,ids,r⟩
 have hpg := zak (c2 := zf2) rfl rfl hd hK.iv.pl (by omega)
 obtain ⟨g1,τ1,vs',ids',i,a1,a2,a3,a4,a5⟩ := zwf hd r hK hP hT' hw ht hk (hK.ck.touch hk.1 (by omega)).1
 have cl : zi zf2 (ze cfg) 39 [.ref pid 0 0,.int .i64 k] σ = some (.ref (ids'.getD i 0) 0 0,τ1) := by rw [zk rfl (by kernel_rfl)]; exact a1
 unfold Po.putP
 rw [a2]
 simp only
 generalize p.letP k = q at a2 a3 a4 ⊢
 obtain ⟨hi,hkey⟩ := qd a2
 have hge : q.m[i]? = some (k,(q.m[i]).2) := by rw [haf hi,← hkey]
 obtain ⟨g8,lt8,u0,ob,hu0⟩ := a4.sh i hi
 obtain ⟨u1,j1,j2⟩ := zrb (c2 := zf2) rfl rfl hu (by omega) τ1
 have s1 := zbi (σ := τ1) (off := 0) (v := u1) otB ob (by show 0 < 3; decide) (by have h9 := j2.plain; cases u1 <;> first | rfl | cases h9) (wx j2.plain)
 have s2 := zbi (σ := τ1.put (ids'.getD i 0) (.cells 0 [[u1,.bool (q.m[i]).2.dirty,.int .i64 (q.m[i]).2.place]])) (off := 1) (v := .bool true) oBool (xa _ _ _) (by show 1 < 3; decide) rfl rfl
 rw [zel] at s2
 have s3 := zbi (σ := τ1.put (ids'.getD i 0) (.cells 0 [[u1,.bool true,.int .i64 (q.m[i]).2.place]])) (off := 2) (v := .int .i64 place) oInt (xa _ _ _) (by show 2 < 3; decide) rfl rfl
 rw [zel] at s3
 have e1 : [u0,.bool (q.m[i]).2.dirty,.int .i64 (q.m[i]).2.place].set 0 u1 = [u1,.bool (q.m[i]).2.dirty,.int .i64 (q.m[i]).2.place] := rfl
 have e2 : [u1,.bool (q.m[i]).2.dirty,.int .i64 (q.m[i]).2.place].set 1 (.bool true) = [u1,.bool true,.int .i64 (q.m[i]).2.place] := rfl
 have e3 : [u1,.bool true,.int .i64 (q.m[i]).2.place].set 2 (.int .i64 place) = [u1,.bool true,.int .i64 place] := rfl
 rw [e1] at s1
 rw [e2] at s2
 rw [e3] at s3
 have n5 : (((512 : Nat) : Int) != 512) = false := rfl
 rw [h1,za,zc,if_neg (by decide),if_neg (by simp; omega),r.ldD,za,hpg,za,zb,if_neg (by simp; omega),hu.len TB,za,zb,hb,if_neg (by rw [n5]; decide),cl,za,j1,za,nvR,za,(zvc _).1,za,s1,za,za,(zvc _).2.1,za,s2,za,za,(zvc _).2.2,za,s3,za] at ev
 have r2 := a4.setSh (y := ⟨b,true,place⟩) hge j2
 exact ⟨g1,_,vs',ids',zf (hT _) ev,a3.mod (Mod.put (ids := [ids'.getD i 0]) (.head _)) fun j hj _ => by rw [ham.1 hj,g8]; decide,r2,a5.trans (OutP.put (by rw [g8]; decide))⟩
theorem zua (hd : DevS g σ did p.d) (r : PoR g σ pid did mid p vs ids) {P : Nat} (hl : p.d.seen.pg.length = 512 * P) (hP : P ≤ 64) {k : Int} (hu : IsS RB u b) (hbl : b.length < 4611686018427387904) (place : Int) (hk : k < 0 ∨ P ≤ k ∨ b.length ≠ 512) : ze cfg 12 [.ref pid 0 0,.int .i64 k,u,.int .i64 place] σ = some (.int .i64 (if 0 ≤ k ∧ k < P then 1 else 3),σ) := by
 have ev := zzz (ze cfg) (y2 cfg) σ pid 0 0 k u place
 have h1 := zvk (c2 := zf2) rfl rfl ⟨hd,vs,ids,r⟩
 have hpg := zak (c2 := zf2) rfl rfl hd hl (by omega)
 rw [h1,za,zc,if_neg (by decide)] at ev
 by_cases c : k < 0
 ·rw [if_pos (decide_eq_true c)] at ev
  rw [if_neg (by omega)]
  exact zf (hT _) ev
 ·rw [if_neg (by simpa using c),r.ldD,za,hpg,za,zb] at ev
  by_cases c2 : (P : Int) ≤ k
  ·rw [if_pos (decide_eq_true c2)] at ev
   rw [if_neg (by omega)]
   exact zf (hT _) ev
  ·rw [if_neg (by simp; omega),hu.len TB,za,zb,if_pos (by simp; omega)] at ev
   rw [if_pos (by omega)]
   exact zf (hT _) ev
def Po.evP (p : Po) (k : Int) : Po := match wc p.m k with
 | none => p
 | some i => match p.m[i]? with
   | none => p
   | some e => ({ (if e.2.dirty = true then p.wr i k e.2 else p) with c := (w7 p.c k).1 } : Po).out i
theorem Po.wr_c (p : Po) (i : Nat) (k : Int) (x : Sh) : (p.wr i k x).c = p.c := by unfold Po.wr Po.syn; split <;> rfl
noncomputable def evT (pid : Nat) (k : Int) (σ : Store) : Option (PV × Store) := (zd Try.prog σ 46 (.ref pid 0 (0 + 1))).bind fun v13 => (zi cfg (ze cfg) 42 [v13,(.int .i64 k)] σ).bind fun r14 => (ka r14.1 0).bind fun v15 => (ka r14.1 1).bind fun v16 => asInt .i64 v16 fun n17 => (zu Try.prog r14.2 46 (.ref pid 0 (0 + 1)) v15).bind fun s18 => (zd Try.prog s18 47 (.ref pid 0 (0 + 3))).bind fun v19 => (y7 Try.prog s18 .delete [47,3] [v19,(.int .i64 k)]).bind fun r20 => some ((.int .i64 0),r20.2)
theorem z0h (σ : Store) (pid : Nat) (k : Int) : qa cfg (ze cfg) (y2 cfg) 15 [(.ref pid 0 0),(.int .i64 k)] σ =
  (zi cfg (ze cfg) 38 [(.ref pid 0 0)] σ).bind fun r0 => asBool r0.1 fun b1 => if (!b1) = true then (some ((.int .i64 3),r0.2)) else ((zd Try.prog r0.2 47 (.ref pid 0 (0 + 3))).bind fun v2 => (js Try.prog r0.2 47 v2 (.int .i64 k) false).bind fun v3 => (j9 Try.prog .eql 89 v3 .nilptr).bind fun v4 => asBool v4 fun b5 => if b5 = true then (some ((.int .i64 3),r0.2)) else ((zd Try.prog r0.2 47 (.ref pid 0 (0 + 3))).bind fun v6 => (js Try.prog r0.2 47 v6 (.int .i64 k) false).bind fun v7 => (zc2 v7).bind fun v8 => (zj Try.prog 92 v8 1).bind fun v9 => (zd Try.prog r0.2 4 v9).bind fun v10 => asBool v10 fun b11 => if b11 = true then ((zi cfg (ze cfg) 41 [(.ref pid 0 0),(.int .i64 k),v7] r0.2).bind fun r12 => evT pid k r12.2) else evT pid k r0.2)) := by
 unfold evT
 exact z0y _ _ σ pid 0 0 k
theorem ztv (hd : DevS g σ did p.d) (r : PoR g σ pid did mid p vs ids) (hc : p.c.l.length ≤ 100) {k : Int} {i : Nat} (hq : wc p.m k = some i) :
  ∃ τ vs' ids',evT pid k σ = some (.int .i64 0,τ) ∧ DevS g τ did p.d ∧ PoR g τ pid did mid (({ p with c := (w7 p.c k).1 } : Po).out i) vs' ids' ∧ OutP g σ g τ := by
 obtain ⟨vs',t1,t2⟩ := zxx (c2 := cfg) rfl rfl r.sp hc k σ
 have s2 := zv7 r (c' := (w7 p.c k).1) t2.plain
 have r2 := r.setP (c' := (w7 p.c k).1) (sy' := p.sy) t2
 obtain ⟨hi,_⟩ := qd hq
 unfold evT
 rw [r.clk,za,t1,za,uo,za,un,za,zb,s2,za,r2.ldM,za,zzk r2 hq,za]
 have r3 := r2.del hi
 have d3 := (hd.mod (Mod.put (ids := [pid]) (σ := σ) (o := .cells 0 [[.ref did 0 0,vs',.int .i64 (w7 p.c k).1.h,.mref mid,.int .i64 p.sy]]) (.head _)) fun j hj _ => by rw [ham.1 hj,r.g9]; decide)
 exact ⟨_,vs',ids.eraseIdx i,rfl,d3.mod (Mod.put (ids := [mid]) (.head _)) fun j hj _ => by rw [ham.1 hj,r.gA]; decide,r3,(OutP.put (by rw [r.g9]; decide)).trans (OutP.put (by rw [r.gA]; decide))⟩
theorem zuf (hd : DevS g σ did p.d) (r : PoR g σ pid did mid p vs ids) {P n : Nat} {T : Int} (hK : PoK P n T p) (hT' : T ≤ 900000000) (hw : p.d.ws.length + 4 ≤ 1000000) (ht : p.d.ts.length ≤ 1000000) (k : Int) :
  ∃ g' τ vs' ids',ze cfg 15 [.ref pid 0 0,.int .i64 k] σ = some (.int .i64 (if (wc p.m k).isSome = true then 0 else 3),τ) ∧ DevS g' τ did (p.evP k).d ∧ PoR g' τ pid did mid (p.evP k) vs' ids' ∧ OutP g σ g' τ := by
 have ev := z0h σ pid k
 have h1 := zvk (c2 := cfg) rfl rfl ⟨hd,vs,ids,r⟩
 have hc : p.c.l.length ≤ 100 := by rw [hK.ck.ln]; have := hK.ck.n1; omega
 have lo := zqj r k
 rw [h1,za,zc,if_neg (by decide),r.ldM,za,lo,za] at ev
 cases hq : wc p.m k with
 | none =>
   rw [hq] at ev
   have he : p.evP k = p := by unfold Po.evP; rw [hq]
   rw [show zrm ids none = .nilptr from rfl,nilSh.2,za,zc,if_pos (by decide)] at ev
   rw [he]
   exact ⟨g,σ,vs,ids,zf (hT _) ev,hd,r,OutP.refl _ _⟩
 | some i =>
   rw [hq] at ev
   obtain ⟨hi,hkey⟩ := qd hq
   have hg := haf hi
   obtain ⟨e,hee⟩ : ∃ e,p.m[i] = e := ⟨_,rfl⟩
   rw [hee] at hg hkey
   obtain ⟨g8,lt8,u,ob,hu⟩ := r.sh i hi
   rw [hee] at ob hu
   have hm := hK.rg e (haj hg)
   have ldb : zd Try.prog σ 4 (.ref (ids.getD i 0) 0 1) = some (.bool e.2.dirty) := qc oBool ob rfl
   rw [hq] at lo
   rw [show zrm ids (some i) = .ref (ids.getD i 0) 0 0 from rfl,(zya _ _ _).2,za,zc,if_neg (by decide),za,lo,za,show zrm ids (some i) = .ref (ids.getD i 0) 0 0 from rfl,nvR,za,(zvc _).2.1,za,ldb,za,zc] at ev
   have hge : p.m[i]? = some (k,e.2) := by rw [hg,← hkey]
   have he : p.evP k = ({ (if e.2.dirty = true then p.wr i k e.2 else p) with c := (w7 p.c k).1 } : Po).out i := by unfold Po.evP; rw [hq]; simp only [hg]
   rw [he]
   by_cases c : e.2.dirty = true
   ·rw [if_pos c] at ev ⊢
    obtain ⟨g1,τ1,a1,a2,a3,a4⟩ := zyh hd r hK.iv hT' hw ht hge (by rw [← hkey]; exact ⟨hm.1,hm.2.1⟩) hm.2.2
    have cw : zi cfg (ze cfg) 41 [.ref pid 0 0,.int .i64 k,.ref (ids.getD i 0) 0 0] σ = some (.tuple [],τ1) := by rw [zk rfl (by kernel_rfl)]; exact a1
    rw [cw,za] at ev
    have hq1 : wc (p.wr i k e.2).m k = some i := (zg9 hge k).trans hq
    obtain ⟨τ,vs',ids',b1,b2,b3,b4⟩ := ztv a2 a3 (by rw [Po.wr_c]; exact hc) hq1
    rw [Po.wr_c] at b3
    exact ⟨g1,τ,vs',ids',zf (hT _) (ev.trans b1),b2,b3,a4.trans b4⟩
   ·rw [if_neg c] at ev ⊢
    obtain ⟨τ,vs',ids',b1,b2,b3,b4⟩ := ztv hd r hc hq
    exact ⟨g,τ,vs',ids',zf (hT _) (ev.trans b1),b2,b3,b4⟩
end
end Go.Pvm.S
