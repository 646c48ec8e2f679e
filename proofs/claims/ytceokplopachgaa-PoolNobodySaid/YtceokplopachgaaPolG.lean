/- Part of the proof: the pool: a page read, put, let out. -/
import Derived.Test.YtceokplopachgaaPolF
set_option linter.unusedSimpArgs false
set_option linter.unusedVariables false
set_option maxRecDepth 100000
namespace Go.Pvm.S
open Go.Pvm Go.Proofs
section
variable {g g' : Nat → Nat} {σ τ : Store} {pid did mid : Nat} {p : Po} {vs u : PV} {ids : List Nat} {b : By}
theorem nvR (i : Nat) : zc2 (.ref i 0 0) = some (.ref i 0 0) := rfl
theorem PoR.mod (r : PoR g σ pid did mid p vs ids) (m : Mod σ τ []) (hg : ∀ i,i < σ.next → g' i = g i) : PoR g' τ pid did mid p vs ids where
 g9 := by rw [hg _ r.lp]; exact r.g9
 gA := by rw [hg _ r.lm]; exact r.gA
 lp := Nat.lt_of_lt_of_le r.lp m.1
 lm := Nat.lt_of_lt_of_le r.lm m.1
 po := (m.2 _ r.lp (by simp)).trans r.po
 sp := r.sp
 mo := (m.2 _ r.lm (by simp)).trans r.mo
 il := r.il
 nd := r.nd
 sh := fun i hi => by
  obtain ⟨s1,s2,v,s3,s4⟩ := r.sh i hi
  exact ⟨by rw [hg _ s2]; exact s1,Nat.lt_of_lt_of_le s2 m.1,v,(m.2 _ s2 (by simp)).trans s3,s4⟩
def Po.val (p : Po) (k : Int) : By := match wc p.m k with
 | some i => (p.m.getD i (0,⟨[],false,0⟩)).2.b
 | none => za9 p.d k
theorem zk1 {m : List (Int × Sh)} {i : Nat} (hi : i < m.length) : m.getD i (0,⟨[],false,0⟩) = m[i] := by rw [List.getD_eq_getElem?_getD,List.getElem?_eq_getElem hi]; rfl
def Po.putP (p : Po) (k : Int) (b : By) (place : Int) : Po := match wc (p.letP k).m k with
 | some i => { p.letP k with m := (p.letP k).m.set i (k,⟨b,true,place⟩) }
 | none => p.letP k
theorem zwc (hd : DevS g σ did p.d) (r : PoR g σ pid did mid p vs ids) {P n : Nat} {T : Int} (hK : PoK P n T p) (hP : P ≤ 64) (hT' : T ≤ 900000000) (hw : p.d.ws.length + 4 ≤ 1000000) (ht : p.d.ts.length ≤ 1000000) {k : Int} (hk : 0 ≤ k ∧ k < P) (hu : IsS RB u b) (hb : b.length = 512) (place : Int) :
  ∃ g' τ vs' ids',ze cfg 12 [.ref pid 0 0,.int .i64 k,u,.int .i64 place] σ = some (.int .i64 0,τ) ∧ DevS g' τ did (p.putP k b place).d ∧ PoR g' τ pid did mid (p.putP k b place) vs' ids' ∧ OutP g σ g' τ := by
 have ev := zzz (ze cfg) (y2 cfg) σ pid 0 0 k u place
 have h1 := zvk (c2 := zf2) rfl rfl ⟨hd,vs,ids,r⟩
 have hpg := zak (c2 := zf2) rfl rfl hd hK.iv.pl (by omega)
 obtain ⟨g1,τ1,vs',ids',i,a1,a2,a3,a4,a5⟩ := zwf hd r hK hP hT' hw ht hk (hK.ck.touch hk.1 (by omega)).1
 have cl : zi zf2 (ze cfg) 39 [.ref pid 0 0,.int .i64 k] σ = some (.ref (ids'.getD i 0) 0 0,τ1) := by rw [zk rfl (by kernel_rfl)]; exact a1
 unfold Po.putP
 rw [a2]
 simp only
 generalize p.letP k = q at a2 a3 a4 ⊢
 obtain ⟨hi,hkey⟩ := qd a2
 have hge : q.m[i]? = some (k,(q.m[i]).2) := by rw [List.getElem?_eq_getElem hi,← hkey]
 obtain ⟨g8,lt8,u0,ob,hu0⟩ := a4.sh i hi
 obtain ⟨u1,j1,j2⟩ := zrb (c2 := zf2) rfl rfl hu (by omega) τ1
 have s1 := zbi (σ := τ1) (off := 0) (v := u1) otB ob (by show 0 < 3; decide) (by have h9 := j2.plain; cases u1 <;> first | rfl | cases h9) (wx j2.plain)
 have s2 := zbi (σ := τ1.put (ids'.getD i 0) (.cells 0 [[u1,.bool (q.m[i]).2.dirty,.int .i64 (q.m[i]).2.place]])) (off := 1) (v := .bool true) oBool (xa _ _ _) (by show 1 < 3; decide) rfl rfl
 rw [zel] at s2
 have s3 := zbi (σ := τ1.put (ids'.getD i 0) (.cells 0 [[u1,.bool true,.int .i64 (q.m[i]).2.place]])) (off := 2) (v := .int .i64 place) oInt (xa _ _ _) (by show 2 < 3; decide) rfl rfl
 rw [zel] at s3
 have e1 : [u0,.bool (q.m[i]).2.dirty,.int .i64 (q.m[i]).2.place].set 0 u1 = [u1,.bool (q.m[i]).2.dirty,.int .i64 (q.m[i]).2.place] := rfl
 have e2 : [u1,.bool (q.m[i]).2.dirty,.int .i64 (q.m[i]).2.place].set 1 (.bool true) = [u1,.bool true,.int .i64 (q.m[i]).2.place] := rfl
 have e3 : [u1,.bool true,.int .i64 (q.m[i]).2.place].set 2 (.int .i64 place) = [u1,.bool true,.int .i64 place] := rfl
 rw [e1] at s1
 rw [e2] at s2
 rw [e3] at s3
 have n5 : (((512 : Nat) : Int) != 512) = false := rfl
 rw [h1,za,zc,if_neg (by decide),if_neg (by simp; omega),r.ldD,za,hpg,za,zb,if_neg (by simp; omega),hu.len TB,za,zb,hb,if_neg (by rw [n5]; decide),cl,za,j1,za,nvR,za,(zvc _).1,za,s1,za,za,(zvc _).2.1,za,s2,za,za,(zvc _).2.2,za,s3,za] at ev
 have r2 := a4.setSh (y := ⟨b,true,place⟩) hge j2
 exact ⟨g1,_,vs',ids',zf (hT _) ev,a3.mod (Mod.put (ids := [ids'.getD i 0]) (.head _)) fun j hj _ => by rw [List.mem_singleton.1 hj,g8]; decide,r2,a5.trans (OutP.put (by rw [g8]; decide))⟩
theorem zua (hd : DevS g σ did p.d) (r : PoR g σ pid did mid p vs ids) {P : Nat} (hl : p.d.seen.pg.length = 512 * P) (hP : P ≤ 64) {k : Int} (hu : IsS RB u b) (hbl : b.length < 4611686018427387904) (place : Int) (hk : k < 0 ∨ P ≤ k ∨ b.length ≠ 512) : ze cfg 12 [.ref pid 0 0,.int .i64 k,u,.int .i64 place] σ = some (.int .i64 (if 0 ≤ k ∧ k < P then 1 else 3),σ) := by
 have ev := zzz (ze cfg) (y2 cfg) σ pid 0 0 k u place
 have h1 := zvk (c2 := zf2) rfl rfl ⟨hd,vs,ids,r⟩
 have hpg := zak (c2 := zf2) rfl rfl hd hl (by omega)
 rw [h1,za,zc,if_neg (by decide)] at ev
 by_cases c : k < 0
 ·rw [if_pos (decide_eq_true c)] at ev
  rw [if_neg (by omega)]
  exact zf (hT _) ev
 ·rw [if_neg (by simpa using c),r.ldD,za,hpg,za,zb] at ev
  by_cases c2 : (P : Int) ≤ k
  ·rw [if_pos (decide_eq_true c2)] at ev
   rw [if_neg (by omega)]
   exact zf (hT _) ev
  ·rw [if_neg (by simp; omega),hu.len TB,za,zb,if_pos (by simp; omega)] at ev
   rw [if_pos (by omega)]
   exact zf (hT _) ev
theorem Po.wr_c (p : Po) (i : Nat) (k : Int) (x : Sh) : (p.wr i k x).c = p.c := by unfold Po.wr Po.syn; split <;> rfl
end
end Go.Pvm.S
