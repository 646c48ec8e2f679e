/- Part of the proof: pools are made. -/
import Derived.Test.YtceokplopachgaaPolN
set_option linter.unusedSimpArgs false
set_option linter.unusedVariables false
set_option maxRecDepth 100000
namespace Go.Pvm.S
open Go.Pvm Go.Proofs
theorem zxz {c2 : Cfg} (hm : c2.mode 36 = .pure) (hP : c2.P = Try.prog) (n : Int) (σ : Store) :
  ∃ vs,zi c2 (ze cfg) 36 [.int .i64 n] σ = some (.tuple [.agg [vs,.int .i64 (zdx n).1.h],.int .i64 (zdx n).2],σ) ∧ IsS (Fn Sp.e) vs (zdx n).1.l := by
 obtain ⟨p,h1,h2⟩ := zq7 (c2 := c2) hm hP (by kernel_rfl) (zwj n) (.cons (.base _ rfl) .nil) (fun σ => rfl) rfl σ
 cases h2 with
 | base h => cases ‹PV.base _ = true›
 | tuple h =>
   cases h with | cons a0 h => cases h with | cons a1 h =>
   cases h
   obtain ⟨vs',rfl,hv⟩ := VF.ck a0
   rw [a1.base_eq rfl] at h1
   exact ⟨vs',h1,hv⟩
theorem zx0 (i m : Nat) (v : PV) (hv : v.plain = true) (h b : Int) : jz Try.prog 49 [(0,.ref i 0 0),(1,.agg [v,.int .i64 h]),(2,.mref m),(3,.int .i64 b)] = some (.agg [.ref i 0 0,v,.int .i64 h,.mref m,.int .i64 b]) := by
 cases v <;> first | (cases hv; done) | kernel_rfl
theorem zyt (σ : Store) : qg Try.prog σ 47 none = some (.mref σ.next,σ.push (.map [])) := by
 unfold qg
 rw [tyM]
 rfl
def Po.new (d : Dv) (n : Int) : Po := ⟨d,(zdx n).1,[],d.seen.base⟩
section
variable {g : Nat → Nat} {σ : Store} {did : Nat} {d : Dv}
theorem z18 (h : DevS g σ did d) {n : Int} (hn : n < 1 ∨ 64 < n) : ∃ g' τ,ze cfg 9 [.ref did 0 0,.int .i64 n] σ = some (.tuple [.nilptr,.int .i64 1],τ) ∧ DevS g' τ did d ∧ Out g σ g' τ := by
 have ev := eq9 (ze cfg) (y2 cfg) σ did 0 0 n
 obtain ⟨vs,c1,c2⟩ := zxz (c2 := cfg) rfl rfl n σ
 have e1 : (zdx n).2 = 1 := by unfold zdx; rw [if_pos hn]
 rw [e1] at c1
 have ho : ∀ x ∈ [vs,.int .i64 (zdx n).1.h],x.plain = true := fun x hx => by
  rcases List.mem_cons.1 hx with rfl | hx
  ·exact c2.plain
  ·rw [List.mem_singleton.1 hx]; rfl
 have s1 : zu Try.prog (Store.push σ (.cells 0 [[.nilsl,(.int .i64 0)]])) 46 (.ref (Store.next σ) 0 0) (.agg [vs,.int .i64 (zdx n).1.h]) = some (σ.push (.cells 0 [[vs,.int .i64 (zdx n).1.h]])) := zne zyd rfl rfl (ww ho)
 rw [c1,za,uo,za,un,za,zb,s1,za,if_pos (by decide)] at ev
 exact ⟨g,_,zf (hT _) ev,h.push _,Out.push _ _ _⟩
theorem zwd (h : DevS g σ did d) {P : Nat} (hP : 1 ≤ P ∧ P ≤ 1000000) (hl : d.seen.pg.length = 512 * P) (hst : d.seen.st.length ≤ 1000000000) {n : Int} (hn : 1 ≤ n ∧ n ≤ 64) :
  ∃ g' τ pid mid,ze cfg 9 [.ref did 0 0,.int .i64 n] σ = some (.tuple [.ref pid 0 0,.int .i64 0],τ) ∧ DevS g' τ did d ∧ (∃ vs ids,PoR g' τ pid did mid (Po.new d n) vs ids) ∧ OutP g σ g' τ := by
 have ev := eq9 (ze cfg) (y2 cfg) σ did 0 0 n
 obtain ⟨vs,c1,c2⟩ := zxz (c2 := cfg) rfl rfl n σ
 have e1 : (zdx n).2 = 0 := by unfold zdx; rw [if_neg (by omega)]
 have eh : (zdx n).1.h = 0 := by unfold zdx; rw [if_neg (by omega)]
 rw [e1] at c1
 have ho : ∀ x ∈ [vs,.int .i64 (zdx n).1.h],x.plain = true := fun x hx => by
  rcases List.mem_cons.1 hx with rfl | hx
  ·exact c2.plain
  ·rw [List.mem_singleton.1 hx]; rfl
 have s1 : zu Try.prog (Store.push σ (.cells 0 [[.nilsl,(.int .i64 0)]])) 46 (.ref (Store.next σ) 0 0) (.agg [vs,.int .i64 (zdx n).1.h]) = some (σ.push (.cells 0 [[vs,.int .i64 (zdx n).1.h]])) := zne zyd rfl rfl (ww ho)
 have hg0 : ∀ i,i < σ.next → tag g σ.next 11 i = g i := fun i hi => je hi
 have h1 : DevS (tag g σ.next 11) (σ.push (.cells 0 [[vs,.int .i64 (zdx n).1.h]])) did d := (h.retag hg0).push _
 have pg := zak (c2 := cfg) rfl rfl h1 hl hP.2
 obtain ⟨g1,τ1,u,st1,_,_,st2,st3⟩ := zlz h1 hst
 have st1' : zi cfg (ze cfg) 34 [.ref did 0 0] (σ.push (.cells 0 [[vs,.int .i64 (zdx n).1.h]])) = some (.tuple [.int .i64 d.seen.base,u],τ1) := by rw [zk rfl (by kernel_rfl)]; exact st1
 have hk : τ1.objs σ.next = some (.cells 0 [[vs,.int .i64 (zdx n).1.h]]) := (st3.same (Nat.lt_succ_self _) (by rw [qj (Nat.le_refl _)]; decide)).trans (zn _ _)
 have ld : zd Try.prog τ1 46 (.ref σ.next 0 0) = some (.agg [vs,.int .i64 (zdx n).1.h]) := zyv aggCk hk rfl
 have P0 : ((((P : Nat) : Int)) == 0) = false := by rw [beq_eq_false_iff_ne]; omega
 have bp := zx0 did τ1.next vs c2.plain (zdx n).1.h d.seen.base
 rw [c1,za,uo,za,un,za,zb,s1,za,if_neg (by decide),pg,za,zb,P0,if_neg (by decide),st1',za,uo,za,zb,un,za,ld,za,zyt,za,bp,za] at ev
 have hkn : PV.known (.agg [.ref did 0 0,vs,.int .i64 (zdx n).1.h,.mref τ1.next,.int .i64 d.seen.base]) = true := by
  have := c2.plain
  generalize vs = v at this
  cases v <;> first | (cases this; done) | rfl
 rw [if_pos ⟨hkn,by show (5 : Nat) ≠ 0; decide⟩] at ev
 have hlt : σ.next < τ1.next := Nat.lt_of_lt_of_le (Nat.lt_succ_self _) st3.1
 let g' : Nat → Nat := fun i => if i = τ1.next + 1 then 9 else if i = τ1.next then 10 else g1 i
 have hg' : ∀ i,i < τ1.next → g' i = g1 i := fun i hi => by show (if i = τ1.next + 1 then 9 else if i = τ1.next then 10 else g1 i) = _; rw [if_neg (by omega),if_neg (by omega)]
 refine ⟨g',_,τ1.next + 1,τ1.next,zf (hT _) ev,((st2.retag hg').push _).push _,⟨vs,[],?_⟩,?_⟩
 ·exact {
   g9 := if_pos rfl
   gA := by show (if τ1.next = τ1.next + 1 then 9 else if τ1.next = τ1.next then 10 else g1 _) = 10; rw [if_neg (by omega),if_pos rfl]
   lp := Nat.lt_succ_self _
   lm := Nat.lt_succ_of_lt (Nat.lt_succ_self _)
   po := zn _ _
   sp := c2
   mo := (yj (Nat.lt_succ_self _)).trans (zn _ _)
   il := rfl
   nd := .nil
   sh := fun i hi => absurd hi (Nat.not_lt_zero _) }
 ·have o1 : OutP g σ (tag g σ.next 11) (σ.push (.cells 0 [[vs,.int .i64 (zdx n).1.h]])) := ⟨Nat.le_succ _,hg0,fun i hi _ => .inl (yj hi)⟩
  have o2 : OutP g1 τ1 g' ((τ1.push (.map [])).push (.cells 0 [[.ref did 0 0,vs,.int .i64 (zdx n).1.h,.mref τ1.next,.int .i64 d.seen.base]])) := ⟨by show τ1.next ≤ τ1.next + 1 + 1; omega,hg',fun i hi _ => .inl ((yj (Nat.lt_succ_of_lt hi)).trans (yj hi))⟩
  exact (o1.trans st3.toP).trans o2
theorem zu8 (n : Nat) : Good (List.replicate n noSp) := by
 have key : ∀ (i : Nat) (s : Sp),(List.replicate n noSp)[i]? = some s → s = noSp := fun i s hs => by
  rw [List.getElem?_replicate] at hs
  split at hs
  ·cases hs; rfl
  ·cases hs
 refine ⟨fun i s hs => .inl (key i s hs),fun i j s t hs ht h0 he => ?_⟩
 rw [key i s hs] at h0
 exact absurd h0 (by decide)
theorem CkOk.new {n : Int} (hn : 1 ≤ n ∧ n ≤ 64) : CkOk n.toNat (zdx n).1 := by
 have e : (zdx n).1 = ⟨List.replicate n.toNat noSp,0⟩ := by unfold zdx; rw [if_neg (by omega)]
 rw [e]
 exact ⟨by omega,List.length_replicate,⟨Int.le_refl _,by show (0 : Int) < _; omega⟩,zu8 n.toNat,fun s hs => by rw [List.eq_of_mem_replicate hs]; rfl⟩
theorem PoA.new {P : Nat} {T : Int} (hd : Inv P T d) {n : Int} (hn : 1 ≤ n ∧ n ≤ 64) : PoA P n.toNat T (Po.new d n) where
 k := ⟨hd,CkOk.new hn,.nil,fun e he => by cases he⟩
 cl := fun e he => by cases he
 kc := fun e he => by cases he
end
end Go.Pvm.S
