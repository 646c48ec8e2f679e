/- Part of the proof: the pool in the store. -/
import Derived.Test.YtceokplopachgaaPcP
set_option linter.unusedSimpArgs false
set_option linter.unusedVariables false
set_option maxRecDepth 100000
namespace Go.Pvm.S
open Go.Pvm Go.Proofs
structure Sh where
 b : By
 dirty : Bool
 place : Int
structure Po where
 d : Dv
 c : Ck
 m : List (Int × Sh)
 sy : Int
def wc (m : List (Int × Sh)) (k : Int) : Option Nat := m.findIdx? fun e => e.1 == k
def kv (m : List (Int × Sh)) (ids : List Nat) : List (PV × PV) := List.zipWith (fun e i => (.int .i64 e.1,.ref i 0 0)) m ids
theorem zxf {m : List (Int × Sh)} {ids : List Nat} (h : ids.length = m.length) : (kv m ids).length = m.length := by
 unfold kv; rw [List.length_zipWith]; omega
theorem zd8 (k : Int) : ∀ (m : List (Int × Sh)) (ids : List Nat) (j : Nat),ids.length = m.length → zfx (.int .i64 k) (kv m ids) j = some ((wc m k).map fun i => (j + i,.ref (ids.getD i 0) 0 0))
 | [],ids,j,h => by
   have : ids = [] := ha1 h
   subst this; rfl
 | e :: m,[],j,h => by cases h
 | e :: m,i :: ids,j,h => by
   have h' : ids.length = m.length := by simpa using h
   show zfx (.int .i64 k) ((.int .i64 e.1,.ref i 0 0) :: kv m ids) j = _
   unfold zfx
   simp only [if_true]
   unfold wc
   rw [List.findIdx?_cons]
   by_cases c : k = e.1
   ·rw [if_pos c,if_pos (by simpa using c.symm)]; rfl
   ·rw [if_neg c,if_neg (by simpa using fun x => c x.symm),zd8 k m ids (j + 1) h',Option.map_map]
    unfold wc
    congr 1
    cases m.findIdx? fun e => e.1 == k with
    | none => rfl
    | some x => simp only [Option.map_some,Function.comp,List.getD_cons_succ]; congr 2; omega
theorem qd {m : List (Int × Sh)} {k : Int} {i : Nat} (h : wc m k = some i) : ∃ hi : i < m.length,(m[i]).1 = k := by
 unfold wc at h
 obtain ⟨hi,h1,_⟩ := List.findIdx?_eq_some_iff_getElem.1 h
 exact ⟨hi,by simpa using h1⟩
theorem u9 {m : List (Int × Sh)} {k : Int} (h : wc m k = none) : ∀ e ∈ m,e.1 ≠ k := by
 unfold wc at h
 intro e he
 have := List.findIdx?_eq_none_iff.1 h e he
 simpa using this
theorem zcz {m : List (Int × Sh)} {k : Int} (hn : (m.map (·.1)).Nodup) {i : Nat} (hi : i < m.length) (hk : (m[i]).1 = k) : wc m k = some i := by
 cases h : wc m k with
 | none => exact absurd hk (u9 h _ (List.getElem_mem hi))
 | some j =>
   obtain ⟨hj,hjk⟩ := qd h
   congr 1
   have h1 : (m.map (·.1))[j]? = (m.map (·.1))[i]? := by rw [hav,hav,haf hi,haf hj]; simp [hjk,hk]
   exact (List.getElem?_inj (by simpa using hj) hn).1 h1
structure ShS (g : Nat → Nat) (σ : Store) (id : Nat) (s : Sh) : Prop where
 g8 : g id = 8
 lt : id < σ.next
 ob : ∃ u,σ.objs id = some (.cells 0 [[u,.bool s.dirty,.int .i64 s.place]]) ∧ IsS RB u s.b
structure PoR (g : Nat → Nat) (σ : Store) (pid did mid : Nat) (p : Po) (vs : PV) (ids : List Nat) : Prop where
 g9 : g pid = 9
 gA : g mid = 10
 lp : pid < σ.next
 lm : mid < σ.next
 po : σ.objs pid = some (.cells 0 [[.ref did 0 0,vs,.int .i64 p.c.h,.mref mid,.int .i64 p.sy]])
 sp : IsS (Fn Sp.e) vs p.c.l
 mo : σ.objs mid = some (.map (kv p.m ids))
 il : ids.length = p.m.length
 nd : ids.Nodup
 sh : ∀ (i : Nat) (hi : i < p.m.length),ShS g σ (ids.getD i 0) (p.m[i]).2
def PoS (g : Nat → Nat) (σ : Store) (pid did mid : Nat) (p : Po) : Prop := DevS g σ did p.d ∧ ∃ vs ids,PoR g σ pid did mid p vs ids
def OutP (g : Nat → Nat) (σ : Store) (g' : Nat → Nat) (τ : Store) : Prop :=
 σ.next ≤ τ.next ∧ (∀ i,i < σ.next → g' i = g i) ∧ ∀ i,i < σ.next → (g i = 7 ∨ 11 ≤ g i) → τ.objs i = σ.objs i ∨ (g i = 7 ∧ ∃ ro es,σ.objs i = some (.cells ro es) ∧ τ.objs i = some (.cells es.length es))
section
variable {g g' g2 : Nat → Nat} {σ τ υ : Store} {pid did mid id : Nat} {p : Po} {s : Sh} {vs : PV} {ids : List Nat}
theorem OutP.refl (g : Nat → Nat) (σ : Store) : OutP g σ g σ := ⟨hah _,fun _ _ => rfl,fun _ _ _ => .inl rfl⟩
theorem OutP.trans (h : OutP g σ g' τ) (k : OutP g' τ g2 υ) : OutP g σ g2 υ := by
 refine ⟨haz h.1 k.1,fun i hi => (k.2.1 i (hao hi h.1)).trans (h.2.1 i hi),fun i hi h7 => ?_⟩
 have hi' := hao hi h.1
 have h7' : g' i = 7 ∨ 11 ≤ g' i := by rw [h.2.1 i hi]; exact h7
 rcases h.2.2 i hi h7 with e | ⟨t,ro,es,e1,e2⟩
 ·rcases k.2.2 i hi' h7' with e' | ⟨t,ro,es,e1,e2⟩
  ·exact .inl (e'.trans e)
  ·exact .inr ⟨by rw [← h.2.1 i hi]; exact t,ro,es,by rw [← e]; exact e1,e2⟩
 ·rcases k.2.2 i hi' h7' with e' | ⟨_,ro',es',e1',e2'⟩
  ·exact .inr ⟨t,ro,es,e1,e'.trans e2⟩
  ·rw [e2] at e1'; cases e1'; exact .inr ⟨t,ro,es,e1,e2'⟩
theorem Out.toP (h : Out g σ g' τ) : OutP g σ g' τ := ⟨h.1,h.2.1,fun i hi h7 => h.2.2 i hi (by omega)⟩
theorem OutP.same (h : OutP g σ g' τ) {i : Nat} (hi : i < σ.next) (h8 : 11 ≤ g i) : τ.objs i = σ.objs i := by
 rcases h.2.2 i hi (.inr h8) with e | ⟨t,_⟩
 ·exact e
 ·omega
theorem OutP.put {o : Obj} (h : 8 ≤ g id ∧ g id ≤ 10) : OutP g σ g (σ.put id o) := ⟨hah _,fun _ _ => rfl,fun i hi h7 => .inl (yb fun e => by subst e; omega)⟩
theorem ShS.out (h : ShS g σ id s) (k : Out g σ g' τ) : ShS g' τ id s := by
 obtain ⟨u,h1,h2⟩ := h.ob
 exact ⟨by rw [k.2.1 id h.lt]; exact h.g8,hao h.lt k.1,u,(k.same h.lt (by rw [h.g8]; exact hah _)).trans h1,h2⟩
theorem PoR.out (h : PoR g σ pid did mid p vs ids) (k : Out g σ g' τ) (d' : Dv) : PoR g' τ pid did mid { p with d := d' } vs ids where
 g9 := by rw [k.2.1 _ h.lp]; exact h.g9
 gA := by rw [k.2.1 _ h.lm]; exact h.gA
 lp := hao h.lp k.1
 lm := hao h.lm k.1
 po := (k.same h.lp (by rw [h.g9]; decide)).trans h.po
 sp := h.sp
 mo := (k.same h.lm (by rw [h.gA]; decide)).trans h.mo
 il := h.il
 nd := h.nd
 sh := fun i hi => (h.sh i hi).out k
theorem PoR.setP (h : PoR g σ pid did mid p vs ids) {c' : Ck} {vs' : PV} {sy' : Int} (hs : IsS (Fn Sp.e) vs' c'.l) : PoR g (σ.put pid (.cells 0 [[.ref did 0 0,vs',.int .i64 c'.h,.mref mid,.int .i64 sy']])) pid did mid { p with c := c',sy := sy' } vs' ids where
 g9 := h.g9
 gA := h.gA
 lp := h.lp
 lm := h.lm
 po := xa _ _ _
 sp := hs
 mo := (yb fun e => by have h1 := h.gA; rw [e,h.g9] at h1; cases h1).trans h.mo
 il := h.il
 nd := h.nd
 sh := fun i hi => by
  obtain ⟨h1,h2,u,h3,h4⟩ := h.sh i hi
  exact ⟨h1,h2,u,(yb fun e => by have h9 := h.g9; rw [← e,h1] at h9; cases h9).trans h3,h4⟩
end
end Go.Pvm.S
