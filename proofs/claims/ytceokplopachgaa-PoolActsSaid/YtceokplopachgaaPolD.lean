/- Part of the proof: the pool: a page is let in. -/
import Derived.Test.YtceokplopachgaaPolC
import Derived.Test.YtceokplopachgaaPolK
set_option linter.unusedSimpArgs false
set_option linter.unusedVariables false
set_option maxRecDepth 100000
namespace Go.Pvm.S
open Go.Pvm Go.Proofs
theorem Sp.base (s : Sp) : s.e.all PV.base = true := rfl
theorem All2.inv {α : Type} {e : α → List PV} : ∀ {es : List (List PV)} {l : List α},All2 (Fn e) es l → es = l.map e
 | _,_,.nil => rfl
 | _,_,.cons h t => by rw [All2.inv t,show _ = e _ from h]; rfl
theorem IsS.vfS {vs : PV} {l : List Sp} (h : IsS (Fn Sp.e) vs l) : VF (sps l) vs := by
 obtain ⟨es,h1,h2⟩ := h
 have he := All2.inv h2
 rcases h1 with ⟨rfl,h3⟩ | ⟨c,rfl⟩
 ·unfold sps; rw [← he,h3]; exact .nl false
 ·rw [he]; exact .psl false c (zfn (fun a => .cons (.base _ rfl) (.cons (.base _ rfl) (.cons (.base _ rfl) .nil))) l)
theorem VF.ck {c : Ck} {p : PV} (h : VF c.v p) : ∃ vs,p = .agg [vs,.int .i64 c.h] ∧ IsS (Fn Sp.e) vs c.l := by
 unfold Ck.v at h
 cases h with
 | base h => cases ‹PV.base _ = true›
 | agg h =>
   cases h with | cons a0 h => cases h with | cons a1 h =>
   cases h
   rw [a1.base_eq rfl]
   exact ⟨_,rfl,VF.slOf Sp.base a0⟩
section
variable {g g' : Nat → Nat} {σ τ : Store} {pid did mid : Nat} {p : Po} {vs : PV} {ids : List Nat}
theorem zvi {c2 : Cfg} (hm : c2.mode 64 = .pure) (hP : c2.P = Try.prog) {c : Ck} (hs : IsS (Fn Sp.e) vs c.l) (hl : c.l.length ≤ 100) (k : Int) (σ : Store) :
  ∃ vs',zi c2 (ze cfg) 64 [.agg [vs,.int .i64 c.h],.int .i64 k] σ = some (.tuple [.agg [vs',.int .i64 (j8 c k).1.h],.int .i64 (j8 c k).2.1,.int .i64 (j8 c k).2.2.1,.int .i64 (j8 c k).2.2.2],σ) ∧ IsS (Fn Sp.e) vs' (j8 c k).1.l := by
 have hpl : ∀ x ∈ [vs,.int .i64 c.h],x.plain = true := fun x hx => by
  rcases ha6.1 hx with rfl | hx
  ·exact hs.plain
  ·rw [ham.1 hx]; rfl
 obtain ⟨p,h1,h2⟩ := zq7 (c2 := c2) hm hP (by kernel_rfl) (zt8 c k hl) (.cons (.agg (.cons (IsS.vfS hs) (.cons (.base _ rfl) .nil))) (.cons (.base _ rfl) .nil)) (fun σ => by rw [List.map_cons,List.map_cons,List.map_nil,zxr hpl]; rfl) (by unfold PV.lf.lfs; rw [zw9 hpl]; rfl) σ
 cases h2 with
 | base h => cases ‹PV.base _ = true›
 | tuple h =>
   cases h with | cons a0 h => cases h with | cons a1 h => cases h with | cons a2 h => cases h with | cons a3 h =>
   cases h
   obtain ⟨vs',rfl,hv⟩ := VF.ck a0
   rw [a1.base_eq rfl,a2.base_eq rfl,a3.base_eq rfl] at h1
   exact ⟨vs',h1,hv⟩
theorem tyM : zkx Try.prog 47 = some (.i64,89) := by kernel_rfl
theorem zSh : jc Try.prog 89 = some .nilptr := by kernel_rfl
def zrm (ids : List Nat) (o : Option Nat) : PV := match o with | some i => .ref (ids.getD i 0) 0 0 | none => .nilptr
theorem zqj (r : PoR g σ pid did mid p vs ids) (k : Int) : js Try.prog σ 47 (.mref mid) (.int .i64 k) false = some (zrm ids (wc p.m k)) := by
 unfold js
 rw [tyM]
 simp only [Option.bind_some,if_true,r.mo,zd8 k p.m ids 0 r.il]
 cases wc p.m k with
 | none => simp only [Option.map_none,zSh,Option.map_some]; rfl
 | some i => simp only [Option.map_some,hb4]; rfl
theorem zxh {m : List (Int × Sh)} {ids : List Nat} (h : ids.length = m.length) (k : Int) (x : Sh) (i : Nat) : kv (m ++ [(k,x)]) (ids ++ [i]) = kv m ids ++ [(.int .i64 k,.ref i 0 0)] := by
 unfold kv
 rw [List.zipWith_append h.symm]
 rfl
theorem zxg {m : List (Int × Sh)} {ids : List Nat} (i : Nat) : kv (m.eraseIdx i) (ids.eraseIdx i) = (kv m ids).eraseIdx i := by
 apply List.ext_getElem?
 intro j
 unfold kv
 rw [List.getElem?_zipWith,List.getElem?_eraseIdx,List.getElem?_eraseIdx,List.getElem?_eraseIdx,List.getElem?_zipWith,List.getElem?_zipWith]
 by_cases c : j < i
 ·simp only [if_pos c]
 ·simp only [if_neg c]
def Po.out (p : Po) (i : Nat) : Po := { p with m := p.m.eraseIdx i }
theorem zn8 {ids : List Nat} {i j : Nat} : (ids.eraseIdx i).getD j 0 = if j < i then ids.getD j 0 else ids.getD (j + 1) 0 := by
 rw [hai,List.getElem?_eraseIdx]
 split <;> rw [hai]
theorem PoR.del (r : PoR g σ pid did mid p vs ids) {i : Nat} (hi : i < p.m.length) : PoR g (σ.put mid (.map ((kv p.m ids).eraseIdx i))) pid did mid (p.out i) vs (ids.eraseIdx i) where
 g9 := r.g9
 gA := r.gA
 lp := r.lp
 lm := r.lm
 po := (yb fun e => by have h9 := r.g9; rw [e,r.gA] at h9; cases h9).trans r.po
 sp := r.sp
 mo := by
  show _ = some (Obj.map (kv (p.m.eraseIdx i) (ids.eraseIdx i)))
  rw [zxg]
  exact xa _ _ _
 il := by
  show _ = (p.m.eraseIdx i).length
  rw [List.length_eraseIdx,List.length_eraseIdx,r.il]
 nd := r.nd.sublist (List.eraseIdx_sublist _ _)
 sh := fun j hj => by
  have hj' : j < (p.m.eraseIdx i).length := hj
  rw [List.length_eraseIdx,if_pos hi] at hj'
  have key : ∀ (q : Nat) (hq : q < p.m.length),ShS g (σ.put mid (.map ((kv p.m ids).eraseIdx i))) (ids.getD q 0) (p.m[q]).2 := fun q hq => by
   obtain ⟨s1,s2,v,s3,s4⟩ := r.sh q hq
   exact ⟨s1,s2,v,(yb fun e => by have h9 := r.gA; rw [← e,s1] at h9; cases h9).trans s3,s4⟩
  have hj2 : j < (p.m.eraseIdx i).length := hj
  show ShS g _ ((ids.eraseIdx i).getD j 0) ((p.m.eraseIdx i)[j]'hj2).2
  rw [zn8]
  by_cases c : j < i
  ·rw [if_pos c,List.getElem_eraseIdx_of_lt hj2 c]
   exact key j (by omega)
  ·rw [if_neg c,List.getElem_eraseIdx_of_ge hj2 (by omega)]
   exact key (j + 1) (by omega)
theorem zzk (r : PoR g σ pid did mid p vs ids) {k : Int} {i : Nat} (h : wc p.m k = some i) : y7 Try.prog σ .delete [47,3] [.mref mid,.int .i64 k] = some (.tuple [],σ.put mid (.map ((kv p.m ids).eraseIdx i))) := by
 show (zab Try.prog σ 47 (.mref mid) (.int .i64 k)).map _ = _
 unfold zab
 rw [tyM]
 simp only [Option.bind_some,if_true,r.mo,zd8 k p.m ids 0 r.il,h,Option.map_some,hb4]
theorem PoR.add (r : PoR g σ pid did mid p vs ids) {k : Int} {x : Sh} {u : PV} (hu : IsS RB u x.b) : PoR (tag g σ.next 8) ((σ.push (.cells 0 [[u,.bool x.dirty,.int .i64 x.place]])).put mid (.map (kv p.m ids ++ [(.int .i64 k,.ref σ.next 0 0)]))) pid did mid { p with m := p.m ++ [(k,x)] } vs (ids ++ [σ.next]) where
 g9 := by rw [je r.lp]; exact r.g9
 gA := by rw [je r.lm]; exact r.gA
 lp := Nat.lt_succ_of_lt r.lp
 lm := Nat.lt_succ_of_lt r.lm
 po := (yb fun e => by have h9 := r.g9; rw [e,r.gA] at h9; cases h9).trans ((yj r.lp).trans r.po)
 sp := r.sp
 mo := by
  show _ = some (Obj.map (kv (p.m ++ [(k,x)]) (ids ++ [σ.next])))
  rw [zxh r.il]
  exact xa _ _ _
 il := by
  show _ = (p.m ++ [(k,x)]).length
  rw [hak,hak,r.il]; rfl
 nd := by
  refine List.nodup_append.2 ⟨r.nd,by simp,fun a ha b hb => ?_⟩
  rw [ham.1 hb]
  obtain ⟨i,hi⟩ := hau.1 ha
  have hil : i < ids.length := (had.1 hi).1
  have := (r.sh i (by rw [← r.il]; exact hil)).lt
  rw [hai,hi] at this
  exact Nat.ne_of_lt this
 sh := fun j hj => by
  have hj' : j < p.m.length + 1 := by
   have : j < (p.m ++ [(k,x)]).length := hj
   rwa [hak] at this
  have hj2 : j < (p.m ++ [(k,x)]).length := hj
  show ShS _ _ ((ids ++ [σ.next]).getD j 0) ((p.m ++ [(k,x)])[j]'hj2).2
  by_cases c : j < p.m.length
  ·have hil := r.il
   rw [hai,hbh (by omega),← hai,List.getElem_append_left c]
   obtain ⟨s1,s2,v,s3,s4⟩ := r.sh j c
   refine ⟨by rw [je s2]; exact s1,Nat.lt_succ_of_lt s2,v,(yb fun e => by have h9 := r.gA; rw [← e,s1] at h9; cases h9).trans ((yj s2).trans s3),s4⟩
  ·have hjl : j = p.m.length := by omega
   subst hjl
   have hil := r.il
   rw [hai,List.getElem?_append_right (by omega),List.getElem_append_right (hah _)]
   simp only [hil,Nat.sub_self,List.getElem?_cons_zero,Option.getD_some,List.getElem_cons_zero]
   exact ⟨qj (hah _),haw _,u,(yb fun e => by have := r.lm; omega).trans (zn _ _),hu⟩
theorem zz4 (r : PoR g σ pid did mid p vs ids) {k : Int} (h : wc p.m k = none) (o : Obj) (v : PV) : kz Try.prog (σ.push o) 47 (.mref mid) (.int .i64 k) v = some ((σ.push o).put mid (.map (kv p.m ids ++ [(.int .i64 k,v)]))) := by
 unfold kz
 rw [tyM]
 simp only [Option.bind_some,if_true,(yj r.lm).trans r.mo,zd8 k p.m ids 0 r.il,h,Option.map_none,Option.map_some]
theorem zt9 {d : Dv} {id : Nat} (h : DevS g σ id d) {P : Nat} (hP : P ≤ 1000000) (hl : d.seen.pg.length = 512 * P) {page : Nat} (hp : page < P) :
  ∃ g' τ u,ze cfg 35 [.ref id 0 0,.int .i64 (page : Nat)] σ = some (.tuple [u,.int .i64 0],τ) ∧ AxS RB τ 1 u ((d.seen.pg.drop (page * 512)).take 512) ∧ (∀ i ∈ tops u,g' i = 7) ∧ DevS g' τ id d ∧ Out g σ g' τ := by
 have ev := zzx (ze cfg) (y2 cfg) σ id 0 0 (page : Nat)
 obtain ⟨vp,l1,l2⟩ := h.ldPg
 have d1 : decide (((page : Nat) : Int) < 0) = false := decide_eq_false (by omega)
 have d2 : decide (((page : Nat) : Int) ≥ ((P : Nat) : Int)) = false := decide_eq_false (by omega)
 have w1 : IntKind.wrap .i64 (((page : Nat) : Int) * 512) = ((page * 512 : Nat) : Int) := by rw [q9 (by omega) (by omega)]; omega
 have w2 : IntKind.wrap .i64 (IntKind.wrap .i64 (((page : Nat) : Int) + 1) * 512) = (((page + 1) * 512 : Nat) : Int) := by rw [q9 (x := ((page : Nat) : Int) + 1) (by omega) (by omega),q9 (by omega) (by omega)]; omega
 obtain ⟨v',c1,c2,c3⟩ := l2.ax.cut TB okB (lo := some (.int .i64 ((page * 512 : Nat) : Int))) (hi := some (.int .i64 (((page + 1) * 512 : Nat) : Int))) (x8 .i64 _ 0) (x8 .i64 _ _) (by omega) (by omega)
 rw [show (page + 1) * 512 - page * 512 = 512 by omega] at c2
 obtain ⟨u,τ,j1,j2,j3,j4,_⟩ := zra (c2 := cfg) rfl rfl (sz := 1) c2 (by simp; omega)
 simp only [d1,d2,Bool.false_eq_true,if_false,zak (c2 := cfg) rfl rfl h hl hP,za,zb,Nat.add_zero,l1,w1,w2,c1,j1] at ev
 have hg : ∀ i,i < σ.next → tag g σ.next 7 i = g i := fun i hi => je hi
 exact ⟨tag g σ.next 7,τ,u,zf (hT _) ev,j4,fun i hi => qj (j3 i hi).1,(h.retag hg).mod j2 fun i hi _ => by (cases hi),Out.mod j2 (fun i hi _ => by cases hi) hg⟩
end
end Go.Pvm.S
