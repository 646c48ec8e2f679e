/- Part of the proof: the pool: a page is let in. -/
import Derived.Test.YtceokplopachgaaPolD
set_option linter.unusedSimpArgs false
set_option linter.unusedVariables false
set_option maxRecDepth 100000
namespace Go.Pvm.S
open Go.Pvm Go.Proofs
theorem aggCk : AggT Try.prog 46 2 := .of (by kernel_rfl) (by kernel_rfl)
theorem zyd : qk Try.prog 46 = some 2 := by kernel_rfl
theorem zya (i j k : Nat) : j9 Try.prog .neq 89 (.ref i j k) .nilptr = some (.bool true) ∧ j9 Try.prog .eql 89 (.ref i j k) .nilptr = some (.bool false) := ⟨by kernel_rfl,by kernel_rfl⟩
theorem nilSh : j9 Try.prog .neq 89 .nilptr .nilptr = some (.bool false) ∧ j9 Try.prog .eql 89 .nilptr .nilptr = some (.bool true) := ⟨by kernel_rfl,by kernel_rfl⟩
theorem zvc (i : Nat) : zj Try.prog 92 (.ref i 0 0) 0 = some (.ref i 0 0) ∧ zj Try.prog 92 (.ref i 0 0) 1 = some (.ref i 0 1) ∧ zj Try.prog 92 (.ref i 0 0) 2 = some (.ref i 0 2) := ⟨by kernel_rfl,by kernel_rfl,by kernel_rfl⟩
theorem z02 (u : PV) (hu : u.plain = true) : jz Try.prog 92 [(0,u)] = some (.agg [u,.bool false,.int .i64 0]) := by
 cases u <;> first | (cases hu; done) | kernel_rfl
structure CkOk (n : Nat) (c : Ck) : Prop where
 n1 : 1 ≤ n ∧ n ≤ 64
 ln : c.l.length = n
 hh : 0 ≤ c.h ∧ c.h < n
 gd : Good c.l
 pn : ∀ s ∈ c.l,s.n = false
def Po.tch (p : Po) (k : Int) : Po := { p with c := (j8 p.c k).1 }
def Po.lv (p : Po) (was : Int) : Po := match wc p.m was with
 | none => p
 | some i => match p.m[i]? with
   | none => p
   | some e => (if e.2.dirty = true then p.wr i was e.2 else p).out i
def za9 (d : Dv) (k : Int) : By := (d.seen.pg.drop (k.toNat * 512)).take 512
def Po.rd (p : Po) (k : Int) : Po := match wc p.m k with
 | some _ => p
 | none => { p with m := p.m ++ [(k,⟨za9 p.d k,false,0⟩)] }
def Po.letP (p : Po) (k : Int) : Po := ((p.tch k).lv (j8 p.c k).2.2.1).rd k
structure PoK (P n : Nat) (T : Int) (p : Po) : Prop where
 iv : Inv P T p.d
 ck : CkOk n p.c
 nd : (p.m.map (·.1)).Nodup
 rg : ∀ e ∈ p.m,0 ≤ e.1 ∧ e.1 < P ∧ e.2.b.length = 512
section
variable {g g' : Nat → Nat} {σ τ : Store} {pid did mid : Nat} {p : Po} {vs : PV} {ids : List Nat}
theorem PoR.clk (r : PoR g σ pid did mid p vs ids) : zd Try.prog σ 46 (.ref pid 0 (0 + 1)) = some (.agg [vs,.int .i64 p.c.h]) := by
 rw [znz r.po rfl]
 obtain ⟨h1,d,h2,h3⟩ := aggCk
 unfold xl
 rw [h1,h2]
 simp only [Option.bind_some,h3,if_true]
 rfl
theorem zv7 (r : PoR g σ pid did mid p vs ids) {c' : Ck} {vs' : PV} (hv : vs'.plain = true) : zu Try.prog σ 46 (.ref pid 0 (0 + 1)) (.agg [vs',.int .i64 c'.h]) = some (σ.put pid (.cells 0 [[.ref did 0 0,vs',.int .i64 c'.h,.mref mid,.int .i64 p.sy]])) :=
 zlu zyd r.po (hah 0) rfl rfl (by show 0 + 1 + 2 ≤ 5; decide) (ww (e := [vs',.int .i64 c'.h]) fun x hx => by
  rcases ha6.1 hx with rfl | hx
  ·exact hv
  ·rw [ham.1 hx]; rfl)
noncomputable def rdT (pid : Nat) (k : Int) (σ : Store) : Option (PV × Store) := (zd Try.prog σ 47 (.ref pid 0 (0 + 3))).bind fun v42 => (js Try.prog σ 47 v42 (.int .i64 k) false).bind fun v43 => (j9 Try.prog .eql 89 v43 .nilptr).bind fun v44 => asBool v44 fun b45 => if b45 = true then ((zd Try.prog σ 23 (.ref pid 0 (0 + 0))).bind fun v46 => (zi cfg (ze cfg) 35 [v46,(.int .i64 k)] σ).bind fun r47 => (ka r47.1 0).bind fun v48 => (ka r47.1 1).bind fun v49 => asInt .i64 v49 fun n50 => (ke (tops v48) r47.2).bind fun s51 => (jz Try.prog 92 [(0,(fz zp r47.2 v48))]).bind fun v51 => if (PV.known v51 = true ∧ (PV.cells v51).length ≠ 0) then ((zd Try.prog (Store.push s51 (.cells 0 [PV.cells v51])) 47 (.ref pid 0 (0 + 3))).bind fun v52 => (kz Try.prog (Store.push s51 (.cells 0 [PV.cells v51])) 47 v52 (.int .i64 k) (.ref (Store.next s51) 0 0)).bind fun s53 => some (PV.ref (Store.next s51) 0 0,s53)) else none) else (some (v43,σ))
theorem zpr (hd : DevS g σ did p.d) (r : PoR g σ pid did mid p vs ids) {P : Nat} {T : Int} (hI : Inv P T p.d) {k : Int} (hk : 0 ≤ k ∧ k < P) :
  ∃ g' τ ids' i,rdT pid k σ = some (.ref (ids'.getD i 0) 0 0,τ) ∧
    wc (p.rd k).m k = some i ∧ DevS g' τ did (p.rd k).d ∧ PoR g' τ pid did mid (p.rd k) vs ids' ∧ OutP g σ g' τ := by
 unfold rdT
 rw [r.ldM]
 simp only [za,zqj r k]
 cases hq : wc p.m k with
 | some i =>
   have hrd : p.rd k = p := by unfold Po.rd; rw [hq]
   simp only [zrm,(zya _ _ _).2,za,zc,Bool.false_eq_true,if_false]
   exact ⟨g,σ,ids,i,rfl,by rw [hrd]; exact hq,by rw [hrd]; exact hd,by rw [hrd]; exact r,OutP.refl _ _⟩
 | none =>
   have hrd : p.rd k = { p with m := p.m ++ [(k,⟨za9 p.d k,false,0⟩)] } := by unfold Po.rd; rw [hq]
   have hk1 : ((k.toNat : Nat) : Int) = k := by omega
   obtain ⟨g1,τ1,u,a1,a2,a3,a4,a5⟩ := zt9 hd hI.hP.2 hI.pl (page := k.toNat) (by omega)
   rw [hk1] at a1
   have cr : zi cfg (ze cfg) 35 [.ref did 0 0,.int .i64 k] σ = some (.tuple [u,.int .i64 0],τ1) := by rw [zk rfl (by kernel_rfl)]; exact a1
   obtain ⟨σ1,b1,b2,b3,b4⟩ := zxv a4 a2.q (a2.lf okB) a3
   have r1 := (r.out a5 p.d).out b3 p.d
   have hfz : IsS RB (fz zp τ1 u) (za9 p.d k) := a2.frz okB 6
   have hb := z02 _ hfz.plain
   have hm1 : zd Try.prog (σ1.push (.cells 0 [[fz zp τ1 u,.bool false,.int .i64 0]])) 47 (.ref pid 0 (0 + 3)) = some (.mref mid) := qc zzq ((yj r1.lp).trans r1.po) rfl
   have hup := zz4 r1 (k := k) hq (.cells 0 [[fz zp τ1 u,.bool false,.int .i64 0]]) (.ref σ1.next 0 0)
   have hkn : (PV.known (.agg [fz zp τ1 u,.bool false,.int .i64 0]) = true ∧ (PV.cells (.agg [fz zp τ1 u,.bool false,.int .i64 0])).length ≠ 0) := ⟨rfl,by show 3 ≠ 0; decide⟩
   have hcl : PV.cells (.agg [fz zp τ1 u,.bool false,.int .i64 0]) = [fz zp τ1 u,.bool false,.int .i64 0] := rfl
   simp only [zrm,nilSh.2,za,zc,if_true,r.ldD,cr,uo,un,zb,b1,hb,if_pos hkn,hcl,hm1,hup]
   have r2 := r1.add (k := k) (x := ⟨za9 p.d k,false,0⟩) hfz
   refine ⟨_,_,ids ++ [σ1.next],p.m.length,?_,?_,?_,by rw [hrd]; exact r2,?_⟩
   ·have hil := r.il
    rw [hai,List.getElem?_append_right (by omega),hil,Nat.sub_self]
    rfl
   ·rw [hrd]
    show wc (p.m ++ [(k,_)]) k = _
    unfold wc at hq ⊢
    rw [List.findIdx?_append,hq]
    simp
   ·rw [hrd]
    have d2 : DevS (tag g1 σ1.next 8) (σ1.push (.cells 0 [[fz zp τ1 u,.bool false,.int .i64 0]])) did p.d := (b2.retag fun i hi => je hi).push _
    exact d2.mod (Mod.put (ids := [mid]) (.head _)) fun j hj _ => by rw [ham.1 hj,je r1.lm,r1.gA]; decide
   ·refine (a5.toP.trans b3.toP).trans (?_ : OutP g1 σ1 (tag g1 σ1.next 8) _)
    refine ⟨hbd _,fun i hi => je hi,fun i hi h7 => .inl ?_⟩
    exact (yb fun e => by subst e; have := r1.gA; omega).trans (yj hi)
noncomputable def lvT (pid : Nat) (k n11 : Int) (s16 : Store) : Option (PV × Store) := (zd Try.prog s16 47 (.ref pid 0 (0 + 3))).bind fun v17 => (js Try.prog s16 47 v17 (.int .i64 n11) false).bind fun v18 => (j9 Try.prog .neq 89 v18 .nilptr).bind fun v19 => asBool v19 fun b20 => if b20 = true then ((zc2 v18).bind fun v21 => (zj Try.prog 92 v21 1).bind fun v22 => (zd Try.prog s16 4 v22).bind fun v23 => asBool v23 fun b24 => if b24 = true then ((zi cfg (ze cfg) 41 [(.ref pid 0 0),(.int .i64 n11),v18] s16).bind fun r25 => (zd Try.prog r25.2 47 (.ref pid 0 (0 + 3))).bind fun v26 => (y7 Try.prog r25.2 .delete [47,3] [v26,(.int .i64 n11)]).bind fun r27 => rdT pid k r27.2) else ((zd Try.prog s16 47 (.ref pid 0 (0 + 3))).bind fun v40 => (y7 Try.prog s16 .delete [47,3] [v40,(.int .i64 n11)]).bind fun r41 => rdT pid k r41.2)) else rdT pid k s16
theorem zv2 (a b c d : PV) (r : List PV) : ka (.tuple (a :: b :: c :: d :: r)) 3 = some d := rfl
theorem zxu (σ : Store) (pid : Nat) (a1 : Int) : qa cfg (ze cfg) (y2 cfg) 39 [(.ref pid 0 0),(.int .i64 a1)] σ =
  (zi cfg (ze cfg) 38 [(.ref pid 0 0)] σ).bind fun r0 => asBool r0.1 fun b1 => if (!b1) = true then (some (.nilptr,r0.2)) else (if (decide (a1 < 0)) = true then (some (.nilptr,r0.2)) else ((zd Try.prog r0.2 23 (.ref pid 0 (0 + 0))).bind fun v2 => (zi cfg (ze cfg) 37 [v2] r0.2).bind fun r3 => asInt .i64 r3.1 fun n4 => if (decide (a1 ≥ n4)) = true then (some (.nilptr,r3.2)) else ((zd Try.prog r3.2 46 (.ref pid 0 (0 + 1))).bind fun v5 => (zi cfg (ze cfg) 64 [v5,(.int .i64 a1)] r3.2).bind fun r6 => (ka r6.1 0).bind fun v7 => (ka r6.1 1).bind fun v8 => asInt .i64 v8 fun n9 => (ka r6.1 2).bind fun v10 => asInt .i64 v10 fun n11 => (ka r6.1 3).bind fun v12 => asInt .i64 v12 fun n13 => (zu Try.prog (Store.push r6.2 (.cells 0 [[.nilsl,(.int .i64 0)]])) 46 (.ref (Store.next r6.2) 0 0) v7).bind fun s14 => if (n13 != 0) = true then (some (.nilptr,s14)) else ((zd Try.prog s14 46 (.ref (Store.next r6.2) 0 0)).bind fun v15 => (zu Try.prog s14 46 (.ref pid 0 (0 + 1)) v15).bind fun s16 => lvT pid a1 n11 s16)))) := by
 unfold lvT rdT
 exact z0q _ _ σ pid 0 0 a1
theorem zg9 {m : List (Int × Sh)} {i : Nat} {k : Int} {x y : Sh} (h : m[i]? = some (k,x)) (k' : Int) : wc (m.set i (k,y)) k' = wc m k' := by
 unfold wc
 have e1 : ∀ l : List (Int × Sh),(l.findIdx? fun e => e.1 == k') = (l.map (·.1)).findIdx? (· == k') := fun l => by rw [List.findIdx?_map]; rfl
 rw [e1,e1,List.map_set]
 congr 1
 apply List.ext_getElem?
 intro j
 rw [List.getElem?_set]
 by_cases e : i = j
 ·subst e
  rw [if_pos rfl,hav,h]
  have := (had.1 h).1
  rw [if_pos (by simpa using this)]; rfl
 ·rw [if_neg e]
theorem PoR.push (r : PoR g σ pid did mid p vs ids) (o : Obj) : PoR g (σ.push o) pid did mid p vs ids where
 g9 := r.g9
 gA := r.gA
 lp := Nat.lt_succ_of_lt r.lp
 lm := Nat.lt_succ_of_lt r.lm
 po := (yj r.lp).trans r.po
 sp := r.sp
 mo := (yj r.lm).trans r.mo
 il := r.il
 nd := r.nd
 sh := fun i hi => by
  obtain ⟨s1,s2,v,s3,s4⟩ := r.sh i hi
  exact ⟨s1,Nat.lt_succ_of_lt s2,v,(yj s2).trans s3,s4⟩
theorem OutP.push (g : Nat → Nat) (σ : Store) (o : Obj) : OutP g σ g (σ.push o) := (Out.push g σ o).toP
theorem zw3 (hd : DevS g σ did p.d) (r : PoR g σ pid did mid p vs ids) {P n : Nat} {T : Int} (hI : Inv P T p.d) (hT' : T ≤ 900000000) (hrg : ∀ e ∈ p.m,0 ≤ e.1 ∧ e.1 < P ∧ e.2.b.length = 512) (hw : p.d.ws.length + 4 ≤ 1000000) (ht : p.d.ts.length ≤ 1000000) {k was : Int} (hk : 0 ≤ k ∧ k < P) :
  ∃ g' τ ids' i,lvT pid k was σ = some (.ref (ids'.getD i 0) 0 0,τ) ∧ wc ((p.lv was).rd k).m k = some i ∧ DevS g' τ did ((p.lv was).rd k).d ∧ PoR g' τ pid did mid ((p.lv was).rd k) vs ids' ∧ OutP g σ g' τ := by
 unfold lvT
 have lo := zqj r was
 simp only [r.ldM,za,lo]
 cases hq : wc p.m was with
 | none =>
   have hlv : p.lv was = p := by unfold Po.lv; rw [hq]
   simp only [zrm,nilSh.1,za,zc,Bool.false_eq_true,if_false]
   rw [hlv]
   exact zpr hd r hI hk
 | some i =>
   obtain ⟨hi,hkey⟩ := qd hq
   have hg := haf hi
   obtain ⟨e,he⟩ : ∃ e,p.m[i] = e := ⟨_,rfl⟩
   rw [he] at hg hkey
   obtain ⟨g8,lt8,u,ob,hu⟩ := r.sh i hi
   rw [he] at ob hu
   have hm := hrg e (haj hg)
   have ldb : zd Try.prog σ 4 (.ref (ids.getD i 0) 0 1) = some (.bool e.2.dirty) := qc oBool ob rfl
   have nvr : zc2 (.ref (ids.getD i 0) 0 0) = some (.ref (ids.getD i 0) 0 0) := rfl
   simp only [zrm,(zya _ _ _).1,za,zc,if_true,nvr,(zvc _).2.1,ldb]
   have hge : p.m[i]? = some (was,e.2) := by rw [hg,← hkey]
   cases hdt : e.2.dirty with
   | true =>
     have hlv : p.lv was = (p.wr i was e.2).out i := by unfold Po.lv; rw [hq]; simp only [hg,hdt,if_true]
     obtain ⟨g1,τ1,a1,a2,a3,a4⟩ := zyh hd r hI hT' hw ht hge (by rw [← hkey]; exact ⟨hm.1,hm.2.1⟩) hm.2.2
     have cw : zi cfg (ze cfg) 41 [.ref pid 0 0,.int .i64 was,.ref (ids.getD i 0) 0 0] σ = some (.tuple [],τ1) := by rw [zk rfl (by kernel_rfl)]; exact a1
     have hq1 : wc (p.wr i was e.2).m was = some i := (zg9 hge was).trans hq
     have hi1 : i < (p.wr i was e.2).m.length := by show i < (p.m.set i _).length; rw [List.length_set]; exact hi
     have r4 := a3.del hi1
     have hI4 : Inv P T ((p.wr i was e.2).out i).d := by
      show Inv P T (wrF was.toNat e.2.b 4 0 (p.syn e.2).d)
      refine Inv.wrF (by omega) hm.2.2 4 0 _ rfl ?_
      unfold Po.syn
      split
      ·exact hI.sync
      ·exact hI
     have d4 : DevS g1 (τ1.put mid (.map ((kv (p.wr i was e.2).m ids).eraseIdx i))) did ((p.wr i was e.2).out i).d := a2.mod (Mod.put (ids := [mid]) (.head _)) fun j hj _ => by rw [ham.1 hj,a3.gA]; decide
     simp only [cw,za,if_true,a3.ldM,zzk a3 hq1]
     rw [hlv]
     obtain ⟨g',τ,ids',j,b1,b2,b3,b4,b5⟩ := zpr d4 r4 hI4 hk
     exact ⟨g',τ,ids',j,b1,b2,b3,b4,(a4.trans (OutP.put (by rw [a3.gA]; decide))).trans b5⟩
   | false =>
     have hlv : p.lv was = p.out i := by unfold Po.lv; rw [hq]; simp only [hg,hdt,Bool.false_eq_true,if_false]
     have r4 := r.del hi
     have d4 : DevS g (σ.put mid (.map ((kv p.m ids).eraseIdx i))) did (p.out i).d := hd.mod (Mod.put (ids := [mid]) (.head _)) fun j hj _ => by rw [ham.1 hj,r.gA]; decide
     simp only [Bool.false_eq_true,if_false,zzk r hq,za]
     rw [hlv]
     obtain ⟨g',τ,ids',j,b1,b2,b3,b4,b5⟩ := zpr d4 r4 hI hk
     exact ⟨g',τ,ids',j,b1,b2,b3,b4,(OutP.put (by rw [r.gA]; decide)).trans b5⟩
theorem zwf (hd : DevS g σ did p.d) (r : PoR g σ pid did mid p vs ids) {P n : Nat} {T : Int} (hK : PoK P n T p) (hP : P ≤ 64) (hT' : T ≤ 900000000) (hw : p.d.ws.length + 4 ≤ 1000000) (ht : p.d.ts.length ≤ 1000000) {k : Int} (hk : 0 ≤ k ∧ k < P) (he : (j8 p.c k).2.2.2 = 0) :
  ∃ g' τ vs' ids' i,ze cfg 39 [.ref pid 0 0,.int .i64 k] σ = some (.ref (ids'.getD i 0) 0 0,τ) ∧ wc (p.letP k).m k = some i ∧ DevS g' τ did (p.letP k).d ∧ PoR g' τ pid did mid (p.letP k) vs' ids' ∧ OutP g σ g' τ := by
 have ev := zxu σ pid k
 have h1 := zvk (c2 := cfg) rfl rfl ⟨hd,vs,ids,r⟩
 have hpg := zak (c2 := cfg) rfl rfl hd hK.iv.pl (by omega)
 obtain ⟨vs',t1,t2⟩ := zvi (c2 := cfg) rfl rfl r.sp (by rw [hK.ck.ln]; have := hK.ck.n1; omega) k σ
 unfold Po.letP Po.tch
 generalize j8 p.c k = t at t1 t2 he ⊢
 rw [he] at t1
 have d1 : decide (k < 0) = false := decide_eq_false (by omega)
 have d2 : decide (k ≥ ((P : Nat) : Int)) = false := decide_eq_false (by omega)
 have ho : ∀ x ∈ [vs',.int .i64 t.1.h],x.plain = true := fun x hx => by
  rcases ha6.1 hx with rfl | hx
  ·exact t2.plain
  ·rw [ham.1 hx]; rfl
 have s1 : zu Try.prog (Store.push σ (.cells 0 [[.nilsl,(.int .i64 0)]])) 46 (.ref (Store.next σ) 0 0) (.agg [vs',.int .i64 t.1.h]) = some (σ.push (.cells 0 [[vs',.int .i64 t.1.h]])) := zne zyd rfl rfl (ww ho)
 have l1 : zd Try.prog (σ.push (.cells 0 [[vs',.int .i64 t.1.h]])) 46 (.ref (Store.next σ) 0 0) = some (.agg [vs',.int .i64 t.1.h]) := by rw [zxb,aggCk.part rfl]
 have r1 := r.push (.cells 0 [[vs',.int .i64 t.1.h]])
 have s2 := zv7 r1 (c' := t.1) t2.plain
 simp only [h1,za,zc,Bool.not_true,Bool.false_eq_true,if_false,d1,r.ldD,hpg,zb,d2,r.clk] at ev
 rw [t1,za,uo,za,un,za,zb,zv3,za,zb,zv2,za,zb,s1,za,if_neg (by decide),l1,za,s2,za] at ev
 have r2 := r1.setP (c' := t.1) (sy' := p.sy) t2
 have d3 : DevS g ((σ.push (.cells 0 [[vs',.int .i64 t.1.h]])).put pid (.cells 0 [[.ref did 0 0,vs',.int .i64 t.1.h,.mref mid,.int .i64 p.sy]])) did p.d := (hd.push _).mod (Mod.put (ids := [pid]) (.head _)) fun j hj _ => by rw [ham.1 hj,r.g9]; decide
 obtain ⟨g',τ,ids',i,b1,b2,b3,b4,b5⟩ := zw3 (p := { p with c := t.1 }) (n := n) d3 r2 hK.iv hT' hK.rg hw ht (was := t.2.2.1) hk
 exact ⟨g',τ,vs',ids',i,zf (hT _) (ev.trans b1),b2,b3,b4,((OutP.push g σ _).trans (OutP.put (by rw [r.g9]; decide))).trans b5⟩
end
end Go.Pvm.S
