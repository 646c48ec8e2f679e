/- Part of the proof: what is read is what was put last. -/
import Derived.Test.YtceokplopachgaaPolP
set_option linter.unusedSimpArgs false
set_option linter.unusedVariables false
set_option maxRecDepth 100000
namespace Go.Pvm.S
open Go.Pvm Go.Proofs
structure BoxA (g : Nat → Nat) (σ : Store) (x : Nat) (a : Ac) : Prop where
 g11 : g x = 11
 lt : x < σ.next
 ob : ∃ u v,σ.objs x = some (.cells 0 [[.int .i64 a.d,.int .i64 a.g,u,.int .i64 a.n,v]]) ∧ IsS RB u a.b ∧ IsS RBo v a.p
section
variable {P n w t : Nat} {T : Int} {did pid mid x i : Nat} {g g' : Nat → Nat} {σ τ : Store} {p : Po} {u a1 : PV} {b : By} {a : Ac} {l : List Ac}
theorem BoxA.out (h : BoxA g σ x a) (k : OutP g σ g' τ) : BoxA g' τ x a :=
 let ⟨u,v,h1,h2⟩ := h.ob
 ⟨by rw [k.2.1 x h.lt]; exact h.g11,Nat.lt_of_lt_of_le h.lt k.1,u,v,(k.same h.lt (by rw [h.g11]; decide)).trans h1,h2⟩
theorem BoxA.d (h : BoxA g σ x a) : zd Try.prog σ 3 (.ref x 0 (0 + 0)) = some (.int .i64 a.d) := by obtain ⟨u,v,h1,_⟩ := h.ob; exact qc oInt h1 rfl
theorem BoxA.pg (h : BoxA g σ x a) : zd Try.prog σ 3 (.ref x 0 (0 + 1)) = some (.int .i64 a.g) := by obtain ⟨u,v,h1,_⟩ := h.ob; exact qc oInt h1 rfl
theorem BoxA.bb (h : BoxA g σ x a) : ∃ u,zd Try.prog σ 33 (.ref x 0 (0 + 2)) = some u ∧ IsS RB u a.b := by obtain ⟨u,v,h1,h2,_⟩ := h.ob; exact ⟨u,qc otB h1 rfl,h2⟩
theorem z07 (hl : IsS RA a1 l) (hi : l[i]? = some a) (g : Nat → Nat) (σ : Store) : ∃ e,zh Try.prog 22 a1 (.int .i64 (i : Nat)) = some (.pref e) ∧ zd Try.prog σ 36 (.pref e) = some (.agg e) ∧ zu Try.prog (σ.push (.cells 0 [[.int .i64 0,.int .i64 0,.nilsl,.int .i64 0,.nilsl]])) 36 (.ref σ.next 0 0) (.agg e) = some (σ.push (.cells 0 [e])) ∧ BoxA (tag g σ.next 11) (σ.push (.cells 0 [e])) σ.next a := by
 obtain ⟨e,k1,u,v,rfl,hu,hv⟩ := hl.idx TA okA hi .i64
 have o1 : (σ.push (.cells 0 [[PV.int .i64 0,.int .i64 0,.nilsl,.int .i64 0,.nilsl]])).objs σ.next = some (.cells 0 [[.int .i64 0,.int .i64 0,.nilsl,.int .i64 0,.nilsl]]) := zn _ _
 have e1 : zu Try.prog (σ.push (.cells 0 [[.int .i64 0,.int .i64 0,.nilsl,.int .i64 0,.nilsl]])) 36 (.ref σ.next 0 0) (.agg [.int .i64 a.d,.int .i64 a.g,u,.int .i64 a.n,v]) = some (σ.push (.cells 0 [[.int .i64 a.d,.int .i64 a.g,u,.int .i64 a.n,v]])) := zne zye rfl rfl (ww (plA hu.plain hv.plain _ _ _))
 exact ⟨_,k1,zyw σ _ _ _ _ _,e1,qj (Nat.le_refl _),Nat.lt_succ_self _,u,v,zn _ _,hu,hv⟩
end
theorem zwr : OneT Try.prog 9 := .of (by kernel_rfl) (by kernel_rfl)
theorem zxp (id : Nat) : zh Try.prog 32 (.ref id 0 0) (.int .i64 0) = some (.ref id 0 0) := by kernel_rfl
theorem zxo (id : Nat) : zh Try.prog 32 (.ref id 0 0) (.int .i64 1) = some (.ref id 0 1) := by kernel_rfl
theorem zxn (id : Nat) : zh Try.prog 32 (.ref id 0 0) (.int .i64 2) = some (.ref id 0 2) := by kernel_rfl
theorem zxm (id : Nat) : zh Try.prog 32 (.ref id 0 0) (.int .i64 3) = some (.ref id 0 3) := by kernel_rfl
theorem zxl (id : Nat) : zh Try.prog 32 (.ref id 0 0) (.int .i64 4) = some (.ref id 0 4) := by kernel_rfl
theorem zxk (id : Nat) : zh Try.prog 32 (.ref id 0 0) (.int .i64 5) = some (.ref id 0 5) := by kernel_rfl
theorem zu4 (id : Nat) : ∀ j : Nat,j < 6 → zh Try.prog 32 (.ref id 0 0) (.int .i64 (j : Nat)) = some (.ref id 0 j)
 | 0,_ => zxp id
 | 1,_ => zxo id
 | 2,_ => zxn id
 | 3,_ => zxm id
 | 4,_ => zxl id
 | 5,_ => zxk id
theorem zt6 : Try.prog.underlying 9 = some .string := by kernel_rfl
theorem bU8 : Try.prog.underlying 5 = some (.int .u8) := by kernel_rfl
structure Six (g : Nat → Nat) (σ : Store) (wid : Nat) (was : List By) : Prop where
 g11 : g wid = 11
 lt : wid < σ.next
 ob : σ.objs wid = some (.cells 0 [was.map fun b => .str (zm7 b)])
 ln : was.length = 6
section
variable {P n w t : Nat} {T : Int} {did pid mid x i wid : Nat} {g g' : Nat → Nat} {σ τ s : Store} {p : Po} {u a1 : PV} {b : By} {a : Ac} {l : List Ac} {was : List By}
theorem Six.out (h : Six g σ wid was) (k : OutP g σ g' τ) : Six g' τ wid was :=
 ⟨by rw [k.2.1 _ h.lt]; exact h.g11,Nat.lt_of_lt_of_le h.lt k.1,(k.same h.lt (by rw [h.g11]; decide)).trans h.ob,h.ln⟩
theorem Six.ld (h : Six g σ wid was) {j : Nat} (hj : j < 6) : zd Try.prog σ 9 (.ref wid 0 j) = some (.str (zm7 (was.getD j []))) := by
 have hw := List.getElem?_eq_getElem (show j < was.length by rw [h.ln]; exact hj)
 exact qc zwr h.ob (by rw [List.getElem?_map,hw,List.getD_eq_getElem?_getD,hw]; rfl)
theorem Six.st (h : Six g σ wid was) {j : Nat} (hj : j < 6) (b : By) : ∃ τ,zu Try.prog σ 9 (.ref wid 0 j) (.str (zm7 b)) = some τ ∧ Six g τ wid (was.set j b) ∧ τ = σ.put wid (.cells 0 [(was.set j b).map fun b => .str (zm7 b)]) := by
 have e := zbi (σ := σ) (off := j) (v := .str (zm7 b)) zwr h.ob (by rw [List.length_map,h.ln]; exact hj) rfl rfl
 rw [show (was.map fun b => PV.str (zm7 b)).set j (.str (zm7 b)) = (was.set j b).map fun b => .str (zm7 b) from (List.map_set ..).symm] at e
 exact ⟨_,e,⟨h.g11,h.lt,xa _ _ _,by rw [List.length_set]; exact h.ln⟩,rfl⟩
noncomputable def zul (C : z7) (L : xg) (a1 a7 a9 : PV) (a11 : Int) (x : Nat) (ss : Store) : Option (Ex × List PV × Store) :=
  (zd Try.prog ss 3 (.ref x 0 (0 + 1))).bind fun v25 => asInt .i64 v25 fun n26 => (zi cfg C 16 [a7,(.int .i64 n26)] ss).bind fun r27 => (ka r27.1 0).bind fun v28 => (ka r27.1 1).bind fun v29 => asInt .i64 v29 fun n30 => if (n30 != 0) = true then (some (.ret,kx false,r27.2)) else ((ul Try.prog r27.2 33 9 v28).bind fun v31 => ua v31 fun z32 => (zd Try.prog r27.2 3 (.ref x 0 (0 + 1))).bind fun v33 => asInt .i64 v33 fun n34 => (zh Try.prog 32 a9 (.int .i64 n34)).bind fun v35 => (zd Try.prog r27.2 9 v35).bind fun v36 => ua v36 fun z37 => (j9 Try.prog .neq 9 (.str z32) (.str z37)).bind fun v38 => asBool v38 fun b39 => if b39 = true then (some (.ret,kx false,r27.2)) else (L 3 vl (vi a1 a7 a9 (IntKind.wrap .i64 (a11 + 1))) r27.2))
theorem zzs (C : z7) (L : xg) (σ : Store) (a1 : PV) (a7 : PV) (a9 : PV) (a11 : Int) : za6 cfg C L 3 vl (vi a1 a7 a9 a11) σ =
  (jd Try.prog .len [22] [a1]).bind fun v0 => asInt .i64 v0 fun n1 => if (decide (a11 < n1)) = true then (if (decide (a11 < 80)) = true then ((zh Try.prog 22 a1 (.int .i64 a11)).bind fun v2 => (zd Try.prog σ 36 v2).bind fun v3 => (zu Try.prog (Store.push σ (.cells 0 [[(.int .i64 0),(.int .i64 0),.nilsl,(.int .i64 0),.nilsl]])) 36 (.ref (Store.next σ) 0 0) v3).bind fun s4 => (zd Try.prog s4 3 (.ref (Store.next σ) 0 (0 + 1))).bind fun v5 => asInt .i64 v5 fun n6 => if (decide (n6 < 0)) = true then (L 3 vl (vi a1 a7 a9 (IntKind.wrap .i64 (a11 + 1))) s4) else ((zd Try.prog s4 3 (.ref (Store.next σ) 0 (0 + 1))).bind fun v7 => asInt .i64 v7 fun n8 => if (decide (n8 > 5)) = true then (L 3 vl (vi a1 a7 a9 (IntKind.wrap .i64 (a11 + 1))) s4) else ((zd Try.prog s4 3 (.ref (Store.next σ) 0 (0 + 0))).bind fun v9 => asInt .i64 v9 fun n10 => if (n10 == 1) = true then ((zd Try.prog s4 3 (.ref (Store.next σ) 0 (0 + 1))).bind fun v11 => asInt .i64 v11 fun n12 => (zd Try.prog s4 33 (.ref (Store.next σ) 0 (0 + 2))).bind fun v13 => (zi zf1 C 13 [v13] s4).bind fun r14 => (zi zf1 C 12 [a7,(.int .i64 n12),r14.1,(.int .i64 0)] r14.2).bind fun r15 => asInt .i64 r15.1 fun n16 => if (n16 != 0) = true then (some (.ret,kx false,r15.2)) else ((zd Try.prog r15.2 3 (.ref (Store.next σ) 0 (0 + 1))).bind fun v17 => asInt .i64 v17 fun n18 => (zd Try.prog r15.2 33 (.ref (Store.next σ) 0 (0 + 2))).bind fun v19 => (zi zf1 C 13 [v19] r15.2).bind fun r20 => (ul Try.prog r20.2 33 9 r20.1).bind fun v21 => ua v21 fun z22 => (zh Try.prog 32 a9 (.int .i64 n18)).bind fun v23 => (zu Try.prog r20.2 9 v23 (.str z22)).bind fun s24 => zul C L a1 a7 a9 a11 (Store.next σ) s24)) else (if (n10 == 3) = true then ((zi cfg C 14 [a7] s4).bind fun r40 => asInt .i64 r40.1 fun n41 => zul C L a1 a7 a9 a11 (Store.next σ) r40.2) else (if (n10 == 4) = true then ((zd Try.prog s4 3 (.ref (Store.next σ) 0 (0 + 1))).bind fun v57 => asInt .i64 v57 fun n58 => (zi cfg C 15 [a7,(.int .i64 n58)] s4).bind fun r59 => asInt .i64 r59.1 fun n60 => zul C L a1 a7 a9 a11 (Store.next σ) r59.2) else (zul C L a1 a7 a9 a11 (Store.next σ) s4)))))) else (some (.exit 2,zbs ,σ))) else (some (.exit 2,zbs ,σ)) := zw5 C L σ a1 a7 a9 a11
theorem zz9 (h : St 6 n w 0 0 did pid mid g s p) (hx : BoxA g s x a) (h6 : Six g s wid was) (hv : ∀ j : Nat,j < 6 → was.getD j [] = p.val j) (hk : 0 ≤ a.g ∧ a.g < 6) (hw : w ≤ 300000) (hi : i < 80) :
  ∃ g' τ,zul (ze cfg) (y2 cfg) a1 (.ref pid 0 0) (.ref wid 0 0) (i : Nat) x s = y2 cfg 3 vl (vi a1 (.ref pid 0 0) (.ref wid 0 0) ((i + 1 : Nat) : Int)) τ ∧ St 6 n (w + 4) 0 0 did pid mid g' τ (p.letP a.g) ∧ Six g' τ wid was ∧ ∀ j : Nat,j < 6 → was.getD j [] = (p.letP a.g).val j := by
 obtain ⟨j,hj⟩ : ∃ j : Nat,a.g = (j : Nat) := ⟨a.g.toNat,by omega⟩
 have hj6 : j < 6 := by omega
 obtain ⟨g',τ,u,h1,h2,h3,_,h4,_⟩ := h.read (by omega) (by omega) hw (by omega) a.g
 rw [if_pos (by omega)] at h1
 rw [if_pos (by omega)] at h2 h4
 have c1 : zi cfg (ze cfg) 16 [.ref pid 0 0,.int .i64 a.g] s = some (.tuple [u,.int .i64 0],τ) := by rw [zk rfl (by kernel_rfl)]; exact h1
 have b1 := hx.out h3
 have b2 := h6.out h3
 have cv := h4.str zt6 TB bU8
 have ix := zu4 wid j hj6
 have hvj : was.getD j [] = p.val a.g := by rw [hv j hj6,hj]
 have ld := b2.ld hj6
 rw [hvj] at ld
 have ne := zyf (P := Try.prog) (l := p.val a.g) (l' := p.val a.g) 9
 rw [beq_self_eq_true] at ne
 refine ⟨g',τ,?_,h2,b2,fun j hj => (hv j hj).trans ((h.a.letP (by omega) hk).2.1 j (by omega) (by omega)).symm⟩
 unfold zul
 rw [← hj] at ix
 rw [hx.pg,za,zb,c1,za,uo,za,un,za,zb,if_neg (by decide),cv,za,ye,b1.pg,za,zb,ix,za,ld,za,ye,ne,za,zc,if_neg (by decide),y6 (show i < 4611686018427387904 by omega)]
theorem zu0 (hl : IsS RA a1 l) (hb : ∀ a ∈ l,a.b.length < 4611686018427387904) (hn : n ≤ 64) : ∀ (k i w : Nat) (g : Nat → Nat) (σ : Store) (p : Po) (was : List By),i + k = 80 → w ≤ 300 * i → St 6 n w 0 0 did pid mid g σ p → Six g σ wid was → (∀ j : Nat,j < 6 → was.getD j [] = p.val j) →
  ∃ τ,y2 cfg 3 vl (vi a1 (.ref pid 0 0) (.ref wid 0 0) (i : Nat)) σ = some (.exit 2,zbs,τ) := by
 intro k
 induction k with
 | zero =>
   intro i w g σ p was hi hw h h6 hv
   have ev := zzs (ze cfg) (y2 cfg) σ a1 (.ref pid 0 0) (.ref wid 0 0) (i : Nat)
   rw [hl.len TA,za,zb,show decide (((i : Nat) : Int) < 80) = false from decide_eq_false (by omega)] at ev
   by_cases c : decide (((i : Nat) : Int) < ((l.length : Nat) : Int)) = true
   ·rw [if_pos c,if_neg (by decide)] at ev; exact ⟨σ,yi ev⟩
   ·rw [if_neg c] at ev; exact ⟨σ,yi ev⟩
 | succ k ih =>
   intro i w g σ p was hi hw h h6 hv
   have ev := zzs (ze cfg) (y2 cfg) σ a1 (.ref pid 0 0) (.ref wid 0 0) (i : Nat)
   rw [hl.len TA,za,zb,show decide (((i : Nat) : Int) < 80) = true from decide_eq_true (by omega)] at ev
   by_cases c : decide (((i : Nat) : Int) < ((l.length : Nat) : Int)) = true
   case neg => rw [if_neg c] at ev; exact ⟨σ,yi ev⟩
   have hil : i < l.length := by have := of_decide_eq_true c; omega
   have hw' := List.getElem?_eq_getElem hil
   have hba := hb _ (List.getElem_mem hil)
   generalize l[i] = a at hw' hba
   obtain ⟨e,k1,k2,k3,k4⟩ := z07 hl hw' g σ
   obtain ⟨s1,o1⟩ := h.box (.cells 0 [e]) 11
   have s6 := h6.out o1
   generalize tag g σ.next 11 = g0 at k4 s1 o1 s6
   generalize σ.push (.cells 0 [e]) = s0 at k3 k4 s1 o1 s6
   rw [if_pos c,if_pos rfl,k1,za,k2,za,k3,za,k4.pg,za,zb] at ev
   have skip : ∀ {e1 : Option (Ex × List PV × Store)},e1 = y2 cfg 3 vl (vi a1 (.ref pid 0 0) (.ref wid 0 0) ((i + 1 : Nat) : Int)) s0 → ∃ τ,e1 = some (.exit 2,zbs,τ) := fun h => by
    obtain ⟨τ,h2⟩ := ih (i + 1) w g0 s0 p was (by omega) (by omega) s1 s6 hv
    exact ⟨τ,h.trans h2⟩
   have wi := y6 (show i < 4611686018427387904 by omega)
   by_cases c0 : decide (a.g < 0) = true
   ·rw [if_pos c0,wi] at ev
    obtain ⟨τ,h2⟩ := skip rfl
    exact ⟨τ,yi (ev.trans h2)⟩
   rw [if_neg c0,za,zb] at ev
   by_cases c5 : decide (a.g > 5) = true
   ·rw [if_pos c5,wi] at ev
    obtain ⟨τ,h2⟩ := skip rfl
    exact ⟨τ,yi (ev.trans h2)⟩
   have hk : 0 ≤ a.g ∧ a.g < 6 := by rw [decide_eq_true_eq] at c0 c5; omega
   rw [if_neg c5,k4.d,za,zb] at ev
   -- what is left once the act is done
   have fin : ∀ {w' : Nat} {g1 : Nat → Nat} {s : Store} {q : Po} {was' : List By},w' + 4 ≤ 300 * (i + 1) → St 6 n w' 0 0 did pid mid g1 s q → BoxA g1 s σ.next a → Six g1 s wid was' → (∀ j : Nat,j < 6 → was'.getD j [] = q.val j) → ∃ τ,zul (ze cfg) (y2 cfg) a1 (.ref pid 0 0) (.ref wid 0 0) (i : Nat) σ.next s = some (.exit 2,zbs,τ) := fun {w'} {g1} {s} {q} {was'} h1 h2 h3 h4 h5 => by
    obtain ⟨g2,τ2,e1,e2,e3,e4⟩ := zz9 (a1 := a1) h2 h3 h4 h5 hk (by omega) (show i < 80 by omega)
    obtain ⟨τ,e5⟩ := ih (i + 1) (w' + 4) g2 τ2 _ was' (by omega) (by omega) e2 e3 e4
    exact ⟨τ,e1.trans e5⟩
   by_cases c1 : (a.d == 1) = true
   ·obtain ⟨u,b1,b2⟩ := k4.bb
    obtain ⟨v1,p1,p2⟩ := ztx (c2 := zf1) rfl rfl b2 hba s0
    obtain ⟨g1,τ1,q1,q2,q3⟩ := s1.putP (by omega) (by omega) (by omega) (by omega) a.g p2 (by rw [jw]; decide) 0
    rw [if_pos (by omega),if_pos (jw _)] at q1
    rw [if_pos ⟨hk.1,by omega,jw _⟩] at q2
    have q1' : zi zf1 (ze cfg) 12 [.ref pid 0 0,.int .i64 a.g,v1,.int .i64 0] s0 = some (.int .i64 0,τ1) := by rw [zk rfl (by kernel_rfl)]; exact q1
    have k5 := k4.out q3
    have s7 := s6.out q3
    obtain ⟨u',b1',b2'⟩ := k5.bb
    obtain ⟨v2,p1',p2'⟩ := ztx (c2 := zf1) rfl rfl b2' hba τ1
    obtain ⟨j,hj⟩ : ∃ j : Nat,a.g = (j : Nat) := ⟨a.g.toNat,by omega⟩
    have hj6 : j < 6 := by omega
    have cv := IsS.str zt6 TB bU8 p2' τ1
    have ix := zu4 wid j hj6
    rw [← hj] at ix
    obtain ⟨τ2,t1,t2,t3⟩ := s7.st hj6 (pgB a.b)
    rw [if_pos c1,za,zb,b1,za,p1,za,q1',za,zb,if_neg (by decide),k5.pg,za,zb,b1',za,p1',za,cv,za,ye,ix,za,t1,za] at ev
    have hne : σ.next ≠ wid := fun e => by
     have := h6.lt
     omega
    obtain ⟨τ,f⟩ := fin (w' := w + 4) (was' := was.set j (pgB a.b)) (by omega) (by rw [t3]; exact q2.put (.inr (by rw [s7.g11]; decide)) _) (by
     obtain ⟨x1,x2,x3,x4,x5,x6⟩ := k5
     exact ⟨x1,by rw [t3]; exact x2,x3,x4,by rw [t3]; exact (yb hne).trans x5,x6⟩) t2 (fun m hm => by
     have hp := (s1.a.put (by omega) (k := a.g) ⟨hk.1,by omega⟩ (jw a.b) 0).2 m (by omega) (by omega)
     rw [hp]
     by_cases e : m = j
     ·subst e
      rw [if_pos hj.symm,List.getD_eq_getElem?_getD,List.getElem?_set_self (by rw [h6.ln]; exact hm)]
      rfl
     ·rw [if_neg (by omega),List.getD_eq_getElem?_getD,List.getElem?_set_ne (by omega),← List.getD_eq_getElem?_getD]
      exact hv m hm)
    exact ⟨τ,yi (ev.trans f)⟩
   rw [if_neg c1] at ev
   by_cases c3 : (a.d == 3) = true
   ·obtain ⟨g1,τ1,q1,q2,q3,q4⟩ := s1.flush (by omega) hn (by omega) (by omega) (by omega)
    have q1' : zi cfg (ze cfg) 14 [.ref pid 0 0] s0 = some (.int .i64 (p.dirts.length : Nat),τ1) := by rw [zk rfl (by kernel_rfl)]; exact q1
    rw [if_pos c3,q1',za,zb] at ev
    obtain ⟨τ,f⟩ := fin (w' := w + 256) (by omega) q2 (k4.out q3) (s6.out q3) fun j hj => (hv j hj).trans (q4 j (by omega) (by omega)).symm
    exact ⟨τ,yi (ev.trans f)⟩
   rw [if_neg c3] at ev
   by_cases c4 : (a.d == 4) = true
   ·obtain ⟨g1,τ1,q1,q2,q3⟩ := s1.evict (by omega) (by omega) (by omega) a.g
    have q1' : zi cfg (ze cfg) 15 [.ref pid 0 0,.int .i64 a.g] s0 = some (.int .i64 (if (wc p.m a.g).isSome = true then 0 else 3),τ1) := by rw [zk rfl (by kernel_rfl)]; exact q1
    rw [if_pos c4,za,zb,q1',za,zb] at ev
    obtain ⟨τ,f⟩ := fin (w' := w + 4) (by omega) q2 (k4.out q3) (s6.out q3) fun j hj => (hv j hj).trans (s1.a.ev.2 j (by omega) (by omega)).symm
    exact ⟨τ,yi (ev.trans f)⟩
   rw [if_neg c4] at ev
   obtain ⟨τ,f⟩ := fin (w' := w) (by omega) s1 k4 s6 hv
   exact ⟨τ,yi (ev.trans f)⟩
end
end Go.Pvm.S
