/- Part of the proof: the device: behind a crash. -/
import Derived.Test.YtceokplopachgaaDevH
set_option linter.unusedSimpArgs false
set_option linter.unusedVariables false
set_option maxRecDepth 100000
namespace Go.Pvm.S
open Go.Pvm Go.Proofs
theorem z4q {a b : Nat} (hb : 0 < b) (t : TypeId) (ht : Try.prog.underlying t = some (.int .i64)) : j9 Try.prog .rem t (.int .i64 (a : Nat)) (.int .i64 (b : Nat)) = some (.int .i64 ((a % b : Nat) : Int)) := by
 have : ¬ ((b : Nat) : Int) = 0 := by omega
 simp only [j9,ht,zln,if_neg this]
 rw [show (((a : Nat) : Int).tmod ((b : Nat) : Int)) = ((a % b : Nat) : Int) from rfl]
 try rfl
theorem z4o : Try.prog.underlying 3 = some (.int .i64) := by kernel_rfl
section
variable {g g' : Nat → Nat} {σ τ : Store} {id : Nat} {d : Dv} {x : Vals} {u v : PV} {b : By} {pat : List Bool}
theorem z4h {c2 : Cfg} (hm : c2.mode 62 = .pure) (hP : c2.P = Try.prog) {t : Tn} (hu : IsS RB u t.b) (σ : Store) : zi c2 (ze cfg) 62 [.agg [u,.bool t.trim,.int .i64 t.place]] σ = some (.int .i64 t.units,σ) := by
 refine w8 hm (by rw [hP]; kernel_rfl) (args' := [.agg [u,.bool t.trim,.int .i64 t.place]]) ?_ ?_ (.inl rfl)
 ·show [PV.agg ([u,.bool t.trim,.int .i64 t.place].map (fz 7 σ))] = _
  rw [vo (pl3 hu.plain _ _ _) 6]
 ·have ev := z4t (ze cfg) (y2 cfg) .empty u t.trim t.place
  have l1 : zd Try.prog (Store.empty.push (.cells 0 [[u,.bool t.trim,.int .i64 t.place]])) 4 (.ref Store.empty.next 0 (0 + 1)) = some (.bool t.trim) := qc oBool (zn _ _) rfl
  have l2 : zd Try.prog (Store.empty.push (.cells 0 [[u,.bool t.trim,.int .i64 t.place]])) 33 (.ref Store.empty.next 0 (0 + 0)) = some u := qc otB (zn _ _) rfl
  simp only [l1,l2,za,zc,hu.len TB,zb] at ev
  unfold Tn.units
  by_cases h : t.trim = true
  ·rw [if_pos h] at ev ⊢
   exact zl8 (hT _) ev rfl
  ·rw [if_neg h] at ev ⊢
   exact zl8 (hT _) ev rfl
theorem z3f {P : Nat} (hP : P ≤ 1000000) (n : Int) : ∀ (k i : Nat) (g : Nat → Nat) (σ : Store) (d : Dv),i + k = d.ws.length → DevX g σ id d x → QS RBo σ 1 v pat → (∀ j ∈ tops v,7 ≤ g j) → zys P d.ws → d.kept.pg.length = 512 * P → d.ws.length ≤ 1000000 →
  ∃ g' τ,y2 cfg 33 z2v (z2u (.ref id 0 0) v n x.vw (d.ws.length : Nat) (i : Nat)) σ = some (.exit 0,z29 (.ref id 0 0) n,τ) ∧ DevX g' τ id { d with kept := z2q pat d.kept (d.ws.drop i) i } x ∧ Out g σ g' τ
 | 0,i,g,σ,d,hi,h,hv,h7,hw,hl,hn => by
   refine ⟨g,σ,yi ((z38 _ _ _ _ _ _ _ _ _).trans ?_),?_,Out.refl _ _⟩
   ·simp only [zzr (show d.ws.length ≤ i by omega),Bool.false_eq_true,if_false]
   ·rw [List.drop_eq_nil_of_le (by omega)]; exact h
 | k + 1,i,g,σ,d,hi,h,hv,h7,hw,hl,hn => by
   obtain ⟨w,r,u,e1,e2,e3,e4⟩ := h.w (show i < d.ws.length by omega)
   obtain ⟨w1,w2,w3⟩ := hw w (List.mem_of_getElem? e1)
   obtain ⟨k1,k2,k3⟩ := h.box (.cells 0 [[.int .i64 w.1,u]])
   have hat : ((w.1.toNat : Nat) : Int) = w.1 := by omega
   have hv1 := QS.out hv k2 h7
   have h71 := k2.seven hv h7
   have hlen : jd Try.prog .len [34] [v] = some (.int .i64 (pat.length : Nat)) := hv.len TBo
   have ev := z38 (ze cfg) (y2 cfg) σ (.ref id 0 0) v n x.vw (d.ws.length : Nat) (i : Nat)
   simp only [ltN (show i < d.ws.length by omega),if_true,e2,e3,za,stW σ w.1 e4.plain,hlen,zb] at ev
   rw [zk6 e1]
   have hskip : (∀ q : Bool,¬ (0 < pat.length ∧ pat.getD (i % pat.length) false = true) → za6 cfg (ze cfg) (y2 cfg) 33 z2v (z2u (.ref id 0 0) v n x.vw (d.ws.length : Nat) (i : Nat)) σ = y2 cfg 33 z2v (z2u (.ref id 0 0) v n x.vw (d.ws.length : Nat) (IntKind.wrap .i64 (((i : Nat) : Int) + 1))) (σ.push (.cells 0 [[.int .i64 w.1,u]])) →
     ∃ g' τ,y2 cfg 33 z2v (z2u (.ref id 0 0) v n x.vw (d.ws.length : Nat) (i : Nat)) σ = some (.exit 0,z29 (.ref id 0 0) n,τ) ∧ DevX g' τ id { d with kept := z2q pat d.kept (w :: d.ws.drop (i + 1)) i } x ∧ Out g σ g' τ) := fun _ hc ev => by
    rw [y6 (show i < 4611686018427387904 by omega)] at ev
    obtain ⟨g',τ2,r1,r2,r3⟩ := z3f hP n k (i + 1) _ _ d (by omega) k1 hv1 h71 hw hl hn
    refine ⟨g',τ2,yi (ev.trans r1),?_,k2.trans r3⟩
    unfold z2q
    rw [if_neg hc]
    exact r2
   by_cases c1 : 0 < pat.length
   ·have d1 : decide (((pat.length : Nat) : Int) > 0) = true := decide_eq_true (by omega)
    have hmod : i % pat.length < pat.length := Nat.mod_lt _ c1
    have hg := List.getElem?_eq_getElem hmod
    obtain ⟨r2,e,m1,_,m2,rfl⟩ := hv1.idx TBo z4r hg .i64
    have hgd : pat.getD (i % pat.length) false = pat[i % pat.length] := by rw [List.getD_eq_getElem?_getD,hg]; rfl
    have ldb : zd Try.prog (σ.push (.cells 0 [[.int .i64 w.1,u]])) 4 r2 = some (.bool pat[i % pat.length]) := by rw [m2,oBool.part]; rfl
    simp only [d1,if_true,z4q c1 3 z4o,za,zb,m1,ldb,zc] at ev
    by_cases c2 : pat[i % pat.length] = true
    ·rw [if_pos c2] at ev
     obtain ⟨τ1,p1,p2,p3⟩ := zr8 k1 e4 w3 (at_ := w.1.toNat) (by rw [hl]; exact w2) (by omega)
     rw [hat] at p1 p2
     have hp : zi zf1 (ze cfg) 58 [.ref id 0 3,.agg [.int .i64 w.1,u]] (σ.push (.cells 0 [[.int .i64 w.1,u]])) = some (.tuple [],τ1) := by rw [zk rfl (by kernel_rfl)]; exact p1
     simp only [zsh,(faV id).2.1,za,ldW (zn σ (.cells 0 [[.int .i64 w.1,u]])) rfl,hp,y6 (show i < 4611686018427387904 by omega)] at ev
     obtain ⟨g',τ2,r1,r2,r3⟩ := z3f hP n k (i + 1) _ τ1 { d with kept := d.kept.put w } (by show i + 1 + k = d.ws.length; omega) p2 (QS.out hv1 p3 h71) (p3.seven hv1 h71) hw (by
      show (putP d.kept.pg w).length = _
      rw [zg8 (by omega) w3,hl]) hn
     refine ⟨g',τ2,yi (ev.trans r1),?_,(k2.trans p3).trans r3⟩
     unfold z2q
     rw [if_pos ⟨c1,by rw [hgd]; exact c2⟩]
     exact r2
    ·rw [if_neg c2] at ev
     exact hskip true (fun hc => c2 (by rw [← hgd]; exact hc.2)) ev
   ·have d1 : decide (((pat.length : Nat) : Int) > 0) = false := decide_eq_false (by omega)
    simp only [d1,Bool.false_eq_true,if_false] at ev
    exact hskip true (fun hc => c1 hc.1) ev
theorem z3t : ∀ (k i : Nat) (g : Nat → Nat) (σ : Store) (d : Dv) (x : Vals) (n : Int),i + k = d.ts.length → DevX g σ id d x → oks d.kept (d.ts.drop i) → d.ts.length ≤ 1000000 → -9223372036854775808 ≤ n ∧ n ≤ 9223372036854775807 →
  ∃ g' τ u',y2 cfg 33 z3v (z3p (.ref id 0 0) n x.vt (d.ts.length : Nat) (i : Nat)) σ = some (.exit 2,z25 (.ref id 0 0),τ) ∧ DevX g' τ id { d with kept := z2r d.kept (d.ts.drop i) n } { x with ws := u' } ∧ Out g σ g' τ
 | 0,i,g,σ,d,x,n,hi,h,hw,hn,hr => by
   refine ⟨g,σ,x.ws,yi ((z37 _ _ _ _ _ _ _ _).trans ?_),?_,Out.refl _ _⟩
   ·simp only [zzr (show d.ts.length ≤ i by omega),Bool.false_eq_true,if_false]
   ·rw [List.drop_eq_nil_of_le (by omega)]; exact h
 | k + 1,i,g,σ,d,x,n,hi,h,hw,hn,hr => by
   obtain ⟨t,r,u,e1,e2,e3,e4⟩ := h.t (show i < d.ts.length by omega)
   rw [zk6 e1] at hw ⊢
   obtain ⟨o1,o2,o3,o4⟩ := hw
   obtain ⟨k1,k2,k3⟩ := h.box (.cells 0 [[u,.bool t.trim,.int .i64 t.place]])
   have hbox := zn σ (.cells 0 [[u,.bool t.trim,.int .i64 t.place]])
   have hu0 : 0 ≤ t.units := by unfold Tn.units; split <;> omega
   have hu1 : t.units ≤ 1000000000 := by unfold Tn.units; split <;> omega
   have ev := z37 (ze cfg) (y2 cfg) σ (.ref id 0 0) n x.vt (d.ts.length : Nat) (i : Nat)
   simp only [ltN (show i < d.ts.length by omega),if_true,e2,e3,za,stT σ [u,.bool t.trim,.int .i64 t.place] rfl (z0a e4.plain _ _ _),ldT hbox rfl,z4h (c2 := cfg) rfl rfl e4,zb] at ev
   unfold z2r
   by_cases c1 : t.units > n
   ·rw [if_pos c1]
    rw [if_pos (decide_eq_true c1)] at ev
    by_cases c2 : n > 0
    ·rw [if_pos c2]
     have htr : t.trim = false := by
      cases htt : t.trim with
      | false => rfl
      | true => unfold Tn.units at c1; rw [htt] at c1; simp at c1; omega
     have hlt : n.toNat ≤ t.b.length := by unfold Tn.units at c1; rw [htr] at c1; simp at c1; omega
     have hnn : ((n.toNat : Nat) : Int) = n := by omega
     obtain ⟨v',c3,c4⟩ := e4.cut TB okB (lo := none) (hi := some (.int .i64 ((n.toNat : Nat) : Int))) rfl (x8 .i64 _ _) (Nat.zero_le _) hlt
     rw [hnn] at c3
     simp only [List.drop_zero,Nat.sub_zero] at c4
     have lu : zd Try.prog (σ.push (.cells 0 [[u,.bool t.trim,.int .i64 t.place]])) 33 (.ref σ.next 0 (0 + 0)) = some u := qc otB hbox rfl
     obtain ⟨g1,τ1,u1,p1,p2,p3⟩ := zo3 k1 (t := ⟨t.b.take n.toNat,false,0⟩) c4 (by show _ + (t.b.take n.toNat).length ≤ _; rw [List.length_take]; omega) (fun e => by cases e) o2
     have hp : zi zf1 (ze cfg) 55 [.ref id 0 3,.agg [v',.bool false,.int .i64 0]] (σ.push (.cells 0 [[u,.bool t.trim,.int .i64 t.place]])) = some (.tuple [],τ1) := by rw [zk rfl (by kernel_rfl)]; exact p1
     rw [if_pos (decide_eq_true c2)] at ev
     simp only [zsh,(faV id).2.1,lu,c3,bvT _ c4.plain,za,hp] at ev
     exact ⟨g1,τ1,u1,yi ev,p2,k2.trans p3⟩
    ·rw [if_neg c2]
     rw [if_neg (by simpa using c2)] at ev
     exact ⟨_,_,x.ws,yi ev,k1,k2⟩
   ·rw [if_neg c1]
    rw [if_neg (by simpa using c1)] at ev
    obtain ⟨g1,τ1,u1,p1,p2,p3⟩ := zo3 k1 e4 (by show d.kept.st.length + t.b.length ≤ _; omega) o1 o2
    have hp : zi zf1 (ze cfg) 55 [.ref id 0 3,.agg [u,.bool t.trim,.int .i64 t.place]] (σ.push (.cells 0 [[u,.bool t.trim,.int .i64 t.place]])) = some (.tuple [],τ1) := by rw [zk rfl (by kernel_rfl)]; exact p1
    have hwr : IntKind.wrap .i64 (n - t.units) = n - t.units := zap (by omega) (by omega)
    simp only [zsh,(faV id).2.1,za,hp,y6 (show i < 4611686018427387904 by omega),hwr] at ev
    obtain ⟨g',τ2,u2,r1,r2,r3⟩ := z3t k (i + 1) _ τ1 { d with kept := d.kept.turn t } _ (n - t.units) (by show i + 1 + k = d.ts.length; omega) p2 o4 hn (by omega)
    exact ⟨g',τ2,u2,yi (ev.trans r1),r2,(k2.trans p3).trans r3⟩
theorem z4n (p s : PV) (b : Int) (hp : p.cells = [p] ∧ p.one = true) (hs : s.cells = [s] ∧ s.one = true) (h : ∃ a b c d e,p = .lsl a b c d e) (h2 : s = .nilsl ∨ (∃ a b,s = .psl a b) ∨ ∃ a b c d e,s = .lsl a b c d e) : jz Try.prog 53 [(0,p),(1,.int .i64 b),(2,s)] = some (.agg [p,.int .i64 b,s]) := by
 obtain ⟨_,_,_,_,_,rfl⟩ := h
 rcases h2 with rfl | ⟨_,_,rfl⟩ | ⟨_,_,_,_,_,rfl⟩ <;> kernel_rfl
theorem z4p : qk Try.prog 53 = some 3 := by kernel_rfl
theorem z4c (h : DevS g σ id d) (hv : QS RBo σ 1 v pat) (h7 : ∀ j ∈ tops v,7 ≤ g j) {P : Nat} (hP : 1 ≤ P ∧ P ≤ 1000000) (hl : d.kept.pg.length = 512 * P) (hw : zys P d.ws) (ht : oks d.kept d.ts) (h1 : d.ws.length ≤ 1000000) (h2 : d.ts.length ≤ 1000000) {n : Int} (hr : -9223372036854775808 ≤ n ∧ n ≤ 9223372036854775807)
  (hst : (z2r d.kept d.ts n).st.length ≤ 1000000000) :
  ∃ g' τ,ze cfg 33 [.ref id 0 0,v,.int .i64 n] σ = some (.tuple [],τ) ∧ DevS g' τ id (d.crash pat n) ∧ Out g σ g' τ := by
 obtain ⟨x,q⟩ := h
 have q' := q
 obtain ⟨q1,q2,q3,q4⟩ := q'
 have ev := z4u (ze cfg) (y2 cfg) σ id 0 0 v n
 have lw : zd Try.prog σ 54 (.ref id 0 6) = some x.vw := qc otW q1 rfl
 obtain ⟨g1,τ1,a1,a2,a3⟩ := z3f hP.2 n d.ws.length 0 g σ d (by omega) q hv h7 hw hl h1
 rw [zp3] at a1
 rw [List.drop_zero] at a2
 obtain ⟨k1,k2,k3⟩ := z2s pat d.ws d.kept 0 hw hl
 have lt : zd Try.prog τ1 55 (.ref id 0 7) = some x.vt := qc otT a2.1 rfl
 obtain ⟨g2,τ2,u',b1,b2,b3⟩ := z3t d.ts.length 0 g1 τ1 _ x n (by show 0 + d.ts.length = d.ts.length; omega) a2 (by
  show oks _ (d.ts.drop 0)
  rw [List.drop_zero]
  exact ztj _ _ _ k2.symm k3.symm ht) h2 hr
 rw [zp3] at b1
 simp only [List.drop_zero] at b2
 have hstk : ∀ (ts : List Tn) (x y : Dk) (u : Int),x.st = y.st → x.base = y.base → (z2r x ts u).st = (z2r y ts u).st := by
  intro ts
  induction ts with
  | nil => intro x y u h1 h2; exact h1
  | cons t ts ih =>
    intro x y u h1 h2
    unfold z2r
    split
    ·split
     ·unfold Dk.turn; simp [h1]
     ·exact h1
    ·refine ih _ _ _ ?_ ?_
     ·unfold Dk.turn; split <;> simp [h1,h2]
     ·unfold Dk.turn; split <;> simp [h2]
 generalize hK : z2r (z2q pat d.kept d.ws 0) d.ts n = K at b2
 have hKp : K.pg.length = 512 * P := by rw [← hK,z3b,k1]
 have hKs : K.st.length ≤ 1000000000 := by rw [← hK,hstk d.ts _ d.kept n k2 k3]; exact hst
 have lp : zd Try.prog τ2 33 (.ref id 0 3) = some x.wp := qc otB b2.1 rfl
 obtain ⟨up,τ3,j1,j2,j3,j4,j5⟩ := zra (c2 := zf1) rfl rfl (sz := 1) b2.2.2.2.wp.q (by show K.pg.length ≤ _; omega)
 have hτ3 : τ3.objs id = some (.cells 0 [Vals.cells { x with ws := u' } { d with kept := K }]) := (j2.2 id b2.2.1 (by simp)).trans b2.1
 have lb : zd Try.prog τ3 3 (.ref id 0 4) = some (.int .i64 K.base) := qc oInt hτ3 rfl
 have ls : zd Try.prog τ3 33 (.ref id 0 5) = some u' := qc otB hτ3 rfl
 have c3 := b2.2.2.2.mod j2 fun i hi _ => by (cases hi)
 obtain ⟨us,τ4,i1,i2,i3,i4,_⟩ := zra (c2 := zf1) rfl rfl (sz := 1) c3.ws.q (by show K.st.length ≤ _; omega)
 have hid3 : id < τ3.next := Nat.lt_of_lt_of_le b2.2.1 j2.1
 have hτ4 : τ4.objs id = some (.cells 0 [Vals.cells { x with ws := u' } { d with kept := K }]) := (i2.2 id hid3 (by simp)).trans hτ3
 have wup : Wr RB τ3 1 up K.pg := j5 (by
  intro e
  have : K.pg.length = 0 := by show (K.pg).length = 0; rw [show K.pg = [] from e]; rfl
  omega)
 have wup4 : Wr RB τ4 1 up K.pg := wup.mod i2 fun _ _ => by simp
 have hop := Wr.one wup4
 have hos := AxS.one i4
 have hsh : us = .nilsl ∨ (∃ a b,us = .psl a b) ∨ ∃ a b c d e,us = .lsl a b c d e := by
  obtain ⟨es,z1,_⟩ := i4
  rcases z1 with ⟨rfl,_⟩ | rfl | ⟨_,_,_,rfl,_⟩
  ·exact .inl rfl
  ·exact .inr (.inl ⟨_,_,rfl⟩)
  ·exact .inr (.inr ⟨_,_,_,_,_,rfl⟩)
 have hbv := z4n up us K.base hop hos (by obtain ⟨_,_,_,rfl,_⟩ := wup4; exact ⟨_,_,_,_,_,rfl⟩) hsh
 have sd : zu Try.prog τ4 53 (.ref id 0 0) (.agg [up,.int .i64 K.base,us]) = some (τ4.put id (.cells 0 [Vals.cells { x with ws := u',vp := up,vs := us } { d with kept := K,seen := K }])) := by
  rw [zlu z4p hτ4 (Nat.le_refl _) rfl rfl (by show 0 + 3 ≤ 10; decide) (by show [up,PV.int .i64 K.base,us].all PV.one = true; simp only [List.all_cons,List.all_nil,hop.2,hos.2]; rfl)]
  rfl
 -- the device anew
 let g3 : Nat → Nat := fun i => if i < τ2.next then g2 i else if i < τ3.next then 1 else if i < τ4.next then 2 else 7
 have e2 : ∀ i,i < τ2.next → g3 i = g2 i := fun i hi => if_pos hi
 have m24 : Mod τ2 τ4 [] := (j2.trans i2).mono fun i _ hi => by simp at hi
 have c4 := (b2.2.2.2.mod m24 fun i hi _ => by (cases hi))
 have c2r := b2.2.2.2.retag e2
 have X : DevX g3 (τ4.put id (.cells 0 [Vals.cells { x with ws := u',vp := up,vs := us } { d with kept := K,seen := K }])) id { d with kept := K,seen := K } { x with ws := u',vp := up,vs := us } := by
  have m : Mod τ4 (τ4.put id (.cells 0 [Vals.cells { x with ws := u',vp := up,vs := us } { d with kept := K,seen := K }])) [id] := Mod.put (.head _)
  have hidn : ∀ {k : Nat} {w : PV},0 < k → Sl g2 k w → ∀ i ∈ tops w,i ∉ [id] := fun a c i hi hm => by
   have := c i hi
   rw [List.mem_singleton.1 hm,b2.2.2.1] at this
   omega
  have n23 := j2.1
  have n34 := i2.1
  refine ⟨xa _ _ _,Nat.lt_of_lt_of_le b2.2.1 m24.1,(e2 id b2.2.1).trans b2.2.2.1,⟨wup4.mod m fun i hi hm => ?_,i4.mod m fun i hi hm => ?_,c4.wp.mod m (hidn (by decide) b2.2.2.2.g3),c4.ws.mod m (hidn (by decide) b2.2.2.2.g4),c4.vw.mod m (hidn (by decide) b2.2.2.2.g5),c4.vt.mod m (hidn (by decide) b2.2.2.2.g6),fun i hi => ?_,fun i hi => ?_,c2r.g3,c2r.g4,c2r.g5,c2r.g6⟩⟩
  ·have := (j3 i hi).1
   rw [List.mem_singleton.1 hm] at this
   have := b2.2.1
   omega
  ·have := (i3 i hi).1
   rw [List.mem_singleton.1 hm] at this
   omega
  ·have := j3 i hi
   show (if i < τ2.next then _ else if i < τ3.next then 1 else _) = 1
   rw [if_neg (by omega),if_pos this.2]
  ·have := i3 i hi
   show (if i < τ2.next then _ else if i < τ3.next then 1 else if i < τ4.next then 2 else 7) = 2
   rw [if_neg (by omega),if_neg (by omega),if_pos this.2]
 obtain ⟨n1,n2,n3,n4⟩ := X.none
 obtain ⟨y1,y2,y3,y4⟩ := n3
 have s4 := zbi (σ := τ4.put id (.cells 0 [((Vals.cells { x with ws := u',vp := up,vs := us } { d with kept := K,seen := K }).set 6 .nilsl).set 7 .nilsl])) (off := 8) (v := .int .i64 (-1)) oInt (xa _ _ _) (by show 8 < 10; decide) rfl rfl
 rw [zel] at s4
 have s5 := zbi (σ := τ4.put id (.cells 0 [(((Vals.cells { x with ws := u',vp := up,vs := us } { d with kept := K,seen := K }).set 6 .nilsl).set 7 .nilsl).set 8 (.int .i64 (-1))])) (off := 9) (v := .bool false) oBool (xa _ _ _) (by show 9 < 10; decide) rfl rfl
 rw [zel] at s5
 have hlw : jd Try.prog .len [54] [x.vw] = some (.int .i64 (d.ws.length : Nat)) := q4.vw.len TW
 have hlt : jd Try.prog .len [55] [x.vt] = some (.int .i64 (d.ts.length : Nat)) := a2.2.2.2.vt.len TT
 have fd : zj Try.prog 53 (.ref id 0 3) 0 = some (.ref id 0 3) ∧ zj Try.prog 53 (.ref id 0 3) 1 = some (.ref id 0 4) ∧ zj Try.prog 53 (.ref id 0 3) 2 = some (.ref id 0 5) := ⟨by kernel_rfl,by kernel_rfl,by kernel_rfl⟩
 simp only [(zwz id).1,zc,Bool.false_eq_true,if_false,Nat.zero_add,lw,hlw,zb,za,a1,ya,if_true,out33_2_0,out33_2_2,zsh,(faV id).2.2.2.1,lt,hlt,b1,out33_8_0,(faV id).2.1,fd.1,lp,j1,fd.2.1,lb,fd.2.2,ls,i1,hbv,(faV id).1,sd,(faV id).2.2.1,n1,n2,(faV id).2.2.2.2.1,(faV id).2.2.2.2.2] at ev
 rw [zel,s4] at ev
 simp only [za] at ev
 rw [s5] at ev
 simp only [za] at ev
 have hcr : d.crash pat n = { seen := K,kept := K,ws := [],ts := [],armed := -1,gone := false } := by unfold Dv.crash; rw [hK]
 rw [hcr]
 have mf : ∀ o o',Mod (τ4.put id o) (τ4.put id o') [id] := fun o o' => ⟨Nat.le_refl _,fun i _ hi => by
  have hne : i ≠ id := fun e => hi (by rw [e]; exact .head _)
  rw [yb hne,yb hne]⟩
 refine ⟨g3,_,zf (hT _) ev,⟨{ x with ws := u',vp := up,vs := us,vw := .nilsl,vt := .nilsl },xa _ _ _,y2,y3,?_⟩,?_⟩
 ·have c5 := X.2.2.2.mod (mf _ (.cells 0 [((((Vals.cells { x with ws := u',vp := up,vs := us } { d with kept := K,seen := K }).set 6 .nilsl).set 7 .nilsl).set 8 (.int .i64 (-1))).set 9 (.bool false)])) fun i hi _ => by rw [List.mem_singleton.1 hi]; exact .inl X.2.2.1
  exact ⟨c5.vp,c5.vs,c5.wp,c5.ws,AxS.nil _,AxS.nil _,c5.g1,c5.g2,c5.g3,c5.g4,fun i hi => by (cases hi),fun i hi => by (cases hi)⟩
 ·have o24 : Out g2 τ2 g3 τ4 := Out.mod m24 (fun i hi => by cases hi) e2
  have o4 : ∀ o,Out g3 τ4 g3 (τ4.put id o) := fun o => Out.mod (Mod.put (ids := [id]) (.head _)) (fun i hi _ => by rw [List.mem_singleton.1 hi,X.2.2.1]; decide) fun _ _ => rfl
  have o5 : ∀ o o',Out g3 (τ4.put id o) g3 (τ4.put id o') := fun o o' => Out.mod (mf o o') (fun i hi _ => by rw [List.mem_singleton.1 hi,X.2.2.1]; decide) fun _ _ => rfl
  exact (((a3.trans b3).trans o24).trans (o4 (.cells 0 []))).trans (o5 _ _)
end
end Go.Pvm.S
