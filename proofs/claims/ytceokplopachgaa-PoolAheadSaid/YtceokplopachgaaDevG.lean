/- Part of the proof: the device: made, read, synced. -/
import Derived.Test.YtceokplopachgaaDevF
set_option linter.unusedSimpArgs false
set_option linter.unusedVariables false
set_option maxRecDepth 100000
namespace Go.Pvm.S
open Go.Pvm Go.Proofs
def oks : Dk → List Tn → Prop
 | _,[] => True
 | x,t :: r => (t.trim = true → x.base ≤ t.place ∧ t.place ≤ x.base + x.st.length) ∧ (0 ≤ x.base ∧ x.base ≤ 1000000000) ∧ x.st.length + t.b.length ≤ 65536 ∧ oks (x.turn t) r
def zys (P : Nat) (ws : List (Int × By)) : Prop := ∀ w ∈ ws,0 ≤ w.1 ∧ 128 * w.1.toNat + 128 ≤ 512 * P ∧ w.2.length = 128
def Dv.sync (d : Dv) : Dv := if d.gone = true then d else { d with kept := d.ts.foldl Dk.turn (d.ws.foldl Dk.put d.kept),ws := [],ts := [] }
theorem zgl : ∀ (ws : List (Int × By)) (x : Dk),(ws.foldl Dk.put x).st = x.st ∧ (ws.foldl Dk.put x).base = x.base
 | [],_ => ⟨rfl,rfl⟩
 | w :: ws,x => zgl ws (x.put w)
theorem ztj : ∀ (ts : List Tn) (x y : Dk),x.st = y.st → x.base = y.base → oks x ts → oks y ts
 | [],_,_,_,_,_ => trivial
 | t :: ts,x,y,h1,h2,h => by
   obtain ⟨a,b,c,d⟩ := h
   refine ⟨by rw [← h1,← h2]; exact a,by rw [← h2]; exact b,by rw [← h1]; exact c,ztj ts _ _ ?_ ?_ d⟩
   ·unfold Dk.turn; split <;> simp [h1,h2]
   ·unfold Dk.turn; split <;> simp [h2]
def DevX (g : Nat → Nat) (σ : Store) (id : Nat) (d : Dv) (x : Vals) : Prop := σ.objs id = some (.cells 0 [x.cells d]) ∧ id < σ.next ∧ g id = 0 ∧ Comp g σ x d
section
variable {g g' : Nat → Nat} {σ τ : Store} {id : Nat} {d : Dv} {x : Vals} {u v : PV} {b : By}
theorem DevX.box (h : DevX g σ id d x) (o : Obj) : DevX (tag g σ.next 7) (σ.push o) id d x ∧ Out g σ (tag g σ.next 7) (σ.push o) ∧ tag g σ.next 7 σ.next = 7 := by
 obtain ⟨q1,q2,q3,q4⟩ := h
 have hg : ∀ i,i < σ.next → tag g σ.next 7 i = g i := fun i hi => je hi
 exact ⟨⟨zbq q1 q2,Nat.lt_succ_of_lt q2,(hg id q2).trans q3,(q4.retag hg).mod (Mod.push σ o []) fun i hi => by cases hi⟩,(Out.retag hg).trans (Out.push _ σ o),qj (Nat.le_refl _)⟩
theorem zr8 (h : DevX g σ id d x) (hu : IsS RB u b) (h1 : b.length = 128) {at_ : Nat} (h2 : 128 * at_ + 128 ≤ d.kept.pg.length) (hs : d.kept.pg.length ≤ 1000000000) :
  ∃ τ,ze cfg 58 [.ref id 0 3,.agg [.int .i64 (at_ : Nat),u]] σ = some (.tuple [],τ) ∧ DevX g τ id { d with kept := d.kept.put ((at_ : Nat),b) } x ∧ Out g σ g τ := by
 obtain ⟨q1,q2,q3,q4⟩ := h
 obtain ⟨τ,k1,k2,k3⟩ := zwb (off := 3) q1 q2 rfl q4.wp hu h1 h2 hs
 have key : ∀ {k : Nat} {v : PV},k ≠ 3 → Sl g k v → ∀ i ∈ tops v,i ∉ tops x.wp := fun a c i hi hm => a ((c i hi).symm.trans (q4.g3 i hm))
 refine ⟨τ,k1,⟨(k2.2 id q2 fun hm => by have := q4.g3 id hm; omega).trans q1,Nat.lt_of_lt_of_le q2 k2.1,q3,?_⟩,Out.mod k2 (fun i hi _ => by rw [q4.g3 i hi]; decide) fun _ _ => rfl⟩
 exact ⟨q4.vp.mod k2 (key (by decide) q4.g1),q4.vs.mod k2 (key (by decide) q4.g2),k3,q4.ws.mod k2 (key (by decide) q4.g4),q4.vw.mod k2 (key (by decide) q4.g5),q4.vt.mod k2 (key (by decide) q4.g6),q4.g1,q4.g2,q4.g3,q4.g4,q4.g5,q4.g6⟩
theorem zo3 (h : DevX g σ id d x) {t : Tn} (hu : IsS RB u t.b) (hs : d.kept.st.length + t.b.length ≤ 1000000000) (hv : t.trim = true → d.kept.base ≤ t.place ∧ t.place ≤ d.kept.base + d.kept.st.length) (hb : 0 ≤ d.kept.base ∧ d.kept.base ≤ 1000000000) :
  ∃ g' τ u',ze cfg 55 [.ref id 0 3,.agg [u,.bool t.trim,.int .i64 t.place]] σ = some (.tuple [],τ) ∧ DevX g' τ id { d with kept := d.kept.turn t } { x with ws := u' } ∧ Out g σ g' τ := by
 obtain ⟨q1,q2,q3,q4⟩ := h
 obtain ⟨u',τ,k1,k2,k3,k4,k5⟩ := zv8 (off := 3) q1 q2 (by show 5 < 10; decide) rfl rfl q4.ws (fun i hi e => by have := q4.g4 i hi; rw [e] at this; omega) hu hs hv hb
 have key : ∀ {k : Nat} {v : PV},k ≠ 4 → 0 < k → Sl g k v → ∀ i ∈ tops v,i ∉ id :: tops x.ws := fun a a0 c i hi hm => by
  rcases List.mem_cons.1 hm with rfl | hm
  ·have := c _ hi; omega
  ·exact a ((c i hi).symm.trans (q4.g4 i hm))
 have hg : ∀ i,i < σ.next → tag g σ.next 4 i = g i := fun i hi => je hi
 obtain ⟨e1,e2⟩ := zt4 d.kept [] t
 have e3 := zt3 d.kept t
 have r := q4.retag hg
 refine ⟨tag g σ.next 4,τ,u',k1,⟨?_,Nat.lt_of_lt_of_le q2 k2.1,(hg id q2).trans q3,?_⟩,Out.mod k2 (fun i hi _ => ?_) hg⟩
 ·rw [k3,e2]
  rfl
 ·refine ⟨q4.vp.mod k2 (key (by decide) (by decide) q4.g1),q4.vs.mod k2 (key (by decide) (by decide) q4.g2),?_,?_,q4.vw.mod k2 (key (by decide) (by decide) q4.g5),q4.vt.mod k2 (key (by decide) (by decide) q4.g6),r.g1,r.g2,r.g3,q4.g4.tag q4.ws.lt k5,r.g5,r.g6⟩
  ·show Wr RB τ 1 x.wp (d.kept.turn t).pg
   rw [e3]
   exact q4.wp.mod k2 (key (by decide) (by decide) q4.g3)
  ·show AxS RB τ 1 u' (d.kept.turn t).st
   rw [← e1]
   exact k4
 ·rcases List.mem_cons.1 hi with rfl | hi
  ·omega
  ·rw [q4.g4 i hi]; decide
theorem DevX.w (h : DevX g σ id d x) {i : Nat} (hi : i < d.ws.length) : ∃ w r u,d.ws[i]? = some w ∧ zh Try.prog 54 x.vw (.int .i64 (i : Nat)) = some r ∧ zd Try.prog σ 118 r = some (.agg [.int .i64 w.1,u]) ∧ IsS RB u w.2 := by
 have hw := List.getElem?_eq_getElem hi
 obtain ⟨r,e,k1,_,k2,u,rfl,k3⟩ := h.2.2.2.vw.q.idx TW okW hw .i64
 exact ⟨_,r,u,hw,k1,by rw [k2,aggW.part rfl],k3⟩
theorem DevX.t (h : DevX g σ id d x) {i : Nat} (hi : i < d.ts.length) : ∃ t r u,d.ts[i]? = some t ∧ zh Try.prog 55 x.vt (.int .i64 (i : Nat)) = some r ∧ zd Try.prog σ 112 r = some (.agg [u,.bool t.trim,.int .i64 t.place]) ∧ IsS RB u t.b := by
 have hw := List.getElem?_eq_getElem hi
 obtain ⟨r,e,k1,_,k2,u,rfl,k3⟩ := h.2.2.2.vt.q.idx TT okT hw .i64
 exact ⟨_,r,u,hw,k1,by rw [k2,aggT.part rfl],k3⟩
theorem zk6 {α : Type} {l : List α} {i : Nat} {a : α} (h : l[i]? = some a) : l.drop i = a :: l.drop (i + 1) := by
 have hi := (List.getElem?_eq_some_iff.1 h).1
 rw [List.drop_eq_getElem_cons hi]
 rw [List.getElem?_eq_getElem hi] at h
 cases h
 rfl
theorem z0a {u : PV} (hu : u.plain = true) (a : Bool) (k : IntKind) (y : Int) : ([u,PV.bool a,PV.int k y]).all PV.one = true := by simp only [List.all_cons,List.all_nil,wx hu]; rfl
theorem zqc {P : Nat} (hP : P ≤ 1000000) : ∀ (k i : Nat) (g : Nat → Nat) (σ : Store) (d : Dv),i + k = d.ws.length → DevX g σ id d x → zys P d.ws → d.kept.pg.length = 512 * P → d.ws.length ≤ 1000000 →
  ∃ g' τ,y2 cfg 29 zmi (zlw (.ref id 0 0) x.vw (d.ws.length : Nat) (i : Nat)) σ = some (.exit 0,zkt (.ref id 0 0),τ) ∧ DevX g' τ id { d with kept := (d.ws.drop i).foldl Dk.put d.kept } x ∧ Out g σ g' τ
 | 0,i,g,σ,d,hi,h,hw,hl,hn => by
   refine ⟨g,σ,yi ((zto _ _ _ _ _ _ _).trans ?_),?_,Out.refl _ _⟩
   ·simp only [zzr (show d.ws.length ≤ i by omega),Bool.false_eq_true,if_false]
   ·rw [List.drop_eq_nil_of_le (by omega)]; exact h
 | k + 1,i,g,σ,d,hi,h,hw,hl,hn => by
   obtain ⟨w,r,u,e1,e2,e3,e4⟩ := h.w (show i < d.ws.length by omega)
   obtain ⟨w1,w2,w3⟩ := hw w (List.mem_of_getElem? e1)
   obtain ⟨k1,k2,k3⟩ := h.box (.cells 0 [[.int .i64 w.1,u]])
   have hat : ((w.1.toNat : Nat) : Int) = w.1 := by omega
   obtain ⟨τ1,p1,p2,p3⟩ := zr8 k1 e4 w3 (at_ := w.1.toNat) (by rw [hl]; exact w2) (by omega)
   rw [hat] at p1 p2
   have hp : zi zf1 (ze cfg) 58 [.ref id 0 3,.agg [.int .i64 w.1,u]] (σ.push (.cells 0 [[.int .i64 w.1,u]])) = some (.tuple [],τ1) := by rw [zk rfl (by kernel_rfl)]; exact p1
   have ev := zto (ze cfg) (y2 cfg) σ (.ref id 0 0) x.vw (d.ws.length : Nat) (i : Nat)
   simp only [ltN (show i < d.ws.length by omega),if_true,e2,e3,za,stW σ w.1 e4.plain,zsh,(faV id).2.1,ldW (zn σ (.cells 0 [[.int .i64 w.1,u]])) rfl,hp,y6 (show i < 4611686018427387904 by omega)] at ev
   obtain ⟨g',τ2,r1,r2,r3⟩ := zqc hP k (i + 1) _ τ1 { d with kept := d.kept.put w } (by show i + 1 + k = d.ws.length; omega) p2 hw (by
    show (putP d.kept.pg w).length = _
    rw [zg8 (by omega) w3,hl]) hn
   refine ⟨g',τ2,yi (ev.trans r1),?_,(k2.trans p3).trans r3⟩
   rw [zk6 e1]
   exact r2
theorem zqd : ∀ (k i : Nat) (g : Nat → Nat) (σ : Store) (d : Dv) (x : Vals),i + k = d.ts.length → DevX g σ id d x → oks d.kept (d.ts.drop i) → d.ts.length ≤ 1000000 →
  ∃ g' τ u',y2 cfg 29 zmh (zlv (.ref id 0 0) x.vt (d.ts.length : Nat) (i : Nat)) σ = some (.exit 2,zks (.ref id 0 0),τ) ∧ DevX g' τ id { d with kept := (d.ts.drop i).foldl Dk.turn d.kept } { x with ws := u' } ∧ Out g σ g' τ
 | 0,i,g,σ,d,x,hi,h,hw,hn => by
   refine ⟨g,σ,x.ws,yi ((ztn _ _ _ _ _ _ _).trans ?_),?_,Out.refl _ _⟩
   ·simp only [zzr (show d.ts.length ≤ i by omega),Bool.false_eq_true,if_false]
   ·rw [List.drop_eq_nil_of_le (by omega)]; exact h
 | k + 1,i,g,σ,d,x,hi,h,hw,hn => by
   obtain ⟨t,r,u,e1,e2,e3,e4⟩ := h.t (show i < d.ts.length by omega)
   rw [zk6 e1] at hw
   obtain ⟨o1,o2,o3,o4⟩ := hw
   obtain ⟨k1,k2,k3⟩ := h.box (.cells 0 [[u,.bool t.trim,.int .i64 t.place]])
   obtain ⟨g1,τ1,u1,p1,p2,p3⟩ := zo3 k1 e4 (by omega) o1 o2
   have hp : zi zf1 (ze cfg) 55 [.ref id 0 3,.agg [u,.bool t.trim,.int .i64 t.place]] (σ.push (.cells 0 [[u,.bool t.trim,.int .i64 t.place]])) = some (.tuple [],τ1) := by rw [zk rfl (by kernel_rfl)]; exact p1
   have ev := ztn (ze cfg) (y2 cfg) σ (.ref id 0 0) x.vt (d.ts.length : Nat) (i : Nat)
   simp only [ltN (show i < d.ts.length by omega),if_true,e2,e3,za,stT σ [u,.bool t.trim,.int .i64 t.place] rfl (z0a e4.plain _ _ _),zsh,(faV id).2.1,ldT (zn σ (.cells 0 [[u,.bool t.trim,.int .i64 t.place]])) rfl,hp,y6 (show i < 4611686018427387904 by omega)] at ev
   obtain ⟨g',τ2,u2,r1,r2,r3⟩ := zqd k (i + 1) _ τ1 { d with kept := d.kept.turn t } _ (by show i + 1 + k = d.ts.length; omega) p2 o4 hn
   refine ⟨g',τ2,u2,yi (ev.trans r1),?_,(k2.trans p3).trans r3⟩
   rw [zk6 e1]
   exact r2
theorem zwz (id : Nat) : j9 Try.prog .eql 23 (.ref id 0 0) .nilptr = some (.bool false) ∧ j9 Try.prog .neq 23 (.ref id 0 0) .nilptr = some (.bool true) := ⟨by kernel_rfl,by kernel_rfl⟩
theorem DevX.none (h : DevX g σ id d x) : zu Try.prog σ 54 (.ref id 0 6) .nilsl = some (σ.put id (.cells 0 [(x.cells d).set 6 .nilsl])) ∧ zu Try.prog (σ.put id (.cells 0 [(x.cells d).set 6 .nilsl])) 55 (.ref id 0 7) .nilsl = some (σ.put id (.cells 0 [((x.cells d).set 6 .nilsl).set 7 .nilsl])) ∧
  DevX g (σ.put id (.cells 0 [((x.cells d).set 6 .nilsl).set 7 .nilsl])) id { d with ws := [],ts := [] } { x with vw := .nilsl,vt := .nilsl } ∧ Out g σ g (σ.put id (.cells 0 [((x.cells d).set 6 .nilsl).set 7 .nilsl])) := by
 obtain ⟨q1,q2,q3,q4⟩ := h
 have s1 := zbi (σ := σ) (off := 6) (v := .nilsl) otW q1 (by show 6 < 10; decide) rfl rfl
 have s2 := zbi (σ := σ.put id (.cells 0 [(x.cells d).set 6 .nilsl])) (off := 7) (v := .nilsl) otT (xa _ _ _) (by show 7 < 10; decide) rfl rfl
 rw [zel] at s2
 have m : Mod σ (σ.put id (.cells 0 [((x.cells d).set 6 .nilsl).set 7 .nilsl])) [id] := Mod.put (.head _)
 have c := q4.mod m fun i hi _ => by rw [List.mem_singleton.1 hi]; exact .inl q3
 exact ⟨s1,s2,⟨xa _ _ _,q2,q3,⟨c.vp,c.vs,c.wp,c.ws,AxS.nil _,AxS.nil _,c.g1,c.g2,c.g3,c.g4,fun i hi => by (cases hi),fun i hi => by (cases hi)⟩⟩,Out.mod m (fun i hi _ => by rw [List.mem_singleton.1 hi,q3]; decide) fun _ _ => rfl⟩
theorem zv9 (h : DevS g σ id d) {P : Nat} (hP : P ≤ 1000000) (hl : d.kept.pg.length = 512 * P) (hw : zys P d.ws) (ht : oks d.kept d.ts) (h1 : d.ws.length ≤ 1000000) (h2 : d.ts.length ≤ 1000000) :
  ∃ g' τ,ze cfg 29 [.ref id 0 0] σ = some (.tuple [],τ) ∧ DevS g' τ id d.sync ∧ Out g σ g' τ := by
 obtain ⟨x,q⟩ := h
 have q' := q
 obtain ⟨q1,q2,q3,q4⟩ := q'
 have ev := z0u (ze cfg) (y2 cfg) σ id 0 0
 have lg : zd Try.prog σ 4 (.ref id 0 9) = some (.bool d.gone) := qc oBool q1 rfl
 have lw : zd Try.prog σ 54 (.ref id 0 6) = some x.vw := qc otW q1 rfl
 simp only [(zwz id).1,za,zc,Bool.false_eq_true,if_false,Nat.zero_add,lg] at ev
 unfold Dv.sync
 by_cases hg : d.gone = true
 ·rw [if_pos hg] at ev ⊢
  exact ⟨g,σ,zf (hT _) ev,⟨x,q⟩,Out.refl _ _⟩
 ·rw [if_neg hg] at ev ⊢
  obtain ⟨g1,τ1,a1,a2,a3⟩ := zqc hP d.ws.length 0 g σ d (by omega) q hw hl h1
  rw [zp3] at a1
  rw [List.drop_zero] at a2
  have lt : zd Try.prog τ1 55 (.ref id 0 7) = some x.vt := qc otT a2.1 rfl
  have hk := zgl d.ws d.kept
  obtain ⟨g2,τ2,u',b1,b2,b3⟩ := zqd d.ts.length 0 g1 τ1 _ x (by show 0 + d.ts.length = d.ts.length; omega) a2 (by
   show oks _ (d.ts.drop 0)
   rw [List.drop_zero]
   exact ztj _ _ _ hk.1.symm hk.2.symm ht) h2
  rw [zp3] at b1
  simp only [List.drop_zero] at b2
  obtain ⟨c1,c2,c3,c4⟩ := b2.none
  have hlw : jd Try.prog .len [54] [x.vw] = some (.int .i64 (d.ws.length : Nat)) := q4.vw.len TW
  have hlt : jd Try.prog .len [55] [x.vt] = some (.int .i64 (d.ts.length : Nat)) := a2.2.2.2.vt.len TT
  simp only [lw,hlw,zb,za,a1,ya,if_true,out29_2_0,zsh,(faV id).2.2.2.1,lt,hlt,b1,out29_7_0,(faV id).2.2.1,c1,c2] at ev
  exact ⟨g2,_,zf (hT _) ev,⟨_,c3⟩,(a3.trans b3).trans c4⟩
end
end Go.Pvm.S
