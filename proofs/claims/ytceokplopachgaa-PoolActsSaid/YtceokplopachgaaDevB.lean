/- Part of the proof: the device: a write, a turn, what counts. -/
import Derived.Test.YtceokplopachgaaDevA
set_option linter.unusedSimpArgs false
set_option linter.unusedVariables false
set_option maxRecDepth 100000
namespace Go.Pvm.S
open Go.Pvm Go.Proofs
theorem z0g (a b c : PV) : zj Try.prog 112 (.pref [a,b,c]) 2 = some (.pref [c]) := by kernel_rfl
theorem z0d (c : PV) (r : List PV) : zbb Try.prog 3 (.pref (c :: r)) = some c := by kernel_rfl
theorem zbq {σ : Store} {o o' : Obj} {id : Nat} (h : σ.objs id = some o) (hid : id < σ.next) : (σ.push o').objs id = some o := by rw [yj hid]; exact h
theorem zr0 {c : List PV} {i : Nat} {v : PV} (h : c[i]? = some v) : c.set i v = c := by
 apply List.ext_getElem?
 intro j
 rw [List.getElem?_set]
 split
 ·rename_i hj
  subst hj
  split
  ·exact h.symm
  ·rename_i hl
   exact (hbv (Nat.le_of_not_lt hl)).symm
 ·rfl
theorem pl3 {u : PV} (hu : u.plain = true) (x : Bool) (k : IntKind) (y : Int) : ∀ c ∈ [u,.bool x,.int k y],c.plain = true := by
 intro c hc
 rcases ha6.1 hc with rfl | hc
 ·exact hu
 rcases ha6.1 hc with rfl | hc
 ·rfl
 ·rw [ham.1 hc]; rfl
section
variable {σ : Store} {id off : Nat} {c : List PV} {vp vs u : PV} {l b st : By} {base : Int}
theorem zwb (ho : σ.objs id = some (.cells 0 [c])) (hid : id < σ.next) (hc : c[off]? = some vp) (hp : Wr RB σ 1 vp l) (hb : IsS RB u b) (h1 : b.length = 128) {at_ : Nat} (h2 : 128 * at_ + 128 ≤ l.length) (hs : l.length ≤ 1000000000) :
  ∃ τ,ze cfg 58 [.ref id 0 off,.agg [.int .i64 (at_ : Nat),u]] σ = some (.tuple [],τ) ∧ Mod σ τ (tops vp) ∧ Wr RB τ 1 vp (putP l ((at_ : Nat),b)) := by
 have ev := z0l (ze cfg) (y2 cfg) σ id 0 off (at_ : Nat) u
 let σ1 := σ.push (.cells 0 [[.int .i64 (at_ : Nat),u]])
 have hw : IntKind.wrap .i64 (((at_ : Nat) : Int) * 128) = ((at_ * 128 : Nat) : Int) := by rw [q9 (by omega) (by omega)]; omega
 have l0 : zd Try.prog σ1 33 (.ref id 0 (off + 0)) = some vp := qc otB (zbq ho hid) hc
 have l1 : zd Try.prog σ1 3 (.ref σ.next 0 (0 + 0)) = some (.int .i64 (at_ : Nat)) := qc oInt (zn _ _) rfl
 have l2 : zd Try.prog σ1 33 (.ref σ.next 0 (0 + 1)) = some u := qc otB (zn _ _) rfl
 have m1 : Mod σ σ1 (tops vp) := Mod.push _ _ _
 have hp1 : Wr RB σ1 1 vp l := hp.mod (Mod.push σ _ []) fun _ _ => by simp
 obtain ⟨v',n,τ,k1,k2,k3,k4⟩ := hp1.copy TB okB (lo := some (.int .i64 ((at_ * 128 : Nat) : Int))) (x8 .i64 _ 0) (ln := b) (by omega) (hb.q σ1 1)
 have l0' := l0; have l1' := l1; have l2' := l2; have k2' := k2
 simp only [σ1] at l0' l1' l2' k2'
 simp only [l0',l1',l2',za,zb,hw,k1,k2'] at ev
 refine ⟨τ,zf (hT _) ev,(m1.trans k3).mono fun i _ hi => by simpa using hi,?_⟩
 have hput : putP l (((at_ : Nat) : Int),b) = l.take (at_ * 128) ++ b ++ l.drop (at_ * 128 + b.length) := by
  unfold putP
  simp only [hax,h1]
  rw [Nat.mul_comm]
 rw [hput]
 exact k4
theorem zv8 (ho : σ.objs id = some (.cells 0 [c])) (hid : id < σ.next) (hlen : off + 2 < c.length) (hc1 : c[off + 1]? = some (.int .i64 base)) (hc2 : c[off + 2]? = some vs) (hp : AxS RB σ 1 vs st) (hni : ∀ i ∈ tops vs,i ≠ id) {t : Tn} (hb : IsS RB u t.b)
  (hs : st.length + t.b.length ≤ 1000000000) (hv : t.trim = true → base ≤ t.place ∧ t.place ≤ base + st.length) (hbase : 0 ≤ base ∧ base ≤ 1000000000) :
  ∃ u' τ,ze cfg 55 [.ref id 0 off,.agg [u,.bool t.trim,.int .i64 t.place]] σ = some (.tuple [],τ) ∧ Mod σ τ (id :: tops vs) ∧
    τ.objs id = some (.cells 0 [(c.set (off + 2) u').set (off + 1) (.int .i64 ((Dk.mk [] base st).turn t).base)]) ∧ AxS RB τ 1 u' ((Dk.mk [] base st).turn t).st ∧ ∀ i ∈ tops u',i ∈ tops vs ∨ (σ.next ≤ i ∧ i < τ.next) := by
 obtain ⟨tb,tr,place⟩ := t
 have ev := z0n (ze cfg) (y2 cfg) σ id 0 off u tr place
 have l1 : ∀ k,zd Try.prog (σ.push (.cells k [[u,.bool tr,.int .i64 place]])) 4 (.ref σ.next 0 (0 + 1)) = some (.bool tr) := fun k => qc oBool (zn _ _) rfl
 have hps : ∀ k,AxS RB (σ.push (.cells k [[u,.bool tr,.int .i64 place]])) 1 vs st := fun k => hp.push _
 have lx : ∀ k,zd Try.prog (σ.push (.cells k [[u,.bool tr,.int .i64 place]])) 33 (.ref id 0 (off + 2)) = some vs := fun k => qc otB (zbq ho hid) hc2
 have lb : ∀ k,zd Try.prog (σ.push (.cells k [[u,.bool tr,.int .i64 place]])) 3 (.ref id 0 (off + 1)) = some (.int .i64 base) := fun k => qc oInt (zbq ho hid) hc1
 cases tr with
 | true =>
   have hv := hv rfl
   simp only at hv hb
   have hro := zwl (σ := σ) (e := [u,.bool true,.int .i64 place]) (ze0 (pl3 hb.plain _ _ _)) 0
   have hfz := zy4 (σ := σ) (e := [u,.bool true,.int .i64 place]) (pl3 hb.plain _ _ _) 0
   have hw : IntKind.wrap .i64 (place - base) = (((place - base).toNat : Nat) : Int) := by rw [q9 (by omega) (by omega)]; omega
   obtain ⟨v',k1,k2,k3⟩ := (hps 1).cut TB okB (lo := some (.int .i64 (((place - base).toNat : Nat) : Int))) (hi := none) (x8 .i64 _ 0) rfl (by omega) (hah _)
   rw [hbi (by simp)] at k2
   obtain ⟨u',τ,j1,j2,j3,j4,_⟩ := zra (c2 := zmv) rfl rfl (sz := 1) k2 (by simp; simp at hs; omega)
   have hτ : τ.objs id = some (.cells 0 [c]) := by rw [j2.2 id (by show id < σ.next + 1; omega) (by simp)]; exact zbq ho hid
   have hu1 := AxS.one j4
   have st1 := zbi (off := off + 2) otB hτ hlen hu1.1 hu1.2
   have st2 := zbi (σ := τ.put id (.cells 0 [c.set (off + 2) u'])) (off := off + 1) (v := .int .i64 place) oInt (xa _ _ _) (by simp; omega) rfl rfl
   simp only [l1,za,zc,if_true,hro,hfz,lx,z0g,z0d,zb,lb,hw,k1,j1,st1,st2] at ev
   rw [zel] at ev
   refine ⟨u',_,zf (hT _) ev,?_,xa _ _ _,?_,fun i hi => ?_⟩
   ·refine ((Mod.push σ _ []).trans (j2.trans (Mod.put (ids := [id]) (.head _)))).mono fun i _ hi => ?_
    simp at hi; subst hi; exact .head _
   ·refine j4.mod (Mod.put (ids := [id]) (.head _)) fun i hi hm => ?_
    have := j3 i hi
    simp at hm; subst hm
    have h1 : σ.next + 1 ≤ i := this.1
    omega
   ·have := j3 i hi
    have h1 : σ.next + 1 ≤ i := this.1
    exact .inr ⟨by omega,this.2⟩
 | false =>
   simp only at hb
   obtain ⟨u1,c1,c2,c3,_⟩ := zxy (c2 := zf1) rfl rfl (hps 0) (by omega)
   have lu : zd Try.prog (σ.push (.cells 0 [[u,.bool false,.int .i64 place]])) 33 (.ref σ.next 0 (0 + 0)) = some u := qc otB (zn _ _) rfl
   obtain ⟨u',τ,j1,j2,j3,j4⟩ := c2.appQ TB okB (hb.q _ 1) (by simp at hs; omega)
   have hni1 : id ∉ tops u1 := fun h => hni id (c3 id h) rfl
   have hτ : τ.objs id = some (.cells 0 [c]) := by rw [j3.2 id (by show id < σ.next + 1; omega) hni1]; exact zbq ho hid
   have hu1 := AxS.one j2
   have st1 := zbi (off := off + 2) otB hτ hlen hu1.1 hu1.2
   simp only [l1,za,zc,Bool.false_eq_true,if_false,lx,c1,lu,j1,st1] at ev
   have hset : (c.set (off + 2) u').set (off + 1) (.int .i64 base) = c.set (off + 2) u' := zr0 (by rw [ha5 (by omega)]; exact hc1)
   have hne : ∀ i ∈ tops u',i ≠ id := fun i hi e => by
    subst e
    rcases j4 i hi with h | h
    ·exact hni1 h
    ·have h1 : σ.next + 1 ≤ i := h.1
     omega
   refine ⟨u',_,zf (hT _) ev,?_,?_,?_,fun i hi => ?_⟩
   ·refine ((Mod.push σ _ []).trans (j3.trans (Mod.put (ids := [id]) (.head _)))).mono fun i _ hi => ?_
    simp at hi
    rcases hi with hi | rfl
    ·exact .tail _ (c3 i hi)
    ·exact .head _
   ·show _ = some (Pvm.Obj.cells 0 [(c.set (off + 2) u').set (off + 1) (.int .i64 base)])
    rw [hset]
    exact xa _ _ _
   ·exact j2.mod (Mod.put (ids := [id]) (.head _)) fun i hi hm => hne i hi (by simpa using hm)
   ·rcases j4 i hi with h | h
    ·exact .inl (c3 i h)
    ·have h1 : σ.next + 1 ≤ i := h.1
     exact .inr ⟨by omega,h.2⟩
end
end Go.Pvm.S
set_option linter.unusedSimpArgs false
set_option linter.unusedVariables false
set_option maxRecDepth 100000
namespace Go.Pvm.S
open Go.Pvm Go.Proofs
def Sl (g : Nat → Nat) (k : Nat) (v : PV) : Prop := ∀ i ∈ tops v,g i = k
structure Vals where
 vp : PV
 vs : PV
 wp : PV
 ws : PV
 vw : PV
 vt : PV
def Vals.cells (x : Vals) (d : Dv) : List PV := [x.vp,.int .i64 d.seen.base,x.vs,x.wp,.int .i64 d.kept.base,x.ws,x.vw,x.vt,.int .i64 d.armed,.bool d.gone]
structure Comp (g : Nat → Nat) (σ : Store) (x : Vals) (d : Dv) : Prop where
 vp : Wr RB σ 1 x.vp d.seen.pg
 vs : AxS RB σ 1 x.vs d.seen.st
 wp : Wr RB σ 1 x.wp d.kept.pg
 ws : AxS RB σ 1 x.ws d.kept.st
 vw : AxS RW σ 2 x.vw d.ws
 vt : AxS RT σ 3 x.vt d.ts
 g1 : Sl g 1 x.vp
 g2 : Sl g 2 x.vs
 g3 : Sl g 3 x.wp
 g4 : Sl g 4 x.ws
 g5 : Sl g 5 x.vw
 g6 : Sl g 6 x.vt
def DevS (g : Nat → Nat) (σ : Store) (id : Nat) (d : Dv) : Prop := ∃ x,σ.objs id = some (.cells 0 [x.cells d]) ∧ id < σ.next ∧ g id = 0 ∧ Comp g σ x d
def Out (g : Nat → Nat) (σ : Store) (g' : Nat → Nat) (τ : Store) : Prop :=
 σ.next ≤ τ.next ∧ (∀ i,i < σ.next → g' i = g i) ∧ ∀ i,i < σ.next → 7 ≤ g i → τ.objs i = σ.objs i ∨ (g i = 7 ∧ ∃ ro es,σ.objs i = some (.cells ro es) ∧ τ.objs i = some (.cells es.length es))
section
variable {g g' g2 : Nat → Nat} {σ τ υ : Store} {x : Vals} {d : Dv} {ids : List Nat} {id : Nat}
theorem Out.refl (g : Nat → Nat) (σ : Store) : Out g σ g σ := ⟨hah _,fun _ _ => rfl,fun _ _ _ => .inl rfl⟩
theorem Out.trans (h : Out g σ g' τ) (k : Out g' τ g2 υ) : Out g σ g2 υ := by
 refine ⟨haz h.1 k.1,fun i hi => (k.2.1 i (hao hi h.1)).trans (h.2.1 i hi),fun i hi h7 => ?_⟩
 have hi' := hao hi h.1
 have h7' : 7 ≤ g' i := by rw [h.2.1 i hi]; exact h7
 rcases h.2.2 i hi h7 with e | ⟨t,ro,es,e1,e2⟩
 ·rcases k.2.2 i hi' h7' with e' | ⟨t,ro,es,e1,e2⟩
  ·exact .inl (e'.trans e)
  ·exact .inr ⟨by rw [← h.2.1 i hi]; exact t,ro,es,by rw [← e]; exact e1,e2⟩
 ·rcases k.2.2 i hi' h7' with e' | ⟨_,ro',es',e1',e2'⟩
  ·exact .inr ⟨t,ro,es,e1,e'.trans e2⟩
  ·rw [e2] at e1'; cases e1'; exact .inr ⟨t,ro,es,e1,e2'⟩
theorem Out.same (h : Out g σ g' τ) {i : Nat} (hi : i < σ.next) (h8 : 8 ≤ g i) : τ.objs i = σ.objs i := by
 rcases h.2.2 i hi (by omega) with e | ⟨t,_⟩
 ·exact e
 ·omega
theorem Out.mod (m : Mod σ τ ids) (hi : ∀ i ∈ ids,i < σ.next → g i ≤ 6) (hg : ∀ i,i < σ.next → g' i = g i) : Out g σ g' τ :=
 ⟨m.1,hg,fun i h h7 => .inl (m.2 i h fun hm => by have := hi i hm h; omega)⟩
theorem Comp.mod (h : Comp g σ x d) (m : Mod σ τ ids) (hi : ∀ i ∈ ids,i < σ.next → g i = 0 ∨ 7 ≤ g i) : Comp g τ x d := by
 have key : ∀ {k : Nat} {v : PV},1 ≤ k → k ≤ 6 → Sl g k v → (∀ i ∈ tops v,i < σ.next) → ∀ i ∈ tops v,i ∉ ids := fun a b c e i hi' hm => by
  have h1 := c i hi'
  rcases hi i hm (e i hi') with h2 | h2 <;> omega
 exact ⟨h.vp.mod m (key (by omega) (by omega) h.g1 h.vp.lt),h.vs.mod m (key (by omega) (by omega) h.g2 h.vs.lt),h.wp.mod m (key (by omega) (by omega) h.g3 h.wp.lt),h.ws.mod m (key (by omega) (by omega) h.g4 h.ws.lt),
  h.vw.mod m (key (by omega) (by omega) h.g5 h.vw.lt),h.vt.mod m (key (by omega) (by omega) h.g6 h.vt.lt),h.g1,h.g2,h.g3,h.g4,h.g5,h.g6⟩
theorem Comp.retag (h : Comp g σ x d) (hg : ∀ i,i < σ.next → g' i = g i) : Comp g' σ x d := by
 have key : ∀ {k : Nat} {v : PV},Sl g k v → (∀ i ∈ tops v,i < σ.next) → Sl g' k v := fun a b i hi => (hg i (b i hi)).trans (a i hi)
 exact ⟨h.vp,h.vs,h.wp,h.ws,h.vw,h.vt,key h.g1 h.vp.lt,key h.g2 h.vs.lt,key h.g3 h.wp.lt,key h.g4 h.ws.lt,key h.g5 h.vw.lt,key h.g6 h.vt.lt⟩
theorem DevS.push (h : DevS g σ id d) (o : Obj) : DevS g (σ.push o) id d := by
 obtain ⟨x,h1,h2,h3,h4⟩ := h
 exact ⟨x,zbq h1 h2,Nat.lt_succ_of_lt h2,h3,h4.mod (Mod.push σ o []) fun i hi => by cases hi⟩
theorem DevS.mod (h : DevS g σ id d) (m : Mod σ τ ids) (hi : ∀ i ∈ ids,i < σ.next → 7 ≤ g i) : DevS g τ id d := by
 obtain ⟨x,h1,h2,h3,h4⟩ := h
 exact ⟨x,(m.2 id h2 fun hm => by have := hi id hm h2; omega).trans h1,hao h2 m.1,h3,h4.mod m fun i hm hl => .inr (hi i hm hl)⟩
theorem Out.push (g : Nat → Nat) (σ : Store) (o : Obj) : Out g σ g (σ.push o) := Out.mod (Mod.push σ o []) (fun i hi => by cases hi) fun _ _ => rfl
def tag (g : Nat → Nat) (n k : Nat) (i : Nat) : Nat := if i < n then g i else k
theorem je {n k i : Nat} (h : i < n) : tag g n k i = g i := if_pos h
theorem qj {n k i : Nat} (h : n ≤ i) : tag g n k i = k := if_neg (by omega)
theorem Sl.tag {k : Nat} {u v : PV} (h : Sl g k v) (hlt : ∀ i ∈ tops v,i < σ.next) (hu : ∀ i ∈ tops u,i ∈ tops v ∨ (σ.next ≤ i ∧ i < τ.next)) : Sl (tag g σ.next k) k u := fun i hi => by
 rcases hu i hi with h1 | h1
 ·rw [je (hlt i h1)]; exact h i h1
 ·exact qj h1.1
end
section
variable {g : Nat → Nat} {σ : Store} {id : Nat} {d : Dv}
theorem zrx (h : DevS g σ id d) {n : Int} (hn : 0 ≤ n ∧ n ≤ 1000000000) (ha : -1 ≤ d.armed ∧ d.armed ≤ 9223372036854775807) : ∃ τ,ze cfg 56 [.ref id 0 0,.int .i64 n] σ = some (.int .i64 (d.counts n).1,τ) ∧ DevS g τ id (d.counts n).2 ∧ Out g σ g τ := by
 obtain ⟨x,h1,h2,h3,h4⟩ := h
 have ev := z0m (ze cfg) (y2 cfg) σ id 0 0 n
 have lg : zd Try.prog σ 4 (.ref id 0 (0 + 9)) = some (.bool d.gone) := qc oBool h1 rfl
 have la : zd Try.prog σ 3 (.ref id 0 (0 + 8)) = some (.int .i64 d.armed) := qc oInt h1 rfl
 unfold Dv.counts
 by_cases hg : d.gone = true
 ·rw [if_pos hg]
  simp only [lg,za,zc] at ev
  rw [if_pos hg] at ev
  exact ⟨σ,zf (hT _) ev,⟨x,h1,h2,h3,h4⟩,Out.refl _ _⟩
 ·rw [if_neg hg]
  simp only [lg,la,za,zc,zb] at ev
  rw [if_neg hg] at ev
  by_cases c1 : d.armed < 0
  ·rw [if_pos (decide_eq_true c1)] at ev
   rw [if_pos c1]
   exact ⟨σ,zf (hT _) ev,⟨x,h1,h2,h3,h4⟩,Out.refl _ _⟩
  ·rw [if_neg (by simpa using c1)] at ev
   rw [if_neg c1]
   have out : ∀ o,Out g σ g (σ.put id o) := fun o => Out.mod (Mod.put (ids := [id]) (.head _)) (fun i hi _ => by rw [ham.1 hi,h3]; omega) fun _ _ => rfl
   have cm : ∀ o,Comp g (σ.put id o) x d := fun o => h4.mod (Mod.put (ids := [id]) (.head _)) fun i hi _ => by rw [ham.1 hi]; exact .inl h3
   by_cases c2 : n > d.armed
   ·rw [if_pos (decide_eq_true c2)] at ev
    rw [if_pos c2]
    have s1 := zbi (σ := σ) (off := 0 + 9) (v := .bool true) oBool h1 (by show 9 < 10; decide) rfl rfl
    have l2 : zd Try.prog (σ.put id (.cells 0 [(x.cells d).set (0 + 9) (.bool true)])) 3 (.ref id 0 (0 + 8)) = some (.int .i64 d.armed) := qc oInt (xa _ _ _) rfl
    have s2 := zbi (σ := σ.put id (.cells 0 [(x.cells d).set (0 + 9) (.bool true)])) (off := 0 + 8) (v := .int .i64 (IntKind.wrap .i64 (d.armed - d.armed))) oInt (xa _ _ _) (by show 8 < 10; decide) rfl rfl
    rw [zel] at s2
    simp only [s1,l2,s2,za,zb] at ev
    have hw : IntKind.wrap .i64 (d.armed - d.armed) = 0 := by rw [Int.sub_self]; decide
    rw [hw] at ev
    exact ⟨_,zf (hT _) ev,⟨x,xa _ _ _,h2,h3,⟨(cm _).vp,(cm _).vs,(cm _).wp,(cm _).ws,(cm _).vw,(cm _).vt,h4.g1,h4.g2,h4.g3,h4.g4,h4.g5,h4.g6⟩⟩,out _⟩
   ·rw [if_neg (by simpa using c2)] at ev
    rw [if_neg c2]
    have hw : IntKind.wrap .i64 (d.armed - n) = d.armed - n := zap (by omega) (by omega)
    rw [hw] at ev
    have s2 := zbi (σ := σ) (off := 0 + 8) (v := .int .i64 (d.armed - n)) oInt h1 (by show 8 < 10; decide) rfl rfl
    simp only [s2,za,zb] at ev
    exact ⟨_,zf (hT _) ev,⟨x,xa _ _ _,h2,h3,⟨(cm _).vp,(cm _).vs,(cm _).wp,(cm _).ws,(cm _).vw,(cm _).vt,h4.g1,h4.g2,h4.g3,h4.g4,h4.g5,h4.g6⟩⟩,out _⟩
theorem zy5 (h : DevS g σ id d) : ∃ p s q t w m,fz zp σ (.ref id 0 0) = .pref [p,.int .i64 d.seen.base,s,q,.int .i64 d.kept.base,t,w,m,.int .i64 d.armed,.bool d.gone] ∧ IsS RB p d.seen.pg ∧ IsS RW w d.ws ∧ IsS RT m d.ts := by
 obtain ⟨x,h1,h2,h3,h4⟩ := h
 refine ⟨fz 7 σ x.vp,fz 7 σ x.vs,fz 7 σ x.wp,fz 7 σ x.ws,fz 7 σ x.vw,fz 7 σ x.vt,?_,h4.vp.q.frz okB 5,h4.vw.frz okW 5,h4.vt.frz okT 5⟩
 show fz (7 + 1) σ (.ref id 0 0) = _
 unfold fz
 simp only [h1,List.getElem?_cons_zero,ha8]
 rfl
theorem zak {c2 : Cfg} (hm : c2.mode 37 = .pure) (hP : c2.P = Try.prog) (h : DevS g σ id d) {k : Nat} (hk : d.seen.pg.length = 512 * k) (hb : k ≤ 1000000) : zi c2 (ze cfg) 37 [.ref id 0 0] σ = some (.int .i64 (k : Nat),σ) := by
 obtain ⟨p,s,q,t,w,m,e1,e2,_⟩ := zy5 h
 refine w8 hm (by rw [hP]; kernel_rfl) (by simp only [List.map_cons,List.map_nil]; rw [e1]) ?_ (.inl rfl)
 have ev := z0s (ze cfg) (y2 cfg) .empty p d.seen.base s q d.kept.base t w m d.armed d.gone
 have hb2 : ∀ l,j9 Try.prog .eql 23 (.pref l) .nilptr = some (.bool false) := by intro l; kernel_rfl
 have hq : IntKind.wrap .i64 (Int.tdiv (((512 * k : Nat) : Nat) : Int) 512) = ((k : Nat) : Int) := by
  rw [show (((512 * k : Nat) : Nat) : Int) = 512 * (k : Int) by omega,Int.mul_tdiv_cancel_left _ (by decide),q9 (by omega) (by omega)]
 simp only [hb2,za,zc,Bool.false_eq_true,if_false,e2.len TB,hk,zb,hq] at ev
 exact zl8 (hT _) ev rfl
end
end Go.Pvm.S
set_option linter.unusedSimpArgs false
set_option linter.unusedVariables false
set_option maxRecDepth 100000
namespace Go.Pvm.S
open Go.Pvm Go.Proofs
def Dv.wr1 (d : Dv) (w : Int × By) : Dv :=
 if (({ d with seen := d.seen.put w } : Dv).counts 1).1 = 1 then { (({ d with seen := d.seen.put w } : Dv).counts 1).2 with ws := d.ws ++ [w] } else (({ d with seen := d.seen.put w } : Dv).counts 1).2
def wrF (page : Nat) (b : By) : Nat → Nat → Dv → Dv
 | 0,_,d => d
 | k + 1,i,d => wrF page b k (i + 1) (d.wr1 (((page * 4 + i : Nat) : Int),(b.drop (i * 128)).take 128))
def Dv.app (d : Dv) (b : By) : Dv :=
 let r := ({ d with seen := d.seen.turn ⟨b,false,0⟩ } : Dv).counts (b.length : Nat)
 if r.1 > 0 then { r.2 with ts := d.ts ++ [⟨b.take r.1.toNat,false,0⟩] } else r.2
theorem zfe (d : Dv) (n : Int) : (d.counts n).2.seen = d.seen ∧ (d.counts n).2.kept = d.kept ∧ (d.counts n).2.ws = d.ws ∧ (d.counts n).2.ts = d.ts := by
 unfold Dv.counts
 repeat' split
 all_goals exact ⟨rfl,rfl,rfl,rfl⟩
theorem zoi (d : Dv) {n : Int} (hn : 0 ≤ n ∧ n ≤ 1000000000) (h : -1 ≤ d.armed ∧ d.armed ≤ 9223372036854775807) : -1 ≤ (d.counts n).2.armed ∧ (d.counts n).2.armed ≤ 9223372036854775807 := by
 unfold Dv.counts
 repeat' split
 all_goals (try exact h)
 ·exact ⟨show (-1 : Int) ≤ 0 by decide,show (0 : Int) ≤ 9223372036854775807 by decide⟩
 ·show -1 ≤ d.armed - n ∧ d.armed - n ≤ 9223372036854775807
  omega
theorem z3j (d : Dv) {n : Int} (hn : 0 ≤ n) : 0 ≤ (d.counts n).1 ∧ (d.counts n).1 ≤ n := by
 unfold Dv.counts
 repeat' split
 all_goals simp only
 all_goals omega
theorem zg8 {pg : By} {w : Int × By} (h : 128 * w.1.toNat + 128 ≤ pg.length) (hw : w.2.length = 128) : (putP pg w).length = pg.length := by
 unfold putP
 simp
 omega
theorem zt3 (d : Dk) (t : Tn) : (d.turn t).pg = d.pg := by unfold Dk.turn; split <;> rfl
theorem zt4 (d : Dk) (pg : By) (t : Tn) : ((Dk.mk pg d.base d.st).turn t).st = (d.turn t).st ∧ ((Dk.mk pg d.base d.st).turn t).base = (d.turn t).base := by
 unfold Dk.turn
 by_cases h : t.trim = true
 ·simp [h]
 ·simp [h]
theorem zd1 (d : Dv) (w : Int × By) : (d.wr1 w).seen = d.seen.put w ∧ (d.wr1 w).kept = d.kept ∧ (d.wr1 w).ts = d.ts ∧ ((d.wr1 w).ws = d.ws ∨ (d.wr1 w).ws = d.ws ++ [w]) := by
 unfold Dv.wr1
 have h := zfe { d with seen := d.seen.put w } 1
 split
 ·exact ⟨h.1,h.2.1,h.2.2.2,.inr rfl⟩
 ·exact ⟨h.1,h.2.1,h.2.2.2,.inl h.2.2.1⟩
theorem zo0 (d : Dv) (w : Int × By) (h : -1 ≤ d.armed ∧ d.armed ≤ 9223372036854775807) : -1 ≤ (d.wr1 w).armed ∧ (d.wr1 w).armed ≤ 9223372036854775807 := by
 have h1 := zoi { d with seen := d.seen.put w } (n := 1) (by omega) h
 unfold Dv.wr1
 split <;> exact h1
theorem faV (id : Nat) : zj Try.prog 57 (.ref id 0 0) 0 = some (.ref id 0 0) ∧ zj Try.prog 57 (.ref id 0 0) 1 = some (.ref id 0 3) ∧ zj Try.prog 57 (.ref id 0 0) 2 = some (.ref id 0 6) ∧ zj Try.prog 57 (.ref id 0 0) 3 = some (.ref id 0 7) ∧ zj Try.prog 57 (.ref id 0 0) 4 = some (.ref id 0 8) ∧ zj Try.prog 57 (.ref id 0 0) 5 = some (.ref id 0 9) :=
 ⟨by kernel_rfl,by kernel_rfl,by kernel_rfl,by kernel_rfl,by kernel_rfl,by kernel_rfl⟩
theorem zsh (a b c : Nat) : zc2 (.ref a b c) = some (.ref a b c) := rfl
theorem bvW (p : Int) {u : PV} (hu : u.plain = true) : jz Try.prog 118 [(0,.int .i64 p),(1,u)] = some (.agg [.int .i64 p,u]) := by
 cases u <;> first | (cases hu; done) | kernel_rfl
theorem szW : qk Try.prog 118 = some 2 := by kernel_rfl
theorem szT : qk Try.prog 112 = some 3 := by kernel_rfl
theorem stW (σ : Store) (p : Int) {u : PV} (hu : u.plain = true) : zu Try.prog (σ.push (.cells 0 [[.int .i64 0,.nilsl]])) 118 (.ref σ.next 0 0) (.agg [.int .i64 p,u]) = some (σ.push (.cells 0 [[.int .i64 p,u]])) :=
 zne szW rfl rfl (by show ([PV.int .i64 p,u]).all PV.one = true; simp only [List.all_cons,List.all_nil,wx hu]; rfl)
theorem aggW : AggT Try.prog 118 2 := .of (by kernel_rfl) (by kernel_rfl)
theorem aggT : AggT Try.prog 112 3 := .of (by kernel_rfl) (by kernel_rfl)
theorem ldW {σ : Store} {i ro : Nat} {e : List PV} (ho : σ.objs i = some (.cells ro [e])) (he : e.length = 2) : zd Try.prog σ 118 (.ref i 0 0) = some (.agg e) := by rw [znz ho rfl,aggW.part he]
theorem ldT {σ : Store} {i ro : Nat} {e : List PV} (ho : σ.objs i = some (.cells ro [e])) (he : e.length = 3) : zd Try.prog σ 112 (.ref i 0 0) = some (.agg e) := by rw [znz ho rfl,aggT.part he]
theorem z05 (σ : Store) (a u : PV) : xt Try.prog σ 54 1 [(0,.agg [a,u])] = some (.lsl σ.next 2 0 1 (some 1),σ.push (.cells 0 [[a,u]])) := by kernel_rfl
theorem z4x (σ : Store) (a b c : PV) : xt Try.prog σ 55 1 [(0,.agg [a,b,c])] = some (.lsl σ.next 3 0 1 (some 1),σ.push (.cells 0 [[a,b,c]])) := by kernel_rfl
section
variable {g : Nat → Nat} {σ : Store} {id : Nat} {d : Dv} {u : PV} {b : By}
theorem zum (h : DevS g σ id d) (hu : IsS RB u b) (h1 : b.length = 128) {at_ : Nat} (h2 : 128 * at_ + 128 ≤ d.seen.pg.length) (hs : d.seen.pg.length ≤ 1000000000) :
  ∃ τ,ze cfg 58 [.ref id 0 0,.agg [.int .i64 (at_ : Nat),u]] σ = some (.tuple [],τ) ∧ DevS g τ id { d with seen := d.seen.put ((at_ : Nat),b) } ∧ Out g σ g τ := by
 obtain ⟨x,q1,q2,q3,q4⟩ := h
 obtain ⟨τ,k1,k2,k3⟩ := zwb (off := 0) q1 q2 rfl q4.vp hu h1 h2 hs
 have key : ∀ {k : Nat} {v : PV},k ≠ 1 → Sl g k v → ∀ i ∈ tops v,i ∉ tops x.vp := fun a c i hi hm => a ((c i hi).symm.trans (q4.g1 i hm))
 refine ⟨τ,k1,⟨x,(k2.2 id q2 fun hm => by have := q4.g1 id hm; omega).trans q1,hao q2 k2.1,q3,?_⟩,Out.mod k2 (fun i hi _ => by rw [q4.g1 i hi]; decide) fun _ _ => rfl⟩
 exact ⟨k3,q4.vs.mod k2 (key (by decide) q4.g2),q4.wp.mod k2 (key (by decide) q4.g3),q4.ws.mod k2 (key (by decide) q4.g4),q4.vw.mod k2 (key (by decide) q4.g5),q4.vt.mod k2 (key (by decide) q4.g6),q4.g1,q4.g2,q4.g3,q4.g4,q4.g5,q4.g6⟩
theorem z31 (h : DevS g σ id d) {t : Tn} (hu : IsS RB u t.b) (hs : d.seen.st.length + t.b.length ≤ 1000000000) (hv : t.trim = true → d.seen.base ≤ t.place ∧ t.place ≤ d.seen.base + d.seen.st.length) (hb : 0 ≤ d.seen.base ∧ d.seen.base ≤ 1000000000) :
  ∃ g' τ,ze cfg 55 [.ref id 0 0,.agg [u,.bool t.trim,.int .i64 t.place]] σ = some (.tuple [],τ) ∧ DevS g' τ id { d with seen := d.seen.turn t } ∧ Out g σ g' τ := by
 obtain ⟨x,q1,q2,q3,q4⟩ := h
 obtain ⟨u',τ,k1,k2,k3,k4,k5⟩ := zv8 (off := 0) q1 q2 (by show 2 < 10; decide) rfl rfl q4.vs (fun i hi e => by have := q4.g2 i hi; rw [e] at this; omega) hu hs hv hb
 have key : ∀ {k : Nat} {v : PV},k ≠ 2 → 0 < k → Sl g k v → ∀ i ∈ tops v,i ∉ id :: tops x.vs := fun a a0 c i hi hm => by
  rcases ha6.1 hm with rfl | hm
  ·have := c _ hi; omega
  ·exact a ((c i hi).symm.trans (q4.g2 i hm))
 have hg : ∀ i,i < σ.next → tag g σ.next 2 i = g i := fun i hi => je hi
 obtain ⟨e1,e2⟩ := zt4 d.seen [] t
 have e3 := zt3 d.seen t
 have r := q4.retag hg
 refine ⟨tag g σ.next 2,τ,k1,⟨{ x with vs := u' },?_,hao q2 k2.1,(hg id q2).trans q3,?_⟩,Out.mod k2 (fun i hi _ => ?_) hg⟩
 ·rw [k3,e2]
  rfl
 ·refine ⟨?_,?_,q4.wp.mod k2 (key (by decide) (by decide) q4.g3),q4.ws.mod k2 (key (by decide) (by decide) q4.g4),q4.vw.mod k2 (key (by decide) (by decide) q4.g5),q4.vt.mod k2 (key (by decide) (by decide) q4.g6),r.g1,q4.g2.tag q4.vs.lt k5,r.g3,r.g4,r.g5,r.g6⟩
  ·show Wr RB τ 1 x.vp (d.seen.turn t).pg
   rw [e3]
   exact q4.vp.mod k2 (key (by decide) (by decide) q4.g1)
  ·show AxS RB τ 1 u' (d.seen.turn t).st
   rw [← e1]
   exact k4
 ·rcases ha6.1 hi with rfl | hi
  ·omega
  ·rw [q4.g2 i hi]; decide
theorem z08 (h : DevS g σ id d) (hu : IsS RB u b) (hl : d.ws.length ≤ 1000000) {a : Int} : ∃ v u' τ1 τ,zd Try.prog σ 54 (.ref id 0 6) = some v ∧ y7 Try.prog (σ.push (.cells 0 [[.int .i64 a,u]])) .append [54,54] [v,.lsl σ.next 2 0 1 (some 1)] = some (u',τ1) ∧
  zu Try.prog τ1 54 (.ref id 0 6) u' = some τ ∧ DevS (tag g σ.next 5) τ id { d with ws := d.ws ++ [(a,b)] } ∧ Out g σ (tag g σ.next 5) τ := by
 obtain ⟨x,q1,q2,q3,q4⟩ := h
 obtain ⟨u',τ1,k1,k2,k3,k4⟩ := q4.vw.app1 TW okW (All2.one (show RW [.int .i64 a,u] (a,b) from ⟨u,rfl,hu⟩)) (by simp; omega) (n := 1) rfl
 have hid : id ∉ tops x.vw := fun hm => by have := q4.g5 id hm; omega
 have ho : τ1.objs id = some (.cells 0 [x.cells d]) := (k3.2 id q2 hid).trans q1
 have hu1 := AxS.one k2
 have s1 := zbi (off := 6) otW ho (by show 6 < 10; decide) hu1.1 hu1.2
 have m : Mod σ (τ1.put id (.cells 0 [(x.cells d).set 6 u'])) (tops x.vw ++ [id]) := k3.trans (Mod.put (.head _))
 have key : ∀ {k : Nat} {v : PV},k ≠ 5 → 0 < k → Sl g k v → ∀ i ∈ tops v,i ∉ tops x.vw ++ [id] := fun a a0 c i hi hm => by
  rcases hbn.1 hm with hm | hm
  ·exact a ((c i hi).symm.trans (q4.g5 i hm))
  ·have := c i hi; rw [ham.1 hm] at this; omega
 have hg : ∀ i,i < σ.next → tag g σ.next 5 i = g i := fun i hi => je hi
 have r := q4.retag hg
 refine ⟨x.vw,u',τ1,_,qc otW q1 rfl,k1,s1,⟨{ x with vw := u' },xa _ _ _,hao q2 m.1,(hg id q2).trans q3,?_⟩,Out.mod m (fun i hi _ => ?_) hg⟩
 ·refine ⟨q4.vp.mod m (key (by decide) (by decide) q4.g1),q4.vs.mod m (key (by decide) (by decide) q4.g2),q4.wp.mod m (key (by decide) (by decide) q4.g3),q4.ws.mod m (key (by decide) (by decide) q4.g4),k2.mod (Mod.put (ids := [id]) (.head _)) fun i hi hm => ?_,q4.vt.mod m (key (by decide) (by decide) q4.g6),r.g1,r.g2,r.g3,r.g4,q4.g5.tag q4.vw.lt k4,r.g6⟩
  rw [ham.1 hm] at hi
  rcases k4 id hi with h1 | h1
  ·exact hid h1
  ·omega
 ·rcases hbn.1 hi with hi | hi
  ·rw [q4.g5 i hi]; decide
  ·rw [ham.1 hi,q3]; decide
theorem z4z (h : DevS g σ id d) {t : Tn} (hu : IsS RB u t.b) (hl : d.ts.length ≤ 1000000) : ∃ v u' τ1 τ,zd Try.prog σ 55 (.ref id 0 7) = some v ∧ y7 Try.prog (σ.push (.cells 0 [[u,.bool t.trim,.int .i64 t.place]])) .append [55,55] [v,.lsl σ.next 3 0 1 (some 1)] = some (u',τ1) ∧
  zu Try.prog τ1 55 (.ref id 0 7) u' = some τ ∧ DevS (tag g σ.next 6) τ id { d with ts := d.ts ++ [t] } ∧ Out g σ (tag g σ.next 6) τ := by
 obtain ⟨x,q1,q2,q3,q4⟩ := h
 obtain ⟨u',τ1,k1,k2,k3,k4⟩ := q4.vt.app1 TT okT (All2.one (show RT [u,.bool t.trim,.int .i64 t.place] t from ⟨u,rfl,hu⟩)) (by simp; omega) (n := 1) rfl
 have hid : id ∉ tops x.vt := fun hm => by have := q4.g6 id hm; omega
 have ho : τ1.objs id = some (.cells 0 [x.cells d]) := (k3.2 id q2 hid).trans q1
 have hu1 := AxS.one k2
 have s1 := zbi (off := 7) otT ho (by show 7 < 10; decide) hu1.1 hu1.2
 have m : Mod σ (τ1.put id (.cells 0 [(x.cells d).set 7 u'])) (tops x.vt ++ [id]) := k3.trans (Mod.put (.head _))
 have key : ∀ {k : Nat} {v : PV},k ≠ 6 → 0 < k → Sl g k v → ∀ i ∈ tops v,i ∉ tops x.vt ++ [id] := fun a a0 c i hi hm => by
  rcases hbn.1 hm with hm | hm
  ·exact a ((c i hi).symm.trans (q4.g6 i hm))
  ·have := c i hi; rw [ham.1 hm] at this; omega
 have hg : ∀ i,i < σ.next → tag g σ.next 6 i = g i := fun i hi => je hi
 have r := q4.retag hg
 refine ⟨x.vt,u',τ1,_,qc otT q1 rfl,k1,s1,⟨{ x with vt := u' },xa _ _ _,hao q2 m.1,(hg id q2).trans q3,?_⟩,Out.mod m (fun i hi _ => ?_) hg⟩
 ·refine ⟨q4.vp.mod m (key (by decide) (by decide) q4.g1),q4.vs.mod m (key (by decide) (by decide) q4.g2),q4.wp.mod m (key (by decide) (by decide) q4.g3),q4.ws.mod m (key (by decide) (by decide) q4.g4),q4.vw.mod m (key (by decide) (by decide) q4.g5),k2.mod (Mod.put (ids := [id]) (.head _)) fun i hi hm => ?_,r.g1,r.g2,r.g3,r.g4,r.g5,q4.g6.tag q4.vt.lt k4⟩
  rw [ham.1 hm] at hi
  rcases k4 id hi with h1 | h1
  ·exact hid h1
  ·omega
 ·rcases hbn.1 hi with hi | hi
  ·rw [q4.g6 i hi]; decide
  ·rw [ham.1 hi,q3]; decide
end
end Go.Pvm.S
