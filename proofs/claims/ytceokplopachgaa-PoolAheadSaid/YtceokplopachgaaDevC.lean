/- Part of the proof: the device in the store; what counts; a page written. -/
import Derived.Test.YtceokplopachgaaDevB
set_option linter.unusedSimpArgs false
set_option linter.unusedVariables false
set_option maxRecDepth 100000
namespace Go.Pvm.S
open Go.Pvm Go.Proofs
def Sl (g : Nat → Nat) (k : Nat) (v : PV) : Prop := ∀ i ∈ tops v,g i = k
structure Vals where
 vp : PV
 vs : PV
 wp : PV
 ws : PV
 vw : PV
 vt : PV
def Vals.cells (x : Vals) (d : Dv) : List PV := [x.vp,.int .i64 d.seen.base,x.vs,x.wp,.int .i64 d.kept.base,x.ws,x.vw,x.vt,.int .i64 d.armed,.bool d.gone]
structure Comp (g : Nat → Nat) (σ : Store) (x : Vals) (d : Dv) : Prop where
 vp : Wr RB σ 1 x.vp d.seen.pg
 vs : AxS RB σ 1 x.vs d.seen.st
 wp : Wr RB σ 1 x.wp d.kept.pg
 ws : AxS RB σ 1 x.ws d.kept.st
 vw : AxS RW σ 2 x.vw d.ws
 vt : AxS RT σ 3 x.vt d.ts
 g1 : Sl g 1 x.vp
 g2 : Sl g 2 x.vs
 g3 : Sl g 3 x.wp
 g4 : Sl g 4 x.ws
 g5 : Sl g 5 x.vw
 g6 : Sl g 6 x.vt
def DevS (g : Nat → Nat) (σ : Store) (id : Nat) (d : Dv) : Prop := ∃ x,σ.objs id = some (.cells 0 [x.cells d]) ∧ id < σ.next ∧ g id = 0 ∧ Comp g σ x d
def Out (g : Nat → Nat) (σ : Store) (g' : Nat → Nat) (τ : Store) : Prop :=
 σ.next ≤ τ.next ∧ (∀ i,i < σ.next → g' i = g i) ∧ ∀ i,i < σ.next → 7 ≤ g i → τ.objs i = σ.objs i ∨ (g i = 7 ∧ ∃ ro es,σ.objs i = some (.cells ro es) ∧ τ.objs i = some (.cells es.length es))
section
variable {g g' g2 : Nat → Nat} {σ τ υ : Store} {x : Vals} {d : Dv} {ids : List Nat} {id : Nat}
theorem Out.refl (g : Nat → Nat) (σ : Store) : Out g σ g σ := ⟨Nat.le_refl _,fun _ _ => rfl,fun _ _ _ => .inl rfl⟩
theorem Out.trans (h : Out g σ g' τ) (k : Out g' τ g2 υ) : Out g σ g2 υ := by
 refine ⟨Nat.le_trans h.1 k.1,fun i hi => (k.2.1 i (Nat.lt_of_lt_of_le hi h.1)).trans (h.2.1 i hi),fun i hi h7 => ?_⟩
 have hi' := Nat.lt_of_lt_of_le hi h.1
 have h7' : 7 ≤ g' i := by rw [h.2.1 i hi]; exact h7
 rcases h.2.2 i hi h7 with e | ⟨t,ro,es,e1,e2⟩
 ·rcases k.2.2 i hi' h7' with e' | ⟨t,ro,es,e1,e2⟩
  ·exact .inl (e'.trans e)
  ·exact .inr ⟨by rw [← h.2.1 i hi]; exact t,ro,es,by rw [← e]; exact e1,e2⟩
 ·rcases k.2.2 i hi' h7' with e' | ⟨_,ro',es',e1',e2'⟩
  ·exact .inr ⟨t,ro,es,e1,e'.trans e2⟩
  ·rw [e2] at e1'; cases e1'; exact .inr ⟨t,ro,es,e1,e2'⟩
theorem Out.same (h : Out g σ g' τ) {i : Nat} (hi : i < σ.next) (h8 : 8 ≤ g i) : τ.objs i = σ.objs i := by
 rcases h.2.2 i hi (by omega) with e | ⟨t,_⟩
 ·exact e
 ·omega
theorem Out.mod (m : Mod σ τ ids) (hi : ∀ i ∈ ids,i < σ.next → g i ≤ 6) (hg : ∀ i,i < σ.next → g' i = g i) : Out g σ g' τ :=
 ⟨m.1,hg,fun i h h7 => .inl (m.2 i h fun hm => by have := hi i hm h; omega)⟩
theorem Comp.mod (h : Comp g σ x d) (m : Mod σ τ ids) (hi : ∀ i ∈ ids,i < σ.next → g i = 0 ∨ 7 ≤ g i) : Comp g τ x d := by
 have key : ∀ {k : Nat} {v : PV},1 ≤ k → k ≤ 6 → Sl g k v → (∀ i ∈ tops v,i < σ.next) → ∀ i ∈ tops v,i ∉ ids := fun a b c e i hi' hm => by
  have h1 := c i hi'
  rcases hi i hm (e i hi') with h2 | h2 <;> omega
 exact ⟨h.vp.mod m (key (by omega) (by omega) h.g1 h.vp.lt),h.vs.mod m (key (by omega) (by omega) h.g2 h.vs.lt),h.wp.mod m (key (by omega) (by omega) h.g3 h.wp.lt),h.ws.mod m (key (by omega) (by omega) h.g4 h.ws.lt),
  h.vw.mod m (key (by omega) (by omega) h.g5 h.vw.lt),h.vt.mod m (key (by omega) (by omega) h.g6 h.vt.lt),h.g1,h.g2,h.g3,h.g4,h.g5,h.g6⟩
theorem Comp.retag (h : Comp g σ x d) (hg : ∀ i,i < σ.next → g' i = g i) : Comp g' σ x d := by
 have key : ∀ {k : Nat} {v : PV},Sl g k v → (∀ i ∈ tops v,i < σ.next) → Sl g' k v := fun a b i hi => (hg i (b i hi)).trans (a i hi)
 exact ⟨h.vp,h.vs,h.wp,h.ws,h.vw,h.vt,key h.g1 h.vp.lt,key h.g2 h.vs.lt,key h.g3 h.wp.lt,key h.g4 h.ws.lt,key h.g5 h.vw.lt,key h.g6 h.vt.lt⟩
theorem DevS.push (h : DevS g σ id d) (o : Obj) : DevS g (σ.push o) id d := by
 obtain ⟨x,h1,h2,h3,h4⟩ := h
 exact ⟨x,zbq h1 h2,Nat.lt_succ_of_lt h2,h3,h4.mod (Mod.push σ o []) fun i hi => by cases hi⟩
theorem DevS.mod (h : DevS g σ id d) (m : Mod σ τ ids) (hi : ∀ i ∈ ids,i < σ.next → 7 ≤ g i) : DevS g τ id d := by
 obtain ⟨x,h1,h2,h3,h4⟩ := h
 exact ⟨x,(m.2 id h2 fun hm => by have := hi id hm h2; omega).trans h1,Nat.lt_of_lt_of_le h2 m.1,h3,h4.mod m fun i hm hl => .inr (hi i hm hl)⟩
theorem Out.push (g : Nat → Nat) (σ : Store) (o : Obj) : Out g σ g (σ.push o) := Out.mod (Mod.push σ o []) (fun i hi => by cases hi) fun _ _ => rfl
def tag (g : Nat → Nat) (n k : Nat) (i : Nat) : Nat := if i < n then g i else k
theorem je {n k i : Nat} (h : i < n) : tag g n k i = g i := if_pos h
theorem qj {n k i : Nat} (h : n ≤ i) : tag g n k i = k := if_neg (by omega)
theorem Sl.tag {k : Nat} {u v : PV} (h : Sl g k v) (hlt : ∀ i ∈ tops v,i < σ.next) (hu : ∀ i ∈ tops u,i ∈ tops v ∨ (σ.next ≤ i ∧ i < τ.next)) : Sl (tag g σ.next k) k u := fun i hi => by
 rcases hu i hi with h1 | h1
 ·rw [je (hlt i h1)]; exact h i h1
 ·exact qj h1.1
end
section
variable {g : Nat → Nat} {σ : Store} {id : Nat} {d : Dv}
theorem zrx (h : DevS g σ id d) {n : Int} (hn : 0 ≤ n ∧ n ≤ 1000000000) (ha : -1 ≤ d.armed ∧ d.armed ≤ 9223372036854775807) : ∃ τ,ze cfg 56 [.ref id 0 0,.int .i64 n] σ = some (.int .i64 (d.counts n).1,τ) ∧ DevS g τ id (d.counts n).2 ∧ Out g σ g τ := by
 obtain ⟨x,h1,h2,h3,h4⟩ := h
 have ev := z0m (ze cfg) (y2 cfg) σ id 0 0 n
 have lg : zd Try.prog σ 4 (.ref id 0 (0 + 9)) = some (.bool d.gone) := qc oBool h1 rfl
 have la : zd Try.prog σ 3 (.ref id 0 (0 + 8)) = some (.int .i64 d.armed) := qc oInt h1 rfl
 unfold Dv.counts
 by_cases hg : d.gone = true
 ·rw [if_pos hg]
  simp only [lg,za,zc] at ev
  rw [if_pos hg] at ev
  exact ⟨σ,zf (hT _) ev,⟨x,h1,h2,h3,h4⟩,Out.refl _ _⟩
 ·rw [if_neg hg]
  simp only [lg,la,za,zc,zb] at ev
  rw [if_neg hg] at ev
  by_cases c1 : d.armed < 0
  ·rw [if_pos (decide_eq_true c1)] at ev
   rw [if_pos c1]
   exact ⟨σ,zf (hT _) ev,⟨x,h1,h2,h3,h4⟩,Out.refl _ _⟩
  ·rw [if_neg (by simpa using c1)] at ev
   rw [if_neg c1]
   have out : ∀ o,Out g σ g (σ.put id o) := fun o => Out.mod (Mod.put (ids := [id]) (.head _)) (fun i hi _ => by rw [List.mem_singleton.1 hi,h3]; omega) fun _ _ => rfl
   have cm : ∀ o,Comp g (σ.put id o) x d := fun o => h4.mod (Mod.put (ids := [id]) (.head _)) fun i hi _ => by rw [List.mem_singleton.1 hi]; exact .inl h3
   by_cases c2 : n > d.armed
   ·rw [if_pos (decide_eq_true c2)] at ev
    rw [if_pos c2]
    have s1 := zbi (σ := σ) (off := 0 + 9) (v := .bool true) oBool h1 (by show 9 < 10; decide) rfl rfl
    have l2 : zd Try.prog (σ.put id (.cells 0 [(x.cells d).set (0 + 9) (.bool true)])) 3 (.ref id 0 (0 + 8)) = some (.int .i64 d.armed) := qc oInt (xa _ _ _) rfl
    have s2 := zbi (σ := σ.put id (.cells 0 [(x.cells d).set (0 + 9) (.bool true)])) (off := 0 + 8) (v := .int .i64 (IntKind.wrap .i64 (d.armed - d.armed))) oInt (xa _ _ _) (by show 8 < 10; decide) rfl rfl
    rw [zel] at s2
    simp only [s1,l2,s2,za,zb] at ev
    have hw : IntKind.wrap .i64 (d.armed - d.armed) = 0 := by rw [Int.sub_self]; decide
    rw [hw] at ev
    exact ⟨_,zf (hT _) ev,⟨x,xa _ _ _,h2,h3,⟨(cm _).vp,(cm _).vs,(cm _).wp,(cm _).ws,(cm _).vw,(cm _).vt,h4.g1,h4.g2,h4.g3,h4.g4,h4.g5,h4.g6⟩⟩,out _⟩
   ·rw [if_neg (by simpa using c2)] at ev
    rw [if_neg c2]
    have hw : IntKind.wrap .i64 (d.armed - n) = d.armed - n := zap (by omega) (by omega)
    rw [hw] at ev
    have s2 := zbi (σ := σ) (off := 0 + 8) (v := .int .i64 (d.armed - n)) oInt h1 (by show 8 < 10; decide) rfl rfl
    simp only [s2,za,zb] at ev
    exact ⟨_,zf (hT _) ev,⟨x,xa _ _ _,h2,h3,⟨(cm _).vp,(cm _).vs,(cm _).wp,(cm _).ws,(cm _).vw,(cm _).vt,h4.g1,h4.g2,h4.g3,h4.g4,h4.g5,h4.g6⟩⟩,out _⟩
theorem zy5 (h : DevS g σ id d) : ∃ p s q t w m,fz zp σ (.ref id 0 0) = .pref [p,.int .i64 d.seen.base,s,q,.int .i64 d.kept.base,t,w,m,.int .i64 d.armed,.bool d.gone] ∧ IsS RB p d.seen.pg ∧ IsS RW w d.ws ∧ IsS RT m d.ts := by
 obtain ⟨x,h1,h2,h3,h4⟩ := h
 refine ⟨fz 7 σ x.vp,fz 7 σ x.vs,fz 7 σ x.wp,fz 7 σ x.ws,fz 7 σ x.vw,fz 7 σ x.vt,?_,h4.vp.q.frz okB 5,h4.vw.frz okW 5,h4.vt.frz okT 5⟩
 show fz (7 + 1) σ (.ref id 0 0) = _
 unfold fz
 simp only [h1,List.getElem?_cons_zero,List.drop_zero]
 rfl
theorem zak {c2 : Cfg} (hm : c2.mode 37 = .pure) (hP : c2.P = Try.prog) (h : DevS g σ id d) {k : Nat} (hk : d.seen.pg.length = 512 * k) (hb : k ≤ 1000000) : zi c2 (ze cfg) 37 [.ref id 0 0] σ = some (.int .i64 (k : Nat),σ) := by
 obtain ⟨p,s,q,t,w,m,e1,e2,_⟩ := zy5 h
 refine w8 hm (by rw [hP]; kernel_rfl) (by simp only [List.map_cons,List.map_nil]; rw [e1]) ?_ (.inl rfl)
 have ev := z0s (ze cfg) (y2 cfg) .empty p d.seen.base s q d.kept.base t w m d.armed d.gone
 have hb2 : ∀ l,j9 Try.prog .eql 23 (.pref l) .nilptr = some (.bool false) := by intro l; kernel_rfl
 have hq : IntKind.wrap .i64 (Int.tdiv (((512 * k : Nat) : Nat) : Int) 512) = ((k : Nat) : Int) := by
  rw [show (((512 * k : Nat) : Nat) : Int) = 512 * (k : Int) by omega,Int.mul_tdiv_cancel_left _ (by decide),q9 (by omega) (by omega)]
 simp only [hb2,za,zc,Bool.false_eq_true,if_false,e2.len TB,hk,zb,hq] at ev
 exact zl8 (hT _) ev rfl
end
end Go.Pvm.S
