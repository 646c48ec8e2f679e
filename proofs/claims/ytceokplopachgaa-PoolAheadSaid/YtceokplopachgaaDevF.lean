/- Part of the proof: the device: appending to its stream, trimming it. -/
import Derived.Test.YtceokplopachgaaDevE
set_option linter.unusedSimpArgs false
set_option linter.unusedVariables false
set_option maxRecDepth 100000
namespace Go.Pvm.S
open Go.Pvm Go.Proofs
theorem bvT (u : PV) (hu : u.plain = true) : jz Try.prog 112 [(0,u)] = some (.agg [u,.bool false,.int .i64 0]) := by
 cases u <;> first | (cases hu; done) | kernel_rfl
theorem stT (σ : Store) (e : List PV) (he : e.length = 3) (h1 : e.all PV.one = true) : zu Try.prog (σ.push (.cells 0 [[.nilsl,.bool false,.int .i64 0]])) 112 (.ref σ.next 0 0) (.agg e) = some (σ.push (.cells 0 [e])) :=
 zne szT rfl he h1
section
variable {g g' : Nat → Nat} {σ τ : Store} {id : Nat} {d : Dv} {u v : PV} {b : By}
theorem DevS.ldBase (h : DevS g σ id d) : zd Try.prog σ 3 (.ref id 0 1) = some (.int .i64 d.seen.base) := by
 obtain ⟨x,q1,q2,q3,q4⟩ := h
 exact qc oInt q1 rfl
theorem DevS.ldSt (h : DevS g σ id d) : ∃ v,zd Try.prog σ 33 (.ref id 0 2) = some v ∧ AxS RB σ 1 v d.seen.st := by
 obtain ⟨x,q1,q2,q3,q4⟩ := h
 exact ⟨x.vs,qc otB q1 rfl,q4.vs⟩
theorem DevS.ldPg (h : DevS g σ id d) : ∃ v,zd Try.prog σ 33 (.ref id 0 0) = some v ∧ Wr RB σ 1 v d.seen.pg := by
 obtain ⟨x,q1,q2,q3,q4⟩ := h
 exact ⟨x.vp,qc otB q1 rfl,q4.vp⟩
theorem zxv (h : DevS g σ id d) (hv : QS RB σ 1 v b) (hlf : ∀ i ∈ tops v,Lf σ i) (h7 : ∀ i ∈ tops v,g i = 7) : ∃ σ1,ke (tops v) σ = some σ1 ∧ DevS g σ1 id d ∧ Out g σ g σ1 ∧ σ1.next = σ.next := by
 obtain ⟨es,q1,q2⟩ := hv
 rcases q1 with q1 | ⟨i,idx,cap,ro,full,rfl,o2,o3,o4,o5⟩
 ·exact ⟨σ,znm q1.tops σ,h,Out.refl _ _,rfl⟩
 ·obtain ⟨ro',es',e1,e2⟩ := hlf i (.head _)
  rw [o2] at e1
  cases e1
  have h7 := h7 i (.head _)
  refine ⟨σ.put i (.cells full.length full),?_,h.mod (Mod.put (ids := [i]) (.head _)) fun j hj _ => by rw [List.mem_singleton.1 hj]; exact Nat.le_of_eq h7.symm,⟨Nat.le_refl _,fun _ _ => rfl,fun j _ _ => ?_⟩,rfl⟩
  ·show ke [i] σ = _
   simp only [ke,o2,e2,if_true]
  ·by_cases hj : j = i
   ·subst hj; exact .inr ⟨h7,ro,full,o2,xa _ _ _⟩
   ·exact .inl (yb hj)
theorem z32 (h : DevS g σ id d) (hv : QS RB σ 1 v b) (hlf : ∀ i ∈ tops v,Lf σ i) (h7 : ∀ i ∈ tops v,g i = 7) {P : Nat} (hP : 1 ≤ P ∧ P ≤ 1000000) (hl : d.seen.pg.length = 512 * P) (hs : d.seen.st.length ≤ 65536) (hb : 0 ≤ d.seen.base ∧ d.seen.base ≤ 1000000000)
  (ha : -1 ≤ d.armed ∧ d.armed ≤ 9223372036854775807) (hw : d.ts.length ≤ 1000000) (hbl : b.length < 4611686018427387904) :
  ∃ g' τ,ze cfg 27 [.ref id 0 0,v] σ = some (.int .i64 (if b.length + d.seen.st.length ≤ 65536 then 0 else 10),τ) ∧ DevS g' τ id (if b.length + d.seen.st.length ≤ 65536 then d.app b else d) ∧ Out g σ g' τ := by
 have ev := z4v (ze cfg) (y2 cfg) σ id 0 0 v
 obtain ⟨σ1,z1,z2,z3,z4⟩ := zxv h hv hlf h7
 have hu : IsS RB (fz zp σ v) b := hv.frz okB 6
 obtain ⟨vs,l1,l2⟩ := z2.ldSt
 have hp0 : (((P : Nat) : Int) == 0) = false := by
  have : ¬ ((P : Nat) : Int) = 0 := by omega
  simpa using this
 have w1 : IntKind.wrap .i64 (65536 - ((d.seen.st.length : Nat) : Int)) = 65536 - ((d.seen.st.length : Nat) : Int) := q9 (by omega) (by omega)
 simp only [z1,za,zak (c2 := z3m) rfl rfl z2 hl hP.2,zb,hp0,Bool.false_eq_true,if_false,hu.len TB,Nat.add_zero,Nat.zero_add,l1,l2.len TB,w1] at ev
 by_cases c1 : b.length + d.seen.st.length ≤ 65536
 ·rw [if_pos c1,if_pos c1]
  rw [if_neg (by simp; omega)] at ev
  have harg := bvT _ hu.plain
  obtain ⟨g2,τ1,t1,t2,t3⟩ := z31 z2 (t := ⟨b,false,0⟩) hu (by show _ + b.length ≤ _; omega) (fun e => by cases e) hb
  have ht : zi z3m (ze cfg) 55 [.ref id 0 0,.agg [fz zp σ v,.bool false,.int .i64 0]] σ1 = some (.tuple [],τ1) := by rw [zk rfl (by kernel_rfl)]; exact t1
  obtain ⟨τ2,s1,s2,s3⟩ := zrx t2 (n := (b.length : Nat)) (by omega) ha
  have hc : zi z3m (ze cfg) 56 [.ref id 0 0,.int .i64 (b.length : Nat)] τ1 = some (.int .i64 (({ d with seen := d.seen.turn ⟨b,false,0⟩ } : Dv).counts (b.length : Nat)).1,τ2) := by rw [zk rfl (by kernel_rfl)]; exact s1
  simp only [harg,za,ht,hc,zb] at ev
  have hle := z3j { d with seen := d.seen.turn ⟨b,false,0⟩ } (n := (b.length : Nat)) (by omega)
  have hsame := zfe { d with seen := d.seen.turn ⟨b,false,0⟩ } (b.length : Nat)
  have happ : d.app b = if (({ d with seen := d.seen.turn ⟨b,false,0⟩ } : Dv).counts (b.length : Nat)).1 > 0 then { (({ d with seen := d.seen.turn ⟨b,false,0⟩ } : Dv).counts (b.length : Nat)).2 with ts := d.ts ++ [⟨b.take (({ d with seen := d.seen.turn ⟨b,false,0⟩ } : Dv).counts (b.length : Nat)).1.toNat,false,0⟩] } else (({ d with seen := d.seen.turn ⟨b,false,0⟩ } : Dv).counts (b.length : Nat)).2 := rfl
  rw [happ]
  generalize (({ d with seen := d.seen.turn ⟨b,false,0⟩ } : Dv).counts (b.length : Nat)) = r at hle hsame ev s2
  obtain ⟨n,d2⟩ := r
  simp only at hle hsame ev s2
  by_cases c2 : n > 0
  ·rw [if_pos c2]
   rw [if_pos (decide_eq_true c2)] at ev
   have hn : ((n.toNat : Nat) : Int) = n := by omega
   obtain ⟨v',k1,k2⟩ := hu.cut TB okB (lo := none) (hi := some (.int .i64 ((n.toNat : Nat) : Int))) rfl (x8 .i64 _ _) (Nat.zero_le _) (by omega)
   rw [hn] at k1
   simp only [List.drop_zero,Nat.sub_zero] at k2
   obtain ⟨v2,j1,j2⟩ := zrb (c2 := z4a) rfl rfl k2 (by simp; omega) τ2
   obtain ⟨vt,u',τ3,τ4,a1,a2,a3,a4,a5⟩ := z4z s2 (t := ⟨b.take n.toNat,false,0⟩) j2 (by rw [hsame.2.2.2]; exact hw)
   simp only [a1,k1,j1,bvT _ j2.plain,z4x,a2,a3,za] at ev
   refine ⟨_,τ4,zf (hT _) ev,?_,((z3.trans t3).trans s3).trans a5⟩
   rw [hsame.2.2.2] at a4
   exact a4
  ·rw [if_neg c2]
   rw [if_neg (by simpa using c2)] at ev
   exact ⟨_,τ2,zf (hT _) ev,s2,(z3.trans t3).trans s3⟩
 ·rw [if_neg c1,if_neg c1]
  rw [if_pos (by simp; omega)] at ev
  exact ⟨g,σ1,zf (hT _) ev,z2,z3⟩
end
end Go.Pvm.S
