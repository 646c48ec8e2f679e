/- Part of the proof: the device: pages and parts of the stream are written. -/
import Derived.Test.YtceokplopachgaaDevC
set_option linter.unusedSimpArgs false
set_option linter.unusedVariables false
set_option maxRecDepth 100000
namespace Go.Pvm.S
open Go.Pvm Go.Proofs
def Dv.wr1 (d : Dv) (w : Int × By) : Dv :=
 if (({ d with seen := d.seen.put w } : Dv).counts 1).1 = 1 then { (({ d with seen := d.seen.put w } : Dv).counts 1).2 with ws := d.ws ++ [w] } else (({ d with seen := d.seen.put w } : Dv).counts 1).2
def wrF (page : Nat) (b : By) : Nat → Nat → Dv → Dv
 | 0,_,d => d
 | k + 1,i,d => wrF page b k (i + 1) (d.wr1 (((page * 4 + i : Nat) : Int),(b.drop (i * 128)).take 128))
def Dv.app (d : Dv) (b : By) : Dv :=
 let r := ({ d with seen := d.seen.turn ⟨b,false,0⟩ } : Dv).counts (b.length : Nat)
 if r.1 > 0 then { r.2 with ts := d.ts ++ [⟨b.take r.1.toNat,false,0⟩] } else r.2
theorem zfe (d : Dv) (n : Int) : (d.counts n).2.seen = d.seen ∧ (d.counts n).2.kept = d.kept ∧ (d.counts n).2.ws = d.ws ∧ (d.counts n).2.ts = d.ts := by
 unfold Dv.counts
 repeat' split
 all_goals exact ⟨rfl,rfl,rfl,rfl⟩
theorem zoi (d : Dv) {n : Int} (hn : 0 ≤ n ∧ n ≤ 1000000000) (h : -1 ≤ d.armed ∧ d.armed ≤ 9223372036854775807) : -1 ≤ (d.counts n).2.armed ∧ (d.counts n).2.armed ≤ 9223372036854775807 := by
 unfold Dv.counts
 repeat' split
 all_goals (try exact h)
 ·exact ⟨show (-1 : Int) ≤ 0 by decide,show (0 : Int) ≤ 9223372036854775807 by decide⟩
 ·show -1 ≤ d.armed - n ∧ d.armed - n ≤ 9223372036854775807
  omega
theorem z3j (d : Dv) {n : Int} (hn : 0 ≤ n) : 0 ≤ (d.counts n).1 ∧ (d.counts n).1 ≤ n := by
 unfold Dv.counts
 repeat' split
 all_goals simp only
 all_goals omega
theorem zg8 {pg : By} {w : Int × By} (h : 128 * w.1.toNat + 128 ≤ pg.length) (hw : w.2.length = 128) : (putP pg w).length = pg.length := by
 unfold putP
 simp
 omega
theorem zt3 (d : Dk) (t : Tn) : (d.turn t).pg = d.pg := by unfold Dk.turn; split <;> rfl
theorem zt4 (d : Dk) (pg : By) (t : Tn) : ((Dk.mk pg d.base d.st).turn t).st = (d.turn t).st ∧ ((Dk.mk pg d.base d.st).turn t).base = (d.turn t).base := by
 unfold Dk.turn
 by_cases h : t.trim = true
 ·simp [h]
 ·simp [h]
theorem zd1 (d : Dv) (w : Int × By) : (d.wr1 w).seen = d.seen.put w ∧ (d.wr1 w).kept = d.kept ∧ (d.wr1 w).ts = d.ts ∧ ((d.wr1 w).ws = d.ws ∨ (d.wr1 w).ws = d.ws ++ [w]) := by
 unfold Dv.wr1
 have h := zfe { d with seen := d.seen.put w } 1
 split
 ·exact ⟨h.1,h.2.1,h.2.2.2,.inr rfl⟩
 ·exact ⟨h.1,h.2.1,h.2.2.2,.inl h.2.2.1⟩
theorem zo0 (d : Dv) (w : Int × By) (h : -1 ≤ d.armed ∧ d.armed ≤ 9223372036854775807) : -1 ≤ (d.wr1 w).armed ∧ (d.wr1 w).armed ≤ 9223372036854775807 := by
 have h1 := zoi { d with seen := d.seen.put w } (n := 1) (by omega) h
 unfold Dv.wr1
 split <;> exact h1
theorem faV (id : Nat) : zj Try.prog 57 (.ref id 0 0) 0 = some (.ref id 0 0) ∧ zj Try.prog 57 (.ref id 0 0) 1 = some (.ref id 0 3) ∧ zj Try.prog 57 (.ref id 0 0) 2 = some (.ref id 0 6) ∧ zj Try.prog 57 (.ref id 0 0) 3 = some (.ref id 0 7) ∧ zj Try.prog 57 (.ref id 0 0) 4 = some (.ref id 0 8) ∧ zj Try.prog 57 (.ref id 0 0) 5 = some (.ref id 0 9) :=
 ⟨by kernel_rfl,by kernel_rfl,by kernel_rfl,by kernel_rfl,by kernel_rfl,by kernel_rfl⟩
theorem zsh (a b c : Nat) : zc2 (.ref a b c) = some (.ref a b c) := rfl
theorem bvW (p : Int) {u : PV} (hu : u.plain = true) : jz Try.prog 118 [(0,.int .i64 p),(1,u)] = some (.agg [.int .i64 p,u]) := by
 cases u <;> first | (cases hu; done) | kernel_rfl
theorem szW : qk Try.prog 118 = some 2 := by kernel_rfl
theorem szT : qk Try.prog 112 = some 3 := by kernel_rfl
theorem stW (σ : Store) (p : Int) {u : PV} (hu : u.plain = true) : zu Try.prog (σ.push (.cells 0 [[.int .i64 0,.nilsl]])) 118 (.ref σ.next 0 0) (.agg [.int .i64 p,u]) = some (σ.push (.cells 0 [[.int .i64 p,u]])) :=
 zne szW rfl rfl (by show ([PV.int .i64 p,u]).all PV.one = true; simp only [List.all_cons,List.all_nil,wx hu]; rfl)
theorem aggW : AggT Try.prog 118 2 := .of (by kernel_rfl) (by kernel_rfl)
theorem aggT : AggT Try.prog 112 3 := .of (by kernel_rfl) (by kernel_rfl)
theorem ldW {σ : Store} {i ro : Nat} {e : List PV} (ho : σ.objs i = some (.cells ro [e])) (he : e.length = 2) : zd Try.prog σ 118 (.ref i 0 0) = some (.agg e) := by rw [znz ho rfl,aggW.part he]
theorem ldT {σ : Store} {i ro : Nat} {e : List PV} (ho : σ.objs i = some (.cells ro [e])) (he : e.length = 3) : zd Try.prog σ 112 (.ref i 0 0) = some (.agg e) := by rw [znz ho rfl,aggT.part he]
theorem z05 (σ : Store) (a u : PV) : xt Try.prog σ 54 1 [(0,.agg [a,u])] = some (.lsl σ.next 2 0 1 (some 1),σ.push (.cells 0 [[a,u]])) := by kernel_rfl
theorem z4x (σ : Store) (a b c : PV) : xt Try.prog σ 55 1 [(0,.agg [a,b,c])] = some (.lsl σ.next 3 0 1 (some 1),σ.push (.cells 0 [[a,b,c]])) := by kernel_rfl
section
variable {g : Nat → Nat} {σ : Store} {id : Nat} {d : Dv} {u : PV} {b : By}
theorem zum (h : DevS g σ id d) (hu : IsS RB u b) (h1 : b.length = 128) {at_ : Nat} (h2 : 128 * at_ + 128 ≤ d.seen.pg.length) (hs : d.seen.pg.length ≤ 1000000000) :
  ∃ τ,ze cfg 58 [.ref id 0 0,.agg [.int .i64 (at_ : Nat),u]] σ = some (.tuple [],τ) ∧ DevS g τ id { d with seen := d.seen.put ((at_ : Nat),b) } ∧ Out g σ g τ := by
 obtain ⟨x,q1,q2,q3,q4⟩ := h
 obtain ⟨τ,k1,k2,k3⟩ := zwb (off := 0) q1 q2 rfl q4.vp hu h1 h2 hs
 have key : ∀ {k : Nat} {v : PV},k ≠ 1 → Sl g k v → ∀ i ∈ tops v,i ∉ tops x.vp := fun a c i hi hm => a ((c i hi).symm.trans (q4.g1 i hm))
 refine ⟨τ,k1,⟨x,(k2.2 id q2 fun hm => by have := q4.g1 id hm; omega).trans q1,Nat.lt_of_lt_of_le q2 k2.1,q3,?_⟩,Out.mod k2 (fun i hi _ => by rw [q4.g1 i hi]; decide) fun _ _ => rfl⟩
 exact ⟨k3,q4.vs.mod k2 (key (by decide) q4.g2),q4.wp.mod k2 (key (by decide) q4.g3),q4.ws.mod k2 (key (by decide) q4.g4),q4.vw.mod k2 (key (by decide) q4.g5),q4.vt.mod k2 (key (by decide) q4.g6),q4.g1,q4.g2,q4.g3,q4.g4,q4.g5,q4.g6⟩
theorem z31 (h : DevS g σ id d) {t : Tn} (hu : IsS RB u t.b) (hs : d.seen.st.length + t.b.length ≤ 1000000000) (hv : t.trim = true → d.seen.base ≤ t.place ∧ t.place ≤ d.seen.base + d.seen.st.length) (hb : 0 ≤ d.seen.base ∧ d.seen.base ≤ 1000000000) :
  ∃ g' τ,ze cfg 55 [.ref id 0 0,.agg [u,.bool t.trim,.int .i64 t.place]] σ = some (.tuple [],τ) ∧ DevS g' τ id { d with seen := d.seen.turn t } ∧ Out g σ g' τ := by
 obtain ⟨x,q1,q2,q3,q4⟩ := h
 obtain ⟨u',τ,k1,k2,k3,k4,k5⟩ := zv8 (off := 0) q1 q2 (by show 2 < 10; decide) rfl rfl q4.vs (fun i hi e => by have := q4.g2 i hi; rw [e] at this; omega) hu hs hv hb
 have key : ∀ {k : Nat} {v : PV},k ≠ 2 → 0 < k → Sl g k v → ∀ i ∈ tops v,i ∉ id :: tops x.vs := fun a a0 c i hi hm => by
  rcases List.mem_cons.1 hm with rfl | hm
  ·have := c _ hi; omega
  ·exact a ((c i hi).symm.trans (q4.g2 i hm))
 have hg : ∀ i,i < σ.next → tag g σ.next 2 i = g i := fun i hi => je hi
 obtain ⟨e1,e2⟩ := zt4 d.seen [] t
 have e3 := zt3 d.seen t
 have r := q4.retag hg
 refine ⟨tag g σ.next 2,τ,k1,⟨{ x with vs := u' },?_,Nat.lt_of_lt_of_le q2 k2.1,(hg id q2).trans q3,?_⟩,Out.mod k2 (fun i hi _ => ?_) hg⟩
 ·rw [k3,e2]
  rfl
 ·refine ⟨?_,?_,q4.wp.mod k2 (key (by decide) (by decide) q4.g3),q4.ws.mod k2 (key (by decide) (by decide) q4.g4),q4.vw.mod k2 (key (by decide) (by decide) q4.g5),q4.vt.mod k2 (key (by decide) (by decide) q4.g6),r.g1,q4.g2.tag q4.vs.lt k5,r.g3,r.g4,r.g5,r.g6⟩
  ·show Wr RB τ 1 x.vp (d.seen.turn t).pg
   rw [e3]
   exact q4.vp.mod k2 (key (by decide) (by decide) q4.g1)
  ·show AxS RB τ 1 u' (d.seen.turn t).st
   rw [← e1]
   exact k4
 ·rcases List.mem_cons.1 hi with rfl | hi
  ·omega
  ·rw [q4.g2 i hi]; decide
theorem z08 (h : DevS g σ id d) (hu : IsS RB u b) (hl : d.ws.length ≤ 1000000) {a : Int} : ∃ v u' τ1 τ,zd Try.prog σ 54 (.ref id 0 6) = some v ∧ y7 Try.prog (σ.push (.cells 0 [[.int .i64 a,u]])) .append [54,54] [v,.lsl σ.next 2 0 1 (some 1)] = some (u',τ1) ∧
  zu Try.prog τ1 54 (.ref id 0 6) u' = some τ ∧ DevS (tag g σ.next 5) τ id { d with ws := d.ws ++ [(a,b)] } ∧ Out g σ (tag g σ.next 5) τ := by
 obtain ⟨x,q1,q2,q3,q4⟩ := h
 obtain ⟨u',τ1,k1,k2,k3,k4⟩ := q4.vw.app1 TW okW (All2.one (show RW [.int .i64 a,u] (a,b) from ⟨u,rfl,hu⟩)) (by simp; omega) (n := 1) rfl
 have hid : id ∉ tops x.vw := fun hm => by have := q4.g5 id hm; omega
 have ho : τ1.objs id = some (.cells 0 [x.cells d]) := (k3.2 id q2 hid).trans q1
 have hu1 := AxS.one k2
 have s1 := zbi (off := 6) otW ho (by show 6 < 10; decide) hu1.1 hu1.2
 have m : Mod σ (τ1.put id (.cells 0 [(x.cells d).set 6 u'])) (tops x.vw ++ [id]) := k3.trans (Mod.put (.head _))
 have key : ∀ {k : Nat} {v : PV},k ≠ 5 → 0 < k → Sl g k v → ∀ i ∈ tops v,i ∉ tops x.vw ++ [id] := fun a a0 c i hi hm => by
  rcases List.mem_append.1 hm with hm | hm
  ·exact a ((c i hi).symm.trans (q4.g5 i hm))
  ·have := c i hi; rw [List.mem_singleton.1 hm] at this; omega
 have hg : ∀ i,i < σ.next → tag g σ.next 5 i = g i := fun i hi => je hi
 have r := q4.retag hg
 refine ⟨x.vw,u',τ1,_,qc otW q1 rfl,k1,s1,⟨{ x with vw := u' },xa _ _ _,Nat.lt_of_lt_of_le q2 m.1,(hg id q2).trans q3,?_⟩,Out.mod m (fun i hi _ => ?_) hg⟩
 ·refine ⟨q4.vp.mod m (key (by decide) (by decide) q4.g1),q4.vs.mod m (key (by decide) (by decide) q4.g2),q4.wp.mod m (key (by decide) (by decide) q4.g3),q4.ws.mod m (key (by decide) (by decide) q4.g4),k2.mod (Mod.put (ids := [id]) (.head _)) fun i hi hm => ?_,q4.vt.mod m (key (by decide) (by decide) q4.g6),r.g1,r.g2,r.g3,r.g4,q4.g5.tag q4.vw.lt k4,r.g6⟩
  rw [List.mem_singleton.1 hm] at hi
  rcases k4 id hi with h1 | h1
  ·exact hid h1
  ·omega
 ·rcases List.mem_append.1 hi with hi | hi
  ·rw [q4.g5 i hi]; decide
  ·rw [List.mem_singleton.1 hi,q3]; decide
theorem z4z (h : DevS g σ id d) {t : Tn} (hu : IsS RB u t.b) (hl : d.ts.length ≤ 1000000) : ∃ v u' τ1 τ,zd Try.prog σ 55 (.ref id 0 7) = some v ∧ y7 Try.prog (σ.push (.cells 0 [[u,.bool t.trim,.int .i64 t.place]])) .append [55,55] [v,.lsl σ.next 3 0 1 (some 1)] = some (u',τ1) ∧
  zu Try.prog τ1 55 (.ref id 0 7) u' = some τ ∧ DevS (tag g σ.next 6) τ id { d with ts := d.ts ++ [t] } ∧ Out g σ (tag g σ.next 6) τ := by
 obtain ⟨x,q1,q2,q3,q4⟩ := h
 obtain ⟨u',τ1,k1,k2,k3,k4⟩ := q4.vt.app1 TT okT (All2.one (show RT [u,.bool t.trim,.int .i64 t.place] t from ⟨u,rfl,hu⟩)) (by simp; omega) (n := 1) rfl
 have hid : id ∉ tops x.vt := fun hm => by have := q4.g6 id hm; omega
 have ho : τ1.objs id = some (.cells 0 [x.cells d]) := (k3.2 id q2 hid).trans q1
 have hu1 := AxS.one k2
 have s1 := zbi (off := 7) otT ho (by show 7 < 10; decide) hu1.1 hu1.2
 have m : Mod σ (τ1.put id (.cells 0 [(x.cells d).set 7 u'])) (tops x.vt ++ [id]) := k3.trans (Mod.put (.head _))
 have key : ∀ {k : Nat} {v : PV},k ≠ 6 → 0 < k → Sl g k v → ∀ i ∈ tops v,i ∉ tops x.vt ++ [id] := fun a a0 c i hi hm => by
  rcases List.mem_append.1 hm with hm | hm
  ·exact a ((c i hi).symm.trans (q4.g6 i hm))
  ·have := c i hi; rw [List.mem_singleton.1 hm] at this; omega
 have hg : ∀ i,i < σ.next → tag g σ.next 6 i = g i := fun i hi => je hi
 have r := q4.retag hg
 refine ⟨x.vt,u',τ1,_,qc otT q1 rfl,k1,s1,⟨{ x with vt := u' },xa _ _ _,Nat.lt_of_lt_of_le q2 m.1,(hg id q2).trans q3,?_⟩,Out.mod m (fun i hi _ => ?_) hg⟩
 ·refine ⟨q4.vp.mod m (key (by decide) (by decide) q4.g1),q4.vs.mod m (key (by decide) (by decide) q4.g2),q4.wp.mod m (key (by decide) (by decide) q4.g3),q4.ws.mod m (key (by decide) (by decide) q4.g4),q4.vw.mod m (key (by decide) (by decide) q4.g5),k2.mod (Mod.put (ids := [id]) (.head _)) fun i hi hm => ?_,r.g1,r.g2,r.g3,r.g4,r.g5,q4.g6.tag q4.vt.lt k4⟩
  rw [List.mem_singleton.1 hm] at hi
  rcases k4 id hi with h1 | h1
  ·exact hid h1
  ·omega
 ·rcases List.mem_append.1 hi with hi | hi
  ·rw [q4.g6 i hi]; decide
  ·rw [List.mem_singleton.1 hi,q3]; decide
end
end Go.Pvm.S
