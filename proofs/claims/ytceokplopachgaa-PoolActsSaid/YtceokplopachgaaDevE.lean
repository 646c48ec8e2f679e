/- Part of the proof: the device: writing a page, appending, trimming. -/
import Derived.Test.YtceokplopachgaaDevB
set_option linter.unusedSimpArgs false
set_option linter.unusedVariables false
set_option maxRecDepth 100000
namespace Go.Pvm.S
open Go.Pvm Go.Proofs
section
variable {g g' : Nat → Nat} {σ τ : Store} {id : Nat} {d : Dv} {u : PV} {b : By}
theorem DevS.retag (h : DevS g σ id d) (hg : ∀ i,i < σ.next → g' i = g i) : DevS g' σ id d := by
 obtain ⟨x,q1,q2,q3,q4⟩ := h
 exact ⟨x,q1,q2,(hg id q2).trans q3,q4.retag hg⟩
theorem Out.retag (hg : ∀ i,i < σ.next → g' i = g i) : Out g σ g' σ := ⟨hah _,hg,fun _ _ _ => .inl rfl⟩
theorem DevS.box (h : DevS g σ id d) (o : Obj) : DevS (tag g σ.next 7) (σ.push o) id d ∧ Out g σ (tag g σ.next 7) (σ.push o) ∧ tag g σ.next 7 σ.next = 7 := by
 have hg : ∀ i,i < σ.next → tag g σ.next 7 i = g i := fun i hi => je hi
 exact ⟨(h.retag hg).push o,(Out.retag hg).trans (Out.push _ σ o),qj (hah _)⟩
theorem Out.get (k : Out g σ g' τ) {i : Nat} (hi : i < σ.next) (h7 : 7 ≤ g i) {ro : Nat} {es : List (List PV)} (ho : σ.objs i = some (.cells ro es)) : ∃ ro',τ.objs i = some (.cells ro' es) := by
 rcases k.2.2 i hi h7 with e | ⟨_,ro',es',e1,e2⟩
 ·exact ⟨ro,e.trans ho⟩
 ·rw [ho] at e1; cases e1; exact ⟨_,e2⟩
theorem zkz (hu : IsS RB u b) (hb : b.length = 512) {page P : Nat} (hp : page < P) (hP : P ≤ 1000000) : ∀ (k i : Nat) (g : Nat → Nat) (σ : Store) (d : Dv),i + k = 4 → DevS g σ id d → d.seen.pg.length = 512 * P → (-1 ≤ d.armed ∧ d.armed ≤ 9223372036854775807) → d.ws.length + k ≤ 1000000 →
  ∃ g' τ,y2 cfg 65 zi3 (zif (.ref id 0 0) (page : Nat) u (i : Nat)) σ = some (.exit 1,zpy,τ) ∧ DevS g' τ id (wrF page b k i d) ∧ Out g σ g' τ
 | 0,i,g,σ,d,hi,h,hl,ha,hw => by
   have hd : decide (((i : Nat) : Int) < 4) = false := decide_eq_false (by omega)
   refine ⟨g,σ,yi ((ztl _ _ _ _ _ _ _).trans ?_),h,Out.refl _ _⟩
   simp only [hd,Bool.false_eq_true,if_false]
 | k + 1,i,g,σ,d,hi,h,hl,ha,hw => by
   have hd : decide (((i : Nat) : Int) < 4) = true := decide_eq_true (by omega)
   have w1 : IntKind.wrap .i64 (((i : Nat) : Int) * 128) = ((i * 128 : Nat) : Int) := by rw [q9 (by omega) (by omega)]; omega
   have w2 : IntKind.wrap .i64 (IntKind.wrap .i64 (((i : Nat) : Int) + 1) * 128) = (((i + 1) * 128 : Nat) : Int) := by rw [q9 (x := ((i : Nat) : Int) + 1) (by omega) (by omega),q9 (by omega) (by omega)]; omega
   have w3 : IntKind.wrap .i64 (IntKind.wrap .i64 (((page : Nat) : Int) * 4) + ((i : Nat) : Int)) = ((page * 4 + i : Nat) : Int) := by rw [q9 (x := ((page : Nat) : Int) * 4) (by omega) (by omega),q9 (by omega) (by omega)]; omega
   obtain ⟨v0,c1,c2⟩ := hu.cut TB okB (lo := some (.int .i64 ((i * 128 : Nat) : Int))) (hi := some (.int .i64 (((i + 1) * 128 : Nat) : Int))) (x8 .i64 _ 0) (x8 .i64 _ _) (by omega) (by omega)
   rw [show (i + 1) * 128 - i * 128 = 128 by omega] at c2
   obtain ⟨v1,c3,c4⟩ := zrb (c2 := zon) rfl rfl c2 (by simp; omega) σ
   have hbl : ((b.drop (i * 128)).take 128).length = 128 := by simp; omega
   obtain ⟨k1,k2,k3⟩ := h.box (.cells 0 [[.int .i64 ((page * 4 + i : Nat) : Int),v1]])
   have hbox : (σ.push (.cells 0 [[.int .i64 ((page * 4 + i : Nat) : Int),v1]])).objs σ.next = some (.cells 0 [[.int .i64 ((page * 4 + i : Nat) : Int),v1]]) := zn _ _
   obtain ⟨τ1,p1,p2,p3⟩ := zum k1 c4 hbl (at_ := page * 4 + i) (by rw [hl]; omega) (by omega)
   obtain ⟨τ2,s1,s2,s3⟩ := zrx p2 (n := 1) (by omega) ha
   have hput : zi ztw (ze cfg) 58 [.ref id 0 0,.agg [.int .i64 ((page * 4 + i : Nat) : Int),v1]] (σ.push (.cells 0 [[.int .i64 ((page * 4 + i : Nat) : Int),v1]])) = some (.tuple [],τ1) := by rw [zk rfl (by kernel_rfl)]; exact p1
   have hcnt : zi zon (ze cfg) 56 [.ref id 0 0,.int .i64 1] τ1 = some (.int .i64 (({ d with seen := d.seen.put (((page * 4 + i : Nat) : Int),(b.drop (i * 128)).take 128) } : Dv).counts 1).1,τ2) := by rw [zk rfl (by kernel_rfl)]; exact s1
   obtain ⟨ro',hbox2⟩ := (p3.trans s3).get (haw _) (by rw [k3]; exact hah _) hbox
   have ev := ztl (ze cfg) (y2 cfg) σ (.ref id 0 0) (page : Nat) u (i : Nat)
   simp only [hd,if_true,w1,w2,w3,c1,c3,za,bvW _ c4.plain,stW σ _ c4.plain,zsh,(faV id).1,ldW hbox rfl,hput,hcnt,zb] at ev
   have hsame := zfe { d with seen := d.seen.put (((page * 4 + i : Nat) : Int),(b.drop (i * 128)).take 128) } 1
   have hwr := zd1 d (((page * 4 + i : Nat) : Int),(b.drop (i * 128)).take 128)
   have hlen : (d.wr1 (((page * 4 + i : Nat) : Int),(b.drop (i * 128)).take 128)).seen.pg.length = 512 * P := by
    rw [hwr.1]
    have hpl : (putP d.seen.pg (((page * 4 + i : Nat) : Int),(b.drop (i * 128)).take 128)).length = d.seen.pg.length := zg8 (by
     show 128 * Int.toNat ((page * 4 + i : Nat) : Int) + 128 ≤ _
     rw [hax]; omega) hbl
    exact hpl.trans hl
   have hwl : (d.wr1 (((page * 4 + i : Nat) : Int),(b.drop (i * 128)).take 128)).ws.length + k ≤ 1000000 := by
    rcases hwr.2.2.2 with e | e
    ·rw [e]; omega
    ·rw [e,hak,ha9]; omega
   have harm := zo0 d (((page * 4 + i : Nat) : Int),(b.drop (i * 128)).take 128) ha
   by_cases hc : (({ d with seen := d.seen.put (((page * 4 + i : Nat) : Int),(b.drop (i * 128)).take 128) } : Dv).counts 1).1 = 1
   ·rw [if_pos (by rw [hc]; rfl)] at ev
    obtain ⟨v,u',τ3,τ4,a1,a2,a3,a4,a5⟩ := z08 s2 c4 (by rw [hsame.2.2.1]; show d.ws.length ≤ _; omega) (a := ((page * 4 + i : Nat) : Int))
    simp only [(faV id).2.2.1,ldW hbox2 rfl,a1,z05,a2,a3,za,y6 (show i < 4611686018427387904 by omega)] at ev
    have e1 : d.wr1 (((page * 4 + i : Nat) : Int),(b.drop (i * 128)).take 128) = { (({ d with seen := d.seen.put (((page * 4 + i : Nat) : Int),(b.drop (i * 128)).take 128) } : Dv).counts 1).2 with ws := d.ws ++ [(((page * 4 + i : Nat) : Int),(b.drop (i * 128)).take 128)] } := by
     unfold Dv.wr1; rw [if_pos hc]
    rw [hsame.2.2.1] at a4
    rw [← e1] at a4
    obtain ⟨g',τ5,r1,r2,r3⟩ := zkz hu hb hp hP k (i + 1) _ τ4 _ (by omega) a4 hlen harm hwl
    exact ⟨g',τ5,yi (ev.trans r1),r2,(((k2.trans p3).trans s3).trans a5).trans r3⟩
   ·rw [if_neg (by simpa using hc)] at ev
    simp only [y6 (show i < 4611686018427387904 by omega)] at ev
    have e1 : d.wr1 (((page * 4 + i : Nat) : Int),(b.drop (i * 128)).take 128) = (({ d with seen := d.seen.put (((page * 4 + i : Nat) : Int),(b.drop (i * 128)).take 128) } : Dv).counts 1).2 := by
     unfold Dv.wr1; rw [if_neg hc]
    rw [← e1] at s2
    obtain ⟨g',τ5,r1,r2,r3⟩ := zkz hu hb hp hP k (i + 1) _ τ2 _ (by omega) s2 hlen harm hwl
    exact ⟨g',τ5,yi (ev.trans r1),r2,((k2.trans p3).trans s3).trans r3⟩
theorem zt7 (hu : IsS RB u b) (h : DevS g σ id d) {P : Nat} (hP : P ≤ 1000000) (hl : d.seen.pg.length = 512 * P) (ha : -1 ≤ d.armed ∧ d.armed ≤ 9223372036854775807) (hw : d.ws.length + 4 ≤ 1000000) (page : Int) (hbl : b.length < 4611686018427387904) :
  ∃ g' τ,ze cfg 65 [.ref id 0 0,.int .i64 page,u] σ = some (.int .i64 (if 0 ≤ page ∧ page < P then (if b.length = 512 then 0 else 1) else 3),τ) ∧ DevS g' τ id (if 0 ≤ page ∧ page < P ∧ b.length = 512 then wrF page.toNat b 4 0 d else d) ∧ Out g σ g' τ := by
 have ev := z0k (ze cfg) (y2 cfg) σ id 0 0 page u
 by_cases c1 : page < 0
 ·rw [if_pos (decide_eq_true c1)] at ev
  rw [if_neg (by omega),if_neg (by omega)]
  exact ⟨g,σ,zf (hT _) ev,h,Out.refl _ _⟩
 rw [if_neg (by simpa using c1),zak rfl rfl h hl hP] at ev
 simp only [za,zb] at ev
 by_cases c2 : page ≥ ((P : Nat) : Int)
 ·rw [if_pos (decide_eq_true c2)] at ev
  rw [if_neg (by omega),if_neg (by omega)]
  exact ⟨g,σ,zf (hT _) ev,h,Out.refl _ _⟩
 rw [if_neg (by simpa using c2)] at ev
 simp only [hu.len TB,za,zb] at ev
 rw [if_pos (show 0 ≤ page ∧ page < ((P : Nat) : Int) by omega)]
 by_cases c3 : b.length = 512
 ·rw [if_neg (by rw [c3]; decide)] at ev
  rw [if_pos c3,if_pos ⟨by omega,by omega,c3⟩]
  have hpn : ((page.toNat : Nat) : Int) = page := by omega
  obtain ⟨g',τ,r1,r2,r3⟩ := zkz hu c3 (page := page.toNat) (P := P) (by omega) hP 4 0 g σ d (by omega) h hl ha hw
  rw [hpn,zp3] at r1
  rw [r1] at ev
  exact ⟨g',τ,zf (hT _) ev,r2,r3⟩
 ·have : ¬ ((b.length : Nat) : Int) = 512 := by omega
  rw [if_pos (by simpa using this)] at ev
  rw [if_neg c3,if_neg (by omega)]
  exact ⟨g,σ,zf (hT _) ev,h,Out.refl _ _⟩
end
end Go.Pvm.S
set_option linter.unusedSimpArgs false
set_option linter.unusedVariables false
set_option maxRecDepth 100000
namespace Go.Pvm.S
open Go.Pvm Go.Proofs
theorem bvT (u : PV) (hu : u.plain = true) : jz Try.prog 112 [(0,u)] = some (.agg [u,.bool false,.int .i64 0]) := by
 cases u <;> first | (cases hu; done) | kernel_rfl
theorem stT (σ : Store) (e : List PV) (he : e.length = 3) (h1 : e.all PV.one = true) : zu Try.prog (σ.push (.cells 0 [[.nilsl,.bool false,.int .i64 0]])) 112 (.ref σ.next 0 0) (.agg e) = some (σ.push (.cells 0 [e])) :=
 zne szT rfl he h1
section
variable {g g' : Nat → Nat} {σ τ : Store} {id : Nat} {d : Dv} {u v : PV} {b : By}
theorem DevS.ldBase (h : DevS g σ id d) : zd Try.prog σ 3 (.ref id 0 1) = some (.int .i64 d.seen.base) := by
 obtain ⟨x,q1,q2,q3,q4⟩ := h
 exact qc oInt q1 rfl
theorem DevS.ldSt (h : DevS g σ id d) : ∃ v,zd Try.prog σ 33 (.ref id 0 2) = some v ∧ AxS RB σ 1 v d.seen.st := by
 obtain ⟨x,q1,q2,q3,q4⟩ := h
 exact ⟨x.vs,qc otB q1 rfl,q4.vs⟩
theorem DevS.ldPg (h : DevS g σ id d) : ∃ v,zd Try.prog σ 33 (.ref id 0 0) = some v ∧ Wr RB σ 1 v d.seen.pg := by
 obtain ⟨x,q1,q2,q3,q4⟩ := h
 exact ⟨x.vp,qc otB q1 rfl,q4.vp⟩
theorem zxv (h : DevS g σ id d) (hv : QS RB σ 1 v b) (hlf : ∀ i ∈ tops v,Lf σ i) (h7 : ∀ i ∈ tops v,g i = 7) : ∃ σ1,ke (tops v) σ = some σ1 ∧ DevS g σ1 id d ∧ Out g σ g σ1 ∧ σ1.next = σ.next := by
 obtain ⟨es,q1,q2⟩ := hv
 rcases q1 with q1 | ⟨i,idx,cap,ro,full,rfl,o2,o3,o4,o5⟩
 ·exact ⟨σ,znm q1.tops σ,h,Out.refl _ _,rfl⟩
 ·obtain ⟨ro',es',e1,e2⟩ := hlf i (.head _)
  rw [o2] at e1
  cases e1
  have h7 := h7 i (.head _)
  refine ⟨σ.put i (.cells full.length full),?_,h.mod (Mod.put (ids := [i]) (.head _)) fun j hj _ => by rw [ham.1 hj]; exact Nat.le_of_eq h7.symm,⟨hah _,fun _ _ => rfl,fun j _ _ => ?_⟩,rfl⟩
  ·show ke [i] σ = _
   simp only [ke,o2,e2,if_true]
  ·by_cases hj : j = i
   ·subst hj; exact .inr ⟨h7,ro,full,o2,xa _ _ _⟩
   ·exact .inl (yb hj)
theorem z32 (h : DevS g σ id d) (hv : QS RB σ 1 v b) (hlf : ∀ i ∈ tops v,Lf σ i) (h7 : ∀ i ∈ tops v,g i = 7) {P : Nat} (hP : 1 ≤ P ∧ P ≤ 1000000) (hl : d.seen.pg.length = 512 * P) (hs : d.seen.st.length ≤ 65536) (hb : 0 ≤ d.seen.base ∧ d.seen.base ≤ 1000000000)
  (ha : -1 ≤ d.armed ∧ d.armed ≤ 9223372036854775807) (hw : d.ts.length ≤ 1000000) (hbl : b.length < 4611686018427387904) :
  ∃ g' τ,ze cfg 27 [.ref id 0 0,v] σ = some (.int .i64 (if b.length + d.seen.st.length ≤ 65536 then 0 else 10),τ) ∧ DevS g' τ id (if b.length + d.seen.st.length ≤ 65536 then d.app b else d) ∧ Out g σ g' τ := by
 have ev := z4v (ze cfg) (y2 cfg) σ id 0 0 v
 obtain ⟨σ1,z1,z2,z3,z4⟩ := zxv h hv hlf h7
 have hu : IsS RB (fz zp σ v) b := hv.frz okB 6
 obtain ⟨vs,l1,l2⟩ := z2.ldSt
 have hp0 : (((P : Nat) : Int) == 0) = false := by
  have : ¬ ((P : Nat) : Int) = 0 := by omega
  simpa using this
 have w1 : IntKind.wrap .i64 (65536 - ((d.seen.st.length : Nat) : Int)) = 65536 - ((d.seen.st.length : Nat) : Int) := q9 (by omega) (by omega)
 simp only [z1,za,zak (c2 := z3m) rfl rfl z2 hl hP.2,zb,hp0,Bool.false_eq_true,if_false,hu.len TB,Nat.add_zero,hb4,l1,l2.len TB,w1] at ev
 by_cases c1 : b.length + d.seen.st.length ≤ 65536
 ·rw [if_pos c1,if_pos c1]
  rw [if_neg (by simp; omega)] at ev
  have harg := bvT _ hu.plain
  obtain ⟨g2,τ1,t1,t2,t3⟩ := z31 z2 (t := ⟨b,false,0⟩) hu (by show _ + b.length ≤ _; omega) (fun e => by cases e) hb
  have ht : zi z3m (ze cfg) 55 [.ref id 0 0,.agg [fz zp σ v,.bool false,.int .i64 0]] σ1 = some (.tuple [],τ1) := by rw [zk rfl (by kernel_rfl)]; exact t1
  obtain ⟨τ2,s1,s2,s3⟩ := zrx t2 (n := (b.length : Nat)) (by omega) ha
  have hc : zi z3m (ze cfg) 56 [.ref id 0 0,.int .i64 (b.length : Nat)] τ1 = some (.int .i64 (({ d with seen := d.seen.turn ⟨b,false,0⟩ } : Dv).counts (b.length : Nat)).1,τ2) := by rw [zk rfl (by kernel_rfl)]; exact s1
  simp only [harg,za,ht,hc,zb] at ev
  have hle := z3j { d with seen := d.seen.turn ⟨b,false,0⟩ } (n := (b.length : Nat)) (by omega)
  have hsame := zfe { d with seen := d.seen.turn ⟨b,false,0⟩ } (b.length : Nat)
  have happ : d.app b = if (({ d with seen := d.seen.turn ⟨b,false,0⟩ } : Dv).counts (b.length : Nat)).1 > 0 then { (({ d with seen := d.seen.turn ⟨b,false,0⟩ } : Dv).counts (b.length : Nat)).2 with ts := d.ts ++ [⟨b.take (({ d with seen := d.seen.turn ⟨b,false,0⟩ } : Dv).counts (b.length : Nat)).1.toNat,false,0⟩] } else (({ d with seen := d.seen.turn ⟨b,false,0⟩ } : Dv).counts (b.length : Nat)).2 := rfl
  rw [happ]
  generalize (({ d with seen := d.seen.turn ⟨b,false,0⟩ } : Dv).counts (b.length : Nat)) = r at hle hsame ev s2
  obtain ⟨n,d2⟩ := r
  simp only at hle hsame ev s2
  by_cases c2 : n > 0
  ·rw [if_pos c2]
   rw [if_pos (decide_eq_true c2)] at ev
   have hn : ((n.toNat : Nat) : Int) = n := by omega
   obtain ⟨v',k1,k2⟩ := hu.cut TB okB (lo := none) (hi := some (.int .i64 ((n.toNat : Nat) : Int))) rfl (x8 .i64 _ _) (hbe _) (by omega)
   rw [hn] at k1
   simp only [ha8,Nat.sub_zero] at k2
   obtain ⟨v2,j1,j2⟩ := zrb (c2 := z4a) rfl rfl k2 (by simp; omega) τ2
   obtain ⟨vt,u',τ3,τ4,a1,a2,a3,a4,a5⟩ := z4z s2 (t := ⟨b.take n.toNat,false,0⟩) j2 (by rw [hsame.2.2.2]; exact hw)
   simp only [a1,k1,j1,bvT _ j2.plain,z4x,a2,a3,za] at ev
   refine ⟨_,τ4,zf (hT _) ev,?_,((z3.trans t3).trans s3).trans a5⟩
   rw [hsame.2.2.2] at a4
   exact a4
  ·rw [if_neg c2]
   rw [if_neg (by simpa using c2)] at ev
   exact ⟨_,τ2,zf (hT _) ev,s2,(z3.trans t3).trans s3⟩
 ·rw [if_neg c1,if_neg c1]
  rw [if_pos (by simp; omega)] at ev
  exact ⟨g,σ1,zf (hT _) ev,z2,z3⟩
end
end Go.Pvm.S
set_option linter.unusedSimpArgs false
set_option linter.unusedVariables false
set_option maxRecDepth 100000
namespace Go.Pvm.S
open Go.Pvm Go.Proofs
def oks : Dk → List Tn → Prop
 | _,[] => True
 | x,t :: r => (t.trim = true → x.base ≤ t.place ∧ t.place ≤ x.base + x.st.length) ∧ (0 ≤ x.base ∧ x.base ≤ 1000000000) ∧ x.st.length + t.b.length ≤ 65536 ∧ oks (x.turn t) r
def zys (P : Nat) (ws : List (Int × By)) : Prop := ∀ w ∈ ws,0 ≤ w.1 ∧ 128 * w.1.toNat + 128 ≤ 512 * P ∧ w.2.length = 128
def Dv.sync (d : Dv) : Dv := if d.gone = true then d else { d with kept := d.ts.foldl Dk.turn (d.ws.foldl Dk.put d.kept),ws := [],ts := [] }
theorem zgl : ∀ (ws : List (Int × By)) (x : Dk),(ws.foldl Dk.put x).st = x.st ∧ (ws.foldl Dk.put x).base = x.base
 | [],_ => ⟨rfl,rfl⟩
 | w :: ws,x => zgl ws (x.put w)
theorem ztj : ∀ (ts : List Tn) (x y : Dk),x.st = y.st → x.base = y.base → oks x ts → oks y ts
 | [],_,_,_,_,_ => trivial
 | t :: ts,x,y,h1,h2,h => by
   obtain ⟨a,b,c,d⟩ := h
   refine ⟨by rw [← h1,← h2]; exact a,by rw [← h2]; exact b,by rw [← h1]; exact c,ztj ts _ _ ?_ ?_ d⟩
   ·unfold Dk.turn; split <;> simp [h1,h2]
   ·unfold Dk.turn; split <;> simp [h2]
def DevX (g : Nat → Nat) (σ : Store) (id : Nat) (d : Dv) (x : Vals) : Prop := σ.objs id = some (.cells 0 [x.cells d]) ∧ id < σ.next ∧ g id = 0 ∧ Comp g σ x d
section
variable {g g' : Nat → Nat} {σ τ : Store} {id : Nat} {d : Dv} {x : Vals} {u v : PV} {b : By}
theorem DevX.box (h : DevX g σ id d x) (o : Obj) : DevX (tag g σ.next 7) (σ.push o) id d x ∧ Out g σ (tag g σ.next 7) (σ.push o) ∧ tag g σ.next 7 σ.next = 7 := by
 obtain ⟨q1,q2,q3,q4⟩ := h
 have hg : ∀ i,i < σ.next → tag g σ.next 7 i = g i := fun i hi => je hi
 exact ⟨⟨zbq q1 q2,Nat.lt_succ_of_lt q2,(hg id q2).trans q3,(q4.retag hg).mod (Mod.push σ o []) fun i hi => by cases hi⟩,(Out.retag hg).trans (Out.push _ σ o),qj (hah _)⟩
theorem zr8 (h : DevX g σ id d x) (hu : IsS RB u b) (h1 : b.length = 128) {at_ : Nat} (h2 : 128 * at_ + 128 ≤ d.kept.pg.length) (hs : d.kept.pg.length ≤ 1000000000) :
  ∃ τ,ze cfg 58 [.ref id 0 3,.agg [.int .i64 (at_ : Nat),u]] σ = some (.tuple [],τ) ∧ DevX g τ id { d with kept := d.kept.put ((at_ : Nat),b) } x ∧ Out g σ g τ := by
 obtain ⟨q1,q2,q3,q4⟩ := h
 obtain ⟨τ,k1,k2,k3⟩ := zwb (off := 3) q1 q2 rfl q4.wp hu h1 h2 hs
 have key : ∀ {k : Nat} {v : PV},k ≠ 3 → Sl g k v → ∀ i ∈ tops v,i ∉ tops x.wp := fun a c i hi hm => a ((c i hi).symm.trans (q4.g3 i hm))
 refine ⟨τ,k1,⟨(k2.2 id q2 fun hm => by have := q4.g3 id hm; omega).trans q1,hao q2 k2.1,q3,?_⟩,Out.mod k2 (fun i hi _ => by rw [q4.g3 i hi]; decide) fun _ _ => rfl⟩
 exact ⟨q4.vp.mod k2 (key (by decide) q4.g1),q4.vs.mod k2 (key (by decide) q4.g2),k3,q4.ws.mod k2 (key (by decide) q4.g4),q4.vw.mod k2 (key (by decide) q4.g5),q4.vt.mod k2 (key (by decide) q4.g6),q4.g1,q4.g2,q4.g3,q4.g4,q4.g5,q4.g6⟩
theorem zo3 (h : DevX g σ id d x) {t : Tn} (hu : IsS RB u t.b) (hs : d.kept.st.length + t.b.length ≤ 1000000000) (hv : t.trim = true → d.kept.base ≤ t.place ∧ t.place ≤ d.kept.base + d.kept.st.length) (hb : 0 ≤ d.kept.base ∧ d.kept.base ≤ 1000000000) :
  ∃ g' τ u',ze cfg 55 [.ref id 0 3,.agg [u,.bool t.trim,.int .i64 t.place]] σ = some (.tuple [],τ) ∧ DevX g' τ id { d with kept := d.kept.turn t } { x with ws := u' } ∧ Out g σ g' τ := by
 obtain ⟨q1,q2,q3,q4⟩ := h
 obtain ⟨u',τ,k1,k2,k3,k4,k5⟩ := zv8 (off := 3) q1 q2 (by show 5 < 10; decide) rfl rfl q4.ws (fun i hi e => by have := q4.g4 i hi; rw [e] at this; omega) hu hs hv hb
 have key : ∀ {k : Nat} {v : PV},k ≠ 4 → 0 < k → Sl g k v → ∀ i ∈ tops v,i ∉ id :: tops x.ws := fun a a0 c i hi hm => by
  rcases ha6.1 hm with rfl | hm
  ·have := c _ hi; omega
  ·exact a ((c i hi).symm.trans (q4.g4 i hm))
 have hg : ∀ i,i < σ.next → tag g σ.next 4 i = g i := fun i hi => je hi
 obtain ⟨e1,e2⟩ := zt4 d.kept [] t
 have e3 := zt3 d.kept t
 have r := q4.retag hg
 refine ⟨tag g σ.next 4,τ,u',k1,⟨?_,hao q2 k2.1,(hg id q2).trans q3,?_⟩,Out.mod k2 (fun i hi _ => ?_) hg⟩
 ·rw [k3,e2]
  rfl
 ·refine ⟨q4.vp.mod k2 (key (by decide) (by decide) q4.g1),q4.vs.mod k2 (key (by decide) (by decide) q4.g2),?_,?_,q4.vw.mod k2 (key (by decide) (by decide) q4.g5),q4.vt.mod k2 (key (by decide) (by decide) q4.g6),r.g1,r.g2,r.g3,q4.g4.tag q4.ws.lt k5,r.g5,r.g6⟩
  ·show Wr RB τ 1 x.wp (d.kept.turn t).pg
   rw [e3]
   exact q4.wp.mod k2 (key (by decide) (by decide) q4.g3)
  ·show AxS RB τ 1 u' (d.kept.turn t).st
   rw [← e1]
   exact k4
 ·rcases ha6.1 hi with rfl | hi
  ·omega
  ·rw [q4.g4 i hi]; decide
theorem DevX.w (h : DevX g σ id d x) {i : Nat} (hi : i < d.ws.length) : ∃ w r u,d.ws[i]? = some w ∧ zh Try.prog 54 x.vw (.int .i64 (i : Nat)) = some r ∧ zd Try.prog σ 118 r = some (.agg [.int .i64 w.1,u]) ∧ IsS RB u w.2 := by
 have hw := haf hi
 obtain ⟨r,e,k1,_,k2,u,rfl,k3⟩ := h.2.2.2.vw.q.idx TW okW hw .i64
 exact ⟨_,r,u,hw,k1,by rw [k2,aggW.part rfl],k3⟩
theorem DevX.t (h : DevX g σ id d x) {i : Nat} (hi : i < d.ts.length) : ∃ t r u,d.ts[i]? = some t ∧ zh Try.prog 55 x.vt (.int .i64 (i : Nat)) = some r ∧ zd Try.prog σ 112 r = some (.agg [u,.bool t.trim,.int .i64 t.place]) ∧ IsS RB u t.b := by
 have hw := haf hi
 obtain ⟨r,e,k1,_,k2,u,rfl,k3⟩ := h.2.2.2.vt.q.idx TT okT hw .i64
 exact ⟨_,r,u,hw,k1,by rw [k2,aggT.part rfl],k3⟩
theorem zk6 {α : Type} {l : List α} {i : Nat} {a : α} (h : l[i]? = some a) : l.drop i = a :: l.drop (i + 1) := by
 have hi := (had.1 h).1
 rw [hbo hi]
 rw [haf hi] at h
 cases h
 rfl
theorem z0a {u : PV} (hu : u.plain = true) (a : Bool) (k : IntKind) (y : Int) : ([u,PV.bool a,PV.int k y]).all PV.one = true := by simp only [List.all_cons,List.all_nil,wx hu]; rfl
theorem zqc {P : Nat} (hP : P ≤ 1000000) : ∀ (k i : Nat) (g : Nat → Nat) (σ : Store) (d : Dv),i + k = d.ws.length → DevX g σ id d x → zys P d.ws → d.kept.pg.length = 512 * P → d.ws.length ≤ 1000000 →
  ∃ g' τ,y2 cfg 29 zmi (zlw (.ref id 0 0) x.vw (d.ws.length : Nat) (i : Nat)) σ = some (.exit 0,zkt (.ref id 0 0),τ) ∧ DevX g' τ id { d with kept := (d.ws.drop i).foldl Dk.put d.kept } x ∧ Out g σ g' τ
 | 0,i,g,σ,d,hi,h,hw,hl,hn => by
   refine ⟨g,σ,yi ((zto _ _ _ _ _ _ _).trans ?_),?_,Out.refl _ _⟩
   ·simp only [zzr (show d.ws.length ≤ i by omega),Bool.false_eq_true,if_false]
   ·rw [List.drop_eq_nil_of_le (by omega)]; exact h
 | k + 1,i,g,σ,d,hi,h,hw,hl,hn => by
   obtain ⟨w,r,u,e1,e2,e3,e4⟩ := h.w (show i < d.ws.length by omega)
   obtain ⟨w1,w2,w3⟩ := hw w (haj e1)
   obtain ⟨k1,k2,k3⟩ := h.box (.cells 0 [[.int .i64 w.1,u]])
   have hat : ((w.1.toNat : Nat) : Int) = w.1 := by omega
   obtain ⟨τ1,p1,p2,p3⟩ := zr8 k1 e4 w3 (at_ := w.1.toNat) (by rw [hl]; exact w2) (by omega)
   rw [hat] at p1 p2
   have hp : zi zf1 (ze cfg) 58 [.ref id 0 3,.agg [.int .i64 w.1,u]] (σ.push (.cells 0 [[.int .i64 w.1,u]])) = some (.tuple [],τ1) := by rw [zk rfl (by kernel_rfl)]; exact p1
   have ev := zto (ze cfg) (y2 cfg) σ (.ref id 0 0) x.vw (d.ws.length : Nat) (i : Nat)
   simp only [ltN (show i < d.ws.length by omega),if_true,e2,e3,za,stW σ w.1 e4.plain,zsh,(faV id).2.1,ldW (zn σ (.cells 0 [[.int .i64 w.1,u]])) rfl,hp,y6 (show i < 4611686018427387904 by omega)] at ev
   obtain ⟨g',τ2,r1,r2,r3⟩ := zqc hP k (i + 1) _ τ1 { d with kept := d.kept.put w } (by show i + 1 + k = d.ws.length; omega) p2 hw (by
    show (putP d.kept.pg w).length = _
    rw [zg8 (by omega) w3,hl]) hn
   refine ⟨g',τ2,yi (ev.trans r1),?_,(k2.trans p3).trans r3⟩
   rw [zk6 e1]
   exact r2
theorem zqd : ∀ (k i : Nat) (g : Nat → Nat) (σ : Store) (d : Dv) (x : Vals),i + k = d.ts.length → DevX g σ id d x → oks d.kept (d.ts.drop i) → d.ts.length ≤ 1000000 →
  ∃ g' τ u',y2 cfg 29 zmh (zlv (.ref id 0 0) x.vt (d.ts.length : Nat) (i : Nat)) σ = some (.exit 2,zks (.ref id 0 0),τ) ∧ DevX g' τ id { d with kept := (d.ts.drop i).foldl Dk.turn d.kept } { x with ws := u' } ∧ Out g σ g' τ
 | 0,i,g,σ,d,x,hi,h,hw,hn => by
   refine ⟨g,σ,x.ws,yi ((ztn _ _ _ _ _ _ _).trans ?_),?_,Out.refl _ _⟩
   ·simp only [zzr (show d.ts.length ≤ i by omega),Bool.false_eq_true,if_false]
   ·rw [List.drop_eq_nil_of_le (by omega)]; exact h
 | k + 1,i,g,σ,d,x,hi,h,hw,hn => by
   obtain ⟨t,r,u,e1,e2,e3,e4⟩ := h.t (show i < d.ts.length by omega)
   rw [zk6 e1] at hw
   obtain ⟨o1,o2,o3,o4⟩ := hw
   obtain ⟨k1,k2,k3⟩ := h.box (.cells 0 [[u,.bool t.trim,.int .i64 t.place]])
   obtain ⟨g1,τ1,u1,p1,p2,p3⟩ := zo3 k1 e4 (by omega) o1 o2
   have hp : zi zf1 (ze cfg) 55 [.ref id 0 3,.agg [u,.bool t.trim,.int .i64 t.place]] (σ.push (.cells 0 [[u,.bool t.trim,.int .i64 t.place]])) = some (.tuple [],τ1) := by rw [zk rfl (by kernel_rfl)]; exact p1
   have ev := ztn (ze cfg) (y2 cfg) σ (.ref id 0 0) x.vt (d.ts.length : Nat) (i : Nat)
   simp only [ltN (show i < d.ts.length by omega),if_true,e2,e3,za,stT σ [u,.bool t.trim,.int .i64 t.place] rfl (z0a e4.plain _ _ _),zsh,(faV id).2.1,ldT (zn σ (.cells 0 [[u,.bool t.trim,.int .i64 t.place]])) rfl,hp,y6 (show i < 4611686018427387904 by omega)] at ev
   obtain ⟨g',τ2,u2,r1,r2,r3⟩ := zqd k (i + 1) _ τ1 { d with kept := d.kept.turn t } _ (by show i + 1 + k = d.ts.length; omega) p2 o4 hn
   refine ⟨g',τ2,u2,yi (ev.trans r1),?_,(k2.trans p3).trans r3⟩
   rw [zk6 e1]
   exact r2
theorem zwz (id : Nat) : j9 Try.prog .eql 23 (.ref id 0 0) .nilptr = some (.bool false) ∧ j9 Try.prog .neq 23 (.ref id 0 0) .nilptr = some (.bool true) := ⟨by kernel_rfl,by kernel_rfl⟩
theorem DevX.none (h : DevX g σ id d x) : zu Try.prog σ 54 (.ref id 0 6) .nilsl = some (σ.put id (.cells 0 [(x.cells d).set 6 .nilsl])) ∧ zu Try.prog (σ.put id (.cells 0 [(x.cells d).set 6 .nilsl])) 55 (.ref id 0 7) .nilsl = some (σ.put id (.cells 0 [((x.cells d).set 6 .nilsl).set 7 .nilsl])) ∧
  DevX g (σ.put id (.cells 0 [((x.cells d).set 6 .nilsl).set 7 .nilsl])) id { d with ws := [],ts := [] } { x with vw := .nilsl,vt := .nilsl } ∧ Out g σ g (σ.put id (.cells 0 [((x.cells d).set 6 .nilsl).set 7 .nilsl])) := by
 obtain ⟨q1,q2,q3,q4⟩ := h
 have s1 := zbi (σ := σ) (off := 6) (v := .nilsl) otW q1 (by show 6 < 10; decide) rfl rfl
 have s2 := zbi (σ := σ.put id (.cells 0 [(x.cells d).set 6 .nilsl])) (off := 7) (v := .nilsl) otT (xa _ _ _) (by show 7 < 10; decide) rfl rfl
 rw [zel] at s2
 have m : Mod σ (σ.put id (.cells 0 [((x.cells d).set 6 .nilsl).set 7 .nilsl])) [id] := Mod.put (.head _)
 have c := q4.mod m fun i hi _ => by rw [ham.1 hi]; exact .inl q3
 exact ⟨s1,s2,⟨xa _ _ _,q2,q3,⟨c.vp,c.vs,c.wp,c.ws,AxS.nil _,AxS.nil _,c.g1,c.g2,c.g3,c.g4,fun i hi => by (cases hi),fun i hi => by (cases hi)⟩⟩,Out.mod m (fun i hi _ => by rw [ham.1 hi,q3]; decide) fun _ _ => rfl⟩
theorem zv9 (h : DevS g σ id d) {P : Nat} (hP : P ≤ 1000000) (hl : d.kept.pg.length = 512 * P) (hw : zys P d.ws) (ht : oks d.kept d.ts) (h1 : d.ws.length ≤ 1000000) (h2 : d.ts.length ≤ 1000000) :
  ∃ g' τ,ze cfg 29 [.ref id 0 0] σ = some (.tuple [],τ) ∧ DevS g' τ id d.sync ∧ Out g σ g' τ := by
 obtain ⟨x,q⟩ := h
 have q' := q
 obtain ⟨q1,q2,q3,q4⟩ := q'
 have ev := z0u (ze cfg) (y2 cfg) σ id 0 0
 have lg : zd Try.prog σ 4 (.ref id 0 9) = some (.bool d.gone) := qc oBool q1 rfl
 have lw : zd Try.prog σ 54 (.ref id 0 6) = some x.vw := qc otW q1 rfl
 simp only [(zwz id).1,za,zc,Bool.false_eq_true,if_false,hb4,lg] at ev
 unfold Dv.sync
 by_cases hg : d.gone = true
 ·rw [if_pos hg] at ev ⊢
  exact ⟨g,σ,zf (hT _) ev,⟨x,q⟩,Out.refl _ _⟩
 ·rw [if_neg hg] at ev ⊢
  obtain ⟨g1,τ1,a1,a2,a3⟩ := zqc hP d.ws.length 0 g σ d (by omega) q hw hl h1
  rw [zp3] at a1
  rw [ha8] at a2
  have lt : zd Try.prog τ1 55 (.ref id 0 7) = some x.vt := qc otT a2.1 rfl
  have hk := zgl d.ws d.kept
  obtain ⟨g2,τ2,u',b1,b2,b3⟩ := zqd d.ts.length 0 g1 τ1 _ x (by show 0 + d.ts.length = d.ts.length; omega) a2 (by
   show oks _ (d.ts.drop 0)
   rw [ha8]
   exact ztj _ _ _ hk.1.symm hk.2.symm ht) h2
  rw [zp3] at b1
  simp only [ha8] at b2
  obtain ⟨c1,c2,c3,c4⟩ := b2.none
  have hlw : jd Try.prog .len [54] [x.vw] = some (.int .i64 (d.ws.length : Nat)) := q4.vw.len TW
  have hlt : jd Try.prog .len [55] [x.vt] = some (.int .i64 (d.ts.length : Nat)) := a2.2.2.2.vt.len TT
  simp only [lw,hlw,zb,za,a1,ya,if_true,out29_2_0,zsh,(faV id).2.2.2.1,lt,hlt,b1,out29_7_0,(faV id).2.2.1,c1,c2] at ev
  exact ⟨g2,_,zf (hT _) ev,⟨_,c3⟩,(a3.trans b3).trans c4⟩
end
end Go.Pvm.S
