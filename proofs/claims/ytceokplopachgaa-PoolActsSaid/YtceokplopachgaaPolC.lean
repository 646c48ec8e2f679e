/- Part of the proof: the pool: whether it is one, how far it is synced, a page that is written. -/
import Derived.Test.YtceokplopachgaaPolB
set_option linter.unusedSimpArgs false
set_option linter.unusedVariables false
set_option maxRecDepth 100000
namespace Go.Pvm.S
open Go.Pvm Go.Proofs
theorem z0b : OneT Try.prog 23 := .of (by kernel_rfl) (by kernel_rfl)
theorem zzq : OneT Try.prog 47 := .of (by kernel_rfl) (by kernel_rfl)
section
variable {g g' : Nat → Nat} {σ τ : Store} {pid did mid : Nat} {p : Po} {vs : PV} {ids : List Nat}
theorem zvk {c2 : Cfg} (hm : c2.mode 38 = .pure) (hP : c2.P = Try.prog) (h : PoS g σ pid did mid p) : zi c2 (ze cfg) 38 [.ref pid 0 0] σ = some (.bool true,σ) := by
 obtain ⟨⟨x,q1,_⟩,vs,ids,r⟩ := h
 have e2 : fz 7 σ (.ref did 0 0) = .pref ((x.cells p.d).map (fz 6 σ)) := by
  show fz (6 + 1) σ (.ref did 0 0) = _
  unfold fz
  simp only [q1,List.getElem?_cons_zero,ha8]
 have e1 : fz zp σ (.ref pid 0 0) = .pref [.pref ((x.cells p.d).map (fz 6 σ)),fz 7 σ vs,.int .i64 p.c.h,.undef,.int .i64 p.sy] := by
  show fz (7 + 1) σ (.ref pid 0 0) = _
  unfold fz
  simp only [r.po,List.getElem?_cons_zero,ha8,List.map_cons,List.map_nil,e2]
  rfl
 refine w8 hm (by rw [hP]; kernel_rfl) (by simp only [List.map_cons,List.map_nil]; rw [e1]) ?_ (.inl rfl)
 have ev := z0r (ze cfg) (y2 cfg) .empty (.pref ((x.cells p.d).map (fz 6 σ))) (fz 7 σ vs) p.c.h .undef p.sy
 have b1 : ∀ l,j9 Try.prog .neq 27 (.pref l) .nilptr = some (.bool true) := by intro l; kernel_rfl
 have b2 : ∀ l,j9 Try.prog .neq 23 (.pref l) .nilptr = some (.bool true) := by intro l; kernel_rfl
 simp only [b1,b2,za,zc,if_true] at ev
 exact zl8 (hT _) ev rfl
theorem PoR.ldD (r : PoR g σ pid did mid p vs ids) : zd Try.prog σ 23 (.ref pid 0 (0 + 0)) = some (.ref did 0 0) := qc z0b r.po rfl
theorem PoR.ldS (r : PoR g σ pid did mid p vs ids) : zd Try.prog σ 3 (.ref pid 0 (0 + 4)) = some (.int .i64 p.sy) := qc oInt r.po rfl
theorem PoR.ldM (r : PoR g σ pid did mid p vs ids) : zd Try.prog σ 47 (.ref pid 0 (0 + 3)) = some (.mref mid) := qc zzq r.po rfl
def Dv.fin (d : Dv) : Int := d.seen.base + d.seen.st.length
theorem zrw (hd : DevS g σ did p.d) (r : PoR g σ pid did mid p vs ids) {P : Nat} {T : Int} (hI : Inv P T p.d) (hT' : T ≤ 900000000) : ∃ g' τ,ze cfg 17 [.ref pid 0 0] σ = some (.tuple [],τ) ∧ DevS g' τ did p.d ∧ PoR g' τ pid did mid { p with sy := p.d.fin } vs ids ∧ OutP g σ g' τ := by
 have ev := z0x (ze cfg) (y2 cfg) σ pid 0 0
 have h1 := zvk (c2 := cfg) rfl rfl ⟨hd,vs,ids,r⟩
 have hst := hI.st
 have hbs := hI.bs
 obtain ⟨g1,τ1,u,a1,a2,a3,a4,a5⟩ := zlz hd (by omega)
 have c1 : zi cfg (ze cfg) 34 [.ref did 0 0] σ = some (.tuple [.int .i64 p.d.seen.base,u],τ1) := by rw [zk rfl (by kernel_rfl)]; exact a1
 have r1 := r.out a5 p.d
 have w1 : IntKind.wrap .i64 (p.d.seen.base + ((p.d.seen.st.length : Nat) : Int)) = p.d.fin := q9 (by omega) (by omega)
 have s1 := zbi (σ := τ1) (off := 0 + 4) (v := .int .i64 p.d.fin) oInt r1.po (by show 4 < 5; decide) rfl rfl
 simp only [h1,za,zc,if_true,r.ldD,c1,uo,un,zb,a2.len TB,w1,s1] at ev
 have r2 := r1.setP (c' := p.c) (vs' := vs) (sy' := p.d.fin) r.sp
 exact ⟨g1,_,zf (hT _) ev,a4.mod (Mod.put (ids := [pid]) (.head _)) fun j hj _ => by rw [ham.1 hj,r1.g9]; decide,r2,a5.toP.trans (OutP.put (by rw [r1.g9]; decide))⟩
def Po.syn (p : Po) (x : Sh) : Po := if x.place > p.sy then { p with d := p.d.sync,sy := p.d.sync.fin } else p
def Po.wr (p : Po) (i : Nat) (k : Int) (x : Sh) : Po := { p.syn x with d := wrF k.toNat x.b 4 0 (p.syn x).d,m := p.m.set i (k,{ x with dirty := false }) }
theorem zxw {P : Nat} {T : Int} {c2 : Cfg} (hm : c2.mode 29 = .live) (hP : c2.P = Try.prog) {d : Dv} (h : DevS g σ did d) (hI : Inv P T d) (h1 : d.ws.length ≤ 1000000) (h2 : d.ts.length ≤ 1000000) : ∃ g' τ,zi c2 (ze cfg) 29 [.ref did 0 0] σ = some (.tuple [],τ) ∧ DevS g' τ did d.sync ∧ Out g σ g' τ := by
 obtain ⟨g',τ,a1,a2,a3⟩ := zv9 h hI.hP.2 hI.kl hI.ws hI.ts h1 h2
 exact ⟨g',τ,by rw [zk hm (by rw [hP]; kernel_rfl)]; exact a1,a2,a3⟩
theorem zxe {m : List (Int × Sh)} {ids : List Nat} {i : Nat} {k : Int} {x y : Sh} (h : m[i]? = some (k,x)) : kv (m.set i (k,y)) ids = kv m ids := by
 apply List.ext_getElem?
 intro j
 unfold kv
 rw [List.getElem?_zipWith,List.getElem?_zipWith,List.getElem?_set]
 by_cases e : i = j
 ·subst e
  have hl := (had.1 h).1
  rw [if_pos rfl,if_pos hl,h]
  cases ids[i]? <;> rfl
 ·rw [if_neg e]
theorem PoR.setSh (r : PoR g σ pid did mid p vs ids) {i : Nat} {k : Int} {x y : Sh} (hi : p.m[i]? = some (k,x)) {u : PV} (hu : IsS RB u y.b) : PoR g (σ.put (ids.getD i 0) (.cells 0 [[u,.bool y.dirty,.int .i64 y.place]])) pid did mid { p with m := p.m.set i (k,y) } vs ids := by
 have hl := (had.1 hi).1
 have h8 := (r.sh i hl).g8
 exact {
  g9 := r.g9
  gA := r.gA
  lp := r.lp
  lm := r.lm
  po := (yb fun e => by have h9 := r.g9; rw [e,h8] at h9; cases h9).trans r.po
  sp := r.sp
  mo := by
   show _ = some (Obj.map (kv (p.m.set i (k,y)) ids))
   rw [zxe hi]
   exact (yb fun e => by have h9 := r.gA; rw [e,h8] at h9; cases h9).trans r.mo
  il := by show _ = (p.m.set i (k,y)).length; rw [List.length_set]; exact r.il
  nd := r.nd
  sh := fun j hj => by
   have hj' : j < p.m.length := by
    have : j < (p.m.set i (k,y)).length := hj
    rwa [List.length_set] at this
   obtain ⟨s1,s2,v,s3,s4⟩ := r.sh j hj'
   show ShS g _ (ids.getD j 0) ((p.m.set i (k,y))[j]'(by rw [List.length_set]; exact hj')).2
   rw [List.getElem_set]
   by_cases e : i = j
   ·subst e
    rw [if_pos rfl]
    exact ⟨s1,s2,u,xa _ _ _,hu⟩
   ·rw [if_neg e]
    refine ⟨s1,s2,v,(yb fun q => e ?_).trans s3,s4⟩
    have hil := r.il
    have e1 : ids[j]? = ids[i]? := by
     have a1 : ids.getD j 0 = ids[j]'(by omega) := by rw [hai,haf (show j < ids.length by omega)]; rfl
     have a2 : ids.getD i 0 = ids[i]'(by omega) := by rw [hai,haf (show i < ids.length by omega)]; rfl
     rw [a1,a2] at q
     rw [haf (show j < ids.length by omega),haf (show i < ids.length by omega),q]
    exact ((List.getElem?_inj (by omega) r.nd).1 e1).symm }
theorem zyh (hd : DevS g σ did p.d) (r : PoR g σ pid did mid p vs ids) {P : Nat} {T : Int} (hI : Inv P T p.d) (hT' : T ≤ 900000000) (hw : p.d.ws.length + 4 ≤ 1000000) (ht : p.d.ts.length ≤ 1000000) {i : Nat} {k : Int} {x : Sh} (hi : p.m[i]? = some (k,x)) (hk : 0 ≤ k ∧ k < P) (hb : x.b.length = 512) :
  ∃ g' τ,ze cfg 41 [.ref pid 0 0,.int .i64 k,.ref (ids.getD i 0) 0 0] σ = some (.tuple [],τ) ∧ DevS g' τ did (p.wr i k x).d ∧ PoR g' τ pid did mid (p.wr i k x) vs ids ∧ OutP g σ g' τ := by
 have hl := (had.1 hi).1
 have hix : (p.m[i]).2 = x := by rw [(had.1 hi).2]
 obtain ⟨g8,lt8,u,ob,hu⟩ := r.sh i hl
 rw [hix] at ob hu
 have ev := z0p (ze cfg) (y2 cfg) σ pid 0 0 k (ids.getD i 0) 0 0
 have lp : zd Try.prog σ 3 (.ref (ids.getD i 0) 0 (0 + 2)) = some (.int .i64 x.place) := qc oInt ob rfl
 simp only [lp,za,zb,r.ldS] at ev
 -- behind the stream
 have tail : ∀ (q : Po) (g1 : Nat → Nat) (τ1 : Store),DevS g1 τ1 did q.d → PoR g1 τ1 pid did mid q vs ids → OutP g σ g1 τ1 → q.m = p.m → q.c = p.c → Inv P T q.d → q.d.ws.length + 4 ≤ 1000000 →
   ∃ g' τ,((zd Try.prog τ1 23 (.ref pid 0 (0 + 0))).bind fun v12 => (zd Try.prog τ1 33 (.ref (ids.getD i 0) 0 (0 + 0))).bind fun v13 => (zi zf1 (ze cfg) 65 [v12,(.int .i64 k),v13] τ1).bind fun r14 => asInt .i64 r14.1 fun n15 => (zu Try.prog r14.2 4 (.ref (ids.getD i 0) 0 (0 + 1)) (.bool false)).bind fun s16 => some ((PV.tuple []),s16)) = some (.tuple [],τ) ∧
     DevS g' τ did (wrF k.toNat x.b 4 0 q.d) ∧ PoR g' τ pid did mid { q with d := wrF k.toNat x.b 4 0 q.d,m := p.m.set i (k,{ x with dirty := false }) } vs ids ∧ OutP g σ g' τ := by
  intro q g1 τ1 d1 r1 o1 hm hc hI1 hw1
  have hi1 : q.m[i]? = some (k,x) := by rw [hm]; exact hi
  have hl1 := (had.1 hi1).1
  have hix1 : (q.m[i]).2 = x := by rw [(had.1 hi1).2]
  obtain ⟨_,_,u1,ob1,hu1⟩ := r1.sh i hl1
  rw [hix1] at ob1 hu1
  have lb : zd Try.prog τ1 33 (.ref (ids.getD i 0) 0 (0 + 0)) = some u1 := qc otB ob1 rfl
  obtain ⟨g2,τ2,b1,b2,b3⟩ := zt7 hu1 d1 hI1.hP.2 hI1.pl hI1.arm hw1 k (by omega)
  rw [if_pos hk,if_pos hb] at b1
  rw [if_pos ⟨hk.1,hk.2,hb⟩] at b2
  have cw : zi zf1 (ze cfg) 65 [.ref did 0 0,.int .i64 k,u1] τ1 = some (.int .i64 0,τ2) := by rw [zk rfl (by kernel_rfl)]; exact b1
  have r2 := r1.out b3 (wrF k.toNat x.b 4 0 q.d)
  have ob2 := (b3.same (r1.sh i hl1).lt (by rw [(r1.sh i hl1).g8]; exact hah _)).trans ob1
  have st := zbi (σ := τ2) (off := 0 + 1) (v := .bool false) oBool ob2 (by show 1 < 3; decide) rfl rfl
  have g28 : g2 (ids.getD i 0) = 8 := (r2.sh i hl1).g8
  simp only [r1.ldD,za,lb,cw,zb,st]
  have r3 := r2.setSh (y := { x with dirty := false }) hi1 hu1
  refine ⟨g2,_,rfl,b2.mod (Mod.put (ids := [ids.getD i 0]) (.head _)) fun j hj _ => by rw [ham.1 hj,g28]; decide,?_,(o1.trans b3.toP).trans (OutP.put (by rw [g28]; decide))⟩
  rw [← hm]
  exact r3
 by_cases c : x.place > p.sy
 ·rw [if_pos (decide_eq_true c)] at ev
  obtain ⟨g1,τ1,a1,a2,a3⟩ := zxw (c2 := cfg) rfl rfl hd hI (by omega) ht
  have hI1 : Inv P T p.d.sync := hI.sync
  have r1 := r.out a3 p.d.sync
  obtain ⟨g2,τ2,b1,b2,b3,b4⟩ := zrw (p := { p with d := p.d.sync }) a2 r1 hI1 hT'
  have cs : zi cfg (ze cfg) 17 [.ref pid 0 0] τ1 = some (.tuple [],τ2) := by rw [zk rfl (by kernel_rfl)]; exact b1
  have hws : p.d.sync.ws.length + 4 ≤ 1000000 := by
   unfold Dv.sync
   split
   ·exact hw
   ·show 0 + 4 ≤ 1000000; decide
  obtain ⟨g',τ,e1,e2,e3,e4⟩ := tail { p with d := p.d.sync,sy := p.d.sync.fin } g2 τ2 b2 b3 (a3.toP.trans b4) rfl rfl hI1 hws
  simp only [r.ldD,za,a1,cs] at ev
  refine ⟨g',τ,zf (hT _) (ev.trans e1),?_,?_,e4⟩
  ·unfold Po.wr Po.syn; rw [if_pos c]; exact e2
  ·unfold Po.wr Po.syn; rw [if_pos c]; exact e3
 ·rw [if_neg (by simpa using c)] at ev
  obtain ⟨g',τ,e1,e2,e3,e4⟩ := tail p g σ hd r (OutP.refl _ _) rfl rfl hI hw
  refine ⟨g',τ,zf (hT _) (ev.trans e1),?_,?_,e4⟩
  ·unfold Po.wr Po.syn; rw [if_neg c]; exact e2
  ·unfold Po.wr Po.syn; rw [if_neg c]; exact e3
end
end Go.Pvm.S
