/- Part of the proof: the law of writing ahead. -/
import Derived.Test.YtceokplopachgaaPolU
set_option linter.unusedSimpArgs false
set_option linter.unusedVariables false
set_option maxRecDepth 100000
namespace Go.Pvm.S
open Go.Pvm Go.Proofs
theorem z4y (σ : Store) (c d : PV) (hc : ∃ x,c = .int .u8 x) (hd : ∃ x,d = .int .u8 x) : xt Try.prog σ 33 2 [(0,c),(1,d)] = some (.lsl σ.next 1 0 2 (some 2),σ.push (.cells 0 [[c],[d]])) := by
 obtain ⟨x,rfl⟩ := hc
 obtain ⟨y,rfl⟩ := hd
 kernel_rfl
theorem z4s (b c d e : PV) : zbb Try.prog 3 (.pref [b,c,d,e]) = some b := by kernel_rfl
section
variable {P n w t N : Nat} {T : Int} {did pid mid x i : Nat} {g g' : Nat → Nat} {σ τ s : Store} {p : Po} {u v a0 a1 a2 : PV} {b : By} {a : Ac} {l : List Ac} {d : Dv}
theorem z4i (h : AhD d N) : d.app [1] = { d with seen := d.seen.turn ⟨[1],false,0⟩,ts := d.ts ++ [⟨[1],false,0⟩] } := by
 unfold Dv.app
 have c := cnt { d with seen := d.seen.turn ⟨[1],false,0⟩ } h.go h.ar (([1] : By).length : Nat)
 show (if (({ d with seen := d.seen.turn ⟨[1],false,0⟩ } : Dv).counts (([1] : By).length : Nat)).1 > 0 then _ else _) = _
 rw [c]
 rfl
theorem St.app1 (h : St P n w t T did pid mid g σ p) (hA : AhD p.d N) (hT' : T ≤ 900000000) (hN : N ≤ 1000) (ht : t ≤ 300000) :
  ∃ g' τ,ze cfg 27 [.ref did 0 0,.lsl σ.next 1 0 1 (some 1)] (σ.push (.cells 0 [[.int .u8 1]])) = some (.int .i64 0,τ) ∧ St P n w (t + 1) (T + 1) did pid mid g' τ { p with d := p.d.app [1] } ∧ OutP g σ g' τ := by
 obtain ⟨vs,ids,r⟩ := h.r
 have iv := h.a.k.iv
 have l2 := h.l.t
 have hg : ∀ j,j < σ.next → tag g σ.next 7 j = g j := fun j hj => je hj
 have hd : DevS (tag g σ.next 7) (σ.push (.cells 0 [[.int .u8 1]])) did p.d := (h.d.retag hg).push _
 have r1 : PoR (tag g σ.next 7) (σ.push (.cells 0 [[.int .u8 1]])) pid did mid p vs ids := (PoR.retag r hg).push _
 have ax : AxS RB (σ.push (.cells 0 [[.int .u8 1]])) 1 (.lsl σ.next 1 0 1 (some 1)) [1] := AxS.fresh (R := RB) (l := [1]) (.cons rfl .nil) σ 1 (n := 1) rfl
 obtain ⟨g1,τ,c1,c2,c3⟩ := z32 hd ax.q (fun j hj => by rw [List.mem_singleton.1 hj]; exact ⟨0,_,zn _ _,rfl⟩) (fun j hj => by rw [List.mem_singleton.1 hj]; exact qj (Nat.le_refl _)) iv.hP iv.pl iv.st ⟨iv.bs.1,by have := iv.bs; omega⟩ iv.arm (by omega) (by decide)
 have hst := hA.st
 have hfit : ([1] : By).length + p.d.seen.st.length ≤ 65536 := by show 1 + _ ≤ _; omega
 rw [if_pos hfit] at c1 c2
 have e := z4i hA
 have iv' : Inv P (T + 1) (p.d.app [1]) := iv.app (by omega) hfit
 have hpg : ∀ k,za9 (p.d.app [1]) k = za9 p.d k := fun k => by rw [e]; rfl
 have hws : (p.d.app [1]).ws = p.d.ws := by rw [e]
 have hts : (p.d.app [1]).ts.length = p.d.ts.length + 1 := by rw [e]; show (p.d.ts ++ _).length = _; rw [List.length_append]; rfl
 refine ⟨g1,τ,c1,⟨c2,⟨vs,ids,r1.out c3 _⟩,⟨⟨iv',h.a.k.ck,h.a.k.nd,h.a.k.rg⟩,fun e he hd => by rw [hpg]; exact h.a.cl e he hd,h.a.kc⟩,⟨by show (p.d.app [1]).ws.length ≤ _; rw [hws]; exact h.l.w,by show (p.d.app [1]).ts.length ≤ _; rw [hts]; omega⟩⟩,?_⟩
 exact OutP.trans (g' := tag g σ.next 7) (τ := σ.push (.cells 0 [[.int .u8 1]])) ⟨Nat.le_succ _,hg,fun j hj _ => .inl (yj hj)⟩ c3.toP
theorem z3z (hx : BoxA g σ x a) : ∃ e,fz zp σ (.ref x 0 0) = .pref e ∧ (∃ f,zj Try.prog 36 (.pref e) 1 = some f ∧ zbb Try.prog 3 f = some (.int .i64 a.g)) ∧ ∃ o,ke [x] σ = some (σ.put x o) := by
 obtain ⟨u,v,h1,hu,hv⟩ := hx.ob
 have hpl := plA hu.plain hv.plain a.d a.g a.n
 have e1 : fz zp σ (.ref x 0 0) = .pref [.int .i64 a.d,.int .i64 a.g,u,.int .i64 a.n,v] := by
  have hm : [PV.int .i64 a.d,.int .i64 a.g,u,.int .i64 a.n,v].map (fz 7 σ) = [.int .i64 a.d,.int .i64 a.g,u,.int .i64 a.n,v] := vo hpl 6 σ
  show fz (7 + 1) σ (.ref x 0 0) = _
  unfold fz
  simp only [h1,List.getElem?_cons_zero,List.drop_zero]
  rw [hm]
 refine ⟨_,e1,⟨_,fa1 _ _ _ _ _,z4s _ _ _ _⟩,.cells 1 [[.int .i64 a.d,.int .i64 a.g,u,.int .i64 a.n,v]],?_⟩
 unfold ke
 rw [h1]
 have hl : ([[PV.int .i64 a.d,.int .i64 a.g,u,.int .i64 a.n,v]].all fun e => PV.lf.lfs e) = true := by
  simp only [List.all_cons,List.all_nil,Bool.and_true]
  exact zu1 hpl
 simp only [hl,if_true]
 unfold ke
 rfl
theorem z4m {n : Nat} (h : n < 256) : IntKind.wrap .u8 (n : Nat) = ((UInt8.ofNat n).toNat : Nat) := by
 rw [UInt8.toNat_ofNat',Nat.mod_eq_of_lt h]
 have : ∀ m : Fin 256,IntKind.wrap .u8 (m.val : Nat) = (m.val : Nat) := by decide
 exact this ⟨n,h⟩
theorem z4f (hl : IsS RA a1 l) (hn : n ≤ 64) : ∀ (k i w N : Nat) (g : Nat → Nat) (σ : Store) (p : Po),i + k = 60 → w ≤ 300 * i → N ≤ i → St 4 n w N (N : Nat) did pid mid g σ p → Ah p N →
  ∃ g' τ q w' N',y2 cfg 7 z3a (z21 a1 a2 (.ref did 0 0) (.ref pid 0 0) (N : Nat) (i : Nat)) σ = some (.exit 0,z3d a2 (.ref did 0 0),τ) ∧ w' ≤ 18000 ∧ N' ≤ 60 ∧ St 4 n w' N' (N' : Nat) did pid mid g' τ q ∧ Ah q N' := by
 intro k
 induction k with
 | zero =>
   intro i w N g σ p hi hw hN h hA
   have ev := z4j (ze cfg) (y2 cfg) σ a1 a2 (.ref did 0 0) (.ref pid 0 0) (N : Nat) (i : Nat)
   rw [hl.len TA,za,zb,show decide (((i : Nat) : Int) < 60) = false from decide_eq_false (by omega)] at ev
   by_cases c : decide (((i : Nat) : Int) < ((l.length : Nat) : Int)) = true
   ·rw [if_pos c,if_neg (by decide)] at ev; exact ⟨g,σ,p,w,N,yi ev,by omega,by omega,h,hA⟩
   ·rw [if_neg c] at ev; exact ⟨g,σ,p,w,N,yi ev,by omega,by omega,h,hA⟩
 | succ k ih =>
   intro i w N g σ p hi hw hN h hA
   have ev := z4j (ze cfg) (y2 cfg) σ a1 a2 (.ref did 0 0) (.ref pid 0 0) (N : Nat) (i : Nat)
   rw [hl.len TA,za,zb,show decide (((i : Nat) : Int) < 60) = true from decide_eq_true (by omega)] at ev
   by_cases c : decide (((i : Nat) : Int) < ((l.length : Nat) : Int)) = true
   case neg => rw [if_neg c] at ev; exact ⟨g,σ,p,w,N,yi ev,by omega,by omega,h,hA⟩
   have hil : i < l.length := by have := of_decide_eq_true c; omega
   have hw' := List.getElem?_eq_getElem hil
   generalize l[i] = a at hw'
   obtain ⟨e,k1,k2,k3,k4⟩ := z07 hl hw' g σ
   obtain ⟨s1,o1⟩ := h.box (.cells 0 [e]) 11
   generalize tag g σ.next 11 = g0 at k4 s1 o1
   generalize σ.push (.cells 0 [e]) = s0 at k3 k4 s1 o1
   rw [if_pos c,if_pos rfl,k1,za,k2,za,k3,za,k4.pg,za,zb] at ev
   have wi := y6 (show i < 4611686018427387904 by omega)
   have wn := y6 (show N < 4611686018427387904 by omega)
   -- what is left
   have fin : ∀ {w1 N1 : Nat} {g1 : Nat → Nat} {s : Store} {q : Po},w1 ≤ 300 * (i + 1) → N1 ≤ i + 1 → St 4 n w1 N1 (N1 : Nat) did pid mid g1 s q → Ah q N1 → ∃ g' τ q' w' N',y2 cfg 7 z3a (z21 a1 a2 (.ref did 0 0) (.ref pid 0 0) (N1 : Nat) ((i + 1 : Nat) : Int)) s = some (.exit 0,z3d a2 (.ref did 0 0),τ) ∧ w' ≤ 18000 ∧ N' ≤ 60 ∧ St 4 n w' N' (N' : Nat) did pid mid g' τ q' ∧ Ah q' N' := fun {w1 N1 g1 s q} h1 h2 h3 h4 => ih (i + 1) w1 N1 g1 s q (by omega) h1 h2 h3 h4
   by_cases c0 : decide (a.g < 0) = true
   ·rw [if_pos c0,wi] at ev
    obtain ⟨g',τ,q',w',N',f,f'⟩ := fin (by omega) (by omega) s1 hA
    exact ⟨g',τ,q',w',N',yi (ev.trans f),f'⟩
   rw [if_neg c0,za,zb] at ev
   by_cases c5 : decide (a.g > 3) = true
   ·rw [if_pos c5,wi] at ev
    obtain ⟨g',τ,q',w',N',f,f'⟩ := fin (by omega) (by omega) s1 hA
    exact ⟨g',τ,q',w',N',yi (ev.trans f),f'⟩
   have hk : 0 ≤ a.g ∧ a.g < (4 : Nat) := by rw [decide_eq_true_eq] at c0 c5; omega
   rw [if_neg c5,k4.d,za,zb] at ev
   -- an append,and a page put
   have b1 : xt Try.prog s0 33 1 [(0,.int .u8 1)] = some (.lsl s0.next 1 0 1 (some 1),s0.push (.cells 0 [[.int .u8 1]])) := zz0 s0 1
   obtain ⟨g1,τ1,p1,p2,p3⟩ := s1.app1 hA.d (by omega) (by omega) (by omega)
   have p1' : zi z2w (ze cfg) 27 [.ref did 0 0,.lsl s0.next 1 0 1 (some 1)] (s0.push (.cells 0 [[.int .u8 1]])) = some (.int .i64 0,τ1) := by rw [zk rfl (by kernel_rfl)]; exact p1
   have hA1 := hA.app
   have k5 := k4.out p3
   obtain ⟨eb,z1,⟨f,z2,z3⟩,o,z4⟩ := z3z k5
   have p4 := p2.put (i := σ.next) (.inr (by rw [k5.g11]; decide)) o
   generalize τ1.put σ.next o = τ2 at z4 p4
   have n0 : IntKind.wrap .i64 (Int.tdiv ((N + 1 : Nat) : Int) 256) = 0 := by
    have : Int.tdiv ((N + 1 : Nat) : Int) 256 = (((N + 1) / 256 : Nat) : Int) := rfl
    rw [this,Nat.div_eq_of_lt (by omega)]; rfl
   have n1 : IntKind.wrap .u8 ((N + 1 : Nat) : Int) = ((UInt8.ofNat (N + 1)).toNat : Nat) := z4m (by omega)
   have n2 : IntKind.wrap .u8 0 = (((0 : UInt8).toNat : Nat) : Int) := rfl
   have b2 := z4y τ2 (.int .u8 ((UInt8.ofNat (N + 1)).toNat : Nat)) (.int .u8 (((0 : UInt8).toNat : Nat) : Int)) ⟨_,rfl⟩ ⟨_,rfl⟩
   have hq2 : QS RB (τ2.push (.cells 0 [[.int .u8 ((UInt8.ofNat (N + 1)).toNat : Nat)],[.int .u8 (((0 : UInt8).toNat : Nat) : Int)]])) 1 (.lsl τ2.next 1 0 2 (some 2)) [UInt8.ofNat (N + 1),0] := (AxS.fresh (R := RB) (l := [UInt8.ofNat (N + 1),0]) (.cons rfl (.cons rfl .nil)) τ2 1 (n := 2) rfl).q
   have p5 := p4.push (.cells 0 [[.int .u8 ((UInt8.ofNat (N + 1)).toNat : Nat)],[.int .u8 (((0 : UInt8).toNat : Nat) : Int)]])
   generalize τ2.push (.cells 0 [[.int .u8 ((UInt8.ofNat (N + 1)).toNat : Nat)],[.int .u8 (((0 : UInt8).toNat : Nat) : Int)]]) = τ3 at b2 hq2 p5
   obtain ⟨τ4,cap,y1,y2,y3,y4⟩ := z4b hq2 (by show 0 < 2; decide) (by show 2 < _; decide)
   have y1' : zi z3x (ze cfg) 13 [.lsl τ2.next 1 0 2 (some 2)] τ3 = some (.lsl τ3.next 1 0 512 cap,τ4) := by rw [zk rfl (by kernel_rfl)]; exact y1
   have p6 := (p5.retag (g' := tag g1 τ3.next 7) fun j hj => je hj).mod y4
   obtain ⟨g6,τ6,q1,q2,_⟩ := p6.putL (id := τ3.next) (cap := cap) (b := pgB [UInt8.ofNat (N + 1),0]) (by omega) (by omega) (by omega) (by omega) hk y2 (qj (Nat.le_refl _)) y3 (jw _) ((N + 1 : Nat) : Int)
   have q1' : zi z3x (ze cfg) 12 [.ref pid 0 0,.int .i64 a.g,.lsl τ3.next 1 0 512 cap,.int .i64 ((N + 1 : Nat) : Int)] τ4 = some (.int .i64 0,τ6) := by rw [zk rfl (by kernel_rfl)]; exact q1
   have hA2 := hA1.putP p6.a (by omega) hk (b := pgB [UInt8.ofNat (N + 1),0]) (place := ((N + 1 : Nat) : Int)) (Int.le_refl _) (by
    rw [Int.toNat_natCast]
    refine Wd.page ?_
    rw [UInt8.toNat_ofNat']
    exact Nat.mod_le _ _)
   have hT1 : ((N : Nat) : Int) + 1 = ((N + 1 : Nat) : Int) := by omega
   rw [hT1] at q2
   by_cases c1 : (a.d == 1) = true
   ·rw [if_pos c1,b1,za,p1',za,zb,if_neg (by decide),z4,za,z1,z2,za,z3,za,zb,wn,n0,n1,n2,b2,za,y1',za,q1',za,zb,if_neg (by decide),wi] at ev
    obtain ⟨g',τ,q',w',N',f,f'⟩ := fin (w1 := w + 4) (by omega) (by omega) q2 hA2
    exact ⟨g',τ,q',w',N',yi (ev.trans f),f'⟩
   rw [if_neg c1] at ev
   by_cases c2 : (a.d == 2) = true
   ·rw [if_pos c2,b1,za,p1',za,zb,if_neg (by decide),z4,za,z1,z2,za,z3,za,zb,wn,n0,n1,n2,b2,za,y1',za,q1',za,zb,if_neg (by decide),wi] at ev
    obtain ⟨g',τ,q',w',N',f,f'⟩ := fin (w1 := w + 4) (by omega) (by omega) q2 hA2
    exact ⟨g',τ,q',w',N',yi (ev.trans f),f'⟩
   rw [if_neg c2] at ev
   by_cases c3 : (a.d == 3) = true
   ·obtain ⟨g1,τ1,q1,q2,q3,q4⟩ := s1.flush (by omega) hn (by omega) (by omega) (by omega)
    have q1' : zi z2w (ze cfg) 14 [.ref pid 0 0] s0 = some (.int .i64 (p.dirts.length : Nat),τ1) := by rw [zk rfl (by kernel_rfl)]; exact q1
    rw [if_pos c3,q1',za,zb,wi] at ev
    obtain ⟨g',τ,q',w',N',f,f'⟩ := fin (w1 := w + 256) (by omega) (by omega) q2 (hA.flush s1.a)
    exact ⟨g',τ,q',w',N',yi (ev.trans f),f'⟩
   rw [if_neg c3] at ev
   by_cases c4 : (a.d == 4) = true
   ·obtain ⟨g1,τ1,q1,q2,q3⟩ := s1.evict (by omega) (by omega) (by omega) a.g
    obtain ⟨r,q1'⟩ : ∃ r,zi z2w (ze cfg) 15 [.ref pid 0 0,.int .i64 a.g] s0 = some (.int .i64 r,τ1) := ⟨_,by rw [zk rfl (by kernel_rfl)]; exact q1⟩
    rw [if_pos c4,za,zb,q1',za,zb,wi] at ev
    obtain ⟨g',τ,q',w',N',f,f'⟩ := fin (w1 := w + 4) (by omega) (by omega) q2 (hA.evP s1.a _)
    exact ⟨g',τ,q',w',N',yi (ev.trans f),f'⟩
   rw [if_neg c4] at ev
   obtain ⟨g1,τ1,u,q1,q2,q3,_⟩ := s1.read (by omega) (by omega) (by omega) (by omega) a.g
   rw [if_pos hk] at q2
   obtain ⟨r,q1'⟩ : ∃ r,zi z2w (ze cfg) 16 [.ref pid 0 0,.int .i64 a.g] s0 = some (r,τ1) := ⟨_,by rw [zk rfl (by kernel_rfl)]; exact q1⟩
   rw [za,zb,q1',za,wi] at ev
   obtain ⟨g',τ,q',w',N',f,f'⟩ := fin (w1 := w + 4) (by omega) (by omega) q2 (hA.letP s1.a (by omega) hk)
   exact ⟨g',τ,q',w',N',yi (ev.trans f),f'⟩
theorem z4e {K : Nat} {i : Int} (hl : jd Try.prog .len [33] [a2] = some (.int .i64 (K : Nat))) (hK : K ≤ 1000) (hv : QS RB σ 1 v b) (hb : b.length = 512) (hW : Wd K b) : ∀ (k j : Nat),j + 2 * k = 512 → j % 2 = 0 →
  y2 cfg 7 z3u (z3o a1 a2 i v (j : Nat)) σ = some (.exit 5,z22 a1 a2 i,σ) := by
 intro k
 induction k with
 | zero =>
   intro j hj h2
   refine yi ((z35 _ _ _ _ _ _ _ _).trans ?_)
   rw [if_neg (by rw [decide_eq_true_eq]; omega)]
 | succ k ih =>
   intro j hj h2
   obtain ⟨r1,x1,x2⟩ := z0f hv (show j < b.length by omega)
   obtain ⟨r2,y1,y2⟩ := z0f hv (show j + 1 < b.length by omega)
   obtain ⟨w1,w2⟩ := hW j h2
   rw [w2] at y2
   have e1 := y6 (show j < 4611686018427387904 by omega)
   have hlt : (b.getD j 0).toNat < 256 := (b.getD j 0).toNat_lt
   have e2 : IntKind.wrap .i64 (IntKind.wrap .i64 (((b.getD j 0).toNat : Nat) : Int) + IntKind.wrap .i64 (256 * IntKind.wrap .i64 (((0 : UInt8).toNat : Nat) : Int))) = (((b.getD j 0).toNat : Nat) : Int) := by
    have e3 : IntKind.wrap .i64 (256 * IntKind.wrap .i64 (((0 : UInt8).toNat : Nat) : Int)) = 0 := rfl
    rw [e3,show IntKind.wrap .i64 (((b.getD j 0).toNat : Nat) : Int) = (((b.getD j 0).toNat : Nat) : Int) from q9 (by omega) (by omega),Int.add_zero]
    exact q9 (by omega) (by omega)
   have e4 : IntKind.wrap .i64 (((j : Nat) : Int) + 2) = ((j + 2 : Nat) : Int) := by
    rw [show ((j : Nat) : Int) + 2 = ((j + 2 : Nat) : Int) by omega]
    exact q9 (by omega) (by omega)
   refine yi ((z35 _ _ _ _ _ _ _ _).trans ?_)
   rw [if_pos (by rw [decide_eq_true_eq]; omega),x1,za,x2,za,zb,e1,y1,za,y2,za,zb,hl,za,zb,e2,if_neg (by rw [decide_eq_true_eq]; omega),e4]
   exact ih (j + 2) (by omega) (by omega)
theorem z4l {K : Nat} (hl : jd Try.prog .len [33] [a2] = some (.int .i64 (K : Nat))) (hK : K ≤ 1000) (hI : Inv 4 T d) (hW : Wd K d.seen.pg) : ∀ (k i : Nat) (g : Nat → Nat) (σ : Store),i + k = 4 → DevS g σ did d →
  ∃ τ,y2 cfg 7 z3i (z3g (.ref did 0 0) a2 (i : Nat)) σ = some (.exit 3,z3l,τ) := by
 intro k
 induction k with
 | zero =>
   intro i g σ hi h
   refine ⟨σ,yi ((z36 _ _ _ _ _ _).trans ?_)⟩
   rw [if_neg (by rw [decide_eq_true_eq]; omega)]
 | succ k ih =>
   intro i g σ hi h
   have ev := z36 (ze cfg) (y2 cfg) σ (.ref did 0 0) a2 (i : Nat)
   obtain ⟨g1,τ1,u,r1,r2,r3,r4,_⟩ := zwa h hI.hP.2 hI.pl (page := i) (by omega)
   have r1' : zi z2w (ze cfg) 35 [.ref did 0 0,.int .i64 (i : Nat)] σ = some (.tuple [u,.int .i64 0],τ1) := by rw [zk rfl (by kernel_rfl)]; exact r1
   have hlen : ((d.seen.pg.drop (i * 512)).take 512).length = 512 := by rw [List.length_take,List.length_drop,hI.pl]; omega
   have hw : Wd K ((d.seen.pg.drop (i * 512)).take 512) := (hW.drop _ (by omega)).take _ (by decide)
   have lw := z4e (a1 := .ref did 0 0) (i := (i : Nat)) hl hK r2 hlen hw 256 0 (by omega) (by omega)
   have hu := r2.len TB
   rw [hlen] at hu
   rw [zp3] at lw
   obtain ⟨τ,f⟩ := ih (i + 1) g1 τ1 (by omega) r4
   rw [if_pos (by rw [decide_eq_true_eq]; omega),r1',za,uo,za,un,za,zb,if_neg (by decide),hu,za,zb,if_neg (by decide),lw,za,ya] at ev
   simp only [out7_33_7,out7_33_15,out7_33_16,zb,if_true,y6 (show i < 4611686018427387904 by omega)] at ev
   exact ⟨τ,yi (ev.trans f)⟩
end
theorem z4g {n : Int} (h : 0 ≤ n ∧ n ≤ 255) : ∃ m : Int,IntKind.wrap .i64 (1 + IntKind.wrap .i64 (Int.tmod n 3)) = m ∧ 1 ≤ m ∧ m ≤ 3 := by
 obtain ⟨k,rfl⟩ : ∃ k : Nat,n = (k : Nat) := ⟨n.toNat,by omega⟩
 have hm : ((k : Nat) : Int).tmod 3 = ((k % 3 : Nat) : Int) := rfl
 refine ⟨((k % 3 : Nat) : Int) + 1,?_,by omega,by omega⟩
 rw [hm,show IntKind.wrap .i64 ((k % 3 : Nat) : Int) = ((k % 3 : Nat) : Int) from q9 (by omega) (by omega),q9 (by omega) (by omega)]
 omega
theorem spAhead {n : Int} (hn : 0 ≤ n ∧ n ≤ 255) {l : List Ac} {y z : PV} {pat : List Bool} (hy : VF (.psl false (l.map Ac.e)) y) (hl : l.length < 4611686018427387904) (hz : IsS RBo z pat) (hzl : pat.length < 4611686018427387904) : ∃ τ,ze cfg 7 [.int .u8 n,y,z] .empty = some (.bool true,τ) := by
 have ev := eq7 (ze cfg) (y2 cfg) .empty n y z
 obtain ⟨m,hm,m1,m2⟩ := z4g hn
 rw [hm] at ev
 obtain ⟨g1,τ1,did,pid,mid,τ0,a1,a2,a3,_⟩ := zwy (P := 4) (m := m) (by omega) (by omega) (fun _ => 7) .empty
 have c1 : zi z2w (ze cfg) 8 [.int .i64 4] .empty = some (.tuple [.ref did 0 0,.int .i64 0],τ0) := by rw [zk rfl (by kernel_rfl)]; exact a1
 have c2 : zi z2w (ze cfg) 9 [.ref did 0 0,.int .i64 m] τ0 = some (.tuple [.ref pid 0 0,.int .i64 0],τ1) := by rw [zk rfl (by kernel_rfl)]; exact a2
 obtain ⟨b,hL⟩ := zvj (c2 := z2w) rfl rfl hy hl τ1
 rw [c1,za,uo,za,un,za,zb,c2,za,uo,za,un,za,zb,if_neg (by decide),if_neg (by decide),(zp2 _ _ _).2,za,zc,if_neg (by decide),hL,za,zc] at ev
 cases b with
 | false =>
   rw [if_pos (show (!false) = true from rfl),if_pos (by decide),if_pos (by decide),(zp2 _ _ _).1,za,zc,if_pos rfl,zrc rfl rfl,za,zc] at ev
   exact ⟨_,zf (hT _) ev⟩
 | true =>
   rw [if_neg (show ¬ (!true) = true by decide),hz.len TBo,za,zb] at ev
   by_cases c6 : decide (((pat.length : Nat) : Int) > 60) = true
   ·rw [if_pos c6,if_pos (by decide),if_pos (by decide),(zp2 _ _ _).1,za,zc,if_pos rfl,zrc rfl rfl,za,zc] at ev
    exact ⟨_,zf (hT _) ev⟩
   obtain ⟨g2,τ2,q,w',N',e1,e2,e3,e4,e5⟩ := z4f (a2 := z) (VF.acts hy) (n := m.toNat) (by omega) 60 0 0 0 g1 τ1 _ (by omega) (by omega) (by omega) a3 (Ah.new (by omega) m)
   rw [zp3] at e1
   have iv := e4.a.k.iv
   have hl1 := e4.l.w
   have hl2 := e4.l.t
   obtain ⟨g3,τ3,r1,r2,r3⟩ := z4c e4.d (hz.q τ2 1) (fun j hj => by rw [hz.tops] at hj; cases hj) iv.hP iv.kl iv.ws iv.ts (by omega) (by omega) (n := 0) ⟨by decide,by decide⟩ (iv.crashFit 0)
   have iv2 := iv.crash pat 0
   have r1' : zi z2w (ze cfg) 33 [.ref did 0 0,z,.int .i64 0] τ2 = some (.tuple [],τ3) := by rw [zk rfl (by kernel_rfl)]; exact r1
   have hst := iv2.st
   obtain ⟨g4,τ4,u,s1,s2,_,s3,_⟩ := zlz r2 (by omega)
   have s1' : zi z2w (ze cfg) 34 [.ref did 0 0] τ3 = some (.tuple [.int .i64 (q.d.crash pat 0).seen.base,u],τ4) := by rw [zk rfl (by kernel_rfl)]; exact s1
   have hW := e5.d.crash iv pat
   have hKl : (q.d.crash pat 0).seen.st.length ≤ 1000 := by
    have hbs := iv2.bs
    omega
   obtain ⟨τ5,f⟩ := z4l (s2.len TB) hKl iv2 hW 4 0 g4 τ4 (by omega) s3
   rw [zp3] at f
   rw [if_neg c6,e1,za,ya,if_pos rfl] at ev
   simp only [out7_7_2,out7_7_7] at ev
   rw [r1',za,s1',za,uo,za,zb,un,za,f,za,ya,if_pos rfl,zrc rfl rfl,za,zc] at ev
   exact ⟨_,zf (hT _) ev⟩
end Go.Pvm.S
