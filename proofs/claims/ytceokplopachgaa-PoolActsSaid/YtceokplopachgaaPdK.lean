/- Part of the proof: what any acts leave in both pools, step by step. -/
import Derived.Test.YtceokplopachgaaPdH
import Derived.Test.YtceokplopachgaaPolQ
import Derived.KernelRfl
set_option linter.unusedSimpArgs false
set_option linter.unusedVariables false
set_option maxRecDepth 100000
namespace Go.Pvm.S
open Go.Pvm Go.Proofs
theorem ybh : SlT Try.prog 50 3 1 8 := ⟨by kernel_rfl,by kernel_rfl,by kernel_rfl,⟨.int .i64 0,by kernel_rfl,rfl,rfl⟩,by decide,by decide⟩
theorem yba (i : Nat) : zj Try.prog 66 (.ref i 0 0) 0 = some (.ref i 0 0) := by kernel_rfl
theorem ya6 : qk Try.prog 63 = some 9 := by kernel_rfl
set_option maxHeartbeats 4000000
noncomputable def tlA (C : z7) (L : xg) (a2 a9 a11 a13 : PV) (a14 : Int) (va vb : PV) (ss : Store) : Option (Ex × List PV × Store) :=
  (ul Try.prog ss 33 9 va).bind fun v24 => ua v24 fun z25 => (ul Try.prog ss 33 9 vb).bind fun v26 => ua v26 fun z27 => (j9 Try.prog .neq 9 (.str z25) (.str z27)).bind fun v28 => asBool v28 fun b29 => if b29 = true then (some (.ret,z40 false,ss)) else ((zd Try.prog ss 66 a13).bind fun v30 => (zi cfg C 32 [a11,a9,v30] ss).bind fun r31 => asBool r31.1 fun b32 => if (!b32) = true then (some (.ret,z40 false,r31.2)) else (L 6 z47 (z45 a2 a9 a11 a13 (IntKind.wrap .i64 (a14 + 1))) r31.2))
theorem ya8 (C : z7) (L : xg) (σ : Store) (a2 : PV) (a9 : PV) (a11 : PV) (a13 : PV) (a14 : Int) : za6 cfg C L 6 z47 (z45 a2 a9 a11 a13 a14) σ =
  (jd Try.prog .len [22] [a2]).bind fun v0 => asInt .i64 v0 fun n1 => if (decide (a14 < n1)) = true then (if (decide (a14 < 40)) = true then ((xt Try.prog σ 33 0 []).bind fun r2 => (xt Try.prog r2.2 33 0 []).bind fun r3 => (zh Try.prog 22 a2 (.int .i64 a14)).bind fun v4 => (zd Try.prog r3.2 36 v4).bind fun v5 => (zu Try.prog (Store.push r3.2 (.cells 0 [[(.int .i64 0),(.int .i64 0),.nilsl,(.int .i64 0),.nilsl]])) 36 (.ref (Store.next r3.2) 0 0) v5).bind fun s6 => (zd Try.prog s6 3 (.ref (Store.next r3.2) 0 (0 + 0))).bind fun v7 => asInt .i64 v7 fun n8 => if (n8 == 0) = true then ((zd Try.prog s6 3 (.ref (Store.next r3.2) 0 (0 + 1))).bind fun v9 => asInt .i64 v9 fun n10 => (zi cfg C 16 [a11,(.int .i64 n10)] s6).bind fun r11 => (ka r11.1 0).bind fun v12 => (ka r11.1 1).bind fun v13 => asInt .i64 v13 fun n14 => (zd Try.prog r11.2 66 a13).bind fun v15 => (zd Try.prog r11.2 3 (.ref (Store.next r3.2) 0 (0 + 1))).bind fun v16 => asInt .i64 v16 fun n17 => (zi cfg C 22 [v15,(.int .i64 n17)] r11.2).bind fun r18 => (ka r18.1 0).bind fun v19 => (ka r18.1 1).bind fun v20 => (ka r18.1 2).bind fun v21 => asInt .i64 v21 fun n22 => (zu Try.prog r18.2 66 a13 v19).bind fun s23 => if (n14 != n22) = true then (some (.ret,z40 false,s23)) else (tlA C L a2 a9 a11 a13 a14 v12 v20 s23)) else (if (n8 == 1) = true then ((zd Try.prog s6 3 (.ref (Store.next r3.2) 0 (0 + 1))).bind fun v33 => asInt .i64 v33 fun n34 => (zd Try.prog s6 33 (.ref (Store.next r3.2) 0 (0 + 2))).bind fun v35 => (zi zf1 C 13 [v35] s6).bind fun r36 => (zd Try.prog r36.2 3 (.ref (Store.next r3.2) 0 (0 + 3))).bind fun v37 => asInt .i64 v37 fun n38 => (zi zf1 C 12 [a11,(.int .i64 n34),r36.1,(.int .i64 n38)] r36.2).bind fun r39 => asInt .i64 r39.1 fun n40 => (zd Try.prog r39.2 66 a13).bind fun v41 => (zd Try.prog r39.2 3 (.ref (Store.next r3.2) 0 (0 + 1))).bind fun v42 => asInt .i64 v42 fun n43 => (zd Try.prog r39.2 33 (.ref (Store.next r3.2) 0 (0 + 2))).bind fun v44 => (zi zf1 C 13 [v44] r39.2).bind fun r45 => (zd Try.prog r45.2 3 (.ref (Store.next r3.2) 0 (0 + 3))).bind fun v46 => asInt .i64 v46 fun n47 => (zi zf1 C 23 [v41,(.int .i64 n43),r45.1,(.int .i64 n47)] r45.2).bind fun r48 => (ka r48.1 0).bind fun v49 => (ka r48.1 1).bind fun v50 => asInt .i64 v50 fun n51 => (zu Try.prog r48.2 66 a13 v49).bind fun s52 => if (n40 != n51) = true then (some (.ret,z40 false,s52)) else (tlA C L a2 a9 a11 a13 a14 r2.1 r3.1 s52)) else (if (n8 == 2) = true then ((zd Try.prog s6 3 (.ref (Store.next r3.2) 0 (0 + 1))).bind fun v62 => asInt .i64 v62 fun n63 => (zd Try.prog s6 33 (.ref (Store.next r3.2) 0 (0 + 2))).bind fun v64 => (zd Try.prog s6 3 (.ref (Store.next r3.2) 0 (0 + 3))).bind fun v65 => asInt .i64 v65 fun n66 => (zi cfg C 12 [a11,(.int .i64 n63),v64,(.int .i64 n66)] s6).bind fun r67 => asInt .i64 r67.1 fun n68 => (zd Try.prog r67.2 66 a13).bind fun v69 => (zd Try.prog r67.2 3 (.ref (Store.next r3.2) 0 (0 + 1))).bind fun v70 => asInt .i64 v70 fun n71 => (zd Try.prog r67.2 33 (.ref (Store.next r3.2) 0 (0 + 2))).bind fun v72 => (zd Try.prog r67.2 3 (.ref (Store.next r3.2) 0 (0 + 3))).bind fun v73 => asInt .i64 v73 fun n74 => (zi cfg C 23 [v69,(.int .i64 n71),v72,(.int .i64 n74)] r67.2).bind fun r75 => (ka r75.1 0).bind fun v76 => (ka r75.1 1).bind fun v77 => asInt .i64 v77 fun n78 => (zu Try.prog r75.2 66 a13 v76).bind fun s79 => if (n68 != n78) = true then (some (.ret,z40 false,s79)) else (tlA C L a2 a9 a11 a13 a14 r2.1 r3.1 s79)) else (if (n8 == 3) = true then ((zd Try.prog s6 66 a13).bind fun v89 => (zi cfg C 24 [v89] s6).bind fun r90 => (ka r90.1 0).bind fun v91 => (ka r90.1 1).bind fun v92 => (zi cfg C 14 [a11] r90.2).bind fun r93 => asInt .i64 r93.1 fun n94 => (jd Try.prog .len [50] [v92]).bind fun v95 => asInt .i64 v95 fun n96 => if (n94 != n96) = true then (some (.ret,z40 false,r93.2)) else ((zd Try.prog r93.2 66 a13).bind fun v97 => (zi cfg C 25 [v97] r93.2).bind fun r98 => (zu Try.prog r98.2 66 a13 r98.1).bind fun s99 => if (0 != 0) = true then (some (.ret,z40 false,s99)) else (tlA C L a2 a9 a11 a13 a14 r2.1 r3.1 s99))) else (if (n8 == 4) = true then ((zd Try.prog s6 3 (.ref (Store.next r3.2) 0 (0 + 1))).bind fun v109 => asInt .i64 v109 fun n110 => (zi cfg C 15 [a11,(.int .i64 n110)] s6).bind fun r111 => asInt .i64 r111.1 fun n112 => (zd Try.prog r111.2 66 a13).bind fun v113 => (zd Try.prog r111.2 3 (.ref (Store.next r3.2) 0 (0 + 1))).bind fun v114 => asInt .i64 v114 fun n115 => (zi cfg C 26 [v113,(.int .i64 n115)] r111.2).bind fun r116 => (ka r116.1 0).bind fun v117 => (ka r116.1 1).bind fun v118 => asInt .i64 v118 fun n119 => (zu Try.prog r116.2 66 a13 v117).bind fun s120 => if (n112 != n119) = true then (some (.ret,z40 false,s120)) else (tlA C L a2 a9 a11 a13 a14 r2.1 r3.1 s120)) else (if (n8 == 5) = true then ((zd Try.prog s6 33 (.ref (Store.next r3.2) 0 (0 + 2))).bind fun v130 => (zi cfg C 27 [a9,v130] s6).bind fun r131 => asInt .i64 r131.1 fun n132 => (zj Try.prog 66 a13 0).bind fun v133 => (zd Try.prog r131.2 63 v133).bind fun v134 => (zd Try.prog r131.2 33 (.ref (Store.next r3.2) 0 (0 + 2))).bind fun v135 => (zi cfg C 28 [v134,v135] r131.2).bind fun r136 => (ka r136.1 0).bind fun v137 => (ka r136.1 1).bind fun v138 => asInt .i64 v138 fun n139 => (zj Try.prog 66 a13 0).bind fun v140 => (zu Try.prog r136.2 63 v140 v137).bind fun s141 => if (n132 != n139) = true then (some (.ret,z40 false,s141)) else (tlA C L a2 a9 a11 a13 a14 r2.1 r3.1 s141)) else ((zi cfg C 29 [a9] s6).bind fun r151 => (zi cfg C 17 [a11] r151.2).bind fun r152 => (zj Try.prog 66 a13 0).bind fun v153 => (zd Try.prog r152.2 63 v153).bind fun v154 => (zi cfg C 30 [v154] r152.2).bind fun r155 => (zj Try.prog 66 a13 0).bind fun v156 => (zu Try.prog r155.2 63 v156 r155.1).bind fun s157 => (zd Try.prog s157 66 a13).bind fun v158 => (zi cfg C 31 [v158] s157).bind fun r159 => (zu Try.prog r159.2 66 a13 r159.1).bind fun s160 => if (0 != 0) = true then (some (.ret,z40 false,s160)) else (tlA C L a2 a9 a11 a13 a14 r2.1 r3.1 s160)))))))) else (some (.exit 0,z5b ,σ))) else (some (.exit 0,z5b ,σ))  := by kernel_rfl
structure LA (P n w0 t N : Nat) (T : Int) (did pid mid wcq : Nat) (g : Nat → Nat) (σ : Store) (p : Po) (w : Rp) (cs : List PV) : Prop where
 st : St P n w0 t T did pid mid g σ p
 rel : Rel p w
 rc : RCp w cs
 lt : wcq < σ.next
 g11 : g wcq = 11
 ob : σ.objs wcq = some (.cells 0 [cs])
 dn : w.d.done.length ≤ N
section
variable {P n w0 t N : Nat} {T : Int} {did pid mid wcq x i : Nat} {g g' : Nat → Nat} {σ τ s : Store} {p q : Po} {w v : Rp} {cs cs' : List PV} {a2 va vb : PV} {b : By} {a : Ac} {l : List Ac}
theorem LA.step {w1 t1 N1 : Nat} {T1 : Int} (h : LA P n w0 t N T did pid mid wcq g σ p w cs) (hs : St P n w1 t1 T1 did pid mid g' τ q) (k : OutP g σ g' τ) (hr : Rel q v) (hc : RCp v cs') (hd : v.d.done.length ≤ N1) : zu Try.prog τ 66 (.ref wcq 0 0) (.agg cs') = some (τ.put wcq (.cells 0 [cs'])) ∧ LA P n w1 t1 N1 T1 did pid mid wcq g' (τ.put wcq (.cells 0 [cs'])) q v cs' := by
 have ho := (k.same h.lt (by rw [h.g11]; decide)).trans h.ob
 have hg : g' wcq = 11 := by rw [k.2.1 _ h.lt]; exact h.g11
 exact ⟨z9n z99 ho h.rc.ln hc.ln (ww hc.pl),⟨hs.put (.inr (by rw [hg]; decide)) _,hr,hc,hao h.lt k.1,hg,xa _ _ _,hd⟩⟩
theorem LA.ld (h : LA P n w0 t N T did pid mid wcq g σ p w cs) (k : OutP g σ g' τ) : zd Try.prog τ 66 (.ref wcq 0 0) = some (.agg cs) := zyv z9i ((k.same h.lt (by rw [h.g11]; decide)).trans h.ob) h.rc.ln
structure Emp (g : Nat → Nat) (σ : Store) (id : Nat) : Prop where
 g11 : g id = 11
 lt : id < σ.next
 ob : σ.objs id = some (.cells 0 [])
theorem Emp.qs (h : Emp g σ x) : QS RB σ 1 (.lsl x 1 0 0 (some 0)) [] := ⟨[],.inr ⟨x,0,some 0,0,[],rfl,h.ob,hah _,rfl,h.lt⟩,.nil⟩
theorem Emp.out (h : Emp g σ x) (k : OutP g σ g' τ) : Emp g' τ x := ⟨by rw [k.2.1 _ h.lt]; exact h.g11,hao h.lt k.1,(k.same h.lt (by rw [h.g11]; decide)).trans h.ob⟩
theorem Emp.put (h : Emp g σ x) {j : Nat} (hj : x ≠ j) (o : Obj) : Emp g (σ.put j o) x := ⟨h.g11,h.lt,(yb hj).trans h.ob⟩
theorem ybb (h : LA P n w0 t N T did pid mid wcq g s p w cs) (hP : P ≤ 64) (hT' : T ≤ 900000000) (hN : N ≤ 1000000) (hw : w0 ≤ 300000) (ht : t ≤ 300000) (hi : i < 40) (ha : QS RB s 1 va b) (hb : QS RB s 1 vb b) :
  ∃ g' τ,tlA (ze cfg) (y2 cfg) a2 (.ref did 0 0) (.ref pid 0 0) (.ref wcq 0 0) (i : Nat) va vb s = y2 cfg 6 z47 (z45 a2 (.ref did 0 0) (.ref pid 0 0) (.ref wcq 0 0) ((i + 1 : Nat) : Int)) τ ∧ LA P n w0 t N T did pid mid wcq g' τ p w cs := by
 have s1 := ha.str z9j TB uB
 have s2 := hb.str z9j TB uB
 have ne := zyf (P := Try.prog) (l := b) (l' := b) 9
 rw [hb3] at ne
 have ld := h.ld (OutP.refl g s)
 obtain ⟨g',τ,l1,l2,l3⟩ := z9t h.st h.rel h.rc hP hT' (haz h.dn hN) hw ht
 refine ⟨g',τ,?_,l2,h.rel,h.rc,hao h.lt l3.1,by rw [l3.2.1 _ h.lt]; exact h.g11,(l3.same h.lt (by rw [h.g11]; decide)).trans h.ob,h.dn⟩
 unfold tlA
 rw [s1,za,ye,s2,za,ye,ne,za,zc,if_neg (by decide),ld,za,l1,za,zc,if_neg (by decide),y6 (show i < 4611686018427387904 by omega)]
theorem z94 (d : Dv) (b : By) : (d.app b).seen.pg = d.seen.pg ∧ (d.app b).ws = d.ws ∧ (d.app b).ts.length ≤ d.ts.length + 1 := by
 obtain ⟨c1,c2,c3,c4⟩ := zfe { d with seen := d.seen.turn ⟨b,false,0⟩ } (b.length : Nat)
 unfold Dv.app
 have e : (d.seen.turn ⟨b,false,0⟩).pg = d.seen.pg := rfl
 generalize (({ d with seen := d.seen.turn ⟨b,false,0⟩ } : Dv).counts (b.length : Nat)) = r at c1 c2 c3 c4 ⊢
 simp only
 split
 ·exact ⟨by show r.2.seen.pg = _; rw [c1]; exact e,c3,by show (d.ts ++ _).length ≤ _; rw [hak]; exact hah _⟩
 ·exact ⟨by rw [c1]; exact e,c3,by rw [c4]; exact hbd _⟩
theorem St.app (h : St P n w0 t T did pid mid g σ p) (hT' : T ≤ 900000000) (ht : t ≤ 300000) {u : PV} (hu : IsS RB u b) (hbl : b.length < 4611686018427387904) :
  ∃ g' τ,ze cfg 27 [.ref did 0 0,u] σ = some (.int .i64 (if b.length + p.d.seen.st.length ≤ 65536 then 0 else 10),τ) ∧ St P n w0 (t + 1) (T + 65536) did pid mid g' τ { p with d := if b.length + p.d.seen.st.length ≤ 65536 then p.d.app b else p.d } ∧ OutP g σ g' τ := by
 obtain ⟨vs,ids,r⟩ := h.r
 have iv := h.a.k.iv
 have l2 := h.l.t
 obtain ⟨g1,τ,c1,c2,c3⟩ := z32 h.d (hu.q σ 1) (fun j hj => by rw [hu.tops] at hj; cases hj) (fun j hj => by rw [hu.tops] at hj; cases hj) iv.hP iv.pl iv.st ⟨iv.bs.1,by have := iv.bs; omega⟩ iv.arm (by omega) hbl
 refine ⟨g1,τ,c1,?_,c3.toP⟩
 by_cases c : b.length + p.d.seen.st.length ≤ 65536
 ·simp only [if_pos c] at c2 ⊢
  obtain ⟨e1,e2,e3⟩ := z94 p.d b
  have iv' : Inv P (T + 65536) (p.d.app b) := (iv.app (by omega) c).mono (by omega)
  exact ⟨c2,⟨vs,ids,r.out c3 _⟩,⟨⟨iv',h.a.k.ck,h.a.k.nd,h.a.k.rg⟩,fun e he hd => by
   have := h.a.cl e he hd
   show _ = ((p.d.app b).seen.pg.drop (e.1.toNat * 512)).take 512
   rw [e1]; exact this,h.a.kc⟩,⟨by show (p.d.app b).ws.length ≤ _; rw [e2]; exact h.l.w,by show (p.d.app b).ts.length ≤ _; omega⟩⟩
 ·simp only [if_neg c] at c2 ⊢
  exact ⟨c2,⟨vs,ids,r.out c3 _⟩,⟨⟨iv.mono (by omega),h.a.k.ck,h.a.k.nd,h.a.k.rg⟩,h.a.cl,h.a.kc⟩,⟨h.l.w,by show p.d.ts.length ≤ _; omega⟩⟩
theorem St.sync (h : St P n w0 t T did pid mid g σ p) (hT' : T ≤ 900000000) (hw : w0 ≤ 300000) (ht : t ≤ 300000) :
  ∃ g1 τ1 g2 τ2,ze cfg 29 [.ref did 0 0] σ = some (.tuple [],τ1) ∧ ze cfg 17 [.ref pid 0 0] τ1 = some (.tuple [],τ2) ∧ St P n w0 t T did pid mid g2 τ2 { p with d := p.d.sync,sy := p.d.sync.fin } ∧ OutP g σ g1 τ1 ∧ OutP g1 τ1 g2 τ2 := by
 obtain ⟨vs,ids,r⟩ := h.r
 have iv := h.a.k.iv
 have l1 := h.l.w
 have l2 := h.l.t
 obtain ⟨g1,τ1,c1,c2,c3⟩ := zv9 h.d iv.hP.2 iv.kl iv.ws iv.ts (by omega) (by omega)
 have r1 := r.out c3 p.d.sync
 obtain ⟨g2,τ2,d1,d2,d3,d4⟩ := zrw (p := { p with d := p.d.sync }) c2 r1 iv.sync hT'
 obtain ⟨q1,q2⟩ := zlt p.d
 exact ⟨g1,τ1,g2,τ2,c1,d1,⟨d2,⟨vs,ids,d3⟩,⟨⟨iv.sync,h.a.k.ck,h.a.k.nd,h.a.k.rg⟩,fun e he hd => by
  show _ = za9 p.d.sync e.1
  rw [z7p]; exact h.a.cl e he hd,h.a.kc⟩,⟨haz q1 l1,haz q2 l2⟩⟩,c3.toP,d4⟩
theorem z9y (hP : 1 ≤ P ∧ P ≤ 5) (hn : n ≤ 64) (hl : IsS RA a2 l) (hb : ∀ a ∈ l,a.b.length < 4611686018427387904) : ∀ (k i w0 t N : Nat) (T : Int) (g : Nat → Nat) (σ : Store) (p : Po) (w : Rp) (cs : List PV),i + k = 40 → w0 ≤ 300 * i → t ≤ i → N ≤ 300 * i → T ≤ 65536 * (i : Nat) → LA P n w0 t N T did pid mid wcq g σ p w cs →
  ∃ τ,y2 cfg 6 z47 (z45 a2 (.ref did 0 0) (.ref pid 0 0) (.ref wcq 0 0) (i : Nat)) σ = some (.exit 0,z5b,τ) := by
 intro k
 induction k with
 | zero =>
   intro i w0 t N T g σ p w cs hi hw ht hN hT h
   have ev := ya8 (ze cfg) (y2 cfg) σ a2 (.ref did 0 0) (.ref pid 0 0) (.ref wcq 0 0) (i : Nat)
   rw [hl.len TA,za,zb,show decide (((i : Nat) : Int) < 40) = false from decide_eq_false (by omega)] at ev
   by_cases c : decide (((i : Nat) : Int) < ((l.length : Nat) : Int)) = true
   ·rw [if_pos c,if_neg (by decide)] at ev; exact ⟨σ,yi ev⟩
   ·rw [if_neg c] at ev; exact ⟨σ,yi ev⟩
 | succ k ih =>
   intro i w0 t N T g σ p w cs hi hw ht hN hT h
   have ev := ya8 (ze cfg) (y2 cfg) σ a2 (.ref did 0 0) (.ref pid 0 0) (.ref wcq 0 0) (i : Nat)
   rw [hl.len TA,za,zb,show decide (((i : Nat) : Int) < 40) = true from decide_eq_true (by omega)] at ev
   by_cases c : decide (((i : Nat) : Int) < ((l.length : Nat) : Int)) = true
   case neg => rw [if_neg c] at ev; exact ⟨σ,yi ev⟩
   have hil : i < l.length := by have := of_decide_eq_true c; omega
   have hw' := haf hil
   have hba := hb _ (List.getElem_mem hil)
   generalize l[i] = a at hw' hba
   -- two slices of nothing,the act's box
   have z1 := z06 σ
   obtain ⟨s1,o1⟩ := h.st.box (.cells 0 []) 11
   have m1 : Emp (tag g σ.next 11) (σ.push (.cells 0 [])) σ.next := ⟨qj (hah _),haw _,zn _ _⟩
   generalize σ.push (.cells 0 []) = σ1 at z1 s1 o1 m1
   generalize tag g σ.next 11 = g1 at s1 o1 m1
   have z2 := z06 σ1
   obtain ⟨s2,o2⟩ := s1.box (.cells 0 []) 11
   have m2 : Emp (tag g1 σ1.next 11) (σ1.push (.cells 0 [])) σ1.next := ⟨qj (hah _),haw _,zn _ _⟩
   have m1 := m1.out o2
   generalize σ1.push (.cells 0 []) = σ2 at z2 s2 o2 m1 m2
   generalize tag g1 σ1.next 11 = g2 at s2 o2 m1 m2
   obtain ⟨e,k1,k2,k3,k4⟩ := z07 hl hw' g2 σ2
   obtain ⟨s3,o3⟩ := s2.box (.cells 0 [e]) 11
   have m1 := m1.out o3
   have m2 := m2.out o3
   generalize σ2.push (.cells 0 [e]) = s0 at k3 k4 s3 o3 m1 m2
   generalize tag g2 σ2.next 11 = g0 at k4 s3 o3 m1 m2
   have hx : σ2.next ≠ wcq := by have := h.lt; have := o1.1; have := o2.1; omega
   have h1x : σ.next ≠ wcq := by have := h.lt; omega
   have h2x : σ1.next ≠ wcq := by have := h.lt; have := o1.1; omega
   have o123 := (o1.trans o2).trans o3
   have hL : LA P n w0 t N T did pid mid wcq g0 s0 p w cs := ⟨s3,h.rel,h.rc,hao h.lt o123.1,by rw [o123.2.1 _ h.lt]; exact h.g11,(o123.same h.lt (by rw [h.g11]; decide)).trans h.ob,h.dn⟩
   rw [if_pos c,if_pos rfl,z1,za,z2,za,k1,za,k2,za,k3,za,k4.d,za,zb] at ev
   have hTn : T ≤ 900000000 := by omega
   have fin : ∀ {w1 t1 N1 : Nat} {T1 : Int} {g1 : Nat → Nat} {s : Store} {q : Po} {v : Rp} {cs1 : List PV} {va vb : PV} {b : By},w1 ≤ 300 * (i + 1) → t1 ≤ i + 1 → N1 ≤ 300 * (i + 1) → T1 ≤ 65536 * ((i + 1 : Nat) : Int) → LA P n w1 t1 N1 T1 did pid mid wcq g1 s q v cs1 → QS RB s 1 va b → QS RB s 1 vb b → ∃ τ,tlA (ze cfg) (y2 cfg) a2 (.ref did 0 0) (.ref pid 0 0) (.ref wcq 0 0) (i : Nat) va vb s = some (.exit 0,z5b,τ) := fun {w1 t1 N1 T1 g1 s q v cs1 va vb b} h1 h2 h3 h4 h5 h6 h7 => by
    obtain ⟨g3,τ3,f1,f2⟩ := ybb (a2 := a2) h5 (by omega) (by omega) (by omega) (by omega) (by omega) (show i < 40 by omega) h6 h7
    obtain ⟨τ,f3⟩ := ih (i + 1) w1 t1 N1 T1 g3 τ3 q v cs1 (by omega) h1 h2 h3 h4 f2
    exact ⟨τ,f1.trans f3⟩
   have hwok := h.rel.wok h.st.a (by omega) hTn h.dn (by omega)
   have hsh := h.rel.short h.st.a
   have hA := h.st.a
   have hLet : 0 ≤ a.g ∧ a.g < (P : Nat) → (w.letP a.g).l.length ≤ 1000 ∧ ∃ j,wc (w.letP a.g).l a.g = some j ∧ (w.letP a.g).val a.g = p.val a.g := fun c => by
    obtain ⟨q1,q2,y,q3⟩ := hA.letP (by omega) c
    have r1 := h.rel.letP hA.k.iv hA.k.nd a.g
    obtain ⟨j,j1,j2⟩ := r1.val q1.k.nd q3
    exact ⟨by have := r1.short q1; omega,j,j1,j2.trans (q2 _ c.1 c.2)⟩
   by_cases c0 : (a.d == 0) = true
   ·obtain ⟨g3,τ3,u,q1,q2,q3,q4,q5,q6⟩ := s3.read (by omega) hTn (by omega) (by omega) a.g
    have q1' : zi cfg (ze cfg) 16 [.ref pid 0 0,.int .i64 a.g] s0 = some (.tuple [u,.int .i64 (if 0 ≤ a.g ∧ a.g < (P : Nat) then 0 else 3)],τ3) := by rw [zk rfl (by kernel_rfl)]; exact q1
    have k5 := k4.out q3
    obtain ⟨cs1,v1,r1,r2,r3⟩ := z9e h.rc hwok (by omega) a.g (fun c => ⟨(hLet c).1,(hLet c).2.elim fun j hj => ⟨j,hj.1⟩⟩) τ3
    have hrel : Rel (if 0 ≤ a.g ∧ a.g < (P : Nat) then p.letP a.g else p) (if 0 ≤ a.g ∧ a.g < (P : Nat) then w.letP a.g else w) := by
     by_cases c : 0 ≤ a.g ∧ a.g < (P : Nat)
     ·rw [if_pos c,if_pos c]; exact h.rel.letP hA.k.iv hA.k.nd a.g
     ·rw [if_neg c,if_neg c]; exact h.rel
    have hdn : (if 0 ≤ a.g ∧ a.g < (P : Nat) then w.letP a.g else w).d.done.length ≤ N + 4 := by
     have := z6o w a.g
     have := h.dn
     split <;> omega
    obtain ⟨y1,y2⟩ := hL.step q2 q3 hrel r2 hdn
    have hval : (if 0 ≤ a.g ∧ a.g < (P : Nat) then (w.letP a.g).val a.g else []) = (if 0 ≤ a.g ∧ a.g < (P : Nat) then p.val a.g else []) := by
     by_cases c : 0 ≤ a.g ∧ a.g < (P : Nat)
     ·rw [if_pos c,if_pos c]; exact (hLet c).2.elim fun j hj => hj.2
     ·rw [if_neg c,if_neg c]
    rw [hval] at r3
    have hwc3 : g3 wcq = 11 := by rw [q3.2.1 _ hL.lt]; exact hL.g11
    have hu2 : QS RB (τ3.put wcq (.cells 0 [cs1])) 1 u (if 0 ≤ a.g ∧ a.g < (P : Nat) then p.val a.g else []) := q5.mod (Mod.put (ids := [wcq]) (.head _)) fun j hj hm => by
     rw [ham.1 hm] at hj
     by_cases c : 0 ≤ a.g ∧ a.g < (P : Nat)
     ·have := (q6 c).2 _ hj; rw [hwc3] at this; cases this
     ·rw [if_neg c] at q1
      obtain ⟨vs,ids,r⟩ := s3.r
      have := zpd s3.d r hA.k.iv.pl (by omega) (k := a.g) (by omega)
      rw [this] at q1
      cases q1
      cases hj
    rw [if_pos c0,k4.pg,za,zb,q1',za,uo,za,un,za,zb,hL.ld q3,za,k5.pg,za,zb,r1,za,uo,za,un,za,zv3,za,zb,y1,za,if_neg (by rw [hbz]; decide)] at ev
    obtain ⟨τ,f⟩ := fin (by omega) (by omega) (by omega) (by omega) y2 hu2 (r3.q _ 1)
    exact ⟨τ,yi (ev.trans f)⟩
   rw [if_neg c0] at ev
   -- a page is put,in both
   have hput : ∀ {c2 : Cfg} {u1 u2 : PV} {b : By} {g3 : Nat → Nat} {τ3 : Store},c2.mode 23 = .pure → c2.P = Try.prog → b.length < 4611686018427387904 → IsS RB u2 b → St P n (w0 + 4) t T did pid mid g3 τ3 (if 0 ≤ a.g ∧ a.g < (P : Nat) ∧ b.length = 512 then p.putP a.g b a.n else p) → OutP g0 s0 g3 τ3 → ∃ cs1,zi c2 (ze cfg) 23 [.agg cs,.int .i64 a.g,u2,.int .i64 a.n] τ3 = some (.tuple [.agg cs1,.int .i64 (if 0 ≤ a.g ∧ a.g < (P : Nat) then (if b.length = 512 then 0 else 1) else 3)],τ3) ∧ zu Try.prog τ3 66 (.ref wcq 0 0) (.agg cs1) = some (τ3.put wcq (.cells 0 [cs1])) ∧ ∃ τ,tlA (ze cfg) (y2 cfg) a2 (.ref did 0 0) (.ref pid 0 0) (.ref wcq 0 0) (i : Nat) (.lsl σ.next 1 0 0 (some 0)) (.lsl σ1.next 1 0 0 (some 0)) (τ3.put wcq (.cells 0 [cs1])) = some (.exit 0,z5b,τ) := fun {c2 u1 u2 b g3 τ3} hm hP2 hbl hu q2 q3 => by
    obtain ⟨cs1,r1,r2⟩ := z92 hm hP2 h.rc hwok (by omega) a.g (fun c => (hLet c).1) hu a.n τ3
    have hrel : Rel (if 0 ≤ a.g ∧ a.g < (P : Nat) ∧ b.length = 512 then p.putP a.g b a.n else p) (if 0 ≤ a.g ∧ a.g < (P : Nat) ∧ b.length = 512 then w.putP a.g b a.n else w) := by
     by_cases c : 0 ≤ a.g ∧ a.g < (P : Nat) ∧ b.length = 512
     ·rw [if_pos c,if_pos c]; exact h.rel.putP hA (by omega) ⟨c.1,c.2.1⟩ b a.n
     ·rw [if_neg c,if_neg c]; exact h.rel
    have hdn : (if 0 ≤ a.g ∧ a.g < (P : Nat) ∧ b.length = 512 then w.putP a.g b a.n else w).d.done.length ≤ N + 4 := by
     have := z7o w a.g b a.n
     have := h.dn
     split <;> omega
    obtain ⟨y1,y2⟩ := hL.step q2 q3 hrel r2 hdn
    obtain ⟨τ,f⟩ := fin (by omega) (by omega) (by omega) (by omega) y2 ((m1.out q3).put h1x _).qs ((m2.out q3).put h2x _).qs
    exact ⟨cs1,r1,y1,τ,f⟩
   by_cases c1 : (a.d == 1) = true
   ·obtain ⟨u,b1,b2⟩ := k4.bb
    obtain ⟨v1,p1,p2⟩ := ztx (c2 := zf1) rfl rfl b2 hba s0
    obtain ⟨g3,τ3,q1,q2,q3⟩ := s3.putP (by omega) hTn (by omega) (by omega) a.g p2 (by rw [jw]; decide) a.n
    have q1' : zi zf1 (ze cfg) 12 [.ref pid 0 0,.int .i64 a.g,v1,.int .i64 a.n] s0 = some (.int .i64 (if 0 ≤ a.g ∧ a.g < (P : Nat) then (if (pgB a.b).length = 512 then 0 else 1) else 3),τ3) := by rw [zk rfl (by kernel_rfl)]; exact q1
    have k5 := k4.out q3
    obtain ⟨u',b1',b2'⟩ := k5.bb
    obtain ⟨v2,p1',p2'⟩ := ztx (c2 := zf1) rfl rfl b2' hba τ3
    obtain ⟨cs1,r1,y1,τ,f⟩ := hput (c2 := zf1) (u1 := v1) rfl rfl (by rw [jw]; decide) p2' q2 q3
    rw [if_pos c1,k4.pg,za,zb,b1,za,p1,za,k4.nn,za,zb,q1',za,zb,hL.ld q3,za,k5.pg,za,zb,b1',za,p1',za,k5.nn,za,zb,r1,za,uo,za,un,za,zb,y1,za,if_neg (by rw [hbz]; decide)] at ev
    exact ⟨τ,yi (ev.trans f)⟩
   rw [if_neg c1] at ev
   by_cases c2 : (a.d == 2) = true
   ·obtain ⟨u,b1,b2⟩ := k4.bb
    obtain ⟨g3,τ3,q1,q2,q3⟩ := s3.putP (by omega) hTn (by omega) (by omega) a.g b2 hba a.n
    have q1' : zi cfg (ze cfg) 12 [.ref pid 0 0,.int .i64 a.g,u,.int .i64 a.n] s0 = some (.int .i64 (if 0 ≤ a.g ∧ a.g < (P : Nat) then (if a.b.length = 512 then 0 else 1) else 3),τ3) := by rw [zk rfl (by kernel_rfl)]; exact q1
    have k5 := k4.out q3
    obtain ⟨u',b1',b2'⟩ := k5.bb
    obtain ⟨cs1,r1,y1,τ,f⟩ := hput (c2 := cfg) (u1 := u) rfl rfl hba b2' q2 q3
    rw [if_pos c2,k4.pg,za,zb,b1,za,k4.nn,za,zb,q1',za,zb,hL.ld q3,za,k5.pg,za,zb,b1',za,k5.nn,za,zb,r1,za,uo,za,un,za,zb,y1,za,if_neg (by rw [hbz]; decide)] at ev
    exact ⟨τ,yi (ev.trans f)⟩
   rw [if_neg c2] at ev
   by_cases c3 : (a.d == 3) = true
   ·obtain ⟨v1,v2,l1,l2,l3⟩ := z64 (c2 := cfg) rfl rfl h.rc (by omega) s0
    rw [h.rel.drts hA.k.nd] at l3
    have hln := (VF.slOf (e := ie) (fun a => rfl) l3).len ybh
    obtain ⟨g3,τ3,q1,q2,q3,q4⟩ := s3.flush (by omega) hn hTn (by omega) (by omega)
    have q1' : zi cfg (ze cfg) 14 [.ref pid 0 0] s0 = some (.int .i64 (p.dirts.length : Nat),τ3) := by rw [zk rfl (by kernel_rfl)]; exact q1
    have hdn0 := h.dn
    obtain ⟨cs1,r1,r2⟩ := z8p h.rc (by omega) (h.rel.flok hA (by omega) hTn h.dn (by omega)) τ3
    obtain ⟨hrel,hdn⟩ := h.rel.flush hA
    obtain ⟨y1,y2⟩ := hL.step (N1 := N + 256) q2 q3 hrel r2 (by omega)
    obtain ⟨τ,f⟩ := fin (by omega) (by omega) (by omega) (by omega) y2 ((m1.out q3).put h1x _).qs ((m2.out q3).put h2x _).qs
    rw [if_pos c3,hL.ld (OutP.refl _ _),za,l1,za,uo,za,un,za,q1',za,zb,hln,za,zb,if_neg (by rw [hbz]; decide),hL.ld q3,za,r1,za,y1,za,if_neg (by decide)] at ev
    exact ⟨τ,yi (ev.trans f)⟩
   rw [if_neg c3] at ev
   by_cases c4 : (a.d == 4) = true
   ·obtain ⟨g3,τ3,q1,q2,q3⟩ := s3.evict hTn (by omega) (by omega) a.g
    have q1' : zi cfg (ze cfg) 15 [.ref pid 0 0,.int .i64 a.g] s0 = some (.int .i64 (if (wc p.m a.g).isSome = true then 0 else 3),τ3) := by rw [zk rfl (by kernel_rfl)]; exact q1
    have k5 := k4.out q3
    obtain ⟨cs1,r1,r2⟩ := z8q h.rc hwok (by omega) a.g τ3
    have hsome : (wc w.l a.g).isSome = (wc p.m a.g).isSome := by
     cases hq : wc p.m a.g with
     | none => rw [h.rel.none hq]
     | some j => obtain ⟨y,j2,_,hj,_⟩ := h.rel.some hq; rw [hj]; rfl
    rw [hsome] at r1
    have hdn := z8o w a.g
    have hdn0 := h.dn
    obtain ⟨y1,y2⟩ := hL.step (N1 := N + 4) q2 q3 (h.rel.evP hA a.g) r2 (by omega)
    obtain ⟨τ,f⟩ := fin (by omega) (by omega) (by omega) (by omega) y2 ((m1.out q3).put h1x _).qs ((m2.out q3).put h2x _).qs
    rw [if_pos c4,k4.pg,za,zb,q1',za,zb,hL.ld q3,za,k5.pg,za,zb,r1,za,uo,za,un,za,zb,y1,za,if_neg (by rw [hbz]; decide)] at ev
    exact ⟨τ,yi (ev.trans f)⟩
   rw [if_neg c4] at ev
   obtain ⟨p0,p2,p3,p5,p6,p9,p11,hcs,hv,hmk⟩ := h.rc.form
   by_cases c5 : (a.d == 5) = true
   ·obtain ⟨u,b1,b2⟩ := k4.bb
    obtain ⟨g3,τ3,q1,q2,q3⟩ := s3.app hTn (by omega) b2 hba
    have q1' : zi cfg (ze cfg) 27 [.ref did 0 0,u] s0 = some (.int .i64 (if a.b.length + p.d.seen.st.length ≤ 65536 then 0 else 10),τ3) := by rw [zk rfl (by kernel_rfl)]; exact q1
    have k5 := k4.out q3
    obtain ⟨u',b1',b2'⟩ := k5.bb
    have ho3 : τ3.objs wcq = some (.cells 0 [cs]) := (q3.same hL.lt (by rw [hL.g11]; decide)).trans hL.ob
    have ld : zd Try.prog τ3 63 (.ref wcq 0 0) = some (.agg [p0,.int .i64 w.d.kept.base,p2,p3,.int .i64 w.d.now.base,p5,p6,.bool w.d.gone,.int .i64 w.d.armed]) := by rw [znz ho3 rfl,hcs]; exact z5i _ _ _ _ _ _ _ _ _ _ _ _ _
    have hdn0 := h.dn
    obtain ⟨cs9,r1,r2⟩ := z74 hv (by omega) (by rw [h.rel.d.a]; exact hA.k.iv.arm.2) (by rw [h.rel.d.n]; exact hA.k.iv.st) b2' hba τ3
    have hst : w.d.now.st.length = p.d.seen.st.length := by rw [h.rel.d.n]
    rw [hst] at r1 r2
    have hrc := hmk _ _ r2
    have hl9 := r2.len
    have hl9 : cs9.length = 9 := hl9.symm
    have hov : over cs 0 cs9 = cs9 ++ [p9,.int .i64 w.c.h,p11,.int .i64 w.sy] := by
     rw [hcs]
     unfold over
     rw [List.take_zero,List.nil_append,hb4,hl9]
     rfl
    have sto := zlu (P := Try.prog) (σ := τ3) (id := wcq) (k := 0) (off := 0) ya6 ho3 (hah _) rfl (v := .agg cs9) hl9 (by rw [h.rc.ln]; decide) (ww (RDev.pl r2))
    have hrel : Rel { p with d := if a.b.length + p.d.seen.st.length ≤ 65536 then p.d.app a.b else p.d } { w with d := if a.b.length + p.d.seen.st.length ≤ 65536 then w.d.act ⟨-1,a.b,false,0⟩ else w.d } := by
     refine ⟨?_,h.rel.c,h.rel.sy,h.rel.up,h.rel.mm⟩
     show Sim (if a.b.length + p.d.seen.st.length ≤ 65536 then p.d.app a.b else p.d) (if a.b.length + p.d.seen.st.length ≤ 65536 then w.d.act ⟨-1,a.b,false,0⟩ else w.d)
     split
     ·exact h.rel.d.app a.b
     ·exact h.rel.d
    have hdn : (if a.b.length + p.d.seen.st.length ≤ 65536 then w.d.act ⟨-1,a.b,false,0⟩ else w.d).done.length ≤ N + 1 := by
     have := (z5j w.d ⟨-1,a.b,false,0⟩).2.1
     split <;> omega
    obtain ⟨y1,y2⟩ := hL.step q2 q3 hrel hrc hdn
    obtain ⟨τ,f⟩ := fin (by omega) (by omega) (by omega) (by omega) y2 ((m1.out q3).put h1x _).qs ((m2.out q3).put h2x _).qs
    have sto' : zu Try.prog τ3 63 (.ref wcq 0 0) (.agg cs9) = some (τ3.put wcq (.cells 0 [cs9 ++ [p9,.int .i64 w.c.h,p11,.int .i64 w.sy]])) := by
     rw [sto]
     show some (τ3.put wcq (.cells 0 [over cs 0 cs9])) = _
     rw [hov]
    rw [if_pos c5,b1,za,q1',za,zb,yba,za,ld,za,b1',za,r1,za,uo,za,un,za,zb,za,sto',za,if_neg (by rw [hbz]; decide)] at ev
    exact ⟨τ,yi (ev.trans f)⟩
   rw [if_neg c5] at ev
   obtain ⟨g3,τ3,g4,τ4,q1,q1b,q2,q3,q3b⟩ := s3.sync hTn (by omega) (by omega)
   have q1' : zi cfg (ze cfg) 29 [.ref did 0 0] s0 = some (.tuple [],τ3) := by rw [zk rfl (by kernel_rfl)]; exact q1
   have q1b' : zi cfg (ze cfg) 17 [.ref pid 0 0] τ3 = some (.tuple [],τ4) := by rw [zk rfl (by kernel_rfl)]; exact q1b
   have q34 := q3.trans q3b
   have ho4 : τ4.objs wcq = some (.cells 0 [cs]) := (q34.same hL.lt (by rw [hL.g11]; decide)).trans hL.ob
   have ld : zd Try.prog τ4 63 (.ref wcq 0 0) = some (.agg [p0,.int .i64 w.d.kept.base,p2,p3,.int .i64 w.d.now.base,p5,p6,.bool w.d.gone,.int .i64 w.d.armed]) := by rw [znz ho4 rfl,hcs]; exact z5i _ _ _ _ _ _ _ _ _ _ _ _ _
   obtain ⟨cs9,r1,r2⟩ := z9d hv τ4
   have hrc := hmk _ _ r2
   have hl9 : cs9.length = 9 := r2.len.symm
   have hov : over cs 0 cs9 = cs9 ++ [p9,.int .i64 w.c.h,p11,.int .i64 w.sy] := by
    rw [hcs]
    unfold over
    rw [List.take_zero,List.nil_append,hb4,hl9]
    rfl
   have sto := zlu (P := Try.prog) (σ := τ4) (id := wcq) (k := 0) (off := 0) ya6 ho4 (hah _) rfl (v := .agg cs9) hl9 (by rw [h.rc.ln]; decide) (ww (RDev.pl r2))
   have sto' : zu Try.prog τ4 63 (.ref wcq 0 0) (.agg cs9) = some (τ4.put wcq (.cells 0 [cs9 ++ [p9,.int .i64 w.c.h,p11,.int .i64 w.sy]])) := by
    rw [sto]
    show some (τ4.put wcq (.cells 0 [over cs 0 cs9])) = _
    rw [hov]
   have hs := h.rel.d.sync hA.k.iv
   have iv2 := hA.k.iv.sync
   have ld2 : zd Try.prog (τ4.put wcq (.cells 0 [cs9 ++ [p9,.int .i64 w.c.h,p11,.int .i64 w.sy]])) 66 (.ref wcq 0 0) = some (.agg (cs9 ++ [p9,.int .i64 w.c.h,p11,.int .i64 w.sy])) := zyv z9i (xa _ _ _) hrc.ln
   obtain ⟨cs1,e1,e2⟩ := z73 hrc (by show 0 ≤ w.d.sync.now.base ∧ w.d.sync.now.base ≤ 1000000000; rw [hs.n]; exact ⟨iv2.bs.1,by have := iv2.bs; omega⟩) (by show w.d.sync.now.st.length ≤ 65536; rw [hs.n]; exact iv2.st) (τ4.put wcq (.cells 0 [cs9 ++ [p9,.int .i64 w.c.h,p11,.int .i64 w.sy]]))
   have hrel : Rel { p with d := p.d.sync,sy := p.d.sync.fin } ({ w with d := w.d.sync } : Rp).syn := ⟨hs,h.rel.c,by
    show w.d.sync.now.base + (w.d.sync.now.st.length : Nat) = p.d.sync.seen.base + (p.d.sync.seen.st.length : Nat)
    rw [hs.n],h.rel.up,h.rel.mm⟩
   have hdn : w.d.sync.done.length ≤ N := haz (z6i _) h.dn
   obtain ⟨y1,y2⟩ := hL.step q2 q34 hrel e2 hdn
   have st2 := z9n z99 (xa τ4 wcq (.cells 0 [cs9 ++ [p9,.int .i64 w.c.h,p11,.int .i64 w.sy]])) hrc.ln e2.ln (ww e2.pl)
   rw [zel] at st2
   obtain ⟨τ,f⟩ := fin (by omega) (by omega) (by omega) (by omega) y2 ((m1.out q34).put h1x _).qs ((m2.out q34).put h2x _).qs
   rw [q1',za,q1b',za,yba,za,ld,za,r1,za,za,sto',za,ld2,za,e1,za,st2,za,if_neg (by decide)] at ev
   exact ⟨τ,yi (ev.trans f)⟩
end
theorem z72 {n : Int} (h : 0 ≤ n ∧ n ≤ 255) (m : Nat) (hm : 1 ≤ m ∧ m ≤ 60) : ∃ k : Nat,IntKind.wrap .i64 (1 + IntKind.wrap .i64 (Int.tmod n (m : Nat))) = (k : Nat) ∧ 1 ≤ k ∧ k ≤ m := by
 obtain ⟨k,rfl⟩ : ∃ k : Nat,n = (k : Nat) := ⟨n.toNat,by omega⟩
 have hmm : ((k : Nat) : Int).tmod (m : Nat) = ((k % m : Nat) : Int) := rfl
 have hlt : k % m < m := Nat.mod_lt _ (by omega)
 refine ⟨k % m + 1,?_,by omega,by omega⟩
 rw [hmm,show IntKind.wrap .i64 ((k % m : Nat) : Int) = ((k % m : Nat) : Int) from q9 (by omega) (by omega),q9 (by omega) (by omega)]
 omega
theorem spActs {n n2 : Int} (hn : 0 ≤ n ∧ n ≤ 255) (hn2 : 0 ≤ n2 ∧ n2 ≤ 255) {l : List Ac} {y : PV} (hy : VF (.psl false (l.map Ac.e)) y) (hl : l.length < 4611686018427387904) (hb : ∀ a ∈ l,a.b.length < 4611686018427387904) : ∃ τ,ze cfg 6 [.int .u8 n,.int .u8 n2,y] .empty = some (.bool true,τ) := by
 have ev := eq6 (ze cfg) (y2 cfg) .empty n n2 y
 obtain ⟨P,hPe,P1,P2⟩ := z72 hn 5 (by omega)
 obtain ⟨m,hme,m1,m2⟩ := z72 hn2 4 (by omega)
 have hPe : IntKind.wrap .i64 (1 + IntKind.wrap .i64 (Int.tmod n 5)) = (P : Nat) := hPe
 have hme : IntKind.wrap .i64 (1 + IntKind.wrap .i64 (Int.tmod n2 4)) = (m : Nat) := hme
 rw [hPe,hme] at ev
 obtain ⟨g1,τ1,did,pid,mid,τ0,a1,a2,a3,_⟩ := zwy (P := P) (m := (m : Nat)) (by omega) (by omega) (fun _ => 7) .empty
 rw [hax] at a3
 have c1 : zi cfg (ze cfg) 8 [.int .i64 (P : Nat)] .empty = some (.tuple [.ref did 0 0,.int .i64 0],τ0) := by rw [zk rfl (by kernel_rfl)]; exact a1
 have c2 : zi cfg (ze cfg) 9 [.ref did 0 0,.int .i64 (m : Nat)] τ0 = some (.tuple [.ref pid 0 0,.int .i64 0],τ1) := by rw [zk rfl (by kernel_rfl)]; exact a2
 obtain ⟨b,hL⟩ := zvj (c2 := cfg) rfl rfl hy hl τ1
 rw [c1,za,uo,za,un,za,zb,c2,za,uo,za,un,za,zb,if_neg (by decide),if_neg (by decide),(zp2 _ _ _).2,za,zc,if_neg (by decide),hL,za,zc] at ev
 cases b with
 | false =>
   rw [if_pos (show (!false) = true from rfl),zrc rfl rfl,za,zc] at ev
   exact ⟨_,zf (hT _) ev⟩
 | true =>
   obtain ⟨cs9,r1,r2⟩ := z93 (P := P) (by omega) τ1
   obtain ⟨cs,r3,r4⟩ := z9f r2 (m := m) (by omega) τ1
   have sto : zu Try.prog (Store.push τ1 (.cells 0 [[.nilsl,(.int .i64 0),.nilsl,.nilsl,(.int .i64 0),.nilsl,.nilsl,(.bool false),(.int .i64 0),.nilsl,(.int .i64 0),.nilsl,(.int .i64 0)]])) 66 (.ref (Store.next τ1) 0 0) (.agg cs) = some (τ1.push (.cells 0 [cs])) := zne z99 rfl r4.ln (ww r4.pl)
   obtain ⟨s1,o1⟩ := a3.box (.cells 0 [cs]) 11
   have hnw : (zdx (m : Nat)).1 = ⟨List.replicate m noSp,0⟩ := by unfold zdx; rw [if_neg (by omega),hax]
   have hrel : Rel (Po.new (Dv.new P) (m : Nat)) (Rp.new (Rf.new P) m) := ⟨⟨rfl,rfl,rfl,rfl,rfl,rfl,fun u hu => by cases hu⟩,by show _ = (zdx (m : Nat)).1; rw [hnw]; rfl,rfl,.nil,fun e => Iff.rfl⟩
   obtain ⟨τ3,f1⟩ := z9y (n := m) ⟨P1,P2⟩ (by omega) (VF.acts hy) hb 40 0 0 0 0 0 _ _ _ _ cs (by omega) (by omega) (by omega) (by omega) (by omega) ⟨s1,hrel,r4,haw _,qj (hah _),zn _ _,hbe _⟩
   rw [zp3] at f1
   rw [if_neg (show ¬ (!true) = true by decide),r1,za,r3,za,sto,za,f1,za,ya,if_pos rfl,zrc rfl rfl,za,zc] at ev
   exact ⟨_,zf (hT _) ev⟩
end Go.Pvm.S
