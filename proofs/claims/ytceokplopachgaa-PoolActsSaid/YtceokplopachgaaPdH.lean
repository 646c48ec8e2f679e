/- Part of the proof: the document's pool in the store; are both alike? -/
import Derived.Test.YtceokplopachgaaPdF
set_option linter.unusedSimpArgs false
set_option linter.unusedVariables false
set_option maxRecDepth 100000
namespace Go.Pvm.S
open Go.Pvm Go.Proofs
theorem z9u (l : List Int) (hl : l.length < 4611686018427387904) : jm Cω 61 [.psl false (l.map ie),.psl false (l.map ie)] = some (.bool true) := by
 have key : ∀ (k i : Nat),i + k = l.length → Lω 61 z6e 0 (z50 (l.map ie) (l.map ie) (i : Nat)) [] = some (.exit 0,mkS 26 [],[]) := by
  intro k
  induction k with
  | zero =>
    intro i hi
    exact lw (by rw [z7u,if_neg (by rw [hbw,han]; omega)])
  | succ k ih =>
    intro i hi
    obtain ⟨x,hx⟩ : ∃ x,l[i]? = some x := ⟨_,haf (show i < l.length by omega)⟩
    refine lw ((z7u Cω Lω (l.map ie) (l.map ie) (i : Nat)).trans ?_)
    have hi0 : (0 : Int) ≤ ((i : Nat) : Int) := by omega
    rw [if_pos (by rw [hbw,han]; omega),if_pos hi0,hax,zw2 hx,za,show ie x = [.int .i64 x] from rfl,yn,yl,if_pos hi0,za,yn,yl,if_neg (by rw [hbz]; decide),y6 (by omega)]
    exact ih (i + 1) (by omega)
 have ev := yal Cω Lω (l.map ie) (l.map ie)
 have lp := key l.length 0 (by omega)
 rw [zp3] at lp
 rw [if_neg (by rw [hbz]; decide),lp,za] at ev
 simp only [zb,zc,ye,xb,xc,y1,yq,zo,yl,ym,yk,zm,zx,yd,yp,xw,zy,zl,yf,yo,zr,z6,zz,yn,yz,yy,xd,xe,yw,yx,yr,yg,yv,yh,yu,yt,vn,za,ya,y9,if_true] at ev
 exact pc ev rfl
structure RCp (w : Rp) (cs : List PV) : Prop where
 vf : VFs w.e cs
theorem RCp.pl {w : Rp} {cs : List PV} (h : RCp w cs) : ∀ c ∈ cs,c.plain = true := VFs.pl h.vf (by
 intro c hc
 simp only [Rp.e,bv,ha6,List.not_mem_nil,or_false] at hc
 rcases hc with rfl | rfl | rfl | rfl | rfl | rfl | rfl | rfl | rfl | rfl | rfl | rfl | rfl <;> rfl)
theorem RCp.ln {w : Rp} {cs : List PV} (h : RCp w cs) : cs.length = 13 := h.vf.len.symm
theorem RCp.of {w : Rp} {p : PV} (h : VF (.agg w.e) p) : ∃ cs,p = .agg cs ∧ RCp w cs := by
 cases h with
 | base h => cases ‹PV.base _ = true›
 | agg h => exact ⟨_,rfl,⟨h⟩⟩
theorem RCp.form {w : Rp} {cs : List PV} (h : RCp w cs) : ∃ p0 p2 p3 p5 p6 p9 p11,cs = [p0,.int .i64 w.d.kept.base,p2,p3,.int .i64 w.d.now.base,p5,p6,.bool w.d.gone,.int .i64 w.d.armed,p9,.int .i64 w.c.h,p11,.int .i64 w.sy] ∧ VFs w.d.e [p0,.int .i64 w.d.kept.base,p2,p3,.int .i64 w.d.now.base,p5,p6,.bool w.d.gone,.int .i64 w.d.armed] ∧ ∀ r : Rf,∀ cs',VFs r.e cs' → RCp { w with d := r } (cs' ++ [p9,.int .i64 w.c.h,p11,.int .i64 w.sy]) := by
 obtain ⟨h⟩ := h
 unfold Rp.e at h
 cases h with | cons a0 h => cases h with | cons a1 h => cases h with | cons a2 h => cases h with | cons a3 h => cases h with | cons a4 h => cases h with | cons a5 h => cases h with | cons a6 h => cases h with | cons a7 h => cases h with | cons a8 h => cases h with | cons a9 h => cases h with | cons a10 h => cases h with | cons a11 h => cases h with | cons a12 h =>
 cases h
 rw [a1.base_eq rfl,a4.base_eq rfl,a7.base_eq rfl,a8.base_eq rfl,a10.base_eq rfl,a12.base_eq rfl]
 refine ⟨_,_,_,_,_,_,_,rfl,.cons a0 (.cons (.base _ rfl) (.cons a2 (.cons a3 (.cons (.base _ rfl) (.cons a5 (.cons a6 (.cons (.base _ rfl) (.cons (.base _ rfl) .nil)))))))),fun r cs' hr => ⟨?_⟩⟩
 show VFs (r.e ++ [.psl false (w.c.l.map Sp.e),.int .i64 w.c.h,.psl false (w.l.map shE),.int .i64 w.sy]) _
 exact hr.append (.cons a9 (.cons (.base _ rfl) (.cons a11 (.cons (.base _ rfl) .nil))))
theorem VF.dk {x : Dk} {p : PV} (h : VF (.agg x.e) p) : ∃ q0 q2,p = .agg [q0,.int .i64 x.base,q2] ∧ IsS RB q0 x.pg ∧ IsS RB q2 x.st := by
 cases h with
 | base h => cases ‹PV.base _ = true›
 | agg h =>
   unfold Dk.e at h
   cases h with | cons a0 h => cases h with | cons a1 h => cases h with | cons a2 h =>
   cases h
   rw [a1.base_eq rfl]
   exact ⟨_,_,rfl,VF.by_ a0,VF.by_ a2⟩
theorem RDev.pl {r : Rf} {cs : List PV} (h : VFs r.e cs) : ∀ c ∈ cs,c.plain = true := VFs.pl h (by
 intro c hc
 simp only [Rf.e,bv,ha6,List.not_mem_nil,or_false] at hc
 rcases hc with rfl | rfl | rfl | rfl | rfl | rfl | rfl | rfl | rfl <;> rfl)
theorem z9i : AggT Try.prog 66 13 := .of (by kernel_rfl) (by kernel_rfl)
theorem z99 : qk Try.prog 66 = some 13 := by kernel_rfl
theorem z82 : qk Try.prog 60 = some 3 := by kernel_rfl
theorem z5i (a b c d e f g h i j k l m : PV) : xl Try.prog 63 [a,b,c,d,e,f,g,h,i,j,k,l,m] 0 = some (.agg [a,b,c,d,e,f,g,h,i]) := by kernel_rfl
section
variable {P n N w0 t : Nat} {T : Int} {did pid mid : Nat} {g : Nat → Nat} {σ : Store} {p : Po} {w : Rp} {cs : List PV} {d : Dv} {r : Rf}
theorem z96 {cs rest : List PV} (h1 : ∀ c ∈ cs,c.plain = true) (h2 : ∀ c ∈ rest,c.plain = true) (σ : Store) : (PV.agg cs :: rest).map (fz zp σ) = .agg cs :: rest := by
 have h : rest.map (fz zp σ) = rest := vo h2 7 σ
 rw [List.map_cons,zxr h1,h]
theorem z95 {cs rest : List PV} (h1 : ∀ c ∈ cs,c.plain = true) (h2 : ∀ c ∈ rest,c.plain = true) : PV.lf.lfs (PV.agg cs :: rest) = true := by
 unfold PV.lf.lfs
 rw [zw9 h1,zu1 h2]
 rfl
theorem z91 {c2 : Cfg} (hm : c2.mode 47 = .pure) (hP : c2.P = Try.prog) (h : VFs r.e cs) (σ : Store) : ∃ q0 q2,zi c2 (ze cfg) 47 [.agg cs] σ = some (.agg [q0,.int .i64 r.now.base,q2],σ) ∧ IsS RB q0 r.now.pg ∧ IsS RB q2 r.now.st := by
 obtain ⟨p,h1,h2⟩ := zq7 hm hP (by kernel_rfl) (z7h r) (.cons (.agg h) .nil) (fun σ => z96 (RDev.pl h) (fun c hc => by cases hc) σ) (z95 (RDev.pl h) (fun c hc => by cases hc)) σ
 obtain ⟨q0,q2,rfl,h3,h4⟩ := VF.dk h2
 exact ⟨q0,q2,h1,h3,h4⟩
theorem z7d {c2 : Cfg} (hm : c2.mode 60 = .pure) (hP : c2.P = Try.prog) (h : VFs r.e cs) (hd : r.done.length ≤ 1000000) (hu : ∀ t ∈ z5t r.done,t.units ≤ 1000000000) (σ : Store) : zi c2 (ze cfg) 60 [.agg cs] σ = some (.tuple [.int .i64 ((z6s r.done).length : Nat),.int .i64 (z6v (z5t r.done))],σ) := by
 obtain ⟨p,h1,h2⟩ := zq7 hm hP (by kernel_rfl) (z7b r hd hu) (.cons (.agg h) .nil) (fun σ => z96 (RDev.pl h) (fun c hc => by cases hc) σ) (z95 (RDev.pl h) (fun c hc => by cases hc)) σ
 cases h2 with
 | base h => cases ‹PV.base _ = true›
 | tuple h =>
   cases h with | cons a0 h => cases h with | cons a1 h =>
   cases h
   rw [a0.base_eq rfl,a1.base_eq rfl] at h1
   exact h1
theorem z64 {c2 : Cfg} (hm : c2.mode 24 = .pure) (hP : c2.P = Try.prog) (h : RCp w cs) (hl : w.l.length ≤ 1000) (σ : Store) : ∃ v1 v2,zi c2 (ze cfg) 24 [.agg cs] σ = some (.tuple [v1,v2],σ) ∧ VF (.psl false ((z44 w.l).map ie)) v1 ∧ VF (.psl false ((z7e w.l).map ie)) v2 := by
 obtain ⟨p,h1,h2⟩ := zq7 hm hP (by kernel_rfl) (z8h w hl) (.cons (.agg h.vf) .nil) (fun σ => z96 h.pl (fun c hc => by cases hc) σ) (z95 h.pl (fun c hc => by cases hc)) σ
 cases h2 with
 | base h => cases ‹PV.base _ = true›
 | tuple h =>
   cases h with | cons a0 h => cases h with | cons a1 h =>
   cases h
   exact ⟨_,_,h1,a0,a1⟩
theorem okI : ROk 1 (Fn ie) := ⟨fun e m h => by rw [show e = ie m from h]; rfl,fun e m h c hc => by rw [show e = ie m from h] at hc; rw [ham.1 hc]; rfl⟩
theorem OwnN.vf {σ0 τ : Store} {v : PV} {l : List Int} (h : OwnN σ0 τ v l) : VF (.psl false (l.map ie)) (fz zp τ v) := by
 have hq : QS (Fn ie) τ 1 v l := by
  rcases h with ⟨rfl,rfl⟩ | ⟨id,full,rfl,h2,h3,h4,h5,h6⟩
  ·exact IsS.nil.q _ _
  ·refine ⟨l.map ie,.inr ⟨id,0,none,0,full.map ie,by rw [han],h2,by rw [han,han]; omega,?_,h6⟩,All2.fn ie l⟩
   rw [ha8,han,← List.map_take,h4]
 obtain ⟨es,h1,h2⟩ := hq.frz okI 6
 have he : es = l.map ie := All2.inv h2
 show VF _ (fz (6 + 2) τ v)
 generalize fz (6 + 2) τ v = q at h1
 rcases h1 with ⟨rfl,h3⟩ | ⟨b,rfl⟩
 ·rw [h3] at he
  rw [← he]
  exact .nl false
 ·rw [← he]
  refine .psl false b ?_
  rw [he]
  exact zfn (fun a => .cons (.base _ rfl) .nil) l
theorem z8y {c2 : Cfg} (hm : c2.mode 61 = .pure) (hP : c2.P = Try.prog) {σ0 τ : Store} {v q : PV} {l : List Int} (h : OwnN σ0 τ v l) (hq : VF (.psl false (l.map ie)) q) (hl : l.length ≤ 1000) : zi c2 (ze cfg) 61 [v,q] τ = some (.bool true,τ) := by
 obtain ⟨b,h1,h2⟩ := zwo (z9u l (by omega)) (.cons h.vf (.cons hq .nil))
 have hb := h2.base_eq rfl
 rw [hb] at h1
 have hqp : q.plain = true := VF.pl hq rfl
 refine w8 hm (by rw [hP]; kernel_rfl) ?_ h1 (.inl rfl)
 have e : [q].map (fz zp τ) = [q] := vo (fun c hc => by rw [ham.1 hc]; exact hqp) 7 τ
 rw [List.map_cons,e]
theorem z8x {q0 q2 : PV} {bs : Int} {i1 : Nat} (hP : P ≤ 64) (hl : p.d.seen.pg.length = 512 * P) (hq : IsS RB q0 p.d.seen.pg) : ∀ (k i : Nat) (g : Nat → Nat) (σ : Store),i + k = P → St P n w0 t T did pid mid g σ p → i1 < σ.next → g i1 = 11 → σ.objs i1 = some (.cells 0 [[q0,.int .i64 bs,q2]]) →
  ∃ g' τ,y2 cfg 32 z63 (z60 (.ref did 0 0) (.ref i1 0 0) (i : Nat)) σ = some (.exit 0,z7r,τ) ∧ St P n w0 t T did pid mid g' τ p ∧ OutP g σ g' τ
 | 0,i,g,σ,hi,h,hn,h7,ho => by
   have pg := zak (c2 := cfg) rfl rfl h.d hl (by omega)
   refine ⟨g,σ,yi ((z8v _ _ _ _ _ _).trans ?_),h,OutP.refl _ _⟩
   rw [pg,za,zb,if_neg (by rw [hbw]; omega)]
 | k + 1,i,g,σ,hi,h,hn,h7,ho => by
   have pg := zak (c2 := cfg) rfl rfl h.d hl (by omega)
   obtain ⟨g1,τ,u,a1,a2,a3,a4,a5⟩ := h.readD (i := i) (by omega)
   have ho' : τ.objs i1 = some (.cells 0 [[q0,.int .i64 bs,q2]]) := (a5.toP.same hn (by rw [h7]; decide)).trans ho
   have c1 : zi cfg (ze cfg) 35 [.ref did 0 0,.int .i64 (i : Nat)] σ = some (.tuple [u,.int .i64 0],τ) := by rw [zk rfl (by kernel_rfl)]; exact a1
   have w1 : IntKind.wrap .i64 (512 * ((i : Nat) : Int)) = ((i * 512 : Nat) : Int) := by rw [q9 (by omega) (by omega)]; omega
   have w2 : IntKind.wrap .i64 (((i * 512 : Nat) : Int) + 512) = ((i * 512 + 512 : Nat) : Int) := by rw [q9 (by omega) (by omega)]; omega
   obtain ⟨v',k1,k2⟩ := hq.cut TB okB (lo := some (.int .i64 ((i * 512 : Nat) : Int))) (hi := some (.int .i64 ((i * 512 + 512 : Nat) : Int))) (x8 .i64 _ 0) (x8 .i64 _ _) (by omega) (by omega)
   rw [show i * 512 + 512 - i * 512 = 512 by omega] at k2
   have fa : zj Try.prog 60 (.ref i1 0 0) 0 = some (.ref i1 0 0) := by kernel_rfl
   have l0 := qc (σ := τ) (off := 0) otB ho' rfl
   have s1 := a2.str z9j TB uB
   have hpg : za9 p.d (i : Nat) = (p.d.seen.pg.drop (i * 512)).take 512 := rfl
   have s2 := k2.str z9j TB uB τ
   rw [← hpg] at s2
   have ne := zyf (P := Try.prog) (l := za9 p.d (i : Nat)) (l' := za9 p.d (i : Nat)) 9
   rw [hb3] at ne
   have ev := z8v (ze cfg) (y2 cfg) σ (.ref did 0 0) (.ref i1 0 0) (i : Nat)
   rw [pg,za,zb,if_pos (by rw [hbw]; omega),c1,za,uo,za,un,za,zb,if_neg (by decide),s1,za,ye,fa,za,l0,za,w1,w2,k1,za,s2,za,ye,ne,za,zc,if_neg (by decide),y6 (show i < 4611686018427387904 by omega)] at ev
   obtain ⟨g2,τ2,b1,b2,b3⟩ := z8x hP hl hq k (i + 1) g1 τ (by omega) a4 (hao hn a5.1) (by rw [a5.2.1 i1 hn]; exact h7) ho'
   exact ⟨g2,τ2,yi (ev.trans b1),b2,a5.toP.trans b3⟩
end
end Go.Pvm.S
set_option linter.unusedSimpArgs false
set_option linter.unusedVariables false
set_option maxRecDepth 100000
namespace Go.Pvm.S
open Go.Pvm Go.Proofs
section
variable {P n N w0 t : Nat} {T : Int} {did pid mid : Nat} {g : Nat → Nat} {σ : Store} {p : Po} {w : Rp} {cs : List PV}
theorem z9t (h : St P n w0 t T did pid mid g σ p) (hR : Rel p w) (hc : RCp w cs) (hP : P ≤ 64) (hT' : T ≤ 900000000) (hd : w.d.done.length ≤ 1000000) (hw : w0 ≤ 300000) (ht : t ≤ 300000) :
  ∃ g' τ,zi cfg (ze cfg) 32 [.ref pid 0 0,.ref did 0 0,.agg cs] σ = some (.bool true,τ) ∧ St P n w0 t T did pid mid g' τ p ∧ OutP g σ g' τ := by
 have hcl := hc.ln
 obtain ⟨p0,p2,p3,p5,p6,p9,p11,rfl,hv,_⟩ := hc.form
 have ev := ybg (ze cfg) (y2 cfg) σ pid 0 0 did 0 0 p0 w.d.kept.base p2 p3 w.d.now.base p5 p6 w.d.gone w.d.armed p9 w.c.h p11 w.sy
 have hI := h.a.k.iv
 have hS := hR.d
 have hun := z6m _ _ hI.ts
 have hn64 : n ≤ 64 := by have := h.a.k.ck.n1; omega
 have hsh := hR.short h.a
 -- the copy of the document's pool
 obtain ⟨b1,b2⟩ := h.box (.cells 0 [[p0,.int .i64 w.d.kept.base,p2,p3,.int .i64 w.d.now.base,p5,p6,.bool w.d.gone,.int .i64 w.d.armed,p9,.int .i64 w.c.h,p11,.int .i64 w.sy]]) 11
 have o1 : (σ.push (.cells 0 [[p0,.int .i64 w.d.kept.base,p2,p3,.int .i64 w.d.now.base,p5,p6,.bool w.d.gone,.int .i64 w.d.armed,p9,.int .i64 w.c.h,p11,.int .i64 w.sy]])).objs σ.next = some (.cells 0 [[p0,.int .i64 w.d.kept.base,p2,p3,.int .i64 w.d.now.base,p5,p6,.bool w.d.gone,.int .i64 w.d.armed,p9,.int .i64 w.c.h,p11,.int .i64 w.sy]]) := zn _ _
 have n1 : σ.next < (σ.push (.cells 0 [[p0,.int .i64 w.d.kept.base,p2,p3,.int .i64 w.d.now.base,p5,p6,.bool w.d.gone,.int .i64 w.d.armed,p9,.int .i64 w.c.h,p11,.int .i64 w.sy]])).next := haw _
 have t1 : tag g σ.next 11 σ.next = 11 := qj (hah _)
 generalize σ.push (.cells 0 [[p0,.int .i64 w.d.kept.base,p2,p3,.int .i64 w.d.now.base,p5,p6,.bool w.d.gone,.int .i64 w.d.armed,p9,.int .i64 w.c.h,p11,.int .i64 w.sy]]) = S1 at ev b1 b2 o1 n1
 generalize tag g σ.next 11 = g1 at b1 b2 t1
 have e1 : zd Try.prog S1 63 (.ref σ.next 0 (0 + 0)) = some (.agg [p0,.int .i64 w.d.kept.base,p2,p3,.int .i64 w.d.now.base,p5,p6,.bool w.d.gone,.int .i64 w.d.armed]) := by rw [znz o1 rfl]; exact z5i _ _ _ _ _ _ _ _ _ _ _ _ _
 obtain ⟨q0,q2,e2,e3,e4⟩ := z91 (c2 := cfg) rfl rfl hv S1
 -- the disk that is seen
 have hpl : ∀ c ∈ [q0,.int .i64 w.d.now.base,q2],c.plain = true := by
  intro c hc
  rcases ha6.1 hc with rfl | hc
  ·exact e3.plain
  rcases ha6.1 hc with rfl | hc
  ·rfl
  ·rw [ham.1 hc]; exact e4.plain
 have e5 : zu Try.prog (Store.push S1 (.cells 0 [[.nilsl,(.int .i64 0),.nilsl]])) 60 (.ref (Store.next S1) 0 0) (.agg [q0,.int .i64 w.d.now.base,q2]) = some (S1.push (.cells 0 [[q0,.int .i64 w.d.now.base,q2]])) := zne z82 rfl rfl (ww hpl)
 obtain ⟨d1,d2⟩ := b1.box (.cells 0 [[q0,.int .i64 w.d.now.base,q2]]) 11
 have o3 : (S1.push (.cells 0 [[q0,.int .i64 w.d.now.base,q2]])).objs S1.next = some (.cells 0 [[q0,.int .i64 w.d.now.base,q2]]) := zn _ _
 have o4 : (S1.push (.cells 0 [[q0,.int .i64 w.d.now.base,q2]])).objs σ.next = some (.cells 0 [[p0,.int .i64 w.d.kept.base,p2,p3,.int .i64 w.d.now.base,p5,p6,.bool w.d.gone,.int .i64 w.d.armed,p9,.int .i64 w.c.h,p11,.int .i64 w.sy]]) := (yj n1).trans o1
 have n3 : S1.next < (S1.push (.cells 0 [[q0,.int .i64 w.d.now.base,q2]])).next := haw _
 have n4 : σ.next < (S1.push (.cells 0 [[q0,.int .i64 w.d.now.base,q2]])).next := Nat.lt_succ_of_lt n1
 have t2 : tag g1 S1.next 11 S1.next = 11 := qj (hah _)
 have t3 : tag g1 S1.next 11 σ.next = 11 := by rw [je n1]; exact t1
 generalize hS2 : S1.push (.cells 0 [[q0,.int .i64 w.d.now.base,q2]]) = S2 at e5 d1 d2 o3 o4 n3 n4
 generalize tag g1 S1.next 11 = g2 at d1 d2 t2 t3
 have e6 := zyv z9i o4 hcl
 obtain ⟨v1,v2,l1,l2,l3⟩ := z64 (c2 := cfg) rfl rfl hc (by omega) S2
 rw [hR.keys h.a.k.nd] at l2
 rw [hR.drts h.a.k.nd] at l3
 have hst := hI.st
 obtain ⟨g3,S3,u,j1,j2,j3,j4,j5⟩ := zlz d1.d (by omega)
 have x3 := d1.out j4 j5
 have c1 : zi cfg (ze cfg) 34 [.ref did 0 0] S2 = some (.tuple [.int .i64 p.d.seen.base,u],S3) := by rw [zk rfl (by kernel_rfl)]; exact j1
 have c2 := z75 (c2 := cfg) rfl rfl j4 (by have := h.l.t; omega) hun
 have o5 : S3.objs σ.next = _ := (j5.toP.same n4 (by rw [t3]; decide)).trans o4
 have o6 : S3.objs S1.next = _ := (j5.toP.same n3 (by rw [t2]; decide)).trans o3
 have e7 : zd Try.prog S3 63 (.ref σ.next 0 (0 + 0)) = some (.agg [p0,.int .i64 w.d.kept.base,p2,p3,.int .i64 w.d.now.base,p5,p6,.bool w.d.gone,.int .i64 w.d.armed]) := by rw [znz o5 rfl]; exact z5i _ _ _ _ _ _ _ _ _ _ _ _ _
 have c3 := z7d (c2 := cfg) rfl rfl hv hd (by rw [hS.t]; exact hun) S3
 rw [hS.w,hS.t] at c3
 have e8 := qc (σ := S3) (off := 0 + 1) oInt o6 rfl
 have e9 := qc (σ := S3) (off := 0 + 2) otB o6 rfl
 rw [hS.n] at e3 e4 e8
 have s1 := j2.str z9j TB uB
 have s2 := e4.str z9j TB uB S3
 have ne := zyf (P := Try.prog) (l := p.d.seen.st) (l' := p.d.seen.st) 9
 rw [hb3] at ne
 obtain ⟨S4,v3,i1,i2,i3⟩ := x3.ind hP hn64
 have c4 : zi cfg (ze cfg) 18 [.ref pid 0 0] S3 = some (v3,S4) := by rw [zk rfl (by kernel_rfl)]; exact i1
 have x4 := x3.mod i3
 have hil : p.ins.length ≤ 1000 := by rw [z1o]; have := h.a.few; omega
 have hdl : p.dirts.length ≤ 1000 := haz (List.length_filter_le _ _) hil
 have c5 := z8y (c2 := cfg) rfl rfl i2 l2 hil
 obtain ⟨S5,v4,k1,k2,k3⟩ := x4.dirty hP hn64
 have c6 : zi cfg (ze cfg) 19 [.ref pid 0 0] S4 = some (v4,S5) := by rw [zk rfl (by kernel_rfl)]; exact k1
 have x5 := x4.mod k3
 have c7 := z8y (c2 := cfg) rfl rfl k2 l3 hdl
 have n5 : S1.next < S3.next := hao n3 j5.1
 have n6 : S1.next < S4.next := hao n5 i3.1
 have o7 : S5.objs S1.next = some (.cells 0 [[q0,.int .i64 p.d.seen.base,q2]]) := by
  rw [k3.2 _ n6 (by simp),i3.2 _ n5 (by simp),o6,hS.n]
 have g3o : g3 S1.next = 11 := by rw [j5.2.1 _ n3]; exact t2
 obtain ⟨g6,S6,m1,m2,m3⟩ := z8x (q2 := q2) (bs := p.d.seen.base) hP hI.pl e3 P 0 g3 S5 (by omega) x5 (hao n6 k3.1) g3o o7
 rw [zp3] at m1
 rw [e1,za,e2,za,e5,za,e6,za,l1,za,uo,za,un,za,c1,za,uo,za,zb,un,za,c2,za,uo,za,zb,un,za,zb,e7,za,c3,za,uo,za,zb,un,za,zb,e8,za,zb,if_neg (by rw [hbz]; decide),s1,za,ye,e9,za,s2,za,ye,ne,za,zc,if_neg (by decide),if_neg (by rw [hbz]; decide),if_neg (by rw [hbz]; decide),c4,za,c5,za,zc,if_neg (by decide),c6,za,c7,za,zc,if_neg (by decide),m1,za,ya,if_pos rfl] at ev
 refine ⟨g6,S6,?_,m2,?_⟩
 ·rw [zk rfl (by kernel_rfl)]
  exact zf (hT _) ev
 ·have q1 : OutP g3 S3 g3 S5 := ⟨haz i3.1 k3.1,fun _ _ => rfl,fun j hj _ => .inl ((k3.2 j (hao hj i3.1) (by simp)).trans (i3.2 j hj (by simp)))⟩
  exact ((b2.trans d2).trans j5.toP).trans (q1.trans m3)
end
end Go.Pvm.S
set_option linter.unusedSimpArgs false
set_option linter.unusedVariables false
set_option maxRecDepth 100000
namespace Go.Pvm.S
open Go.Pvm Go.Proofs
theorem z5v {c2 : Cfg} {f : FuncId} (hm : c2.mode f = .pure) (hP : c2.P = Try.prog) (he : enters Try.prog f = true) {e cs a pa : List PV} {v : PV} (h : jm Cω f (.agg e :: a) = some v) (hc : VFs e cs) (hcp : ∀ c ∈ cs,c.plain = true) (ha : VFs a pa) (hap : ∀ c ∈ pa,c.plain = true) (σ : Store) : ∃ p,zi c2 (ze cfg) f (.agg cs :: pa) σ = some (p,σ) ∧ VF v p :=
 zq7 hm hP he h (.cons (.agg hc) ha) (fun σ => z96 hcp hap σ) (z95 hcp hap) σ
theorem VF.tup2 {w : Rp} {n : Int} {p : PV} (h : VF (.tuple [.agg w.e,.int .i64 n]) p) : ∃ cs,p = .tuple [.agg cs,.int .i64 n] ∧ RCp w cs := by
 cases h with
 | base h => cases ‹PV.base _ = true›
 | tuple h =>
   cases h with | cons a0 h => cases h with | cons a1 h =>
   cases h
   obtain ⟨cs,rfl,hc⟩ := RCp.of a0
   rw [a1.base_eq rfl]
   exact ⟨cs,rfl,hc⟩
theorem VF.tup2d {r : Rf} {n : Int} {p : PV} (h : VF (.tuple [.agg r.e,.int .i64 n]) p) : ∃ cs,p = .tuple [.agg cs,.int .i64 n] ∧ VFs r.e cs := by
 cases h with
 | base h => cases ‹PV.base _ = true›
 | tuple h =>
   cases h with | cons a0 h => cases h with | cons a1 h =>
   cases h
   rw [a1.base_eq rfl]
   cases a0 with
   | base h => cases ‹PV.base _ = true›
   | agg h => exact ⟨_,rfl,h⟩
theorem VF.tup3 {w : Rp} {b : By} {n : Int} {p : PV} (h : VF (.tuple [.agg w.e,bv b,.int .i64 n]) p) : ∃ cs v,p = .tuple [.agg cs,v,.int .i64 n] ∧ RCp w cs ∧ IsS RB v b := by
 cases h with
 | base h => cases ‹PV.base _ = true›
 | tuple h =>
   cases h with | cons a0 h => cases h with | cons a1 h => cases h with | cons a2 h =>
   cases h
   obtain ⟨cs,rfl,hc⟩ := RCp.of a0
   rw [a2.base_eq rfl]
   exact ⟨cs,_,rfl,hc,VF.by_ a1⟩
theorem plN (n : Int) : ∀ c ∈ [PV.int .i64 n],c.plain = true := fun c hc => by rw [ham.1 hc]; rfl
section
variable {P n N : Nat} {w : Rp} {cs : List PV} {σ : Store}
theorem z9e (hc : RCp w cs) (h : Wok P N n w) (hl : w.l.length ≤ 200) (k : Int) (hk : 0 ≤ k ∧ k < P → (w.letP k).l.length ≤ 1000 ∧ ∃ j,wc (w.letP k).l k = some j) (σ : Store) : ∃ cs' v,zi cfg (ze cfg) 22 [.agg cs,.int .i64 k] σ = some (.tuple [.agg cs',v,.int .i64 (if 0 ≤ k ∧ k < P then 0 else 3)],σ) ∧ RCp (if 0 ≤ k ∧ k < P then w.letP k else w) cs' ∧ IsS RB v (if 0 ≤ k ∧ k < P then (w.letP k).val k else []) := by
 by_cases c : 0 ≤ k ∧ k < P
 ·obtain ⟨h1,j,h2⟩ := hk c
  obtain ⟨p,e1,e2⟩ := z5v (c2 := cfg) rfl rfl (by kernel_rfl) (z87 h hl c h1 h2) hc.vf hc.pl (.cons (.base _ rfl) .nil) (plN k) σ
  obtain ⟨cs',v,rfl,e3,e4⟩ := VF.tup3 e2
  simp only [if_pos c]
  exact ⟨cs',v,e1,e3,e4⟩
 ·obtain ⟨p,e1,e2⟩ := z5v (c2 := cfg) rfl rfl (by kernel_rfl) (z7j h (k := k) (by omega)) hc.vf hc.pl (.cons (.base _ rfl) .nil) (plN k) σ
  obtain ⟨cs',v,rfl,e3,e4⟩ := VF.tup3 e2
  simp only [if_neg c]
  exact ⟨cs',v,e1,e3,e4⟩
theorem z92 {c2 : Cfg} (hm : c2.mode 23 = .pure) (hP2 : c2.P = Try.prog) (hc : RCp w cs) (h : Wok P N n w) (hl : w.l.length ≤ 200) (k : Int) (hk : 0 ≤ k ∧ k < P → (w.letP k).l.length ≤ 1000) {u : PV} {b : By} (hu : IsS RB u b) (place : Int) (σ : Store) : ∃ cs',zi c2 (ze cfg) 23 [.agg cs,.int .i64 k,u,.int .i64 place] σ = some (.tuple [.agg cs',.int .i64 (if 0 ≤ k ∧ k < P then (if b.length = 512 then 0 else 1) else 3)],σ) ∧ RCp (if 0 ≤ k ∧ k < P ∧ b.length = 512 then w.putP k b place else w) cs' := by
 have hvf : VFs [.int .i64 k,bv b,.int .i64 place] [.int .i64 k,u,.int .i64 place] := .cons (.base _ rfl) (.cons (IsS.vf hu) (.cons (.base _ rfl) .nil))
 have hpl : ∀ c ∈ [.int .i64 k,u,.int .i64 place],c.plain = true := fun c hc => by
  rcases ha6.1 hc with rfl | hc
  ·rfl
  rcases ha6.1 hc with rfl | hc
  ·exact hu.plain
  ·rw [ham.1 hc]; rfl
 by_cases c : 0 ≤ k ∧ k < P ∧ b.length = 512
 ·obtain ⟨p,e1,e2⟩ := z5v (c2 := c2) hm hP2 (by kernel_rfl) (z9p h hl ⟨c.1,c.2.1⟩ (hk ⟨c.1,c.2.1⟩) c.2.2 place) hc.vf hc.pl hvf hpl σ
  obtain ⟨cs',rfl,e3⟩ := VF.tup2 e2
  simp only [if_pos c,if_pos (show 0 ≤ k ∧ k < P from ⟨c.1,c.2.1⟩),if_pos c.2.2]
  exact ⟨cs',e1,e3⟩
 ·obtain ⟨p,e1,e2⟩ := z5v (c2 := c2) hm hP2 (by kernel_rfl) (z8f h (k := k) (b := b) (by
   by_cases c1 : b.length = 512
   ·have : ¬ (0 ≤ k ∧ k < P) := fun x => c ⟨x.1,x.2,c1⟩
    omega
   ·exact .inr (.inr c1)) place) hc.vf hc.pl hvf hpl σ
  obtain ⟨cs',rfl,e3⟩ := VF.tup2 e2
  simp only [if_neg c]
  refine ⟨cs',?_,e3⟩
  by_cases c1 : 0 ≤ k ∧ k < P
  ·rw [if_pos c1] at e1 ⊢
   rw [if_neg fun x => c ⟨c1.1,c1.2,x⟩]; exact e1
  ·rw [if_neg c1] at e1 ⊢; exact e1
theorem z8q (hc : RCp w cs) (h : Wok P N n w) (hl : w.l.length ≤ 200) (k : Int) (σ : Store) : ∃ cs',zi cfg (ze cfg) 26 [.agg cs,.int .i64 k] σ = some (.tuple [.agg cs',.int .i64 (if (wc w.l k).isSome = true then 0 else 3)],σ) ∧ RCp (w.evP k) cs' := by
 obtain ⟨p,e1,e2⟩ := z5v (c2 := cfg) rfl rfl (by kernel_rfl) (z8j h hl (k := k)) hc.vf hc.pl (.cons (.base _ rfl) .nil) (plN k) σ
 obtain ⟨cs',rfl,e3⟩ := VF.tup2 e2
 exact ⟨cs',e1,e3⟩
theorem z8p (hc : RCp w cs) (hn : N + 4 * w.l.length + 8 ≤ 1000000) (hW : ∀ (j : Nat),j ≤ w.l.length → Wok P (N + 4 * j) n (Rp.fl j 0 w) ∧ (Rp.fl j 0 w).l.length = w.l.length) (σ : Store) : ∃ cs',zi cfg (ze cfg) 25 [.agg cs] σ = some (.agg cs',σ) ∧ RCp (Rp.fl w.l.length 0 w) cs' := by
 obtain ⟨p,e1,e2⟩ := z5v (c2 := cfg) rfl rfl (by kernel_rfl) (z8i hn hW) hc.vf hc.pl .nil (fun c hc => by cases hc) σ
 obtain ⟨cs',rfl,e3⟩ := RCp.of e2
 exact ⟨cs',e1,e3⟩
theorem z73 (hc : RCp w cs) (hb : 0 ≤ w.d.now.base ∧ w.d.now.base ≤ 1000000000) (hs : w.d.now.st.length ≤ 65536) (σ : Store) : ∃ cs',zi cfg (ze cfg) 31 [.agg cs] σ = some (.agg cs',σ) ∧ RCp w.syn cs' := by
 obtain ⟨p,e1,e2⟩ := z5v (c2 := cfg) rfl rfl (by kernel_rfl) (z6j w hb hs) hc.vf hc.pl .nil (fun c hc => by cases hc) σ
 obtain ⟨cs',rfl,e3⟩ := RCp.of e2
 exact ⟨cs',e1,e3⟩
theorem z9d {r : Rf} (hc : VFs r.e cs) (σ : Store) : ∃ cs',zi cfg (ze cfg) 30 [.agg cs] σ = some (.agg cs',σ) ∧ VFs r.sync.e cs' := by
 obtain ⟨p,e1,e2⟩ := z5v (c2 := cfg) rfl rfl (by kernel_rfl) (z7i r) hc (RDev.pl hc) .nil (fun c hc => by cases hc) σ
 cases e2 with
 | base h => cases ‹PV.base _ = true›
 | agg h => exact ⟨_,e1,h⟩
theorem z74 {r : Rf} (hc : VFs r.e cs) (hd : r.done.length ≤ 1000000) (ha : r.armed ≤ 9223372036854775807) (hs : r.now.st.length ≤ 65536) {u : PV} {b : By} (hu : IsS RB u b) (hb : b.length < 4611686018427387904) (σ : Store) : ∃ cs',zi cfg (ze cfg) 28 [.agg cs,u] σ = some (.tuple [.agg cs',.int .i64 (if b.length + r.now.st.length ≤ 65536 then 0 else 10)],σ) ∧ VFs (if b.length + r.now.st.length ≤ 65536 then r.act ⟨-1,b,false,0⟩ else r).e cs' := by
 obtain ⟨p,e1,e2⟩ := z5v (c2 := cfg) rfl rfl (by kernel_rfl) (z7k hd ha hs hb) hc (RDev.pl hc) (.cons (IsS.vf hu) .nil) (fun c hc => by rw [ham.1 hc]; exact hu.plain) σ
 obtain ⟨cs',rfl,e3⟩ := VF.tup2d e2
 exact ⟨cs',e1,e3⟩
theorem z93 {P : Nat} (hP : P ≤ 64) (σ : Store) : ∃ cs,zi cfg (ze cfg) 21 [.int .i64 (P : Nat)] σ = some (.agg cs,σ) ∧ VFs (Rf.new P).e cs := by
 obtain ⟨p,e1,e2⟩ := zq7 (c2 := cfg) rfl rfl (by kernel_rfl) (z9r hP) (.cons (.base _ rfl) .nil) (fun σ => rfl) rfl σ
 cases e2 with
 | base h => cases ‹PV.base _ = true›
 | agg h => exact ⟨_,e1,h⟩
theorem z9f {r : Rf} (hc : VFs r.e cs) {m : Nat} (hm : m ≤ 64) (σ : Store) : ∃ cs',zi cfg (ze cfg) 20 [.agg cs,.int .i64 (m : Nat)] σ = some (.agg cs',σ) ∧ RCp (Rp.new r m) cs' := by
 obtain ⟨p,e1,e2⟩ := z5v (c2 := cfg) rfl rfl (by kernel_rfl) (z88 r hm) hc (RDev.pl hc) (.cons (.base _ rfl) .nil) (plN m) σ
 obtain ⟨cs',rfl,e3⟩ := RCp.of e2
 exact ⟨cs',e1,e3⟩
end
end Go.Pvm.S
