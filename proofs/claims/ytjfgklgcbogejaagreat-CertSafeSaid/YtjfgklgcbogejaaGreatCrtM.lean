/- Part of the proof: certifiers: no danger, clocks grow, nobody is known when nobody lives: what the statement comes to. -/
import Derived.Test.YtjfgklgcbogejaaGreatCrtO
set_option linter.unusedSimpArgs false
set_option linter.unusedVariables false
set_option maxRecDepth 100000
set_option maxHeartbeats 4000000
namespace Go.Pvm.S
open Go.Pvm Go.Proofs
theorem zse (s : List Spn) : jk [] s = [] := by
 unfold jk
 split
 ·show zji (([] : List Int).mergeSort fun x y => decide (x ≤ y)) = []
  rw [List.mergeSort_nil]
  rfl
 ·rfl
theorem z8m (a : Spn) : zch Tryz.prog .neq 37 (.agg a.e) (.agg a.e) = some (.bool false) := by
 have h : zch Tryz.prog .neq 37 (.agg a.e) (.agg a.e) = Option.map (fun b => PV.bool !b) (if (a.t == a.t) = true then (if (a.b == a.b) = true then (if (a.c == a.c) = true then some true else some false) else some false) else some false) := by kernel_rfl
 rw [h,beq_self_eq_true,beq_self_eq_true,beq_self_eq_true]
 rfl
theorem zyg (c : Ct) (hc : c.Sm) : yo Cω 16 [.agg c.c,.agg c.c] = some (.bool true) := by
 have ev := z92 Cω Lω c.k (c.s.map Spn.e) (c.d.map ie) (c.l.map Lk.e) (c.e.map Ed.e) c.k (c.s.map Spn.e) (c.d.map ie) (c.l.map Lk.e) (c.e.map Ed.e)
 have q1 := z7i c.d c.d (by have := hc.d; omega)
 have q2 := zsp c.l c.l (by have := hc.l; omega)
 have q3 := z6c c.e c.e (by have := hc.e; omega)
 have lp := ji (f := 16) (cd := zli) (n0 := 0) (fun i (_ : Unit) => zkq (i : Nat)) (fun _ _ => [.box true 28 c.c,.box true 28 c.c]) c.s (fun _ _ p => p)
  (fun _ => (.exit 0,mkS 58 [(2,.ref 0 0 0),(3,.ref 1 0 0)],[.box true 28 c.c,.box true 28 c.c])) (fun i p => True) (fun i a p hg hi _ => by
   have hs := hc.s
   refine ⟨trivial,?_⟩
   have hdi : decide (((i : Nat) : Int) < ((c.s.length : Nat) : Int)) = true := by rw [decide_eq_true_eq]; omega
   have n1 := z8m a
   unfold Spn.e at n1
   unfold Ct.c
   rw [zwc]
   simp only [hdi,List.length_map,nn,Int.toNat_natCast,zb,y7 hg,Spn.e,zw,ze,ya,yk,yl,zu,zt,zf,zq,zx,zy,za,zh,zl,z8,yn,zi,zd,zm,z6,zg,zk,zj,zp,yh,zr,yi,ym,yf,yg,yb,zn,ye,zo,yd,yc,yp,zb,z7,yj,if_true,n1,Bool.false_eq_true,if_false,yr (show i < 4611686018427387904 by omega)]) (fun p _ => by
   unfold Ct.c
   rw [zwc]; simp only [List.length_map,Int.lt_irrefl,decide_false,Bool.false_eq_true,if_false]) () trivial
 rw [zx8] at lp
 unfold Ct.c at lp
 have nbe : ∀ n : Int,(n != n) = false := fun n => bne_self_eq_false n
 simp only [nbe,Bool.false_eq_true,if_false,q1,decide_true,Bool.not_true,lp,zw,ze,ya,yk,yl,zu,zt,zf,zq,zx,zy,za,zh,zl,z8,yn,zi,zd,zm,z6,zg,zk,zj,zp,yh,zr,yi,ym,yf,yg,yb,zn,ye,zo,yd,yc,yp,zb,z7,yj,y4,y2,ne_eq,not_false_eq_true,Nat.reduceLT,Nat.reduceEqDiff,q2,q3,if_true] at ev
 exact pc ev rfl
theorem ya1 (A : Rws) (i e : Int) (x : Ct) (hx : x.Sm) (d t : Int) (a b : Nat) :
  Lω 5 jn 0 (jm A i e false 0) [.box true 28 [.int .i64 x.k,.psl false (x.s.map Spn.e),.psl false (x.d.map ie),.psl false (x.l.map Lk.e),.psl false (x.e.map Ed.e)],.box true 31 [.int .i64 d,.int .i64 t,.float .f64 a,.float .f64 b]] =
  some (.exit 3,mkS 180 [(0,.psl false A),(3,.ref 0 0 0),(4,.int .i64 i),(5,.ref 1 0 0),(7,.int .i64 e),(8,.bool (x.s.any fun a => a.c == 0))],[.box true 28 [.int .i64 x.k,.psl false (x.s.map Spn.e),.psl false (x.d.map ie),.psl false (x.l.map Lk.e),.psl false (x.e.map Ed.e)],.box true 31 [.int .i64 d,.int .i64 t,.float .f64 a,.float .f64 b]]) := by
 have hs := hx.s
 have lp := ji (f := 5) (cd := jn) (n0 := 0) (fun j (l : Bool) => jm A i e l (j : Nat)) (fun _ _ => [.box true 28 [.int .i64 x.k,.psl false (x.s.map Spn.e),.psl false (x.d.map ie),.psl false (x.l.map Lk.e),.psl false (x.e.map Ed.e)],.box true 31 [.int .i64 d,.int .i64 t,.float .f64 a,.float .f64 b]]) x.s (fun _ a l => l || a.c == 0)
  (fun l => (.exit 3,mkS 180 [(0,.psl false A),(3,.ref 0 0 0),(4,.int .i64 i),(5,.ref 1 0 0),(7,.int .i64 e),(8,.bool l)],[.box true 28 [.int .i64 x.k,.psl false (x.s.map Spn.e),.psl false (x.d.map ie),.psl false (x.l.map Lk.e),.psl false (x.e.map Ed.e)],.box true 31 [.int .i64 d,.int .i64 t,.float .f64 a,.float .f64 b]])) (fun j l => True) (fun j a l hg hj _ => by
   refine ⟨trivial,?_⟩
   have hdj : decide (((j : Nat) : Int) < ((x.s.length : Nat) : Int)) = true := by rw [decide_eq_true_eq]; omega
   rw [zvt]
   cases l with
   | true => simp only [hdj,List.length_map,if_true,Bool.true_or,yr (show j < 4611686018427387904 by omega)]
   | false => simp only [hdj,List.length_map,nn,Int.toNat_natCast,zb,y7 hg,Spn.e,zw,ze,ya,yk,yl,zu,zt,zf,zq,zx,zy,za,zh,zl,z8,yn,zi,zd,zm,z6,zg,zk,zj,zp,yh,zr,yi,ym,yf,yg,yb,zn,ye,zo,yd,yc,yp,zb,z7,yj,if_true,Bool.false_or,Bool.false_eq_true,if_false,yr (show j < 4611686018427387904 by omega)]) (fun l _ => by
   rw [zvt]; simp only [List.length_map,Int.lt_irrefl,decide_false,Bool.false_eq_true,if_false]) false trivial
 rw [zx8] at lp
 rw [lp]
 have key : ∀ (s : List Spn) (j : Nat) (l : Bool),y5 (fun (_ : Nat) (a : Spn) (l : Bool) => l || a.c == 0) s j l = (l || s.any fun a => a.c == 0) := fun s => by
  induction s with
  | nil => intro j l; show l = (l || false); rw [Bool.or_false]
  | cons a s ih => intro j l; rw [jb,ih,List.any_cons,Bool.or_assoc]
 rw [key,Bool.false_or]
noncomputable def z4u (A : Rws) (i d t : Int) (a b : Nat) (c0 : Int) (c1 c2 c3 c4 : Rws) (k : Int) (x1 x2 x3 x4 : Rws) (e : Int) : Option (Ex × List PV × List KO) :=
 (if (decide (k < c0)) = true then (some (.ret,mkS 180 [(2,(.bool false))],[])) else (if (decide (k > (IntKind.wrap .i64 (c0 + 1)))) = true then (some (.ret,mkS 180 [(2,(.bool false))],[])) else ((Lω 5 jn 0 (jm A i e false 0) [(.box true 28 [(.int .i64 k),(.psl false x1),(.psl false x2),(.psl false x3),(.psl false x4)]),(.box true 31 [(.int .i64 d),(.int .i64 t),(.float .f64 a),(.float .f64 b)])]).bind fun x426 => j8 x426.1 (fun i426 => qj (gS x426 0) fun l427 => xo 0 0 0 (gS x426 3) (asInt .i64 (gS x426 4) fun n428 => xo 1 0 0 (gS x426 5) (asInt .i64 (gS x426 7) fun n429 => asBool (gS x426 8) fun b430 => qy true 28 x426.2.2 fun c431 r431 => yv .i64 c431 fun n432 r432 => y6 r432 fun l433 r433 => y6 r433 fun l434 r434 => y6 r434 fun l435 r435 => y6 r435 fun l436 r436 => yq r436 (qy true 31 r431 fun c437 r437 => yv .i64 c437 fun n438 r438 => yv .i64 r438 fun n439 r439 => ke .f64 r439 fun n440 r440 => ke .f64 r440 fun n441 r441 => yq r441 (yt r437 (if i426 = 3 then ((yo Cω 17 [(.psl false l436),(.psl false l433)]).bind fun v442 => qj v442 fun l443 => if (((List.length l443 : Nat) : Int) != 0) = true then (some (.ret,mkS 180 [(2,(.bool false))],[])) else (if (!b430) = true then (if ((IntKind.wrap .i64 ((IntKind.wrap .i64 ((IntKind.wrap .i64 (((List.length l433 : Nat) : Int) + ((List.length l435 : Nat) : Int))) + ((List.length l436 : Nat) : Int))) + ((List.length l434 : Nat) : Int))) != 0) = true then (if (decide (n438 ≥ 4)) = true then (if (n429 != 3) = true then (some (.ret,mkS 180 [(2,(.bool false))],[])) else (Lω 5 yz 0 (y3 l427 (IntKind.wrap .i64 (n428 + 1))) [(.box true 28 [(.int .i64 n432),(.psl false l433),(.psl false l434),(.psl false l435),(.psl false l436)])])) else (Lω 5 yz 0 (y3 l427 (IntKind.wrap .i64 (n428 + 1))) [(.box true 28 [(.int .i64 n432),(.psl false l433),(.psl false l434),(.psl false l435),(.psl false l436)])])) else (Lω 5 yz 0 (y3 l427 (IntKind.wrap .i64 (n428 + 1))) [(.box true 28 [(.int .i64 n432),(.psl false l433),(.psl false l434),(.psl false l435),(.psl false l436)])])) else (Lω 5 yz 0 (y3 l427 (IntKind.wrap .i64 (n428 + 1))) [(.box true 28 [(.int .i64 n432),(.psl false l433),(.psl false l434),(.psl false l435),(.psl false l436)])]))) else (if i426 = 1 then (Lω 5 yz 0 (mkS 180 [(0,(.psl false l427)),(3,(.ref 0 0 0)),(4,(.int .i64 (IntKind.wrap .i64 (n428 + 1))))]) [(.box true 28 [(.int .i64 n432),(.psl false l433),(.psl false l434),(.psl false l435),(.psl false l436)])]) else (some ((.exit i426),mkS 180 [],[]))))))))) (none))))
noncomputable def tlS (A : Rws) (i d t : Int) (a b : Nat) (c0 : Int) (c1 c2 c3 c4 : Rws) (k : Int) (x1 x2 x3 x4 : Rws) (e : Int) : Option (Ex × List PV × List KO) :=
 if (e != 0) = true then (if (e != 14) = true then ((yo Cω 16 [(.agg [(.int .i64 k),(.psl false x1),(.psl false x2),(.psl false x3),(.psl false x4)]),(.agg [(.int .i64 c0),(.psl false c1),(.psl false c2),(.psl false c3),(.psl false c4)])]).bind fun v => asBool v fun q => if (!q) = true then (some (.ret,mkS 180 [(2,(.bool false))],[])) else z4u A i d t a b c0 c1 c2 c3 c4 k x1 x2 x3 x4 e) else z4u A i d t a b c0 c1 c2 c3 c4 k x1 x2 x3 x4 e) else z4u A i d t a b c0 c1 c2 c3 c4 k x1 x2 x3 x4 e
theorem z4t (A : Rws) (i : Nat) (h80 : i < 80) (s : St) (c : Ct) (r : Ct × Int) (hc : CtOk c) (hr : Res c s.d r) : z4u A (i : Nat) s.d s.t s.a.toNat s.b.toNat c.k (c.s.map Spn.e) (c.d.map ie) (c.l.map Lk.e) (c.e.map Ed.e) r.1.k (r.1.s.map Spn.e) (r.1.d.map ie) (r.1.l.map Lk.e) (r.1.e.map Ed.e) r.2 = Lω 5 yz 0 (y3 A ((i + 1 : Nat) : Int)) [.box true 28 r.1.c] := by
 have sm := hr.ok.Sm
 have k1 := hr.k1
 have k2 := hr.k0
 have k3 := hc.k1
 have k4 := hc.k0
 have wi := yr (show i < 4611686018427387904 by omega)
 have wk : IntKind.wrap .i64 (c.k + 1) = c.k + 1 := qz (by omega) (by omega)
 have el := (mayE_iff.1 hr.ok.e).1
 have vi := z41 r.1.e r.1.s el (by have := sm.s; omega)
 rw [← zyb hr.ok.e hr.ok.s,hr.vi,List.map_nil] at vi
 have z0 : ((((List.length ([] : List (List PV))) : Nat) : Int) != 0) = false := rfl
 unfold z4u
 rw [if_neg (show ¬ decide (r.1.k < c.k) = true by rw [decide_eq_true_eq]; omega),wk,if_neg (show ¬ decide (r.1.k > c.k + 1) = true by rw [decide_eq_true_eq]; omega),ya1 A i r.2 r.1 sm s.d s.t s.a.toNat s.b.toNat]
 simp only [zw,ze,ya,yk,yl,zu,zt,zf,zq,zx,zy,za,zh,zl,z8,yn,zi,zd,zm,z6,zg,zk,zj,zp,yh,zr,yi,ym,yf,yg,yb,zn,ye,zo,yd,yc,yp,zb,z7,yj,y4,y2,ne_eq,not_false_eq_true,Nat.reduceLT,Nat.reduceEqDiff,if_true,vi,z0,Bool.false_eq_true,if_false,wi]
 have out := hr.out
 unfold dead at out
 cases hd : r.1.s.any fun a => a.c == 0 with
 | true => rfl
 | false =>
   by_cases d4 : s.d ≥ 4
   ·by_cases e3 : r.2 = 3
    ·simp only [Bool.not_false,if_true,decide_eq_true d4,e3,bne_self_eq_false,Bool.false_eq_true,if_false,ite_self]
     rfl
    ·obtain ⟨o1,o2,o3,o4⟩ := out hd d4 e3
     have zz : (IntKind.wrap .i64 (IntKind.wrap .i64 (IntKind.wrap .i64 ((((List.length ([] : List (List PV))) : Nat) : Int) + (((List.length ([] : List (List PV))) : Nat) : Int)) + (((List.length ([] : List (List PV))) : Nat) : Int)) + (((List.length ([] : List (List PV))) : Nat) : Int)) != 0) = false := by decide
     unfold Ct.c
     simp only [o1,o2,o3,o4,List.map_nil,Bool.not_false,if_true,zz,Bool.false_eq_true,if_false]
   ·simp only [Bool.not_false,if_true,decide_eq_false d4,Bool.false_eq_true,if_false,ite_self]
    rfl
theorem zsg (A : Rws) (i : Nat) (h80 : i < 80) (s : St) (c : Ct) (r : Ct × Int) (hc : CtOk c) (hr : Res c s.d r) : tlS A (i : Nat) s.d s.t s.a.toNat s.b.toNat c.k (c.s.map Spn.e) (c.d.map ie) (c.l.map Lk.e) (c.e.map Ed.e) r.1.k (r.1.s.map Spn.e) (r.1.d.map ie) (r.1.l.map Lk.e) (r.1.e.map Ed.e) r.2 = Lω 5 yz 0 (y3 A ((i + 1 : Nat) : Int)) [.box true 28 r.1.c] := by
 have h2 := z4t A i h80 s c r hc hr
 unfold tlS
 by_cases e0 : r.2 = 0
 ·rw [if_neg (show ¬ (r.2 != 0) = true from fun h => (bne_iff_ne.1 h) e0)]
  exact h2
 rw [if_pos (bne_iff_ne.2 e0)]
 by_cases e14 : r.2 = 14
 ·rw [if_neg (show ¬ (r.2 != 14) = true from fun h => (bne_iff_ne.1 h) e14)]
  exact h2
 rw [if_pos (bne_iff_ne.2 e14)]
 have sm := zyg c hc.Sm
 unfold Ct.c at sm
 have e := hr.same e0 e14
 rw [e] at h2 ⊢
 rw [sm,zb,ze,if_neg (by simp)]
 exact h2
noncomputable def sfR (s : St) (c : Ct) : Ct × Int :=
 if s.d = 0 then zmj c s.t else if s.d = 1 then rdC c s.t [] (fun l => zg4 l s.t s.a) else if s.d = 2 then rdC c s.t [] (fun l => zi8 l s.t s.a s.b) else if s.d = 3 then wrC c s.t s.a else if s.d = 4 then zmi c s.t else ztz c s.t
noncomputable def sfG (s : St) (c : Ct) : Ct := if s.t < 1 ∨ s.t > 12 then c else (sfR s c).1
theorem zdi {c : Ct} (h : CtOk c) (hv : jk c.e c.s = []) (hk : c.k ≤ 2147483643) (s : St) : Res c s.d (sfR s c) := by
 unfold sfR
 split
 ·exact z39 h hv _ (by omega)
 split
 ·exact z1u h hv _ (fun ok hin => ⟨zrn ok.l hin _,fun v hv => zrm hv⟩) (by omega)
 split
 ·exact z1u h hv _ (fun ok hin => ⟨zqx ok.l hin _ _,fun v hv => zqw hv⟩) (by omega)
 split
 ·exact z4o h hv _ _ (by omega)
 split
 ·exact z3y h hv hk _ _
 ·exact z4e h hv _ _
structure SfInv (i : Nat) (c : Ct) : Prop where
 ok : CtOk c
 vi : jk c.e c.s = []
 k : c.k ≤ i
theorem SfInv.step {i : Nat} {c : Ct} (h : SfInv i c) (hi : i < 80) (s : St) : SfInv (i + 1) (sfG s c) := by
 have hk := h.k
 unfold sfG
 split
 ·exact ⟨h.ok,h.vi,by omega⟩
 ·have r := zdi h.ok h.vi (by omega) s
  exact ⟨r.ok,r.vi,by have := r.k1; omega⟩
theorem yak (A : Rws) (i : Nat) (s : St) (c : Ct) (hp : SfInv i c) (hg : A[i]? = some s.e) (h80 : i < 80) (hl : A.length < 4611686018427387904) (t12 : s.t < 1 ∨ s.t > 12) :
  yy cfg y9 Cω Lω 5 yz 0 (y3 A (i : Nat)) [.box true 28 c.c] = Lω 5 yz 0 (y3 A ((i + 1 : Nat) : Int)) [.box true 28 (sfG s c).c] := by
 have hil : i < A.length := (List.getElem?_eq_some_iff.1 hg).1
 have d1 : decide (((i : Nat) : Int) < ((A.length : Nat) : Int)) = true := by rw [decide_eq_true_eq]; omega
 have d2 : decide (((i : Nat) : Int) < 80) = true := by rw [decide_eq_true_eq]; omega
 have sm := hp.ok.Sm
 have wi := yr (show i < 4611686018427387904 by omega)
 have hk := hp.k
 rw [show sfG s c = c from if_pos t12]
 unfold Ct.c
 rw [zfu,if_pos d1,if_pos d2,if_pos (nn i),Int.toNat_natCast,hg,zb,St.e,zp,zp,zr,zr,zq]
 by_cases t1 : s.t < 1
 ·rw [if_pos (decide_eq_true t1),wi]
 ·rw [if_neg (by rw [decide_eq_true_eq]; exact t1),if_pos (decide_eq_true (t12.resolve_left t1)),wi]
theorem ya7 (A : Rws) (i : Nat) (s : St) (c : Ct) (hp : SfInv i c) (hg : A[i]? = some s.e) (h80 : i < 80) (hl : A.length < 4611686018427387904) (t1 : ¬ s.t < 1) (t2 : ¬ s.t > 12) (h : s.d = 0) :
  yy cfg y9 Cω Lω 5 yz 0 (y3 A (i : Nat)) [.box true 28 c.c] = Lω 5 yz 0 (y3 A ((i + 1 : Nat) : Int)) [.box true 28 (sfG s c).c] := by
 have hil : i < A.length := (List.getElem?_eq_some_iff.1 hg).1
 have d1 : decide (((i : Nat) : Int) < ((A.length : Nat) : Int)) = true := by rw [decide_eq_true_eq]; omega
 have d2 : decide (((i : Nat) : Int) < 80) = true := by rw [decide_eq_true_eq]; omega
 have sm := hp.ok.Sm
 have wi := yr (show i < 4611686018427387904 by omega)
 have hk := hp.k
 have rr := zdi hp.ok hp.vi (by omega) s
 have e1 : sfR s c = zmj c s.t := by
  unfold sfR
  rw [if_pos h]
 rw [show sfG s c = (sfR s c).1 from if_neg (by rintro (h | h); exact t1 h; exact t2 h)]
 have i1 := zkx c s.t sm
 have tt := zsg A i h80 s c (sfR s c) hp.ok rr
 rw [← e1] at i1
 generalize sfR s c = r at i1 tt ⊢
 unfold Ct.c at i1 tt
 unfold Ct.c
 rw [zfu,if_pos d1,if_pos d2,if_pos (nn i),Int.toNat_natCast,hg,zb,St.e,zp,zp,zr,zr,zq]
 rw [if_neg (by rw [decide_eq_true_eq]; exact t1),if_neg (by rw [decide_eq_true_eq]; exact t2),if_pos (beq_iff_eq.2 h),i1,zb,zt,zf,zu,zp,yi,yi,yi,yi,zq,zp,zq]
 exact tt
theorem ya5 (A : Rws) (i : Nat) (s : St) (c : Ct) (hp : SfInv i c) (hg : A[i]? = some s.e) (h80 : i < 80) (hl : A.length < 4611686018427387904) (t1 : ¬ s.t < 1) (t2 : ¬ s.t > 12) (h : s.d = 1) :
  yy cfg y9 Cω Lω 5 yz 0 (y3 A (i : Nat)) [.box true 28 c.c] = Lω 5 yz 0 (y3 A ((i + 1 : Nat) : Int)) [.box true 28 (sfG s c).c] := by
 have hil : i < A.length := (List.getElem?_eq_some_iff.1 hg).1
 have d1 : decide (((i : Nat) : Int) < ((A.length : Nat) : Int)) = true := by rw [decide_eq_true_eq]; omega
 have d2 : decide (((i : Nat) : Int) < 80) = true := by rw [decide_eq_true_eq]; omega
 have sm := hp.ok.Sm
 have wi := yr (show i < 4611686018427387904 by omega)
 have hk := hp.k
 have rr := zdi hp.ok hp.vi (by omega) s
 have e1 : sfR s c = rdC c s.t [] (fun l => zg4 l s.t s.a) := by
  unfold sfR
  rw [if_neg (show ¬ s.d = 0 by omega),if_pos h]
 rw [show sfG s c = (sfR s c).1 from if_neg (by rintro (h | h); exact t1 h; exact t2 h)]
 have i1 := zuk c sm s.t s.a [] (by decide)
 have tt := zsg A i h80 s c (sfR s c) hp.ok rr
 rw [← e1] at i1
 generalize sfR s c = r at i1 tt ⊢
 unfold Ct.c at i1 tt
 rw [List.map_nil] at i1
 unfold Ct.c
 rw [zfu,if_pos d1,if_pos d2,if_pos (nn i),Int.toNat_natCast,hg,zb,St.e,zp,zp,zr,zr,zq]
 rw [if_neg (by rw [decide_eq_true_eq]; exact t1),if_neg (by rw [decide_eq_true_eq]; exact t2),if_neg (show ¬ (s.d == 0) = true by rw [h]; decide),if_pos (beq_iff_eq.2 h),i1,zb,zt,zf,zu,zp,yi,yi,yi,yi,zq,zp,zq]
 exact tt
theorem ya4 (A : Rws) (i : Nat) (s : St) (c : Ct) (hp : SfInv i c) (hg : A[i]? = some s.e) (h80 : i < 80) (hl : A.length < 4611686018427387904) (t1 : ¬ s.t < 1) (t2 : ¬ s.t > 12) (h : s.d = 2) :
  yy cfg y9 Cω Lω 5 yz 0 (y3 A (i : Nat)) [.box true 28 c.c] = Lω 5 yz 0 (y3 A ((i + 1 : Nat) : Int)) [.box true 28 (sfG s c).c] := by
 have hil : i < A.length := (List.getElem?_eq_some_iff.1 hg).1
 have d1 : decide (((i : Nat) : Int) < ((A.length : Nat) : Int)) = true := by rw [decide_eq_true_eq]; omega
 have d2 : decide (((i : Nat) : Int) < 80) = true := by rw [decide_eq_true_eq]; omega
 have sm := hp.ok.Sm
 have wi := yr (show i < 4611686018427387904 by omega)
 have hk := hp.k
 have rr := zdi hp.ok hp.vi (by omega) s
 have e1 : sfR s c = rdC c s.t [] (fun l => zi8 l s.t s.a s.b) := by
  unfold sfR
  rw [if_neg (show ¬ s.d = 0 by omega),if_neg (show ¬ s.d = 1 by omega),if_pos h]
 rw [show sfG s c = (sfR s c).1 from if_neg (by rintro (h | h); exact t1 h; exact t2 h)]
 have i1 := z40 c sm s.t s.a s.b [] (by decide)
 have tt := zsg A i h80 s c (sfR s c) hp.ok rr
 rw [← e1] at i1
 generalize sfR s c = r at i1 tt ⊢
 unfold Ct.c at i1 tt
 rw [List.map_nil] at i1
 unfold Ct.c
 rw [zfu,if_pos d1,if_pos d2,if_pos (nn i),Int.toNat_natCast,hg,zb,St.e,zp,zp,zr,zr,zq]
 rw [if_neg (by rw [decide_eq_true_eq]; exact t1),if_neg (by rw [decide_eq_true_eq]; exact t2),if_neg (show ¬ (s.d == 0) = true by rw [h]; decide),if_neg (show ¬ (s.d == 1) = true by rw [h]; decide),if_pos (beq_iff_eq.2 h),i1,zb,zt,zf,zu,zp,yi,yi,yi,yi,zq,zp,zq]
 exact tt
theorem ya3 (A : Rws) (i : Nat) (s : St) (c : Ct) (hp : SfInv i c) (hg : A[i]? = some s.e) (h80 : i < 80) (hl : A.length < 4611686018427387904) (t1 : ¬ s.t < 1) (t2 : ¬ s.t > 12) (h : s.d = 3) :
  yy cfg y9 Cω Lω 5 yz 0 (y3 A (i : Nat)) [.box true 28 c.c] = Lω 5 yz 0 (y3 A ((i + 1 : Nat) : Int)) [.box true 28 (sfG s c).c] := by
 have hil : i < A.length := (List.getElem?_eq_some_iff.1 hg).1
 have d1 : decide (((i : Nat) : Int) < ((A.length : Nat) : Int)) = true := by rw [decide_eq_true_eq]; omega
 have d2 : decide (((i : Nat) : Int) < 80) = true := by rw [decide_eq_true_eq]; omega
 have sm := hp.ok.Sm
 have wi := yr (show i < 4611686018427387904 by omega)
 have hk := hp.k
 have rr := zdi hp.ok hp.vi (by omega) s
 have e1 : sfR s c = wrC c s.t s.a := by
  unfold sfR
  rw [if_neg (show ¬ s.d = 0 by omega),if_neg (show ¬ s.d = 1 by omega),if_neg (show ¬ s.d = 2 by omega),if_pos h]
 rw [show sfG s c = (sfR s c).1 from if_neg (by rintro (h | h); exact t1 h; exact t2 h)]
 have i1 := zow c sm s.t s.a
 have tt := zsg A i h80 s c (sfR s c) hp.ok rr
 rw [← e1] at i1
 generalize sfR s c = r at i1 tt ⊢
 unfold Ct.c at i1 tt
 unfold Ct.c
 rw [zfu,if_pos d1,if_pos d2,if_pos (nn i),Int.toNat_natCast,hg,zb,St.e,zp,zp,zr,zr,zq]
 rw [if_neg (by rw [decide_eq_true_eq]; exact t1),if_neg (by rw [decide_eq_true_eq]; exact t2),if_neg (show ¬ (s.d == 0) = true by rw [h]; decide),if_neg (show ¬ (s.d == 1) = true by rw [h]; decide),if_neg (show ¬ (s.d == 2) = true by rw [h]; decide),if_pos (beq_iff_eq.2 h),i1,zb,zt,zf,zu,zp,yi,yi,yi,yi,zq,zp,zq]
 exact tt
theorem ya6 (A : Rws) (i : Nat) (s : St) (c : Ct) (hp : SfInv i c) (hg : A[i]? = some s.e) (h80 : i < 80) (hl : A.length < 4611686018427387904) (t1 : ¬ s.t < 1) (t2 : ¬ s.t > 12) (h : s.d = 4) :
  yy cfg y9 Cω Lω 5 yz 0 (y3 A (i : Nat)) [.box true 28 c.c] = Lω 5 yz 0 (y3 A ((i + 1 : Nat) : Int)) [.box true 28 (sfG s c).c] := by
 have hil : i < A.length := (List.getElem?_eq_some_iff.1 hg).1
 have d1 : decide (((i : Nat) : Int) < ((A.length : Nat) : Int)) = true := by rw [decide_eq_true_eq]; omega
 have d2 : decide (((i : Nat) : Int) < 80) = true := by rw [decide_eq_true_eq]; omega
 have sm := hp.ok.Sm
 have wi := yr (show i < 4611686018427387904 by omega)
 have hk := hp.k
 have rr := zdi hp.ok hp.vi (by omega) s
 have e1 : sfR s c = zmi c s.t := by
  unfold sfR
  rw [if_neg (show ¬ s.d = 0 by omega),if_neg (show ¬ s.d = 1 by omega),if_neg (show ¬ s.d = 2 by omega),if_neg (show ¬ s.d = 3 by omega),if_pos h]
 rw [show sfG s c = (sfR s c).1 from if_neg (by rintro (h | h); exact t1 h; exact t2 h)]
 have i1 := zku c s.t sm
 have tt := zsg A i h80 s c (sfR s c) hp.ok rr
 rw [← e1] at i1
 generalize sfR s c = r at i1 tt ⊢
 unfold Ct.c at i1 tt
 unfold Ct.c
 rw [zfu,if_pos d1,if_pos d2,if_pos (nn i),Int.toNat_natCast,hg,zb,St.e,zp,zp,zr,zr,zq]
 rw [if_neg (by rw [decide_eq_true_eq]; exact t1),if_neg (by rw [decide_eq_true_eq]; exact t2),if_neg (show ¬ (s.d == 0) = true by rw [h]; decide),if_neg (show ¬ (s.d == 1) = true by rw [h]; decide),if_neg (show ¬ (s.d == 2) = true by rw [h]; decide),if_neg (show ¬ (s.d == 3) = true by rw [h]; decide),if_pos (beq_iff_eq.2 h),i1,zb,zt,zf,zu,zp,yi,yi,yi,yi,zq,zp,zq]
 exact tt
theorem ya8 (A : Rws) (i : Nat) (s : St) (c : Ct) (hp : SfInv i c) (hg : A[i]? = some s.e) (h80 : i < 80) (hl : A.length < 4611686018427387904) (t1 : ¬ s.t < 1) (t2 : ¬ s.t > 12) (n0 : ¬ s.d = 0) (n1 : ¬ s.d = 1) (n2 : ¬ s.d = 2) (n3 : ¬ s.d = 3) (n4 : ¬ s.d = 4) :
  yy cfg y9 Cω Lω 5 yz 0 (y3 A (i : Nat)) [.box true 28 c.c] = Lω 5 yz 0 (y3 A ((i + 1 : Nat) : Int)) [.box true 28 (sfG s c).c] := by
 have hil : i < A.length := (List.getElem?_eq_some_iff.1 hg).1
 have d1 : decide (((i : Nat) : Int) < ((A.length : Nat) : Int)) = true := by rw [decide_eq_true_eq]; omega
 have d2 : decide (((i : Nat) : Int) < 80) = true := by rw [decide_eq_true_eq]; omega
 have sm := hp.ok.Sm
 have wi := yr (show i < 4611686018427387904 by omega)
 have hk := hp.k
 have rr := zdi hp.ok hp.vi (by omega) s
 have e1 : sfR s c = ztz c s.t := by
  unfold sfR
  rw [if_neg n0,if_neg n1,if_neg n2,if_neg n3,if_neg n4]
 rw [show sfG s c = (sfR s c).1 from if_neg (by rintro (h | h); exact t1 h; exact t2 h)]
 have i1 := z2r c s.t sm
 have tt := zsg A i h80 s c (sfR s c) hp.ok rr
 rw [← e1] at i1
 generalize sfR s c = r at i1 tt ⊢
 unfold Ct.c at i1 tt
 unfold Ct.c
 rw [zfu,if_pos d1,if_pos d2,if_pos (nn i),Int.toNat_natCast,hg,zb,St.e,zp,zp,zr,zr,zq]
 rw [if_neg (by rw [decide_eq_true_eq]; exact t1),if_neg (by rw [decide_eq_true_eq]; exact t2),if_neg (show ¬ (s.d == 0) = true from fun h => n0 (beq_iff_eq.1 h)),if_neg (show ¬ (s.d == 1) = true from fun h => n1 (beq_iff_eq.1 h)),if_neg (show ¬ (s.d == 2) = true from fun h => n2 (beq_iff_eq.1 h)),if_neg (show ¬ (s.d == 3) = true from fun h => n3 (beq_iff_eq.1 h)),if_neg (show ¬ (s.d == 4) = true from fun h => n4 (beq_iff_eq.1 h)),i1,zb,zt,zf,zu,zp,yi,yi,yi,yi,zq,zp,zq]
 exact tt
theorem z54 (l : List St) (hl : l.length < 4611686018427387904) : Lω 5 yz 0 (y3 (l.map St.e) 0) [.box true 28 zc.c] = some (.exit 0,mkS 180 [],[]) := by
 have := ji (f := 5) (cd := yz) (n0 := 0) (fun i (_ : Ct) => y3 (l.map St.e) (i : Nat)) (fun _ c => [.box true 28 c.c]) (l.take 80) (fun _ s c => sfG s c)
  (fun _ => (.exit 0,mkS 180 [],[])) (fun i c => SfInv i c) (fun i s c hg hi hp => by
   have hi80 : i < 80 := by rw [List.length_take] at hi; omega
   rw [List.getElem?_take_of_lt hi80] at hg
   refine ⟨hp.step hi80 s,?_⟩
   have hg' : (l.map St.e)[i]? = some s.e := y7 hg
   have hl' : (l.map St.e).length < 4611686018427387904 := by rw [List.length_map]; exact hl
   by_cases t1 : s.t < 1
   ·exact yak _ i s c hp hg' hi80 hl' (.inl t1)
   by_cases t2 : s.t > 12
   ·exact yak _ i s c hp hg' hi80 hl' (.inr t2)
   by_cases n0 : s.d = 0
   ·exact ya7 _ i s c hp hg' hi80 hl' t1 t2 n0
   by_cases n1 : s.d = 1
   ·exact ya5 _ i s c hp hg' hi80 hl' t1 t2 n1
   by_cases n2 : s.d = 2
   ·exact ya4 _ i s c hp hg' hi80 hl' t1 t2 n2
   by_cases n3 : s.d = 3
   ·exact ya3 _ i s c hp hg' hi80 hl' t1 t2 n3
   by_cases n4 : s.d = 4
   ·exact ya6 _ i s c hp hg' hi80 hl' t1 t2 n4
   exact ya8 _ i s c hp hg' hi80 hl' t1 t2 n0 n1 n2 n3 n4) (fun p hp => by
   unfold Ct.c
   rw [zfu,List.length_map]
   by_cases h : l.length ≤ 80
   ·rw [List.take_of_length_le h,if_neg (by rw [decide_eq_true_eq]; omega)]
   ·rw [if_pos (by rw [decide_eq_true_eq,List.length_take]; omega),if_neg (by rw [decide_eq_true_eq,List.length_take]; omega)]) zc ⟨zsc,zse _,Int.le_refl _⟩
 rw [zx8] at this
 exact this
theorem lawSafe (l : List St) (hl : l.length < 4611686018427387904) : yo Cω 5 [.psl false (l.map St.e)] = some (.bool true) := by
 have ev := ybc Cω Lω (l.map St.e)
 have i1' : Lω 5 yz 0 (y3 (l.map St.e) 0) [.box true 28 [.int .i64 0,.psl false [],.psl false [],.psl false [],.psl false []]] = _ := z54 l hl
 rw [i1'] at ev
 simp only [zw,ze,ya,yk,yl,zu,zt,zf,zq,zx,zy,za,zh,zl,z8,yn,zi,zd,zm,z6,zg,zk,zj,zp,yh,zr,yi,ym,yf,yg,yb,zn,ye,zo,yd,yc,yp,zb,z7,yj,if_true,zym] at ev
 exact pc ev rfl
end Go.Pvm.S
