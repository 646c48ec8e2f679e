/- Part of the proof: certifiers: each that began is known till it ends: what the statement comes to. -/
import Derived.Test.YtjfgklgcbogejaaGreatCrtJ
set_option linter.unusedSimpArgs false
set_option linter.unusedVariables false
set_option maxRecDepth 100000
set_option maxHeartbeats 4000000
namespace Go.Pvm.S
open Go.Pvm Go.Proofs
def lsO (p : Ct × List Int) : List KO := [.box true 28 p.1.c,.made true 1 (p.2.map ie)]
theorem zup (A : List (List PV)) (a5 : Int) (p : Ct × List Int) (hp : CtOk p.1) (hl : LiveSet p.1 p.2) (hn : p.2.length < 1000000) :
  Lω 3 xx 0 (xw A a5 0 0) (lsO p) = some (.exit 5,mkS 158 [(0,.psl false A),(3,.ref 0 0 0),(4,whole 1 1),(5,.int .i64 a5),(11,.int .i64 (p.2.length : Nat))],lsO p) := by
 have := jv (f := 3) (cd := xx) (n0 := 0) (fun i (n : Nat) => xw A a5 (n : Nat) (i : Nat)) (fun _ _ => lsO p) p.1.s (fun _ a n => if (a.c == 0) = true then n + 1 else n)
  (fun n => (.exit 5,mkS 158 [(0,.psl false A),(3,.ref 0 0 0),(4,whole 1 1),(5,.int .i64 a5),(11,.int .i64 (n : Nat))],lsO p)) (fun i n => n ≤ i) (fun i a n hg hi hni => by
   have hsl := hp.Sm.s
   refine ⟨by split <;> omega,?_⟩
   have hdi : decide (((i : Nat) : Int) < ((p.1.s.length : Nat) : Int)) = true := by rw [decide_eq_true_eq]; omega
   unfold lsO Ct.c
   rw [zuf]
   simp only [hdi,List.length_map,nn,Int.toNat_natCast,zb,y9 hg,Spn.e,zw,ze,z8,yj,yk,zu,zt,zf,zq,zx,zy,za,zh,zl,z7,ym,zi,zd,zm,zz,zg,zk,zj,zp,yg,zr,yh,yl,ye,yf,ya,zn,yd,zo,yc,yb,yp,zb,z6,yi,yr (show i < 4611686018427387904 by omega),yr (show n < 4611686018427387904 by omega),if_true]
   cases hq : (a.c == 0) with
   | false => rfl
   | true =>
     rw [beq_iff_eq] at hq
     have ham := List.mem_iff_getElem?.2 ⟨i,hg⟩
     have hlv : lv p.1 a.t = true := by
      rw [lv_iff,zbp hp.s ham]
      exact ⟨rfl,hq⟩
     have h1 : (p.2.any fun b => b == a.t) = true := List.any_eq_true.2 ⟨a.t,(hl.is a.t).2 hlv,by simp⟩
     have h2 : inn a.t = true := hp.inn hlv
     simp only [if_true,z5k p.2 a.t hn,h1,z5j,h2,zw,ze,z8,yj,yk,zu,zt,zf,zq,zx,zy,za,zh,zl,z7,ym,zi,zd,zm,zz,zg,zk,zj,zp,yg,zr,yh,yl,ye,yf,ya,zn,yd,zo,yc,yb,yp,zb,z6,yi,Bool.not_true,Bool.false_eq_true,if_false]) (fun n hn => by
   unfold lsO Ct.c
   rw [zuf]; simp only [List.length_map,Int.lt_irrefl,decide_false,Bool.false_eq_true,if_false]) 0 (Nat.le_refl _)
 rw [zwf] at this
 rw [this]
 have hc : xb (fun (_ : Nat) (a : Spn) (n : Nat) => if (a.c == 0) = true then n + 1 else n) p.1.s 0 0 = p.2.length := by
  rw [← hl.len hp]
  unfold z3d
  have key : ∀ (s : List Spn) (i n : Nat),xb (fun (_ : Nat) (a : Spn) (n : Nat) => if (a.c == 0) = true then n + 1 else n) s i n = n + (s.filter fun a => a.c == 0).length := fun s => by
   induction s with
   | nil => intro i n; rfl
   | cons a s ih =>
     intro i n
     rw [jf,ih]
     by_cases h : (a.c == 0) = true
     ·rw [if_pos h,List.filter_cons_of_pos (p := fun a : Spn => a.c == 0) h,List.length_cons]; omega
     ·rw [if_neg h,List.filter_cons_of_neg (p := fun a : Spn => a.c == 0) h]
  rw [key,Nat.zero_add]
 rw [hc]
theorem zzz (A : List (List PV)) (a5 : Int) (c x : Ct) (s : St) (l : List Int) (hl : l.length < 1000000) :
  Lω 3 kf 0 (kd A a5 0) [.box true 28 c.c,.made true 1 (l.map ie),.box true 31 s.e,.box true 28 x.c,.made true 1 []] =
  some (.exit 3,mkS 158 [(0,.psl false A),(3,.ref 0 0 0),(5,.int .i64 a5),(7,.ref 1 0 0),(9,whole 2 1)],[.box true 28 c.c,.box true 28 x.c,.made true 1 ((l.filter fun a => a != s.t).map ie)]) := by
 have := jv (f := 3) (cd := kf) (n0 := 0) (fun i (_ : List Int) => kd A a5 (i : Nat)) (fun _ r => [.box true 28 c.c,.made true 1 (l.map ie),.box true 31 s.e,.box true 28 x.c,.made true 1 (r.map ie)]) l (fun _ a r => if (a != s.t) = true then r ++ [a] else r)
  (fun r => (.exit 3,mkS 158 [(0,.psl false A),(3,.ref 0 0 0),(5,.int .i64 a5),(7,.ref 1 0 0),(9,whole 2 1)],[.box true 28 c.c,.box true 28 x.c,.made true 1 (r.map ie)])) (fun i r => r.length ≤ i) (fun i a r hg hi hr => by
   refine ⟨by split <;> (try simp only [List.length_append,List.length_cons,List.length_nil]) <;> omega,?_⟩
   have hdi : decide (((i : Nat) : Int) < ((l.length : Nat) : Int)) = true := by rw [decide_eq_true_eq]; omega
   have hdi2 : ((i : Nat) : Int) < ((l.length : Nat) : Int) := by omega
   have b1 : ((r.map ie).length + ([[.int .i64 a]] : List (List PV)).length) * 8 ≤ 140737488355328 := by rw [List.length_map]; exact rm8 (by omega)
   have m1 : r.map ie ++ ([[.int .i64 a]] : List (List PV)) = (r ++ [a]).map ie := zgl (f := ie) r a
   have hpt := ztt a
   simp only [ie] at hpt
   unfold Ct.c St.e
   rw [zug]
   simp only [hdi,hdi2,decide_true,List.length_map,nn,true_and,and_self,Int.toNat_natCast,zb,y9 hg,ie,hpt,zw,ze,z8,yj,yk,zu,zt,zf,zq,zx,zy,za,zh,zl,z7,ym,zi,zd,zm,zz,zg,zk,zj,zp,yg,zr,yh,yl,ye,yf,ya,zn,yd,zo,yc,yb,yp,zb,z6,yi,yr (show i < 4611686018427387904 by omega),if_true]
   cases hq : (a != s.t) with
   | false => rfl
   | true =>
     simp only [if_true]
     rw [List.length_map] at b1
     rw [if_pos b1,m1]) (fun r hr => by
   unfold Ct.c St.e
   rw [zug]; simp only [List.length_map,Int.lt_irrefl,decide_false,Bool.false_eq_true,if_false]) [] (Nat.le_refl _)
 rw [zwf] at this
 rw [List.map_nil] at this
 rw [this,ql,List.nil_append]
theorem z7n (A : List (List PV)) (i : Nat) (s : St) (p p' : Ct × List Int) (hp : LsInv i p) (nx : LsInv (i + 1) p') (hg : A[i]? = some s.e) (h80 : i < 80) (hl : A.length < 4611686018427387904) (hq : lsG s p = p') (t12 : s.t < 1 ∨ s.t > 12) :
  yx cfg xa Cω Lω 3 y4 0 (xp A (i : Nat)) (lsO p) = Lω 3 y4 0 (xp A ((i + 1 : Nat) : Int)) (lsO p') := by
 have hil : i < A.length := (List.getElem?_eq_some_iff.1 hg).1
 have d1 : decide (((i : Nat) : Int) < ((A.length : Nat) : Int)) = true := by rw [decide_eq_true_eq]; omega
 have d2 : decide (((i : Nat) : Int) < 80) = true := by rw [decide_eq_true_eq]; omega
 have sm := hp.ok.Sm
 have pl : p.2.length < 1000000 := by have := hp.n; omega
 have cnt := zup A (i : Nat) p' nx.ok nx.ls (by have := nx.n; omega)
 have nbe : ∀ n : Int,(n != n) = false := fun n => bne_self_eq_false n
 have wi := yr (show i < 4611686018427387904 by omega)
 unfold lsG at hq
 unfold lsO Ct.c at cnt ⊢
 rw [zjk,if_pos d1,if_pos d2,if_pos (nn i),Int.toNat_natCast,hg,zb,St.e,zp,zp,zr,zr,zq]
 rw [if_pos t12] at hq
 subst hq
 by_cases t1 : s.t < 1
 ·rw [if_pos (decide_eq_true t1),wi]
 ·rw [if_neg (by rw [decide_eq_true_eq]; exact t1),if_pos (decide_eq_true (t12.resolve_left t1)),wi]
theorem z74 (A : List (List PV)) (i : Nat) (s : St) (p p' : Ct × List Int) (hp : LsInv i p) (nx : LsInv (i + 1) p') (hg : A[i]? = some s.e) (h80 : i < 80) (hl : A.length < 4611686018427387904) (hq : lsG s p = p') (t1 : ¬ s.t < 1) (t2 : ¬ s.t > 12) (c0 : s.d = 0) :
  yx cfg xa Cω Lω 3 y4 0 (xp A (i : Nat)) (lsO p) = Lω 3 y4 0 (xp A ((i + 1 : Nat) : Int)) (lsO p') := by
 have hil : i < A.length := (List.getElem?_eq_some_iff.1 hg).1
 have d1 : decide (((i : Nat) : Int) < ((A.length : Nat) : Int)) = true := by rw [decide_eq_true_eq]; omega
 have d2 : decide (((i : Nat) : Int) < 80) = true := by rw [decide_eq_true_eq]; omega
 have sm := hp.ok.Sm
 have pl : p.2.length < 1000000 := by have := hp.n; omega
 have cnt := zup A (i : Nat) p' nx.ok nx.ls (by have := nx.n; omega)
 have nbe : ∀ n : Int,(n != n) = false := fun n => bne_self_eq_false n
 have wi := yr (show i < 4611686018427387904 by omega)
 unfold lsG at hq
 unfold lsO Ct.c at cnt ⊢
 rw [zjk,if_pos d1,if_pos d2,if_pos (nn i),Int.toNat_natCast,hg,zb,St.e,zp,zp,zr,zr,zq]
 rw [if_neg (by rw [decide_eq_true_eq]; exact t1),if_neg (by rw [decide_eq_true_eq]; exact t2)]
 rw [if_neg (by rintro (h | h); exact t1 h; exact t2 h)] at hq
 have k0 : (s.d == 0) = true := beq_iff_eq.2 c0
 have k4 : ¬ (s.d == 4) = true := by rw [c0]; decide
 have k5 : ¬ (s.d == 5) = true := by rw [c0]; decide
 rw [if_pos c0] at hq
 have i1 := zj7 p.1 s.t sm
 have hr := zee hp.ok s.t 0
 generalize zjt p.1 s.t = r at hq i1 hr
 unfold Ct.c at i1
 rw [if_pos k0,i1,zb,zt,zf,zu,zp,yh,yh,yh,yh,zq,zp,zq]
 by_cases z : r.2 = 0
 ·rw [if_pos z] at hq
  subst hq
  have b1 : ((p.2.map ie).length + ([[.int .i64 s.t]] : List (List PV)).length) * 8 ≤ 140737488355328 := by rw [List.length_map]; exact rm8 (by omega)
  have m1 : p.2.map ie ++ ([[.int .i64 s.t]] : List (List PV)) = (p.2 ++ [s.t]).map ie := zgl (f := ie) p.2 s.t
  rw [if_pos (beq_iff_eq.2 z),if_pos b1,if_neg k4,if_neg k5,m1,cnt]
  simp only [zw,ze,z8,yj,yk,zu,zt,zf,zq,zx,zy,za,zh,zl,z7,ym,zi,zd,zm,zz,zg,zk,zj,zp,yg,zr,yh,yl,ye,yf,ya,zn,yd,zo,yc,yb,yp,zb,z6,yi,y3,yz,ne_eq,not_false_eq_true,Nat.reduceLT,Nat.reduceEqDiff,if_true,List.length_map,nbe,Bool.false_eq_true,if_false,wi]
 ·rw [if_neg z] at hq
  subst hq
  rw [if_neg (show ¬ (r.2 == 0) = true from fun h => z (beq_iff_eq.1 h)),if_neg k4,if_neg k5,cnt]
  simp only [zw,ze,z8,yj,yk,zu,zt,zf,zq,zx,zy,za,zh,zl,z7,ym,zi,zd,zm,zz,zg,zk,zj,zp,yg,zr,yh,yl,ye,yf,ya,zn,yd,zo,yc,yb,yp,zb,z6,yi,y3,yz,ne_eq,not_false_eq_true,Nat.reduceLT,Nat.reduceEqDiff,if_true,List.length_map,nbe,Bool.false_eq_true,if_false,wi]
theorem z73 (A : List (List PV)) (i : Nat) (s : St) (p p' : Ct × List Int) (hp : LsInv i p) (nx : LsInv (i + 1) p') (hg : A[i]? = some s.e) (h80 : i < 80) (hl : A.length < 4611686018427387904) (hq : lsG s p = p') (t1 : ¬ s.t < 1) (t2 : ¬ s.t > 12) (c4 : s.d = 4) :
  yx cfg xa Cω Lω 3 y4 0 (xp A (i : Nat)) (lsO p) = Lω 3 y4 0 (xp A ((i + 1 : Nat) : Int)) (lsO p') := by
 have hil : i < A.length := (List.getElem?_eq_some_iff.1 hg).1
 have d1 : decide (((i : Nat) : Int) < ((A.length : Nat) : Int)) = true := by rw [decide_eq_true_eq]; omega
 have d2 : decide (((i : Nat) : Int) < 80) = true := by rw [decide_eq_true_eq]; omega
 have sm := hp.ok.Sm
 have pl : p.2.length < 1000000 := by have := hp.n; omega
 have cnt := zup A (i : Nat) p' nx.ok nx.ls (by have := nx.n; omega)
 have nbe : ∀ n : Int,(n != n) = false := fun n => bne_self_eq_false n
 have wi := yr (show i < 4611686018427387904 by omega)
 unfold lsG at hq
 unfold lsO Ct.c at cnt ⊢
 rw [zjk,if_pos d1,if_pos d2,if_pos (nn i),Int.toNat_natCast,hg,zb,St.e,zp,zp,zr,zr,zq]
 rw [if_neg (by rw [decide_eq_true_eq]; exact t1),if_neg (by rw [decide_eq_true_eq]; exact t2)]
 rw [if_neg (by rintro (h | h); exact t1 h; exact t2 h)] at hq
 have k0 : ¬ (s.d == 0) = true := by rw [c4]; decide
 have k4 : (s.d == 4) = true := beq_iff_eq.2 c4
 rw [if_neg (show ¬ s.d = 0 by omega),if_pos c4] at hq
 have i1 := zj3 p.1 s.t sm
 generalize zis p.1 s.t = r at hq i1
 unfold Ct.c at i1
 rw [if_neg k0,if_pos k4,i1,zb,zt,zf,zu,zp,yh,yh,yh,yh,zq,zp,zq,if_pos k4]
 by_cases z : r.2 = 3
 ·rw [if_pos z] at hq
  subst hq
  rw [if_neg (show ¬ (r.2 != 3) = true from fun h => (bne_iff_ne.1 h) z),cnt]
  simp only [zw,ze,z8,yj,yk,zu,zt,zf,zq,zx,zy,za,zh,zl,z7,ym,zi,zd,zm,zz,zg,zk,zj,zp,yg,zr,yh,yl,ye,yf,ya,zn,yd,zo,yc,yb,yp,zb,z6,yi,y3,yz,ne_eq,not_false_eq_true,Nat.reduceLT,Nat.reduceEqDiff,if_true,List.length_map,nbe,Bool.false_eq_true,if_false,wi]
 ·rw [if_neg z] at hq
  subst hq
  have i2 := zzz A (i : Nat) p.1 r.1 s p.2 pl
  unfold Ct.c at i2
  rw [show s.e = [.int .i64 s.d,.int .i64 s.t,.float .f64 s.a.toNat,.float .f64 s.b.toNat] from rfl] at i2
  rw [if_pos (bne_iff_ne.2 z),i2]
  simp only [zw,ze,z8,yj,yk,zu,zt,zf,zq,zx,zy,za,zh,zl,z7,ym,zi,zd,zm,zz,zg,zk,zj,zp,yg,zr,yh,yl,ye,yf,ya,zn,yd,zo,yc,yb,yp,zb,z6,yi,y3,yz,ne_eq,not_false_eq_true,Nat.reduceLT,Nat.reduceEqDiff,if_true]
  rw [cnt]
  simp only [zw,ze,z8,yj,yk,zu,zt,zf,zq,zx,zy,za,zh,zl,z7,ym,zi,zd,zm,zz,zg,zk,zj,zp,yg,zr,yh,yl,ye,yf,ya,zn,yd,zo,yc,yb,yp,zb,z6,yi,y3,yz,ne_eq,not_false_eq_true,Nat.reduceLT,Nat.reduceEqDiff,if_true,List.length_map,nbe,Bool.false_eq_true,if_false,wi]
theorem z75 (A : List (List PV)) (i : Nat) (s : St) (p p' : Ct × List Int) (hp : LsInv i p) (nx : LsInv (i + 1) p') (hg : A[i]? = some s.e) (h80 : i < 80) (hl : A.length < 4611686018427387904) (hq : lsG s p = p') (t1 : ¬ s.t < 1) (t2 : ¬ s.t > 12) (c5 : s.d = 5) :
  yx cfg xa Cω Lω 3 y4 0 (xp A (i : Nat)) (lsO p) = Lω 3 y4 0 (xp A ((i + 1 : Nat) : Int)) (lsO p') := by
 have hil : i < A.length := (List.getElem?_eq_some_iff.1 hg).1
 have d1 : decide (((i : Nat) : Int) < ((A.length : Nat) : Int)) = true := by rw [decide_eq_true_eq]; omega
 have d2 : decide (((i : Nat) : Int) < 80) = true := by rw [decide_eq_true_eq]; omega
 have sm := hp.ok.Sm
 have pl : p.2.length < 1000000 := by have := hp.n; omega
 have cnt := zup A (i : Nat) p' nx.ok nx.ls (by have := nx.n; omega)
 have nbe : ∀ n : Int,(n != n) = false := fun n => bne_self_eq_false n
 have wi := yr (show i < 4611686018427387904 by omega)
 unfold lsG at hq
 unfold lsO Ct.c at cnt ⊢
 rw [zjk,if_pos d1,if_pos d2,if_pos (nn i),Int.toNat_natCast,hg,zb,St.e,zp,zp,zr,zr,zq]
 rw [if_neg (by rw [decide_eq_true_eq]; exact t1),if_neg (by rw [decide_eq_true_eq]; exact t2)]
 rw [if_neg (by rintro (h | h); exact t1 h; exact t2 h)] at hq
 have k0 : ¬ (s.d == 0) = true := by rw [c5]; decide
 have k4 : ¬ (s.d == 4) = true := by rw [c5]; decide
 have k5 : (s.d == 5) = true := beq_iff_eq.2 c5
 rw [if_neg (show ¬ s.d = 0 by omega),if_neg (show ¬ s.d = 4 by omega),if_pos c5] at hq
 have i1 := z0n p.1 s.t sm
 generalize zno p.1 s.t = r at hq i1
 unfold Ct.c at i1
 rw [if_neg k0,if_neg k4,if_pos k5,i1,zb,zt,zf,zu,zp,yh,yh,yh,yh,zq,zp,zq,if_neg k4,if_pos k5]
 by_cases z : r.2 = 3
 ·rw [if_pos z] at hq
  subst hq
  rw [if_neg (show ¬ (r.2 != 3) = true from fun h => (bne_iff_ne.1 h) z),cnt]
  simp only [zw,ze,z8,yj,yk,zu,zt,zf,zq,zx,zy,za,zh,zl,z7,ym,zi,zd,zm,zz,zg,zk,zj,zp,yg,zr,yh,yl,ye,yf,ya,zn,yd,zo,yc,yb,yp,zb,z6,yi,y3,yz,ne_eq,not_false_eq_true,Nat.reduceLT,Nat.reduceEqDiff,if_true,List.length_map,nbe,Bool.false_eq_true,if_false,wi]
 ·rw [if_neg z] at hq
  subst hq
  have i2 := zzz A (i : Nat) p.1 r.1 s p.2 pl
  unfold Ct.c at i2
  rw [show s.e = [.int .i64 s.d,.int .i64 s.t,.float .f64 s.a.toNat,.float .f64 s.b.toNat] from rfl] at i2
  rw [if_pos (bne_iff_ne.2 z),i2]
  simp only [zw,ze,z8,yj,yk,zu,zt,zf,zq,zx,zy,za,zh,zl,z7,ym,zi,zd,zm,zz,zg,zk,zj,zp,yg,zr,yh,yl,ye,yf,ya,zn,yd,zo,yc,yb,yp,zb,z6,yi,y3,yz,ne_eq,not_false_eq_true,Nat.reduceLT,Nat.reduceEqDiff,if_true]
  rw [cnt]
  simp only [zw,ze,z8,yj,yk,zu,zt,zf,zq,zx,zy,za,zh,zl,z7,ym,zi,zd,zm,zz,zg,zk,zj,zp,yg,zr,yh,yl,ye,yf,ya,zn,yd,zo,yc,yb,yp,zb,z6,yi,y3,yz,ne_eq,not_false_eq_true,Nat.reduceLT,Nat.reduceEqDiff,if_true,List.length_map,nbe,Bool.false_eq_true,if_false,wi]
theorem z72 (A : List (List PV)) (i : Nat) (s : St) (p p' : Ct × List Int) (hp : LsInv i p) (nx : LsInv (i + 1) p') (hg : A[i]? = some s.e) (h80 : i < 80) (hl : A.length < 4611686018427387904) (hq : lsG s p = p') (t1 : ¬ s.t < 1) (t2 : ¬ s.t > 12) (c0 : ¬ s.d = 0) (c4 : ¬ s.d = 4) (c5 : ¬ s.d = 5) :
  yx cfg xa Cω Lω 3 y4 0 (xp A (i : Nat)) (lsO p) = Lω 3 y4 0 (xp A ((i + 1 : Nat) : Int)) (lsO p') := by
 have hil : i < A.length := (List.getElem?_eq_some_iff.1 hg).1
 have d1 : decide (((i : Nat) : Int) < ((A.length : Nat) : Int)) = true := by rw [decide_eq_true_eq]; omega
 have d2 : decide (((i : Nat) : Int) < 80) = true := by rw [decide_eq_true_eq]; omega
 have sm := hp.ok.Sm
 have pl : p.2.length < 1000000 := by have := hp.n; omega
 have cnt := zup A (i : Nat) p' nx.ok nx.ls (by have := nx.n; omega)
 have nbe : ∀ n : Int,(n != n) = false := fun n => bne_self_eq_false n
 have wi := yr (show i < 4611686018427387904 by omega)
 unfold lsG at hq
 unfold lsO Ct.c at cnt ⊢
 rw [zjk,if_pos d1,if_pos d2,if_pos (nn i),Int.toNat_natCast,hg,zb,St.e,zp,zp,zr,zr,zq]
 rw [if_neg (by rw [decide_eq_true_eq]; exact t1),if_neg (by rw [decide_eq_true_eq]; exact t2)]
 rw [if_neg (by rintro (h | h); exact t1 h; exact t2 h)] at hq
 have k0 : ¬ (s.d == 0) = true := fun h => c0 (beq_iff_eq.1 h)
 have k4 : ¬ (s.d == 4) = true := fun h => c4 (beq_iff_eq.1 h)
 have k5 : ¬ (s.d == 5) = true := fun h => c5 (beq_iff_eq.1 h)
 rw [if_neg c0,if_neg c4,if_neg c5] at hq
 have i1 := zs5 p.1 sm s.t s.a [] (by decide)
 generalize rdC p.1 s.t [] (fun l => zel l s.t s.a) = r at hq i1
 unfold Ct.c at i1
 rw [List.map_nil] at i1
 subst hq
 rw [if_neg k0,if_neg k4,if_neg k5,i1,zb,zt,zf,zu,zp,yh,yh,yh,yh,zq,zp,zq,if_neg k4,if_neg k5,cnt]
 simp only [zw,ze,z8,yj,yk,zu,zt,zf,zq,zx,zy,za,zh,zl,z7,ym,zi,zd,zm,zz,zg,zk,zj,zp,yg,zr,yh,yl,ye,yf,ya,zn,yd,zo,yc,yb,yp,zb,z6,yi,y3,yz,ne_eq,not_false_eq_true,Nat.reduceLT,Nat.reduceEqDiff,if_true,List.length_map,nbe,Bool.false_eq_true,if_false,wi]
theorem z02 (l : List St) (hl : l.length < 4611686018427387904) (p0 : Ct × List Int) (h0 : LsInv 0 p0) : Lω 3 y4 0 (xp (l.map St.e) 0) (lsO p0) = some (.exit 0,mkS 158 [],[]) := by
 have := jv (f := 3) (cd := y4) (n0 := 0) (fun i (_ : Ct × List Int) => xp (l.map St.e) (i : Nat)) (fun _ p => lsO p) (l.take 80) (fun _ s p => lsG s p)
  (fun _ => (.exit 0,mkS 158 [],[])) (fun i p => LsInv i p) (fun i s p hg hi hp => by
   have hi80 : i < 80 := by rw [List.length_take] at hi; omega
   rw [List.getElem?_take_of_lt hi80] at hg
   have nx := hp.step hi80 s
   refine ⟨nx,?_⟩
   have hg' : (l.map St.e)[i]? = some s.e := y9 hg
   have hl' : (l.map St.e).length < 4611686018427387904 := by rw [List.length_map]; exact hl
   by_cases t1 : s.t < 1
   ·exact z7n _ i s p _ hp nx hg' hi80 hl' rfl (.inl t1)
   by_cases t2 : s.t > 12
   ·exact z7n _ i s p _ hp nx hg' hi80 hl' rfl (.inr t2)
   by_cases c0 : s.d = 0
   ·exact z74 _ i s p _ hp nx hg' hi80 hl' rfl t1 t2 c0
   by_cases c4 : s.d = 4
   ·exact z73 _ i s p _ hp nx hg' hi80 hl' rfl t1 t2 c4
   by_cases c5 : s.d = 5
   ·exact z75 _ i s p _ hp nx hg' hi80 hl' rfl t1 t2 c5
   exact z72 _ i s p _ hp nx hg' hi80 hl' rfl t1 t2 c0 c4 c5) (fun p hp => by
   unfold lsO Ct.c
   rw [zjk,List.length_map]
   by_cases h : l.length ≤ 80
   ·rw [List.take_of_length_le h,if_neg (by rw [decide_eq_true_eq]; omega)]
   ·rw [if_pos (by rw [decide_eq_true_eq,List.length_take]; omega),if_neg (by rw [decide_eq_true_eq,List.length_take]; omega)]) p0 h0
 rw [zwf] at this
 exact this
theorem lawSpans (l : List St) (hl : l.length < 4611686018427387904) : yn Cω 3 [.psl false (l.map St.e)] = some (.bool true) := by
 have ev := z79 Cω Lω (l.map St.e)
 have i1 := z02 l hl (zc,[]) ⟨zsl,⟨.nil,fun t => ⟨fun h => (by cases h),fun h => (by have hz : lv zc t = false := rfl; rw [hz] at h; cases h)⟩⟩,Int.le_refl _,Nat.le_refl _⟩
 have i1' : Lω 3 y4 0 (xp (l.map St.e) 0) [.box true 28 [.int .i64 0,.psl false [],.psl false [],.psl false [],.psl false []],.made true 1 []] = _ := i1
 rw [i1'] at ev
 simp only [zw,ze,z8,yj,yk,zu,zt,zf,zq,zx,zy,za,zh,zl,z7,ym,zi,zd,zm,zz,zg,zk,zj,zp,yg,zr,yh,yl,ye,yf,ya,zn,yd,zo,yc,yb,yp,zb,z6,yi,if_true,zwq] at ev
 exact pc ev rfl
end Go.Pvm.S
