/- Part of the proof: certifiers: all victims given up, in two rounds; who is of no account forgotten. -/
import Derived.Test.YtjfgklgcbogejaaGreatCrtC
set_option linter.unusedSimpArgs false
set_option linter.unusedVariables false
set_option maxRecDepth 100000
namespace Go.Pvm.S
open Go.Pvm Go.Proofs
theorem zss (l : List Ed) (s : List Spn) : (kw l s).length ≤ 1000000 := by
 unfold kw
 split
 ·rename_i h
  rw [Bool.and_eq_true] at h
  have h1 : l.length ≤ 600 := by
   have := h.1
   unfold ur at this
   rw [Bool.and_eq_true,decide_eq_true_eq] at this
   exact this.1
  have h2 := zp0 l s h1
  have h3 : ∀ l : List Int,(zla l).length ≤ l.length := fun l => by
   cases l with
   | nil => exact Nat.le_refl _
   | cons a l => unfold zla; have := zvm l a; simp only [List.length_cons]; omega
  have h4 := h3 ((zoh l s).mergeSort fun x y => decide (x ≤ y))
  rw [List.length_mergeSort] at h4
  omega
 ·exact Nat.zero_le _
theorem zz3 : ∀ (v : List Int) (i : Nat) (c : Ct),(xb gvG v i c).d.length ≤ c.d.length + v.length ∧ (xb gvG v i c).l.length ≤ c.l.length ∧ (xb gvG v i c).e.length ≤ c.e.length
 | [],i,c => ⟨Nat.le_refl _,Nat.le_refl _,Nat.le_refl _⟩
 | a :: v,i,c => by
   obtain ⟨h1,h2,h3⟩ := zz3 v (i + 1) (gvG i a c)
   have h4 : (gvG i a c).d.length ≤ c.d.length + 1 := zqf c.d a
   have h5 : (gvG i a c).l.length ≤ c.l.length := List.length_filter_le _ _
   have h6 : (gvG i a c).e.length ≤ c.e.length := List.length_filter_le _ _
   rw [jf,List.length_cons]
   omega
theorem zvj {v : List Int} {i : Nat} {l : List Ed} (h : ur l = true) : ur (xb zvk v i l) = true := by
 have hm : ∀ l : List Ed,ur l = true ↔ l.length ≤ 600 ∧ (∀ a ∈ l,inn a.f = true ∧ inn a.t = true ∧ (a.f == a.t) = false) ∧ l.Pairwise (fun a b => zc3 a b < 0) := fun l => by
  constructor
  ·intro h
   have hc := zce h
   unfold ur at h
   rw [Bool.and_eq_true,decide_eq_true_eq,qu] at h
   refine ⟨h.1,fun a ha => ?_,?_⟩
   ·obtain ⟨k,hk⟩ := List.mem_iff_getElem?.1 ha
    have h2 := h.2 k a hk
    unfold okE at h2
    simp only [Bool.and_eq_true,Bool.not_eq_true'] at h2
    exact ⟨h2.1,h2.2.1,h2.2.2.1⟩
   ·refine List.pairwise_iff_getElem.2 fun i j hi hj hij => ?_
    exact u6 (lt := fun a b : Ed => zc3 a b < 0) zet hc hij (List.getElem?_eq_getElem hi) (List.getElem?_eq_getElem hj)
  ·rintro ⟨h1,h2,h3⟩
   unfold ur
   rw [Bool.and_eq_true,decide_eq_true_eq,qu]
   refine ⟨h1,fun k a hk => ?_⟩
   obtain ⟨g1,g2,g3⟩ := h2 a (List.mem_iff_getElem?.2 ⟨k,hk⟩)
   unfold okE
   rw [g1,g2,g3,Nat.zero_add]
   by_cases h0 : k = 0
   ·subst h0; rfl
   ·obtain ⟨hk1,rfl⟩ := List.getElem?_eq_some_iff.1 hk
    have h4 := List.pairwise_iff_getElem.1 h3 (k - 1) k (by omega) hk1 (by omega)
    have h5 : l.getD (k - 1) l[k] = l[k - 1] := by rw [List.getD_eq_getElem?_getD,List.getElem?_eq_getElem (show k - 1 < l.length by omega)]; rfl
    rw [h5,decide_eq_true h4]
    simp
 have step : ∀ (t : Int) (l : List Ed),ur l = true → ur (ziq l t) = true := fun t l h => by
  obtain ⟨h1,h2,h3⟩ := (hm l).1 h
  exact (hm _).2 ⟨Nat.le_trans (List.length_filter_le _ _) h1,fun a ha => h2 a (List.mem_filter.1 ha).1,h3.filter _⟩
 induction v generalizing i l with
 | nil => exact h
 | cons a v ih =>
   rw [jf]
   exact ih (step a l h)
theorem z1a {c : Ct} (hs : ka c.s = true) (he : ur c.e = true) : kw (gvC c).e (gvC c).s = [] := by
 obtain ⟨h1,h2,h3⟩ := z2a (kw c.e c.s) 0 c
 unfold gvC
 rw [h1,h3]
 exact z7v c.e c.s he hs
def gvO (c : Ct) : List KO := [.made true 3 (c.s.map Spn.e),.dead,.box true 28 [.int .i64 c.k,whole 0 3,whole 4 1,.psl false (c.l.map Lk.e),.psl false (c.e.map Ed.e)],.box true 28 [.int .i64 0,whole 5 3,whole 6 1,whole 7 4,whole 8 2],.made true 1 (c.d.map ie),.made true 3 [],.made true 1 [],.made true 4 [],.made true 2 []]
theorem zuo (c : Ct) (hs : c.s.length < 100000) (he : c.e.length < 100000) (hv : kw c.e c.s = []) : Lω 35 ze0 2 zg1 (gvO c) =
  some (.ret,mkS 43 [(2,.ref 2 0 0)],[.made true 3 (c.s.map Spn.e),.dead,.box true 28 [.int .i64 c.k,whole 0 3,whole 3 1,.psl false (c.l.map Lk.e),.psl false (c.e.map Ed.e)],.made true 1 (c.d.map ie)]) := by
 have i1 := zlv c.e c.s (show c.e.length < 1073741824 by omega) (show c.s.length < 1073741824 by omega)
 rw [hv] at i1
 refine lw ?_
 unfold gvO
 rw [zui,i1]
 simp only [zw,ze,z8,yj,yk,zu,zt,zf,zq,zx,zy,za,zh,zl,z7,ym,zi,zd,zm,zz,zg,zk,zj,zp,yg,zr,yh,yl,ye,yf,ya,zn,yd,zo,yc,yb,yp,zb,z6,yi,List.map_nil,List.length_nil,Int.ofNat_zero,beq_self_eq_true,if_true]
theorem z52 (c : Ct) (hc : c.Sm) (hs : ka c.s = true) (he : ur c.e = true) (ha : c.d.Pairwise (· < ·)) : Lω 35 ze0 2 zg1 (gvO c) =
  some (.ret,mkS 43 [(2,.ref 2 0 0)],[.made true 3 ((gvC c).s.map Spn.e),.dead,.box true 28 [.int .i64 (gvC c).k,whole 0 3,whole 3 1,.psl false ((gvC c).l.map Lk.e),.psl false ((gvC c).e.map Ed.e)],.made true 1 ((gvC c).d.map ie)]) := by
 by_cases hv : kw c.e c.s = []
 ·have e : gvC c = c := by unfold gvC; rw [hv]; rfl
  rw [e]
  exact zuo c hc.s hc.e hv
 have i1 := zlv c.e c.s (show c.e.length < 1073741824 by have := hc.e; omega) (show c.s.length < 1073741824 by have := hc.s; omega)
 have i2 := z71 c (kw c.e c.s) (zss _ _) hc.d hc.l hc.e ha
 obtain ⟨g1,g2,g3⟩ := z2a (kw c.e c.s) 0 c
 obtain ⟨g4,g5,g6⟩ := zz3 (kw c.e c.s) 0 c
 have i3 := zuo (gvC c) (by unfold gvC; rw [g1]; exact hc.s) (Nat.lt_of_le_of_lt g6 hc.e) (z1a hs he)
 refine lw ?_
 unfold gvO
 have hne : ((((kw c.e c.s).length : Nat) : Int) == 0) = false := by
  rw [beq_eq_false_iff_ne]
  intro h
  exact hv (List.eq_nil_of_length_eq_zero (by omega))
 rw [zui,i1]
 simp only [zw,ze,z8,yj,yk,zu,zt,zf,zq,zx,zy,za,zh,zl,z7,ym,zi,zd,zm,zz,zg,zk,zj,zp,yg,zr,yh,yl,ye,yf,ya,zn,yd,zo,yc,yb,yp,zb,z6,yi,List.length_map,hne,Bool.false_eq_true,if_false]
 have i2' := i2
 simp only [zsk,List.cons_append,List.nil_append] at i2'
 rw [i2']
 simp only [zw,ze,z8,yj,yk,zu,zt,zf,zq,zx,zy,za,zh,zl,z7,ym,zi,zd,zm,zz,zg,zk,zj,zp,yg,zr,yh,yl,ye,yf,ya,zn,yd,zo,yc,yb,yp,zb,z6,yi,y3,yz,ne_eq,not_false_eq_true,Nat.reduceLT,Nat.reduceEqDiff,if_true]
 exact i3
theorem zpj (c : Ct) (hc : c.Sm) (hs : ka c.s = true) (he : ur c.e = true) (ha : c.d.Pairwise (· < ·)) : Cω 35 [c.w 0 1] c.o = some ((gvC c).w 0 2,[.made true 3 ((gvC c).s.map Spn.e),.dead,.made true 1 ((gvC c).d.map ie)]) := by
 have ev := z6y Cω Lω c.k (c.l.map Lk.e) (c.e.map Ed.e) (c.s.map Spn.e) (c.d.map ie)
 have i1 := z52 c hc hs he ha
 unfold gvO at i1
 rw [i1] at ev
 simp only [zw,ze,z8,yj,yk,zu,zt,zf,zq,zx,zy,za,zh,zl,z7,ym,zi,zd,zm,zz,zg,zk,zj,zp,yg,zr,yh,yl,ye,yf,ya,zn,yd,zo,yc,yb,yp,zb,z6,yi,y3,yz,ne_eq,not_false_eq_true,Nat.reduceLT,Nat.reduceEqDiff] at ev
 exact cw ev
theorem zs8 (c : Ct) (t : Int) (hc : c.Sm) (hs : ka c.s = true) (he : ur c.e = true) (ha : c.d.Pairwise (· < ·)) (hd : (gvC c).d.length < 100000) : Cω 43 [c.w 0 1,.int .i64 t] c.o = some (.tuple [(gvC c).w 0 2,.int .i64 (if dm (gvC c) t = true then 14 else 0)],[.made true 3 ((gvC c).s.map Spn.e),.dead,.made true 1 ((gvC c).d.map ie)]) := by
 have ev := z6t Cω Lω c.k (c.l.map Lk.e) (c.e.map Ed.e) t (c.s.map Spn.e) (c.d.map ie)
 have i1 := zpj c hc hs he ha
 unfold Ct.w Ct.o at i1
 rw [i1] at ev
 have i2 := z18 (gvC c) t hd
 unfold Ct.c at i2
 simp only [zw,ze,z8,yj,yk,zu,zt,zf,zq,zx,zy,za,zh,zl,z7,ym,zi,zd,zm,zz,zg,zk,zj,zp,yg,zr,yh,yl,ye,yf,ya,zn,yd,zo,yc,yb,yp,zb,z6,yi,i2] at ev
 cases hq : dm (gvC c) t with
 | true => rw [hq] at ev; exact cw ev
 | false => rw [hq] at ev; exact cw ev
def kpG (c : Ct) : Nat → Spn → List Int → List Int := fun _ s k => if (s.c != 0 && nrC c s) = true then k ++ [s.t,bhC c s.t] else k
def kpC (c : Ct) : List Int := xb (kpG c) c.s 0 []
def fgG (keep : List Int) : Nat → Spn → Ct → Ct := fun _ s c => if (s.c != 0 && !(keep.any fun a => s.t == a)) = true then rmC c s.t else c
def fgC (c : Ct) : Ct := xb (fgG (kpC c)) c.s 0 c
theorem z7x {n : Nat} (h : n < 4294967295) : (n + 2) * 8 ≤ 140737488355328 := by omega
def fgO (c : Ct) (keep : List Int) : List KO := [.made true 3 (c.s.map Spn.e),.made true 1 (c.d.map ie),.box true 28 [.int .i64 c.k,whole 0 3,whole 1 1,.psl false (c.l.map Lk.e),.psl false (c.e.map Ed.e)],.box true 28 [.int .i64 0,whole 5 3,whole 6 1,whole 7 4,whole 8 2],.made true 1 (keep.map ie),.made true 3 [],.made true 1 [],.made true 4 [],.made true 2 []]
theorem z3j (c : Ct) (hc : c.Sm) (hs : ka c.s = true) : Lω 33 ze2 2 (zcx (c.s.length : Nat) 0) (fgO c []) = some (.exit 0,mkS 57 [(1,.ref 2 0 0),(2,.ref 3 0 0),(3,whole 4 1)],fgO c (kpC c)) :=
 jv (fun i (_ : List Int) => zcx (c.s.length : Nat) (i : Nat)) (fun _ k => fgO c k) c.s (kpG c) (fun k => (.exit 0,mkS 57 [(1,.ref 2 0 0),(2,.ref 3 0 0),(3,whole 4 1)],fgO c k)) (fun i k => k.length ≤ 2 * i) (fun i s k hg hi hk => by
  have := hc.s
  refine ⟨by unfold kpG; split <;> (try simp only [List.length_append,List.length_cons,List.length_nil]) <;> omega,?_⟩
  have hdi : decide (((i : Nat) : Int) < ((c.s.length : Nat) : Int)) = true := by rw [decide_eq_true_eq]; omega
  have hdi2 : ((i : Nat) : Int) < ((c.s.length : Nat) : Int) := by omega
  have i1 := z2o c s hc
  have i2 := zwp c s.t hc hs
  unfold Ct.c at i1 i2
  have hpt := zw2 s
  simp only [Spn.e] at hpt i1
  have b1 : ((k.map ie).length + ([[.int .i64 s.t],[.int .i64 (bhC c s.t)]] : List (List PV)).length) * 8 ≤ 140737488355328 := by rw [List.length_map]; exact z7x (by omega)
  have m1 : k.map ie ++ ([[.int .i64 s.t],[.int .i64 (bhC c s.t)]] : List (List PV)) = (k ++ [s.t,bhC c s.t]).map ie := by rw [List.map_append]; rfl
  unfold fgO
  rw [zuk]
  simp only [hdi,hdi2,decide_true,List.length_map,nn,and_true,Int.toNat_natCast,zb,y9 hg,Spn.e,hpt,zw,ze,z8,yj,yk,zu,zt,zf,zq,zx,zy,za,zh,zl,z7,ym,zi,zd,zm,zz,zg,zk,zj,zp,yg,zr,yh,yl,ye,yf,ya,zn,yd,zo,yc,yb,yp,zb,z6,yi,if_true,yr (show i < 4611686018427387904 by omega)]
  unfold kpG
  cases h1 : (s.c != 0) with
  | false => rfl
  | true =>
    have i1' : yn Cω _ _ = some (.bool (nrC c s)) := i1
    simp only [if_true,Bool.true_and,i1,zw,ze,z8,yj,yk,zu,zt,zf,zq,zx,zy,za,zh,zl,z7,ym,zi,zd,zm,zz,zg,zk,zj,zp,yg,zr,yh,yl,ye,yf,ya,zn,yd,zo,yc,yb,yp,zb,z6,yi]
    cases h2 : nrC c s with
    | false => rfl
    | true =>
      simp only [if_true,i2,zw,ze,z8,yj,yk,zu,zt,zf,zq,zx,zy,za,zh,zl,z7,ym,zi,zd,zm,zz,zg,zk,zj,zp,yg,zr,yh,yl,ye,yf,ya,zn,yd,zo,yc,yb,yp,zb,z6,yi]
      rw [List.length_map] at b1
      rw [if_pos b1,m1]) (fun k hk => by unfold fgO; rw [zuk]; simp only [Int.lt_irrefl,decide_false,Bool.false_eq_true,if_false]) [] (Nat.le_refl _)
def z3o (s : List Spn) (keep : List Int) (c : Ct) : List KO := [.dead,.dead,.box true 28 [.int .i64 c.k,whole 6 3,whole 7 1,.psl false (c.l.map Lk.e),.psl false (c.e.map Ed.e)],.box true 28 [.int .i64 0,whole 8 3,whole 9 1,whole 10 4,whole 11 2],.made true 1 (keep.map ie),.made true 3 (s.map Spn.e),.made true 3 (c.s.map Spn.e),.made true 1 (c.d.map ie),.made true 3 [],.made true 1 [],.made true 4 [],.made true 2 []]
theorem ztp {c : Ct} (h : c.Sm) (t : Int) : (rmC c t).Sm := ⟨Nat.lt_of_le_of_lt (List.length_filter_le _ _) h.s,Nat.lt_of_le_of_lt (List.length_filter_le _ _) h.d,Nat.lt_of_le_of_lt (List.length_filter_le _ _) h.l,Nat.lt_of_le_of_lt (List.length_filter_le _ _) h.e⟩
theorem zxm (s : List Spn) (keep : List Int) (hk : keep.length < 1000000) (hs : s.length < 100000) (c : Ct) (hc : c.Sm) : Lω 33 ze1 2 (zcw (s.length : Nat) 0) (z3o s keep c) =
  some (.exit 2,mkS 57 [(1,.ref 2 0 0),(2,.ref 3 0 0)],[.dead,.dead,.box true 28 [.int .i64 (xb (fgG keep) s 0 c).k,whole 4 3,whole 5 1,.psl false ((xb (fgG keep) s 0 c).l.map Lk.e),.psl false ((xb (fgG keep) s 0 c).e.map Ed.e)],.box true 28 [.int .i64 0,whole 6 3,whole 7 1,whole 8 4,whole 9 2],.made true 3 ((xb (fgG keep) s 0 c).s.map Spn.e),.made true 1 ((xb (fgG keep) s 0 c).d.map ie),.made true 3 [],.made true 1 [],.made true 4 [],.made true 2 []]) :=
 jv (fun i (_ : Ct) => zcw (s.length : Nat) (i : Nat)) (fun _ c => z3o s keep c) s (fgG keep) (fun c => (.exit 2,mkS 57 [(1,.ref 2 0 0),(2,.ref 3 0 0)],[.dead,.dead,.box true 28 [.int .i64 c.k,whole 4 3,whole 5 1,.psl false (c.l.map Lk.e),.psl false (c.e.map Ed.e)],.box true 28 [.int .i64 0,whole 6 3,whole 7 1,whole 8 4,whole 9 2],.made true 3 (c.s.map Spn.e),.made true 1 (c.d.map ie),.made true 3 [],.made true 1 [],.made true 4 [],.made true 2 []])) (fun i c => c.Sm) (fun i a c hg hi hc => by
  refine ⟨by unfold fgG; split; exact ztp hc _; exact hc,?_⟩
  have hdi : decide (((i : Nat) : Int) < ((s.length : Nat) : Int)) = true := by rw [decide_eq_true_eq]; omega
  have hdi2 : ((i : Nat) : Int) < ((s.length : Nat) : Int) := by omega
  have i1 := zny keep a.t hk
  have i2 := z0e c a.t hc
  unfold Ct.w Ct.o at i2
  have hpt := zw2 a
  simp only [Spn.e] at hpt
  unfold z3o
  rw [zuj]
  simp only [hdi,hdi2,decide_true,List.length_map,nn,and_true,Int.toNat_natCast,zb,y9 hg,Spn.e,hpt,zw,ze,z8,yj,yk,zu,zt,zf,zq,zx,zy,za,zh,zl,z7,ym,zi,zd,zm,zz,zg,zk,zj,zp,yg,zr,yh,yl,ye,yf,ya,zn,yd,zo,yc,yb,yp,zb,z6,yi,if_true,yr (show i < 4611686018427387904 by omega),i1]
  unfold fgG
  cases h1 : (a.c != 0) with
  | false => rfl
  | true =>
    simp only [if_true,Bool.true_and]
    cases h2 : (keep.any fun b => a.t == b) with
    | true => rfl
    | false =>
      have i2' := i2
      simp only [List.cons_append,List.nil_append] at i2'
      have i3 : Cω _ _ [.made true 3 (c.s.map fun x => [PV.int .i64 x.t,PV.int .i64 x.b,PV.int .i64 x.c]),.made true 1 (c.d.map ie)] = _ := i2'
      simp only [Bool.not_false,if_true,i2',i3,zw,ze,z8,yj,yk,zu,zt,zf,zq,zx,zy,za,zh,zl,z7,ym,zi,zd,zm,zz,zg,zk,zj,zp,yg,zr,yh,yl,ye,yf,ya,zn,yd,zo,yc,yb,yp,zb,z6,yi]) (fun c hc => by unfold z3o; rw [zuj]; simp only [Int.lt_irrefl,decide_false,Bool.false_eq_true,if_false]) c hc
theorem z06 (c : Ct) : (kpC c).length ≤ 2 * c.s.length := by
 have := zd4 (g := kpG c) (fun i k => k.length ≤ 2 * i) c.s 0 [] (Nat.le_refl _) (fun j a k h => by
  unfold kpG
  split <;> (try simp only [List.length_append,List.length_cons,List.length_nil]) <;> omega)
 rwa [Nat.zero_add] at this
theorem zj2 (c : Ct) (hc : c.Sm) (hs : ka c.s = true) : Cω 33 [c.w 0 1] c.o = some ((fgC c).w 2 3,[.dead,.dead] ++ (fgC c).o) := by
 have ev := z60 Cω Lω c.k (c.l.map Lk.e) (c.e.map Ed.e) (c.s.map Spn.e) (c.d.map ie)
 have i1 := z3j c hc hs
 unfold fgO at i1
 have hk := z06 c
 have i2 := zxm c.s (kpC c) (by have := hc.s; omega) hc.s c hc
 unfold z3o at i2
 rw [List.map_nil] at i1
 rw [List.length_map,i1] at ev
 simp only [zw,ze,z8,yj,yk,zu,zt,zf,zq,zx,zy,za,zh,zl,z7,ym,zi,zd,zm,zz,zg,zk,zj,zp,yg,zr,yh,yl,ye,yf,ya,zn,yd,zo,yc,yb,yp,zb,z6,yi,y3,yz,ne_eq,not_false_eq_true,Nat.reduceLT,Nat.reduceEqDiff,if_true] at ev
 rw [qt c.s Spn.e_ok (by have := hc.s; omega)] at ev
 simp only [zb,List.length_map] at ev
 rw [i2] at ev
 simp only [zw,ze,z8,yj,yk,zu,zt,zf,zq,zx,zy,za,zh,zl,z7,ym,zi,zd,zm,zz,zg,zk,zj,zp,yg,zr,yh,yl,ye,yf,ya,zn,yd,zo,yc,yb,yp,zb,z6,yi,y3,yz,ne_eq,not_false_eq_true,Nat.reduceLT,Nat.reduceEqDiff,if_true] at ev
 exact cw ev
end Go.Pvm.S
