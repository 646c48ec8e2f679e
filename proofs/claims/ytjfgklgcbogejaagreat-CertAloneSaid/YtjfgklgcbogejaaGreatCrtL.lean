/- Part of the proof: certifiers: who runs alone is never given up: what the statement comes to. -/
import Derived.Test.YtjfgklgcbogejaaGreatCrtJ
set_option linter.unusedSimpArgs false
set_option linter.unusedVariables false
set_option maxRecDepth 100000
set_option maxHeartbeats 4000000
namespace Go.Pvm.S
open Go.Pvm Go.Proofs
def zai (k t : Int) (l : List Lk) : Ct := ⟨k,[⟨t,k,0⟩],[],l,[]⟩
def zhk (k : Int) : Ct := ⟨k,[],[],[],[]⟩
theorem zdv {k : Int} (h0 : 0 ≤ k) (h1 : k ≤ 2147483647) : CtOk (zhk k) := ⟨h0,h1,rfl,rfl,rfl,(fun a ha => by cases ha),(fun a ha => by cases ha),.nil,(fun a ha => by cases ha),(fun a ha => by cases ha)⟩
theorem zzq {k t : Int} (h0 : 0 ≤ k) (h1 : k ≤ 2147483643) (ht : inn t = true) : zwc (zhk k) t = (zai (k + 1) t [],0) := by
 unfold zwc
 rw [if_pos (mayC_iff.2 (zdv h0 (by omega))),if_pos ht,if_neg,if_neg]
 ·rfl
 ·intro h; cases h
 ·rintro (h | h)
  ·cases h
  ·have h : k > 2147483643 := h
   omega
theorem zte (k t : Int) (c : Int) : spn [⟨t,k,c⟩] t = (⟨t,k,c⟩,true) := by
 unfold spn
 rw [List.find?_cons_of_pos (by simp)]
theorem zuj (k t : Int) (l : List Lk) : lv (zai k t l) t = true := by
 unfold lv zai
 rw [zte]
 rfl
theorem zs4 (s : List Spn) : qp [] s = [] := by
 unfold qp
 split
 ·show zix (([] : List Int).mergeSort fun x y => decide (x ≤ y)) = []
  rw [List.mergeSort_nil]
  rfl
 ·rfl
theorem zk0 {c : Ct} (h : c.e = []) : gvC c = c := by
 unfold gvC
 rw [h,zs4]
 rfl
theorem z2c (k t n : Int) : cmS [⟨t,k,0⟩] t n = [⟨t,k,n⟩] := by
 have hp : atP [⟨t,k,0⟩] t = 0 := by
  unfold atP
  rw [List.takeWhile_cons_of_neg (by simp)]
  rfl
 unfold cmS
 rw [hp,zte]
 rfl
theorem z16 {k t : Int} {l : List Lk} (ok : CtOk (zai k t l)) (h1 : 0 ≤ k) (h2 : k ≤ 2147483643) (hl : ∀ v ∈ l,v.t = t) : zwo (zai k t l) t = (zhk (k + 1),0) := by
 unfold zwo
 rw [if_pos (mayC_iff.2 ok),if_pos (zuj k t l),if_neg (show ¬ dm (zai k t l) t = true from fun h => by cases h),if_neg (show ¬ (zai k t l).k > 2147483643 from fun h => by have h : k > 2147483643 := h; omega)]
 have e1 : cmC (zai k t l) t = ⟨k + 1,[⟨t,k,k + 1⟩],[],l,[]⟩ := by
  unfold cmC zai
  simp only [z2c]
 rw [zk0 (show (cmC (zai k t l) t).e = [] from rfl),e1]
 have hz : (k + 1 == (0 : Int)) = false := beq_eq_false_iff_ne.2 (by omega)
 have hz2 : (k + 1 != (0 : Int)) = true := bne_iff_ne.2 (by omega)
 have kp : kpC ⟨k + 1,[⟨t,k,k + 1⟩],[],l,[]⟩ = [] := by
  unfold kpC
  rw [j5]
  show kpG _ 0 _ _ = []
  unfold kpG nrC zhl
  simp only [List.any_cons,List.any_nil,hz,Bool.false_and,Bool.or_false,Bool.and_false,Bool.false_eq_true,if_false]
 unfold fgC
 rw [kp,j5]
 show (fgG [] 0 _ _,(0 : Int)) = _
 unfold fgG
 simp only [hz2,List.any_nil,Bool.not_false,Bool.and_self,if_true]
 unfold rmC zhk zl5 zif
 have el : (l.filter fun a => !(a.t == t)) = [] := by
  rw [List.filter_eq_nil_iff]
  intro v hv
  rw [hl v hv]
  simp
 simp only [el,List.filter_nil,List.filter_cons,beq_self_eq_true,Bool.not_true,Bool.false_eq_true,if_false]
theorem z0a {k t : Int} (ok : CtOk (zai k t [])) {lk : List Lk → List Lk × Int} (h : (lk []).2 = 0) : rdC (zai k t []) t [] lk = (zai k t (lk []).1,0) := by
 unfold rdC
 rw [if_pos (mayC_iff.2 ok),if_pos (zuj k t []),if_neg (show ¬ dm (zai k t []) t = true from fun h => by cases h),if_neg (show ¬ (lk (zai k t []).l).2 ≠ 0 from fun h' => h' h)]
 unfold enC
 show (gvC (zai k t (lk []).1),if dm (gvC (zai k t (lk []).1)) t = true then (14 : Int) else 0) = _
 rw [zk0 (show (zai k t (lk []).1).e = [] from rfl)]
 rfl
theorem z2u {k t : Int} (ok : CtOk (zai k t [])) (q : Wd) : wrC (zai k t []) t q = (zai k t [],0) := by
 unfold wrC
 rw [if_pos (mayC_iff.2 ok),if_pos (zuj k t []),if_neg (show ¬ dm (zai k t []) t = true from fun h => by cases h)]
 unfold enC
 show (gvC (zai k t []),if dm (gvC (zai k t [])) t = true then (14 : Int) else 0) = _
 rw [zk0 (show (zai k t []).e = [] from rfl)]
 rfl
theorem zwd {t : Int} (ht : inn t = true) : beg [] t = ([],0) := by
 unfold beg
 rw [ht]
 rfl
theorem z1l {t : Int} (ht : inn t = true) (q : Wd) : (zem [] t q).2 = 0 := by
 unfold zem
 rw [zwd ht]
 rfl
theorem z06 {t : Int} (ht : inn t = true) (a b : Wd) : (zfe [] t a b).2 = 0 := by
 unfold zfe
 rw [zwd ht]
 split <;> rfl
def alC (i : Nat) : Ct := if i = 0 then zc else zai (2 * i - 1) i []
def alO (i : Nat) : List KO := [.box true 28 (alC i).c]
theorem zva {i : Nat} (h0 : 0 < i) (h : i ≤ 80) : inn (i : Int) = true := inn_iff.2 ⟨by omega,by omega⟩
theorem zst {i : Nat} (h : i < 80) : zwc (zhk (2 * i)) ((i + 1 : Nat) : Int) = (alC (i + 1),0) := by
 rw [zzq (by omega) (by omega) (zva (Nat.succ_pos i) (by omega))]
 unfold alC
 rw [if_neg (Nat.succ_ne_zero i),show (2 * (i : Int) + 1) = 2 * ((i + 1 : Nat) : Int) - 1 by omega]
theorem zb4 {i : Nat} (h0 : 0 < i) : alC i = zai (2 * i - 1) i [] := if_neg (by omega)
theorem zq9 {i : Nat} (h : i < 80) : CtOk (alC (i + 1)) := by
 have := z2i (c := zhk (2 * i)) ((i + 1 : Nat) : Int)
 rw [zst h] at this
 exact this
theorem zzm {i : Nat} (h0 : 0 < i) (h : i < 80) {l : List Lk} (ok : CtOk (zai (2 * i - 1) i l)) (hl : ∀ v ∈ l,v.t = i) : zwo (zai (2 * i - 1) i l) i = (zhk (2 * i),0) := by
 rw [z16 ok (by omega) (by omega) hl,show (2 * (i : Int) - 1 + 1) = 2 * i by omega]
theorem z8h (A : List (List PV)) (i : Nat) (s : St) (hg : A[i]? = some s.e) (h80 : i < 80) (hl : A.length < 4611686018427387904) (h0 : i = 0) :
  yx cfg y7 Cω Lω 4 qa 0 (j8 A (i : Nat) (i : Nat)) (alO i) = Lω 4 qa 0 (j8 A ((i + 1 : Nat) : Int) ((i + 1 : Nat) : Int)) (alO (i + 1)) := by
 have hil : i < A.length := (List.getElem?_eq_some_iff.1 hg).1
 have d1 : decide (((i : Nat) : Int) < ((A.length : Nat) : Int)) = true := by rw [decide_eq_true_eq]; omega
 have d2 : decide (((i : Nat) : Int) < 80) = true := by rw [decide_eq_true_eq]; omega
 have z0 : ((0 : Int) != 0) = false := by decide
 have nb := zat zc ((i + 1 : Nat) : Int) zc_ok.Sm
 subst h0
 rw [show zwc zc ((0 + 1 : Nat) : Int) = (alC 1,0) from zst (i := 0) (by decide)] at nb
 have e0 : alC 0 = zc := rfl
 unfold alO
 rw [e0]
 unfold Ct.c at nb ⊢
 rw [zjq]
 have t0 : (((0 : Nat) : Int) == 0) = true := by decide
 have t1 : decide (((0 : Nat) : Int) > 0) = false := by decide
 simp only [d1,d2,t0,t1,if_true,Bool.false_eq_true,if_false,zp,ze,zy,yi,yj,yg,zx,zf,ya,zq,zr,za,zh,zl,zw,ym,zi,zb,zm,zt,zg,zk,zj,yd,yf,ye,yk,yl,yb,yc,zz,zn,z8,zo,z7,z6,yo,zd,zu,yh,yq (show 0 < 4611686018427387904 by decide),nb,z0]
theorem z70 (A : List (List PV)) (i : Nat) (s : St) (hg : A[i]? = some s.e) (h80 : i < 80) (hl : A.length < 4611686018427387904) (h0 : 0 < i) (hd : s.d = 0 ∨ s.d ≥ 4) :
  yx cfg y7 Cω Lω 4 qa 0 (j8 A (i : Nat) (i : Nat)) (alO i) = Lω 4 qa 0 (j8 A ((i + 1 : Nat) : Int) ((i + 1 : Nat) : Int)) (alO (i + 1)) := by
 have hil : i < A.length := (List.getElem?_eq_some_iff.1 hg).1
 have d1 : decide (((i : Nat) : Int) < ((A.length : Nat) : Int)) = true := by rw [decide_eq_true_eq]; omega
 have d2 : decide (((i : Nat) : Int) < 80) = true := by rw [decide_eq_true_eq]; omega
 have z0 : ((0 : Int) != 0) = false := by decide
 have ii := zva h0 (Nat.le_of_lt h80)
 have ok : CtOk (alC i) := by
  have := zq9 (i := i - 1) (by omega)
  rwa [show i - 1 + 1 = i by omega] at this
 rw [zb4 h0] at ok
 have nb := zat (zhk (2 * i)) ((i + 1 : Nat) : Int) (zdv (by omega) (by omega)).Sm
 rw [zst h80] at nb
 have cm := zb8 (zai (2 * i - 1) i []) i ok.Sm
 rw [zzm h0 h80 ok (fun v hv => by cases hv)] at cm
 have t0 : (((i : Nat) : Int) == 0) = false := beq_eq_false_iff_ne.2 (by omega)
 have t1 : decide (((i : Nat) : Int) > 0) = true := by rw [decide_eq_true_eq]; omega
 unfold alO
 rw [zb4 h0]
 unfold Ct.c at nb cm ⊢
 rw [zjq]
 simp only [d1,d2,nn,Int.toNat_natCast,zd,hg,St.e,zp,ze,zy,yi,yj,yg,zx,zf,ya,zq,zr,za,zh,zl,zw,ym,zi,zb,zm,zt,zg,zk,zj,yd,yf,ye,yk,yl,yb,yc,zz,zn,z8,zo,z7,z6,yo,zd,zu,yh,yq (show i < 4611686018427387904 by omega),if_true,t0,t1,Bool.false_eq_true,if_false]
 by_cases h1 : s.d = 0
 ·simp only [beq_iff_eq.2 h1,if_true,cm,nb,z0,zp,ze,zy,yi,yj,yg,zx,zf,ya,zq,zr,za,zh,zl,zw,ym,zi,zb,zm,zt,zg,zk,zj,yd,yf,ye,yk,yl,yb,yc,zz,zn,z8,zo,z7,z6,yo,zd,zu,yh,Bool.false_eq_true,if_false]
 ·have h2 : decide (s.d ≥ 4) = true := by rw [decide_eq_true_eq]; exact hd.resolve_left h1
  simp only [beq_eq_false_iff_ne.2 h1,h2,if_true,cm,nb,z0,zp,ze,zy,yi,yj,yg,zx,zf,ya,zq,zr,za,zh,zl,zw,ym,zi,zb,zm,zt,zg,zk,zj,yd,yf,ye,yk,yl,yb,yc,zz,zn,z8,zo,z7,z6,yo,zd,zu,yh,Bool.false_eq_true,if_false]
theorem z8g (A : List (List PV)) (i : Nat) (s : St) (hg : A[i]? = some s.e) (h80 : i < 80) (hl : A.length < 4611686018427387904) (h0 : 0 < i) (hd : s.d = 1) :
  yx cfg y7 Cω Lω 4 qa 0 (j8 A (i : Nat) (i : Nat)) (alO i) = Lω 4 qa 0 (j8 A ((i + 1 : Nat) : Int) ((i + 1 : Nat) : Int)) (alO (i + 1)) := by
 have hil : i < A.length := (List.getElem?_eq_some_iff.1 hg).1
 have d1 : decide (((i : Nat) : Int) < ((A.length : Nat) : Int)) = true := by rw [decide_eq_true_eq]; omega
 have d2 : decide (((i : Nat) : Int) < 80) = true := by rw [decide_eq_true_eq]; omega
 have z0 : ((0 : Int) != 0) = false := by decide
 have ii := zva h0 (Nat.le_of_lt h80)
 have ok : CtOk (alC i) := by
  have := zq9 (i := i - 1) (by omega)
  rwa [show i - 1 + 1 = i by omega] at this
 rw [zb4 h0] at ok
 have nb := zat (zhk (2 * i)) ((i + 1 : Nat) : Int) (zdv (by omega) (by omega)).Sm
 rw [zst h80] at nb
 have rd := zth (zai (2 * i - 1) i []) ok.Sm i s.a [] (by decide)
 have okr := z3h (c := zai (2 * i - 1) i []) (t := i) (newer := []) (q := s.a)
 rw [z0a ok (lk := (fun l => zem l i s.a)) (z1l ii s.a)] at rd okr
 have hm : ∀ v ∈ (zem [] i s.a).1,v.t = i := fun v hv => (zkw hv).resolve_right (fun h => by cases h)
 generalize (zem [] i s.a).1 = L at rd okr hm
 rw [List.map_nil] at rd
 have cm := zb8 (zai (2 * i - 1) i L) i okr.Sm
 rw [zzm h0 h80 okr hm] at cm
 have t0 : (((i : Nat) : Int) == 0) = false := beq_eq_false_iff_ne.2 (by omega)
 have t1 : decide (((i : Nat) : Int) > 0) = true := by rw [decide_eq_true_eq]; omega
 unfold alO
 rw [zb4 h0]
 unfold Ct.c at nb cm rd ⊢
 rw [zjq]
 simp only [d1,d2,nn,Int.toNat_natCast,zd,hg,St.e,zp,ze,zy,yi,yj,yg,zx,zf,ya,zq,zr,za,zh,zl,zw,ym,zi,zb,zm,zt,zg,zk,zj,yd,yf,ye,yk,yl,yb,yc,zz,zn,z8,zo,z7,z6,yo,zd,zu,yh,yq (show i < 4611686018427387904 by omega),if_true,t0,t1,Bool.false_eq_true,if_false]
 simp only [beq_eq_false_iff_ne.2 (show ¬ s.d = 0 by omega),decide_eq_false (show ¬ s.d ≥ 4 by omega),beq_iff_eq.2 hd,if_true,Bool.false_eq_true,if_false,rd,zp,ze,zy,yi,yj,yg,zx,zf,ya,zq,zr,za,zh,zl,zw,ym,zi,zb,zm,zt,zg,zk,zj,yd,yf,ye,yk,yl,yb,yc,zz,zn,z8,zo,z7,z6,yo,zd,zu,yh,z0]
 have el : ((((List.map Ed.e (zai (2 * (i : Int) - 1) i L).e).length : Nat) : Int) != 0) = false := rfl
 simp only [el,cm,nb,z0,zp,ze,zy,yi,yj,yg,zx,zf,ya,zq,zr,za,zh,zl,zw,ym,zi,zb,zm,zt,zg,zk,zj,yd,yf,ye,yk,yl,yb,yc,zz,zn,z8,zo,z7,z6,yo,zd,zu,yh,Bool.false_eq_true,if_false]
theorem z8f (A : List (List PV)) (i : Nat) (s : St) (hg : A[i]? = some s.e) (h80 : i < 80) (hl : A.length < 4611686018427387904) (h0 : 0 < i) (hd : s.d = 2) :
  yx cfg y7 Cω Lω 4 qa 0 (j8 A (i : Nat) (i : Nat)) (alO i) = Lω 4 qa 0 (j8 A ((i + 1 : Nat) : Int) ((i + 1 : Nat) : Int)) (alO (i + 1)) := by
 have hil : i < A.length := (List.getElem?_eq_some_iff.1 hg).1
 have d1 : decide (((i : Nat) : Int) < ((A.length : Nat) : Int)) = true := by rw [decide_eq_true_eq]; omega
 have d2 : decide (((i : Nat) : Int) < 80) = true := by rw [decide_eq_true_eq]; omega
 have z0 : ((0 : Int) != 0) = false := by decide
 have ii := zva h0 (Nat.le_of_lt h80)
 have ok : CtOk (alC i) := by
  have := zq9 (i := i - 1) (by omega)
  rwa [show i - 1 + 1 = i by omega] at this
 rw [zb4 h0] at ok
 have nb := zat (zhk (2 * i)) ((i + 1 : Nat) : Int) (zdv (by omega) (by omega)).Sm
 rw [zst h80] at nb
 have rd := z22 (zai (2 * i - 1) i []) ok.Sm i s.a s.b [] (by decide)
 have okr := z3g (c := zai (2 * i - 1) i []) (t := i) (newer := []) (a := s.a) (b := s.b)
 rw [z0a ok (lk := (fun l => zfe l i s.a s.b)) (z06 ii s.a s.b)] at rd okr
 have hm : ∀ v ∈ (zfe [] i s.a s.b).1,v.t = i := fun v hv => (zkg hv).resolve_right (fun h => by cases h)
 generalize (zfe [] i s.a s.b).1 = L at rd okr hm
 rw [List.map_nil] at rd
 have cm := zb8 (zai (2 * i - 1) i L) i okr.Sm
 rw [zzm h0 h80 okr hm] at cm
 have t0 : (((i : Nat) : Int) == 0) = false := beq_eq_false_iff_ne.2 (by omega)
 have t1 : decide (((i : Nat) : Int) > 0) = true := by rw [decide_eq_true_eq]; omega
 unfold alO
 rw [zb4 h0]
 unfold Ct.c at nb cm rd ⊢
 rw [zjq]
 simp only [d1,d2,nn,Int.toNat_natCast,zd,hg,St.e,zp,ze,zy,yi,yj,yg,zx,zf,ya,zq,zr,za,zh,zl,zw,ym,zi,zb,zm,zt,zg,zk,zj,yd,yf,ye,yk,yl,yb,yc,zz,zn,z8,zo,z7,z6,yo,zd,zu,yh,yq (show i < 4611686018427387904 by omega),if_true,t0,t1,Bool.false_eq_true,if_false]
 simp only [beq_eq_false_iff_ne.2 (show ¬ s.d = 0 by omega),decide_eq_false (show ¬ s.d ≥ 4 by omega),beq_eq_false_iff_ne.2 (show ¬ s.d = 1 by omega),beq_iff_eq.2 hd,if_true,Bool.false_eq_true,if_false,rd,zp,ze,zy,yi,yj,yg,zx,zf,ya,zq,zr,za,zh,zl,zw,ym,zi,zb,zm,zt,zg,zk,zj,yd,yf,ye,yk,yl,yb,yc,zz,zn,z8,zo,z7,z6,yo,zd,zu,yh,z0]
 have el : ((((List.map Ed.e (zai (2 * (i : Int) - 1) i L).e).length : Nat) : Int) != 0) = false := rfl
 simp only [el,cm,nb,z0,zp,ze,zy,yi,yj,yg,zx,zf,ya,zq,zr,za,zh,zl,zw,ym,zi,zb,zm,zt,zg,zk,zj,yd,yf,ye,yk,yl,yb,yc,zz,zn,z8,zo,z7,z6,yo,zd,zu,yh,Bool.false_eq_true,if_false]
theorem z8e (A : List (List PV)) (i : Nat) (s : St) (hg : A[i]? = some s.e) (h80 : i < 80) (hl : A.length < 4611686018427387904) (h0 : 0 < i) (n0 : ¬ s.d = 0) (n1 : ¬ s.d = 1) (n2 : ¬ s.d = 2) (n4 : ¬ s.d ≥ 4) :
  yx cfg y7 Cω Lω 4 qa 0 (j8 A (i : Nat) (i : Nat)) (alO i) = Lω 4 qa 0 (j8 A ((i + 1 : Nat) : Int) ((i + 1 : Nat) : Int)) (alO (i + 1)) := by
 have hil : i < A.length := (List.getElem?_eq_some_iff.1 hg).1
 have d1 : decide (((i : Nat) : Int) < ((A.length : Nat) : Int)) = true := by rw [decide_eq_true_eq]; omega
 have d2 : decide (((i : Nat) : Int) < 80) = true := by rw [decide_eq_true_eq]; omega
 have z0 : ((0 : Int) != 0) = false := by decide
 have ii := zva h0 (Nat.le_of_lt h80)
 have ok : CtOk (alC i) := by
  have := zq9 (i := i - 1) (by omega)
  rwa [show i - 1 + 1 = i by omega] at this
 rw [zb4 h0] at ok
 have nb := zat (zhk (2 * i)) ((i + 1 : Nat) : Int) (zdv (by omega) (by omega)).Sm
 rw [zst h80] at nb
 have rd := zn5 (zai (2 * i - 1) i []) ok.Sm i s.a
 rw [z2u ok] at rd
 have cm := zb8 (zai (2 * i - 1) i []) i ok.Sm
 rw [zzm h0 h80 ok (fun v hv => by cases hv)] at cm
 have t0 : (((i : Nat) : Int) == 0) = false := beq_eq_false_iff_ne.2 (by omega)
 have t1 : decide (((i : Nat) : Int) > 0) = true := by rw [decide_eq_true_eq]; omega
 unfold alO
 rw [zb4 h0]
 unfold Ct.c at nb cm rd ⊢
 rw [zjq]
 simp only [d1,d2,nn,Int.toNat_natCast,zd,hg,St.e,zp,ze,zy,yi,yj,yg,zx,zf,ya,zq,zr,za,zh,zl,zw,ym,zi,zb,zm,zt,zg,zk,zj,yd,yf,ye,yk,yl,yb,yc,zz,zn,z8,zo,z7,z6,yo,zd,zu,yh,yq (show i < 4611686018427387904 by omega),if_true,t0,t1,Bool.false_eq_true,if_false]
 simp only [beq_eq_false_iff_ne.2 n0,decide_eq_false n4,beq_eq_false_iff_ne.2 n1,beq_eq_false_iff_ne.2 n2,if_true,Bool.false_eq_true,if_false,rd,zp,ze,zy,yi,yj,yg,zx,zf,ya,zq,zr,za,zh,zl,zw,ym,zi,zb,zm,zt,zg,zk,zj,yd,yf,ye,yk,yl,yb,yc,zz,zn,z8,zo,z7,z6,yo,zd,zu,yh,z0]
 have el : ((((List.map Ed.e (zai (2 * (i : Int) - 1) i []).e).length : Nat) : Int) != 0) = false := rfl
 simp only [el,cm,nb,z0,zp,ze,zy,yi,yj,yg,zx,zf,ya,zq,zr,za,zh,zl,zw,ym,zi,zb,zm,zt,zg,zk,zj,yd,yf,ye,yk,yl,yb,yc,zz,zn,z8,zo,z7,z6,yo,zd,zu,yh,Bool.false_eq_true,if_false]
theorem z1h (l : List St) (hl : l.length < 4611686018427387904) : Lω 4 qa 0 (j8 (l.map St.e) 0 0) (alO 0) = some (.exit 0,mkS 133 [],[]) := by
 have := jx (f := 4) (cd := qa) (n0 := 0) (fun i (_ : Unit) => j8 (l.map St.e) (i : Nat) (i : Nat)) (fun i _ => alO i) (l.take 80) (fun _ _ p => p)
  (fun _ => (.exit 0,mkS 133 [],[])) (fun i p => True) (fun i s p hg hi hp => by
   have hi80 : i < 80 := by rw [List.length_take] at hi; omega
   rw [List.getElem?_take_of_lt hi80] at hg
   refine ⟨trivial,?_⟩
   have hg' : (l.map St.e)[i]? = some s.e := y8 hg
   have hl' : (l.map St.e).length < 4611686018427387904 := by rw [List.length_map]; exact hl
   by_cases h0 : i = 0
   ·exact z8h _ i s hg' hi80 hl' h0
   have h0 : 0 < i := Nat.pos_of_ne_zero h0
   by_cases n0 : s.d = 0
   ·exact z70 _ i s hg' hi80 hl' h0 (.inl n0)
   by_cases n4 : s.d ≥ 4
   ·exact z70 _ i s hg' hi80 hl' h0 (.inr n4)
   by_cases n1 : s.d = 1
   ·exact z8g _ i s hg' hi80 hl' h0 n1
   by_cases n2 : s.d = 2
   ·exact z8f _ i s hg' hi80 hl' h0 n2
   exact z8e _ i s hg' hi80 hl' h0 n0 n1 n2 n4) (fun p hp => by
   unfold alO Ct.c
   rw [zjq,List.length_map]
   by_cases h : l.length ≤ 80
   ·rw [List.take_of_length_le h,if_neg (by rw [decide_eq_true_eq]; omega)]
   ·rw [if_pos (by rw [decide_eq_true_eq,List.length_take]; omega),if_neg (by rw [decide_eq_true_eq,List.length_take]; omega)]) () trivial
 rw [z2r] at this
 exact this
theorem lawAlone (l : List St) (hl : l.length < 4611686018427387904) : yn Cω 4 [.psl false (l.map St.e)] = some (.bool true) := by
 have ev := z8k Cω Lω (l.map St.e)
 have i1 := z1h l hl
 have i1' : Lω 4 qa 0 (j8 (l.map St.e) 0 0) [.box true 28 [.int .i64 0,.psl false [],.psl false [],.psl false [],.psl false []]] = _ := i1
 rw [i1'] at ev
 simp only [zp,ze,zy,yi,yj,yg,zx,zf,ya,zq,zr,za,zh,zl,zw,ym,zi,zb,zm,zt,zg,zk,zj,yd,yf,ye,yk,yl,yb,yc,zz,zn,z8,zo,z7,z6,yo,zd,zu,yh,if_true,zw3] at ev
 exact pc ev rfl
end Go.Pvm.S
