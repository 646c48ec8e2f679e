/- Part of the proof: certifiers: which may be. -/
import Derived.Test.YtjfgklgcbogejaaGreatSirN
import Derived.Test.YtjfgklgcbogejaaGreatEdgeH
set_option linter.unusedSimpArgs false
set_option linter.unusedVariables false
set_option maxRecDepth 100000
namespace Go.Pvm.S
open Go.Pvm Go.Proofs
structure Ct where
 k : Int
 s : List Spn
 d : List Int
 l : List Lk
 e : List Ed
 deriving DecidableEq
def Ct.c (c : Ct) : List PV := [.int .i64 c.k,.psl false (c.s.map Spn.e),.psl false (c.d.map ie),.psl false (c.l.map Lk.e),.psl false (c.e.map Ed.e)]
structure Ct.Sm (c : Ct) : Prop where
 s : c.s.length < 100000
 d : c.d.length < 100000
 l : c.l.length < 100000
 e : c.e.length < 100000
theorem z2a (a b : Int) : (ul a b < 0 ↔ a < b) := by rcases jt a b with ⟨h,e⟩ | ⟨h,e⟩ | ⟨h,e⟩ <;> rw [e] <;> constructor <;> intro _ <;> first | omega | decide
theorem zv6 (a b : Int) : (ul a b = 0 ↔ a = b) := by rcases jt a b with ⟨h,e⟩ | ⟨h,e⟩ | ⟨h,e⟩ <;> rw [e] <;> constructor <;> intro _ <;> first | omega | decide
theorem z3d (a : Spn) (x : Int) : yn Cω 84 [.agg a.e,.int .i64 x] = some (.int .i64 (ul a.t x)) := by
 have ev := z6x Cω Lω a.t a.b a.c x
 simp only [zw1,zp,ze,zy,yi,yj,yg,zx,zf,ya,zq,zr,za,zh,zl,zw,ym,zi,zb,zm,zt,zg,zk,zj,yd,yf,ye,yk,yl,yb,yc,zz,zn,z8,zo,z7,z6,yo,zd,zu,yh] at ev
 exact pc ev rfl
theorem z5l (l : List Spn) (x : Int) (hl : l.length < 1073741824) (p : Nat) (hp : p ≤ l.length) (hk : ∀ k a,l[k]? = some a → ((fun (a : Spn) (x : Int) => ul a.t x) a x < 0 ↔ k < p)) : ∀ m lo hi : Nat,hi - lo ≤ m → lo ≤ p → p ≤ hi → hi ≤ l.length →
  Lω 83 zak 0 (zad (l.map Spn.e) x (l.length : Nat) (lo : Nat) (hi : Nat)) [] = some (.exit 0,mkS 49 [(0,.psl false (l.map Spn.e)),(1,.int .i64 x),(2,.func 84 []),(8,.int .i64 (l.length : Nat)),(9,.int .i64 (p : Nat))],[]) := by
 intro m
 induction m with
 | zero =>
   intro lo hi hm h1 h2 h3
   have : lo = hi := by omega
   subst this
   have : p = lo := by omega
   subst this
   refine lw ?_
   rw [zjp,if_neg (by simp)]
 | succ m ih =>
   intro lo hi hm h1 h2 h3
   by_cases hlt : lo < hi
   ·have hh : (lo + hi) / 2 < l.length := by omega
    have hg := List.getElem?_eq_getElem hh
    have hc := hk _ _ hg
    refine lw ?_
    rw [zjp,if_pos (by simp; omega),z34 (by omega),if_pos (nn _),Int.toNat_natCast,y8 hg]
    have hs := z3d l[(lo + hi) / 2] x
    simp only [Spn.e] at hs
    simp only [Spn.e,zp,ze,zy,yi,yj,yg,zx,zf,ya,zq,zr,za,zh,zl,zw,ym,zi,zb,zm,zt,zg,zk,zj,yd,yf,ye,yk,yl,yb,yc,zz,zn,z8,zo,z7,z6,yo,zd,zu,yh,hs]
    by_cases hq : (fun (a : Spn) (x : Int) => ul a.t x) l[(lo + hi) / 2] x < 0
    ·rw [if_pos (by rw [decide_eq_true_eq]; exact hq),yq (by omega)]
     exact ih _ hi (by omega) (by have := hc.1 hq; omega) h2 h3
    ·rw [if_neg (by rw [decide_eq_true_eq]; exact hq)]
     exact ih lo _ (by omega) h1 (by have : ¬ _ := fun h => hq (hc.2 h); omega) (by omega)
   ·exact ih lo hi (by omega) h1 h2 h3
theorem z5k (l : List Spn) (x : Int) (hl : l.length < 1073741824) (p : Nat) (hp : p ≤ l.length) (hk : ∀ k a,l[k]? = some a → ((fun (a : Spn) (x : Int) => ul a.t x) a x < 0 ↔ k < p)) :
  yn Cω 83 [.psl false (l.map Spn.e),.int .i64 x,.func 84 []] = some (.tuple [.int .i64 (p : Nat),.bool (match l[p]? with | some a => (fun (a : Spn) (x : Int) => ul a.t x) a x == 0 | none => false)]) := by
 have ev := zy1 Cω Lω (l.map Spn.e) x
 have lp := z5l l x hl p hp hk l.length 0 l.length (by omega) (by omega) hp (Nat.le_refl _)
 rw [z5v] at lp
 try simp only [Spn.e] at lp
 rw [List.length_map] at ev
 try simp only [Spn.e] at ev
 try simp only [Spn.e]
 rw [lp] at ev
 simp only [zp,ze,zy,yi,yj,yg,zx,zf,ya,zq,zr,za,zh,zl,zw,ym,zi,zb,zm,zt,zg,zk,zj,yd,yf,ye,yk,yl,yb,yc,zz,zn,z8,zo,z7,z6,yo,zd,zu,yh,y1,yz,ne_eq,not_false_eq_true,Nat.reduceLT,Nat.reduceEqDiff,if_true] at ev
 by_cases h : p < l.length
 ·have hg := List.getElem?_eq_getElem h
  rw [if_pos (by rw [decide_eq_true_eq]; omega),if_pos (nn _),Int.toNat_natCast] at ev
  have hg2 := y8 (f := Spn.e) hg
  simp only [Spn.e] at hg2
  rw [hg2] at ev
  have hs := z3d l[p] x
  simp only [Spn.e] at hs
  simp only [zp,ze,zy,yi,yj,yg,zx,zf,ya,zq,zr,za,zh,zl,zw,ym,zi,zb,zm,zt,zg,zk,zj,yd,yf,ye,yk,yl,yb,yc,zz,zn,z8,zo,z7,z6,yo,zd,zu,yh,hs] at ev
  rw [hg]
  exact pc ev rfl
 ·rw [if_neg (by rw [decide_eq_true_eq]; omega)] at ev
  rw [List.getElem?_eq_none (by omega)]
  exact pc ev rfl
def atP (s : List Spn) (t : Int) : Nat := (s.takeWhile fun a => decide (a.t < t)).length
theorem zg6 {s : List Spn} (hm : qw s = true) : ∀ (i j : Nat) (a b : Spn),i < j → s[i]? = some a → s[j]? = some b → a.t < b.t := fun i j a b hij ha hb => u0 (lt := fun a b : Spn => a.t < b.t) (fun a b c h1 h2 => Int.lt_trans h1 h2) (zjm hm) hij ha hb
theorem zgw {s : List Spn} (hm : qw s = true) (t : Int) : atP s t ≤ s.length ∧ ∀ k a,s[k]? = some a → (a.t < t ↔ k < atP s t) := by
 obtain ⟨h1,h2⟩ := zal (q := fun a : Spn => decide (a.t < t)) (l := s) fun i j a b hij ha hb hq => by
  have := zg6 hm i j a b hij ha hb
  rw [decide_eq_true_eq] at hq ⊢
  omega
 exact ⟨h1,fun k a hk => by have := h2 k a hk; rwa [decide_eq_true_eq] at this⟩
theorem qu {s : List Spn} {t : Int} (h : (spn s t).2 = true) : (spn s t).1 ∈ s ∧ (spn s t).1.t = t := by
 unfold spn at h ⊢
 cases hf : s.find? (fun a => a.t == t) with
 | some a =>
   have h1 := List.find?_some (p := fun a : Spn => a.t == t) hf
   rw [beq_iff_eq] at h1
   exact ⟨List.mem_of_find?_eq_some hf,h1⟩
 | none => rw [hf] at h; cases h
theorem zb7 {s : List Spn} {t : Int} (h : (spn s t).2 = false) : ∀ a ∈ s,a.t ≠ t := by
 unfold spn at h
 cases hf : s.find? (fun a => a.t == t) with
 | some a => rw [hf] at h; cases h
 | none => exact fun a ha e => by have := List.find?_eq_none.1 hf a ha; rw [beq_iff_eq] at this; exact this e
theorem z2z {s : List Spn} {t : Int} {a : Spn} (ha : a ∈ s) (h : a.t = t) : (spn s t).2 = true := by
 cases hq : (spn s t).2 with
 | true => rfl
 | false => exact absurd h (zb7 hq a ha)
theorem zpp {s : List Spn} (hm : qw s = true) {a b : Spn} (ha : a ∈ s) (hb : b ∈ s) (h : a.t = b.t) : a = b := by
 obtain ⟨i,hi⟩ := List.mem_iff_getElem?.1 ha
 obtain ⟨j,hj⟩ := List.mem_iff_getElem?.1 hb
 rcases Nat.lt_trichotomy i j with h1 | h1 | h1
 ·have := zg6 hm i j a b h1 hi hj; omega
 ·subst h1; rw [hi] at hj; exact Option.some.inj hj
 ·have := zg6 hm j i b a h1 hj hi; omega
theorem zfc {s : List Spn} (hm : qw s = true) {a : Spn} (ha : a ∈ s) : spn s a.t = (a,true) := by
 have h2 := z2z ha rfl
 obtain ⟨h3,h4⟩ := qu h2
 have := zpp hm h3 ha h4
 cases hq : spn s a.t with
 | mk x y =>
   rw [hq] at h2 this
   have e1 : x = a := this
   have e2 : y = true := h2
   rw [e1,e2]
theorem zbb {s : List Spn} (hm : qw s = true) {t : Int} (h : (spn s t).2 = true) : s[atP s t]? = some (spn s t).1 := by
 obtain ⟨h1,h2⟩ := qu h
 obtain ⟨k,hk⟩ := List.mem_iff_getElem?.1 h1
 obtain ⟨p1,p2⟩ := zgw hm t
 have hkp : k = atP s t := by
  have n1 : ¬ k < atP s t := fun h => by have := (p2 k _ hk).2 h; omega
  by_cases hlt : atP s t < k
  ·have hkl := (List.getElem?_eq_some_iff.1 hk).1
   have hg := List.getElem?_eq_getElem (show atP s t < s.length by omega)
   have := zg6 hm _ _ _ _ hlt hg hk
   have h3 : atP s t < atP s t := (p2 _ _ hg).1 (by omega)
   omega
  ·omega
 rw [← hkp]; exact hk
theorem z5n {s : List Spn} (hm : qw s = true) (t : Int) : (match s[atP s t]? with | some a => ul a.t t == 0 | none => false) = (spn s t).2 := by
 cases hq : (spn s t).2 with
 | true =>
   rw [zbb hm hq]
   show (ul (spn s t).1.t t == 0) = true
   rw [beq_iff_eq,zv6]
   exact (qu hq).2
 | false =>
   cases hg : s[atP s t]? with
   | none => rfl
   | some a =>
     show (ul a.t t == 0) = false
     rw [beq_eq_false_iff_ne,ne_eq,zv6]
     exact zb7 hq a (List.mem_iff_getElem?.2 ⟨_,hg⟩)
theorem z01 (c : Ct) (t : Int) (hs : c.s.length < 100000) (hm : qw c.s = true) : yn Cω 29 [.agg c.c,.int .i64 t] = some (.tuple [.int .i64 (atP c.s t : Nat),.bool (spn c.s t).2]) := by
 have ev := z7h Cω Lω c.k (c.s.map Spn.e) (c.d.map ie) (c.l.map Lk.e) (c.e.map Ed.e) t
 obtain ⟨p1,p2⟩ := zgw hm t
 have hb := z5k c.s t (by omega) (atP c.s t) p1 (fun k a hk => by
  show ul a.t t < 0 ↔ _
  rw [z2a]; exact p2 k a hk)
 have hi : (match c.s[atP c.s t]? with | some a => (fun (a : Spn) (x : Int) => ul a.t x) a t == 0 | none => false) = (spn c.s t).2 := z5n hm t
 rw [hi] at hb
 rw [hb] at ev
 simp only [zp,ze,zy,yi,yj,yg,zx,zf,ya,zq,zr,za,zh,zl,zw,ym,zi,zb,zm,zt,zg,zk,zj,yd,yf,ye,yk,yl,yb,yc,zz,zn,z8,zo,z7,z6,yo,zd,zu,yh] at ev
 exact pc ev rfl
def dm (c : Ct) (t : Int) : Bool := c.d.any fun a => t == a
def lv (c : Ct) (t : Int) : Bool := (spn c.s t).2 && ((spn c.s t).1.c == 0)
def sd (c : Ct) (t : Int) : Bool := (spn c.s t).2 && !dm c t
theorem z0z (c : Ct) (t : Int) (hd : c.d.length < 100000) : yn Cω 32 [.agg c.c,.int .i64 t] = some (.bool (dm c t)) := by
 have ev := z7g Cω Lω c.k (c.s.map Spn.e) (c.d.map ie) (c.l.map Lk.e) (c.e.map Ed.e) t
 rw [zn9 c.d t (by omega)] at ev
 simp only [zp,ze,zy,yi,yj,yg,zx,zf,ya,zq,zr,za,zh,zl,zw,ym,zi,zb,zm,zt,zg,zk,zj,yd,yf,ye,yk,yl,yb,yc,zz,zn,z8,zo,z7,z6,yo,zd,zu,yh] at ev
 exact pc ev rfl
theorem zz6 (c : Ct) (t : Int) (hs : c.s.length < 100000) (hm : qw c.s = true) : yn Cω 59 [.agg c.c,.int .i64 t] = some (.bool (lv c t)) := by
 have ev := z61 Cω Lω c.k (c.s.map Spn.e) (c.d.map ie) (c.l.map Lk.e) (c.e.map Ed.e) t
 have ha := z01 c t hs hm
 unfold Ct.c at ha
 simp only [ha,zp,ze,zy,yi,yj,yg,zx,zf,ya,zq,zr,za,zh,zl,zw,ym,zi,zb,zm,zt,zg,zk,zj,yd,yf,ye,yk,yl,yb,yc,zz,zn,z8,zo,z7,z6,yo,zd,zu,yh] at ev
 unfold lv
 cases hq : (spn c.s t).2 with
 | true =>
   rw [hq] at ev
   simp only [if_true,nn,Int.toNat_natCast,y8 (zbb hm hq),Spn.e,zp,ze,zy,yi,yj,yg,zx,zf,ya,zq,zr,za,zh,zl,zw,ym,zi,zb,zm,zt,zg,zk,zj,yd,yf,ye,yk,yl,yb,yc,zz,zn,z8,zo,z7,z6,yo,zd,zu,yh] at ev
   exact pc ev rfl
 | false =>
   rw [hq] at ev
   simp only [Bool.false_eq_true,if_false] at ev
   exact pc ev rfl
theorem z21 (c : Ct) (t : Int) (hs : c.s.length < 100000) (hd : c.d.length < 100000) (hm : qw c.s = true) : yn Cω 62 [.agg c.c,.int .i64 t] = some (.bool (sd c t)) := by
 have ev := z6z Cω Lω c.k (c.s.map Spn.e) (c.d.map ie) (c.l.map Lk.e) (c.e.map Ed.e) t
 have ha := z01 c t hs hm
 have hb := z0z c t hd
 unfold Ct.c at ha hb
 simp only [ha,hb,zp,ze,zy,yi,yj,yg,zx,zf,ya,zq,zr,za,zh,zl,zw,ym,zi,zb,zm,zt,zg,zk,zj,yd,yf,ye,yk,yl,yb,yc,zz,zn,z8,zo,z7,z6,yo,zd,zu,yh] at ev
 unfold sd
 cases hq : (spn c.s t).2 with
 | true =>
   rw [hq] at ev
   simp only [if_true] at ev
   exact pc ev rfl
 | false =>
   rw [hq] at ev
   simp only [Bool.false_eq_true,if_false] at ev
   exact pc ev rfl
theorem z55 (a : Spn) (c : Ct) : yn Cω 58 [.agg a.e,.pref c.c] = some (.bool (decide (a.b > c.k) || decide (a.c > c.k))) := by
 have ev := z62 Cω Lω a.t a.b a.c c.k (c.s.map Spn.e) (c.d.map ie) (c.l.map Lk.e) (c.e.map Ed.e)
 cases hq : decide (a.b > c.k) with
 | true => rw [hq] at ev; exact pc ev rfl
 | false => rw [hq] at ev; exact pc ev rfl
theorem z54 (a : Lk) (c : Ct) (hs : c.s.length < 100000) (hd : c.d.length < 100000) (hm : qw c.s = true) : yn Cω 61 [.agg a.e,.pref c.c] = some (.bool (!sd c a.t)) := by
 have ev := z60 Cω Lω a.t a.k a.q.toNat a.p c.k (c.s.map Spn.e) (c.d.map ie) (c.l.map Lk.e) (c.e.map Ed.e)
 have h := z21 c a.t hs hd hm
 unfold Ct.c at h
 simp only [h,zp,ze,zy,yi,yj,yg,zx,zf,ya,zq,zr,za,zh,zl,zw,ym,zi,zb,zm,zt,zg,zk,zj,yd,yf,ye,yk,yl,yb,yc,zz,zn,z8,zo,z7,z6,yo,zd,zu,yh] at ev
 exact pc ev rfl
theorem z52 (a : Ed) (c : Ct) (hs : c.s.length < 100000) (hd : c.d.length < 100000) (hm : qw c.s = true) : yn Cω 64 [.agg a.e,.pref c.c] = some (.bool (!sd c a.f || !sd c a.t)) := by
 have ev := z6y Cω Lω a.f a.t c.k (c.s.map Spn.e) (c.d.map ie) (c.l.map Lk.e) (c.e.map Ed.e)
 have h := z21 c a.f hs hd hm
 have h' := z21 c a.t hs hd hm
 unfold Ct.c at h h'
 simp only [h,h',zp,ze,zy,yi,yj,yg,zx,zf,ya,zq,zr,za,zh,zl,zw,ym,zi,zb,zm,zt,zg,zk,zj,yd,yf,ye,yk,yl,yb,yc,zz,zn,z8,zo,z7,z6,yo,zd,zu,yh] at ev
 cases hq : sd c a.f with
 | true => rw [hq] at ev; exact pc ev rfl
 | false => rw [hq] at ev; exact pc ev rfl
theorem zyq (l : List Spn) (c : Ct) (hl : l.length < 4611686018427387904) : Lω 116 za2 0 (ua (l.map Spn.e) c.k (c.s.map Spn.e) (c.d.map ie) (c.l.map Lk.e) (c.e.map Ed.e) (l.length : Nat) 0) [] =
  some (zf8 (xz (fun a => decide (a.b > c.k) || decide (a.c > c.k)) l 0) (fun i _ => (.ret,mkS 19 [(4,.int .i64 (i : Nat))],[])) (.exit 0,mkS 19 [],[])) :=
 qx (fun i => ua (l.map Spn.e) c.k (c.s.map Spn.e) (c.d.map ie) (c.l.map Lk.e) (c.e.map Ed.e) (l.length : Nat) (i : Nat)) [] l (fun a => decide (a.b > c.k) || decide (a.c > c.k)) (fun i _ => (.ret,mkS 19 [(4,.int .i64 (i : Nat))],[])) (.exit 0,mkS 19 [],[]) (fun i a hg hi => by
  have hs := z55 a c
  rw [zhu]
  try simp only [Spn.e,Ct.c] at hs
  simp only [decide_eq_true_eq,Int.ofNat_lt,List.length_map,if_true,nn,true_and,Int.toNat_natCast,zd,hi,y8 hg,Spn.e,Ct.c,zp,ze,zy,yi,yj,yg,zx,zf,ya,zq,zr,za,zh,zl,zw,ym,zi,zb,zm,zt,zg,zk,zj,yd,yf,ye,yk,yl,yb,yc,zz,zn,z8,zo,z7,z6,yo,zd,zu,yh,hs,yq (show i < 4611686018427387904 by omega)]) (by rw [zhu]; simp only [decide_eq_true_eq,Int.ofNat_lt,List.length_map,if_true,nn,true_and,Int.toNat_natCast,zd,Nat.lt_irrefl,if_false])
theorem zyr (l : List Spn) (c : Ct) (hl : l.length < 4611686018427387904) : yn Cω 116 [.psl false (l.map Spn.e),.func 58 [.pref [.int .i64 c.k,.psl false (c.s.map Spn.e),.psl false (c.d.map ie),.psl false (c.l.map Lk.e),.psl false (c.e.map Ed.e)]]] = some (.int .i64 (zf8 (xz (fun a => decide (a.b > c.k) || decide (a.c > c.k)) l 0) (fun i _ => ((i : Nat) : Int)) (-1))) := by
 have ev := zvr Cω Lω (l.map Spn.e) c.k (c.s.map Spn.e) (c.d.map ie) (c.l.map Lk.e) (c.e.map Ed.e)
 have lp := zyq l c hl
 rw [List.length_map,lp] at ev
 cases hq : xz (fun a => decide (a.b > c.k) || decide (a.c > c.k)) l 0 with
 | none =>
   rw [hq] at ev
   simp only [xq,zp,ze,zy,yi,yj,yg,zx,zf,ya,zq,zr,za,zh,zl,zw,ym,zi,zb,zm,zt,zg,zk,zj,yd,yf,ye,yk,yl,yb,yc,zz,zn,z8,zo,z7,z6,yo,zd,zu,yh,if_true] at ev
   exact pc ev rfl
 | some x =>
   rw [hq] at ev
   simp only [xc,zp,ze,zy,yi,yj,yg,zx,zf,ya,zq,zr,za,zh,zl,zw,ym,zi,zb,zm,zt,zg,zk,zj,yd,yf,ye,yk,yl,yb,yc,zz,zn,z8,zo,z7,z6,yo,zd,zu,yh,y1,yz,ne_eq,not_false_eq_true,Nat.reduceLT,Nat.reduceEqDiff] at ev
   exact pc ev rfl
theorem zys (l : List Spn) (c : Ct) (hl : l.length < 4611686018427387904) : yn Cω 57 [.psl false (l.map Spn.e),.func 58 [.pref [.int .i64 c.k,.psl false (c.s.map Spn.e),.psl false (c.d.map ie),.psl false (c.l.map Lk.e),.psl false (c.e.map Ed.e)]]] = some (.bool (l.any fun a => decide (a.b > c.k) || decide (a.c > c.k))) := by
 have ev := zy4 Cω Lω (l.map Spn.e) c.k (c.s.map Spn.e) (c.d.map ie) (c.l.map Lk.e) (c.e.map Ed.e)
 rw [zyr l c hl] at ev
 simp only [zp,ze,zy,yi,yj,yg,zx,zf,ya,zq,zr,za,zh,zl,zw,ym,zi,zb,zm,zt,zg,zk,zj,yd,yf,ye,yk,yl,yb,yc,zz,zn,z8,zo,z7,z6,yo,zd,zu,yh] at ev
 have hany := j4 (p := fun a => decide (a.b > c.k) || decide (a.c > c.k)) l 0
 rw [← hany]
 cases hq : xz (fun a => decide (a.b > c.k) || decide (a.c > c.k)) l 0 with
 | none =>
   rw [hq] at ev
   exact pc ev rfl
 | some y =>
   rw [hq] at ev
   have h0 : decide (((y.1 : Nat) : Int) ≥ 0) = true := by rw [decide_eq_true_eq]; omega
   simp only [xc,h0] at ev
   exact pc ev rfl
theorem zyn (l : List Lk) (c : Ct) (hs : c.s.length < 100000) (hd : c.d.length < 100000) (hm : qw c.s = true) (hl : l.length < 4611686018427387904) : Lω 117 za0 0 (wz (l.map Lk.e) c.k (c.s.map Spn.e) (c.d.map ie) (c.l.map Lk.e) (c.e.map Ed.e) (l.length : Nat) 0) [] =
  some (zf8 (xz (fun a => !sd c a.t) l 0) (fun i _ => (.ret,mkS 19 [(4,.int .i64 (i : Nat))],[])) (.exit 0,mkS 19 [],[])) :=
 qx (fun i => wz (l.map Lk.e) c.k (c.s.map Spn.e) (c.d.map ie) (c.l.map Lk.e) (c.e.map Ed.e) (l.length : Nat) (i : Nat)) [] l (fun a => !sd c a.t) (fun i _ => (.ret,mkS 19 [(4,.int .i64 (i : Nat))],[])) (.exit 0,mkS 19 [],[]) (fun i a hg hi => by
  have hs := z54 a c hs hd hm
  rw [zhs]
  try simp only [Lk.e,Ct.c] at hs
  simp only [decide_eq_true_eq,Int.ofNat_lt,List.length_map,if_true,nn,true_and,Int.toNat_natCast,zd,hi,y8 hg,Lk.e,Ct.c,zp,ze,zy,yi,yj,yg,zx,zf,ya,zq,zr,za,zh,zl,zw,ym,zi,zb,zm,zt,zg,zk,zj,yd,yf,ye,yk,yl,yb,yc,zz,zn,z8,zo,z7,z6,yo,zd,zu,yh,hs,yq (show i < 4611686018427387904 by omega)]) (by rw [zhs]; simp only [decide_eq_true_eq,Int.ofNat_lt,List.length_map,if_true,nn,true_and,Int.toNat_natCast,zd,Nat.lt_irrefl,if_false])
theorem zyo (l : List Lk) (c : Ct) (hs : c.s.length < 100000) (hd : c.d.length < 100000) (hm : qw c.s = true) (hl : l.length < 4611686018427387904) : yn Cω 117 [.psl false (l.map Lk.e),.func 61 [.pref [.int .i64 c.k,.psl false (c.s.map Spn.e),.psl false (c.d.map ie),.psl false (c.l.map Lk.e),.psl false (c.e.map Ed.e)]]] = some (.int .i64 (zf8 (xz (fun a => !sd c a.t) l 0) (fun i _ => ((i : Nat) : Int)) (-1))) := by
 have ev := zvp Cω Lω (l.map Lk.e) c.k (c.s.map Spn.e) (c.d.map ie) (c.l.map Lk.e) (c.e.map Ed.e)
 have lp := zyn l c hs hd hm hl
 rw [List.length_map,lp] at ev
 cases hq : xz (fun a => !sd c a.t) l 0 with
 | none =>
   rw [hq] at ev
   simp only [xq,zp,ze,zy,yi,yj,yg,zx,zf,ya,zq,zr,za,zh,zl,zw,ym,zi,zb,zm,zt,zg,zk,zj,yd,yf,ye,yk,yl,yb,yc,zz,zn,z8,zo,z7,z6,yo,zd,zu,yh,if_true] at ev
   exact pc ev rfl
 | some x =>
   rw [hq] at ev
   simp only [xc,zp,ze,zy,yi,yj,yg,zx,zf,ya,zq,zr,za,zh,zl,zw,ym,zi,zb,zm,zt,zg,zk,zj,yd,yf,ye,yk,yl,yb,yc,zz,zn,z8,zo,z7,z6,yo,zd,zu,yh,y1,yz,ne_eq,not_false_eq_true,Nat.reduceLT,Nat.reduceEqDiff] at ev
   exact pc ev rfl
theorem zyp (l : List Lk) (c : Ct) (hs : c.s.length < 100000) (hd : c.d.length < 100000) (hm : qw c.s = true) (hl : l.length < 4611686018427387904) : yn Cω 60 [.psl false (l.map Lk.e),.func 61 [.pref [.int .i64 c.k,.psl false (c.s.map Spn.e),.psl false (c.d.map ie),.psl false (c.l.map Lk.e),.psl false (c.e.map Ed.e)]]] = some (.bool (l.any fun a => !sd c a.t)) := by
 have ev := zy3 Cω Lω (l.map Lk.e) c.k (c.s.map Spn.e) (c.d.map ie) (c.l.map Lk.e) (c.e.map Ed.e)
 rw [zyo l c hs hd hm hl] at ev
 simp only [zp,ze,zy,yi,yj,yg,zx,zf,ya,zq,zr,za,zh,zl,zw,ym,zi,zb,zm,zt,zg,zk,zj,yd,yf,ye,yk,yl,yb,yc,zz,zn,z8,zo,z7,z6,yo,zd,zu,yh] at ev
 have hany := j4 (p := fun a => !sd c a.t) l 0
 rw [← hany]
 cases hq : xz (fun a => !sd c a.t) l 0 with
 | none =>
   rw [hq] at ev
   exact pc ev rfl
 | some y =>
   rw [hq] at ev
   have h0 : decide (((y.1 : Nat) : Int) ≥ 0) = true := by rw [decide_eq_true_eq]; omega
   simp only [xc,h0] at ev
   exact pc ev rfl
theorem zyk (l : List Ed) (c : Ct) (hs : c.s.length < 100000) (hd : c.d.length < 100000) (hm : qw c.s = true) (hl : l.length < 4611686018427387904) : Lω 118 zaz 0 (wy (l.map Ed.e) c.k (c.s.map Spn.e) (c.d.map ie) (c.l.map Lk.e) (c.e.map Ed.e) (l.length : Nat) 0) [] =
  some (zf8 (xz (fun a => !sd c a.f || !sd c a.t) l 0) (fun i _ => (.ret,mkS 19 [(4,.int .i64 (i : Nat))],[])) (.exit 0,mkS 19 [],[])) :=
 qx (fun i => wy (l.map Ed.e) c.k (c.s.map Spn.e) (c.d.map ie) (c.l.map Lk.e) (c.e.map Ed.e) (l.length : Nat) (i : Nat)) [] l (fun a => !sd c a.f || !sd c a.t) (fun i _ => (.ret,mkS 19 [(4,.int .i64 (i : Nat))],[])) (.exit 0,mkS 19 [],[]) (fun i a hg hi => by
  have hs := z52 a c hs hd hm
  rw [zhr]
  try simp only [Ed.e,Ct.c] at hs
  simp only [decide_eq_true_eq,Int.ofNat_lt,List.length_map,if_true,nn,true_and,Int.toNat_natCast,zd,hi,y8 hg,Ed.e,Ct.c,zp,ze,zy,yi,yj,yg,zx,zf,ya,zq,zr,za,zh,zl,zw,ym,zi,zb,zm,zt,zg,zk,zj,yd,yf,ye,yk,yl,yb,yc,zz,zn,z8,zo,z7,z6,yo,zd,zu,yh,hs,yq (show i < 4611686018427387904 by omega)]) (by rw [zhr]; simp only [decide_eq_true_eq,Int.ofNat_lt,List.length_map,if_true,nn,true_and,Int.toNat_natCast,zd,Nat.lt_irrefl,if_false])
theorem zyl (l : List Ed) (c : Ct) (hs : c.s.length < 100000) (hd : c.d.length < 100000) (hm : qw c.s = true) (hl : l.length < 4611686018427387904) : yn Cω 118 [.psl false (l.map Ed.e),.func 64 [.pref [.int .i64 c.k,.psl false (c.s.map Spn.e),.psl false (c.d.map ie),.psl false (c.l.map Lk.e),.psl false (c.e.map Ed.e)]]] = some (.int .i64 (zf8 (xz (fun a => !sd c a.f || !sd c a.t) l 0) (fun i _ => ((i : Nat) : Int)) (-1))) := by
 have ev := zvo Cω Lω (l.map Ed.e) c.k (c.s.map Spn.e) (c.d.map ie) (c.l.map Lk.e) (c.e.map Ed.e)
 have lp := zyk l c hs hd hm hl
 rw [List.length_map,lp] at ev
 cases hq : xz (fun a => !sd c a.f || !sd c a.t) l 0 with
 | none =>
   rw [hq] at ev
   simp only [xq,zp,ze,zy,yi,yj,yg,zx,zf,ya,zq,zr,za,zh,zl,zw,ym,zi,zb,zm,zt,zg,zk,zj,yd,yf,ye,yk,yl,yb,yc,zz,zn,z8,zo,z7,z6,yo,zd,zu,yh,if_true] at ev
   exact pc ev rfl
 | some x =>
   rw [hq] at ev
   simp only [xc,zp,ze,zy,yi,yj,yg,zx,zf,ya,zq,zr,za,zh,zl,zw,ym,zi,zb,zm,zt,zg,zk,zj,yd,yf,ye,yk,yl,yb,yc,zz,zn,z8,zo,z7,z6,yo,zd,zu,yh,y1,yz,ne_eq,not_false_eq_true,Nat.reduceLT,Nat.reduceEqDiff] at ev
   exact pc ev rfl
theorem zym (l : List Ed) (c : Ct) (hs : c.s.length < 100000) (hd : c.d.length < 100000) (hm : qw c.s = true) (hl : l.length < 4611686018427387904) : yn Cω 63 [.psl false (l.map Ed.e),.func 64 [.pref [.int .i64 c.k,.psl false (c.s.map Spn.e),.psl false (c.d.map ie),.psl false (c.l.map Lk.e),.psl false (c.e.map Ed.e)]]] = some (.bool (l.any fun a => !sd c a.f || !sd c a.t)) := by
 have ev := zy2 Cω Lω (l.map Ed.e) c.k (c.s.map Spn.e) (c.d.map ie) (c.l.map Lk.e) (c.e.map Ed.e)
 rw [zyl l c hs hd hm hl] at ev
 simp only [zp,ze,zy,yi,yj,yg,zx,zf,ya,zq,zr,za,zh,zl,zw,ym,zi,zb,zm,zt,zg,zk,zj,yd,yf,ye,yk,yl,yb,yc,zz,zn,z8,zo,z7,z6,yo,zd,zu,yh] at ev
 have hany := j4 (p := fun a => !sd c a.f || !sd c a.t) l 0
 rw [← hany]
 cases hq : xz (fun a => !sd c a.f || !sd c a.t) l 0 with
 | none =>
   rw [hq] at ev
   exact pc ev rfl
 | some y =>
   rw [hq] at ev
   have h0 : decide (((y.1 : Nat) : Int) ≥ 0) = true := by rw [decide_eq_true_eq]; omega
   simp only [xc,h0] at ev
   exact pc ev rfl
def okD (c : Ct) (i : Nat) (t : Int) : Bool := lv c t && (decide (i = 0) || decide (c.d.getD (i - 1) t < t))
def zfi (c : Ct) : Bool := decide (0 ≤ c.k) && (decide (c.k ≤ 2147483647) && (qw c.s && (zfh c.l && (up c.e && (!(c.s.any fun a => decide (a.b > c.k) || decide (a.c > c.k)) && (allI (okD c) c.d 0 && (!(c.l.any fun a => !sd c a.t) && !(c.e.any fun a => !sd c a.f || !sd c a.t))))))))
theorem zm2 {α : Type} {p : Nat → α → Bool} : ∀ (l : List α) (i : Nat) (b : Bool),xa (fun i a b => b || !p i a) l i b = (b || !allI p l i)
 | [],i,b => by simp [xa,allI]
 | a :: l,i,b => by
   unfold xa allI
   rw [zm2 l]
   cases b <;> cases p i a <;> simp
theorem zj9 (c : Ct) (hc : c.Sm) : yn Cω 20 [.agg c.c] = some (.int .i64 (if zfi c = true then 0 else 1)) := by
 have ev := z7j Cω Lω c.k (c.s.map Spn.e) (c.d.map ie) (c.l.map Lk.e) (c.e.map Ed.e)
 have i1 := zpu c.s (show c.s.length < 4611686018427387904 by have := hc.s; omega)
 have i2 := zj8 c.l (by have := hc.l; omega)
 have i3 := zoa c.e (show c.e.length < 4611686018427387904 by have := hc.e; omega)
 simp only [i1,i2,i3,zp,ze,zy,yi,yj,yg,zx,zf,ya,zq,zr,za,zh,zl,zw,ym,zi,zb,zm,zt,zg,zk,zj,yd,yf,ye,yk,yl,yb,yc,zz,zn,z8,zo,z7,z6,yo,zd,zu,yh] at ev
 unfold zfi
 by_cases k0 : 0 ≤ c.k
 case neg =>
  rw [if_pos (by rw [decide_eq_true_eq]; omega)] at ev
  rw [decide_eq_false k0,Bool.false_and]
  exact pc ev rfl
 rw [if_neg (by rw [decide_eq_true_eq]; omega)] at ev
 rw [decide_eq_true k0,Bool.true_and]
 by_cases k1 : c.k ≤ 2147483647
 case neg =>
  rw [if_pos (by rw [decide_eq_true_eq]; omega)] at ev
  rw [decide_eq_false k1,Bool.false_and]
  exact pc ev rfl
 rw [if_neg (by rw [decide_eq_true_eq]; omega)] at ev
 rw [decide_eq_true k1,Bool.true_and]
 by_cases h1 : qw c.s = true
 case neg =>
  have h1' : qw c.s = false := by simpa using h1
  rw [h1',Bool.false_and]
  rw [h1'] at ev
  exact pc ev rfl
 rw [h1,Bool.true_and]
 simp only [h1,if_true] at ev
 rw [if_neg (by decide)] at ev
 by_cases h2 : zfh c.l = true
 case neg =>
  have h2' : zfh c.l = false := by simpa using h2
  rw [h2',Bool.false_and]
  rw [h2'] at ev
  exact pc ev rfl
 rw [h2,Bool.true_and]
 simp only [h2,if_true] at ev
 rw [if_neg (by decide)] at ev
 by_cases h3 : up c.e = true
 case neg =>
  have h3' : up c.e = false := by simpa using h3
  rw [h3',Bool.false_and]
  rw [h3'] at ev
  exact pc ev rfl
 rw [h3,Bool.true_and]
 simp only [h3,if_true] at ev
 rw [if_neg (by decide)] at ev
 rw [zys c.s c (by have := hc.s; omega)] at ev
 simp only [zp,ze,zy,yi,yj,yg,zx,zf,ya,zq,zr,za,zh,zl,zw,ym,zi,zb,zm,zt,zg,zk,zj,yd,yf,ye,yk,yl,yb,yc,zz,zn,z8,zo,z7,z6,yo,zd,zu,yh] at ev
 have lp : ∀ b0 : Bool,Lω 20 zc7 0 (zbn b0 (c.d.map ie) (c.d.length : Nat) 0) [.box true 28 c.c] = _ := fun b0 =>
  jx (fun i (b : Bool) => zbn b (c.d.map ie) (c.d.length : Nat) (i : Nat)) (fun _ _ => [.box true 28 c.c]) c.d (fun i t b => b || !okD c i t)
   (fun b => (.exit 0,mkS 81 [(1,.ref 0 0 0),(3,.bool b)],[.box true 28 c.c])) (fun _ _ => True) (fun i t b hg hi _ => by
    refine ⟨trivial,?_⟩
    have hl := zz6 c t hc.s h1
    unfold Ct.c at hl ⊢
    rw [zuy]
    have hdi : decide (((i : Nat) : Int) < ((c.d.length : Nat) : Int)) = true := by rw [decide_eq_true_eq]; omega
    simp only [hdi,nn,Int.toNat_natCast,zd,y8 hg,ie,zp,ze,zy,yi,yj,yg,zx,zf,ya,zq,zr,za,zh,zl,zw,ym,zi,zb,zm,zt,zg,zk,zj,yd,yf,ye,yk,yl,yb,yc,zz,zn,z8,zo,z7,z6,yo,zd,zu,yh,yq (show i < 4611686018427387904 by have := hc.d; omega),if_true,hl]
    cases b with
    | true => rfl
    | false =>
      simp only [Bool.false_eq_true,if_false,Bool.false_or]
      unfold okD
      cases hq : lv c t with
      | false => rfl
      | true =>
        simp only [Bool.not_true,Bool.false_eq_true,if_false,Bool.true_and]
        by_cases h0 : 0 < i
        ·obtain ⟨p1,p2⟩ := zt6 (e := ie) t hi (show c.d.length < 4611686018427387904 by have := hc.d; omega) h0
         simp only [ie] at p1
         rw [if_pos (by rw [decide_eq_true_eq]; omega),if_pos p2]
         simp only [p1,zd,zp,ze,zy,yi,yj,yg,zx,zf,ya,zq,zr,za,zh,zl,zw,ym,zi,zb,zm,zt,zg,zk,zj,yd,yf,ye,yk,yl,yb,yc,zz,zn,z8,zo,z7,z6,yo,zd,zu,yh]
         have e1 : decide (i = 0) = false := decide_eq_false (by omega)
         have e2 : decide (t ≤ c.d.getD (i - 1) t) = !decide (c.d.getD (i - 1) t < t) := by
          by_cases hh : c.d.getD (i - 1) t < t
          ·rw [decide_eq_true hh,decide_eq_false (by omega)]; rfl
          ·rw [decide_eq_false hh,decide_eq_true (by omega)]; rfl
         rw [e1,Bool.false_or,← e2]
        ·rw [if_neg (by rw [decide_eq_true_eq]; omega),decide_eq_true (show i = 0 by omega)]
         rfl) (fun b _ => by
    unfold Ct.c
    rw [zuy]; simp only [Int.lt_irrefl,decide_false,Bool.false_eq_true,if_false]) b0 trivial
 have lp' := lp (c.s.any fun a => decide (a.b > c.k) || decide (a.c > c.k))
 unfold Ct.c at lp'
 rw [List.length_map,lp',zm2] at ev
 simp only [zp,ze,zy,yi,yj,yg,zx,zf,ya,zq,zr,za,zh,zl,zw,ym,zi,zb,zm,zt,zg,zk,zj,yd,yf,ye,yk,yl,yb,yc,zz,zn,z8,zo,z7,z6,yo,zd,zu,yh,y1,yz,ne_eq,not_false_eq_true,Nat.reduceLT,Nat.reduceEqDiff,if_true] at ev
 cases hA : (c.s.any fun a => decide (a.b > c.k) || decide (a.c > c.k)) with
 | true =>
   rw [hA] at ev
   exact pc ev rfl
 | false =>
   rw [hA] at ev
   simp only [Bool.false_or,Bool.not_false,Bool.true_and] at ev ⊢
   cases hD : allI (okD c) c.d 0 with
   | false =>
     rw [hD] at ev
     exact pc ev rfl
   | true =>
     rw [hD] at ev
     simp only [Bool.not_true,Bool.false_eq_true,if_false,Bool.true_and] at ev ⊢
     rw [zyp c.l c hc.s hc.d h1 (by have := hc.l; omega)] at ev
     simp only [zp,ze,zy,yi,yj,yg,zx,zf,ya,zq,zr,za,zh,zl,zw,ym,zi,zb,zm,zt,zg,zk,zj,yd,yf,ye,yk,yl,yb,yc,zz,zn,z8,zo,z7,z6,yo,zd,zu,yh] at ev
     cases hB : (c.l.any fun a => !sd c a.t) with
     | true => rw [hB] at ev; exact pc ev rfl
     | false =>
       rw [hB] at ev
       simp only [Bool.false_eq_true,if_false,Bool.not_false,Bool.true_and] at ev ⊢
       rw [zym c.e c hc.s hc.d h1 (by have := hc.e; omega)] at ev
       simp only [zp,ze,zy,yi,yj,yg,zx,zf,ya,zq,zr,za,zh,zl,zw,ym,zi,zb,zm,zt,zg,zk,zj,yd,yf,ye,yk,yl,yb,yc,zz,zn,z8,zo,z7,z6,yo,zd,zu,yh] at ev
       cases hE : (c.e.any fun a => !sd c a.f || !sd c a.t) with
       | true => rw [hE] at ev; exact pc ev rfl
       | false => rw [hE] at ev; exact pc ev rfl
end Go.Pvm.S
