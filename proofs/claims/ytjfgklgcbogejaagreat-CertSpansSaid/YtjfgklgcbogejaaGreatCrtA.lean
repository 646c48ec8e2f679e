/- Part of the proof: certifiers: which may be. -/
import Derived.Test.YtjfgklgcbogejaaGreatSirN
import Derived.Test.YtjfgklgcbogejaaGreatEdgeH
set_option linter.unusedSimpArgs false
set_option linter.unusedVariables false
set_option maxRecDepth 100000
namespace Go.Pvm.S
open Go.Pvm Go.Proofs
structure Ct where
 k : Int
 s : List Spn
 d : List Int
 l : List Lk
 e : List Ed
 deriving DecidableEq
def Ct.c (c : Ct) : List PV := [.int .i64 c.k,.psl false (c.s.map Spn.e),.psl false (c.d.map ie),.psl false (c.l.map Lk.e),.psl false (c.e.map Ed.e)]
structure Ct.Sm (c : Ct) : Prop where
 s : c.s.length < 100000
 d : c.d.length < 100000
 l : c.l.length < 100000
 e : c.e.length < 100000
theorem z1w (a b : Int) : (uo a b < 0 ↔ a < b) := by rcases j1 a b with ⟨h,e⟩ | ⟨h,e⟩ | ⟨h,e⟩ <;> rw [e] <;> constructor <;> intro _ <;> first | omega | decide
theorem zvw (a b : Int) : (uo a b = 0 ↔ a = b) := by rcases j1 a b with ⟨h,e⟩ | ⟨h,e⟩ | ⟨h,e⟩ <;> rw [e] <;> constructor <;> intro _ <;> first | omega | decide
theorem z2u (a : Spn) (x : Int) : yn Cω 84 [.agg a.e,.int .i64 x] = some (.int .i64 (uo a.t x)) := by
 have ev := z6k Cω Lω a.t a.b a.c x
 simp only [zwo,zw,ze,z8,yj,yk,zu,zt,zf,zq,zx,zy,za,zh,zl,z7,ym,zi,zd,zm,zz,zg,zk,zj,zp,yg,zr,yh,yl,ye,yf,ya,zn,yd,zo,yc,yb,yp,zb,z6,yi] at ev
 exact pc ev rfl
theorem z43 (l : List Spn) (x : Int) (hl : l.length < 1073741824) (p : Nat) (hp : p ≤ l.length) (hk : ∀ k a,l[k]? = some a → ((fun (a : Spn) (x : Int) => uo a.t x) a x < 0 ↔ k < p)) : ∀ m lo hi : Nat,hi - lo ≤ m → lo ≤ p → p ≤ hi → hi ≤ l.length →
  Lω 83 zal 0 (zaf (l.map Spn.e) x (l.length : Nat) (lo : Nat) (hi : Nat)) [] = some (.exit 0,mkS 49 [(0,.psl false (l.map Spn.e)),(1,.int .i64 x),(2,.func 84 []),(8,.int .i64 (l.length : Nat)),(9,.int .i64 (p : Nat))],[]) := by
 intro m
 induction m with
 | zero =>
   intro lo hi hm h1 h2 h3
   have : lo = hi := by omega
   subst this
   have : p = lo := by omega
   subst this
   refine lw ?_
   rw [zjj,if_neg (by simp)]
 | succ m ih =>
   intro lo hi hm h1 h2 h3
   by_cases hlt : lo < hi
   ·have hh : (lo + hi) / 2 < l.length := by omega
    have hg := List.getElem?_eq_getElem hh
    have hc := hk _ _ hg
    refine lw ?_
    rw [zjj,if_pos (by simp; omega),z3m (by omega),if_pos (nn _),Int.toNat_natCast,y9 hg]
    have hs := z2u l[(lo + hi) / 2] x
    simp only [Spn.e] at hs
    simp only [Spn.e,zw,ze,z8,yj,yk,zu,zt,zf,zq,zx,zy,za,zh,zl,z7,ym,zi,zd,zm,zz,zg,zk,zj,zp,yg,zr,yh,yl,ye,yf,ya,zn,yd,zo,yc,yb,yp,zb,z6,yi,hs]
    by_cases hq : (fun (a : Spn) (x : Int) => uo a.t x) l[(lo + hi) / 2] x < 0
    ·rw [if_pos (by rw [decide_eq_true_eq]; exact hq),yr (by omega)]
     exact ih _ hi (by omega) (by have := hc.1 hq; omega) h2 h3
    ·rw [if_neg (by rw [decide_eq_true_eq]; exact hq)]
     exact ih lo _ (by omega) h1 (by have : ¬ _ := fun h => hq (hc.2 h); omega) (by omega)
   ·exact ih lo hi (by omega) h1 h2 h3
theorem z42 (l : List Spn) (x : Int) (hl : l.length < 1073741824) (p : Nat) (hp : p ≤ l.length) (hk : ∀ k a,l[k]? = some a → ((fun (a : Spn) (x : Int) => uo a.t x) a x < 0 ↔ k < p)) :
  yn Cω 83 [.psl false (l.map Spn.e),.int .i64 x,.func 84 []] = some (.tuple [.int .i64 (p : Nat),.bool (match l[p]? with | some a => (fun (a : Spn) (x : Int) => uo a.t x) a x == 0 | none => false)]) := by
 have ev := zyo Cω Lω (l.map Spn.e) x
 have lp := z43 l x hl p hp hk l.length 0 l.length (by omega) (by omega) hp (Nat.le_refl _)
 rw [z5f] at lp
 try simp only [Spn.e] at lp
 rw [List.length_map] at ev
 try simp only [Spn.e] at ev
 try simp only [Spn.e]
 rw [lp] at ev
 simp only [zw,ze,z8,yj,yk,zu,zt,zf,zq,zx,zy,za,zh,zl,z7,ym,zi,zd,zm,zz,zg,zk,zj,zp,yg,zr,yh,yl,ye,yf,ya,zn,yd,zo,yc,yb,yp,zb,z6,yi,y3,yz,ne_eq,not_false_eq_true,Nat.reduceLT,Nat.reduceEqDiff,if_true] at ev
 by_cases h : p < l.length
 ·have hg := List.getElem?_eq_getElem h
  rw [if_pos (by rw [decide_eq_true_eq]; omega),if_pos (nn _),Int.toNat_natCast] at ev
  have hg2 := y9 (f := Spn.e) hg
  simp only [Spn.e] at hg2
  rw [hg2] at ev
  have hs := z2u l[p] x
  simp only [Spn.e] at hs
  simp only [zw,ze,z8,yj,yk,zu,zt,zf,zq,zx,zy,za,zh,zl,z7,ym,zi,zd,zm,zz,zg,zk,zj,zp,yg,zr,yh,yl,ye,yf,ya,zn,yd,zo,yc,yb,yp,zb,z6,yi,hs] at ev
  rw [hg]
  exact pc ev rfl
 ·rw [if_neg (by rw [decide_eq_true_eq]; omega)] at ev
  rw [List.getElem?_eq_none (by omega)]
  exact pc ev rfl
def atP (s : List Spn) (t : Int) : Nat := (s.takeWhile fun a => decide (a.t < t)).length
theorem zg3 {s : List Spn} (hm : ka s = true) : ∀ (i j : Nat) (a b : Spn),i < j → s[i]? = some a → s[j]? = some b → a.t < b.t := fun i j a b hij ha hb => u6 (lt := fun a b : Spn => a.t < b.t) (fun a b c h1 h2 => Int.lt_trans h1 h2) (zjg hm) hij ha hb
theorem zgs {s : List Spn} (hm : ka s = true) (t : Int) : atP s t ≤ s.length ∧ ∀ k a,s[k]? = some a → (a.t < t ↔ k < atP s t) := by
 obtain ⟨h1,h2⟩ := zam (q := fun a : Spn => decide (a.t < t)) (l := s) fun i j a b hij ha hb hq => by
  have := zg3 hm i j a b hij ha hb
  rw [decide_eq_true_eq] at hq ⊢
  omega
 exact ⟨h1,fun k a hk => by have := h2 k a hk; rwa [decide_eq_true_eq] at this⟩
theorem j4 {s : List Spn} {t : Int} (h : (spn s t).2 = true) : (spn s t).1 ∈ s ∧ (spn s t).1.t = t := by
 unfold spn at h ⊢
 cases hf : s.find? (fun a => a.t == t) with
 | some a =>
   have h1 := List.find?_some (p := fun a : Spn => a.t == t) hf
   rw [beq_iff_eq] at h1
   exact ⟨List.mem_of_find?_eq_some hf,h1⟩
 | none => rw [hf] at h; cases h
theorem zb7 {s : List Spn} {t : Int} (h : (spn s t).2 = false) : ∀ a ∈ s,a.t ≠ t := by
 unfold spn at h
 cases hf : s.find? (fun a => a.t == t) with
 | some a => rw [hf] at h; cases h
 | none => exact fun a ha e => by have := List.find?_eq_none.1 hf a ha; rw [beq_iff_eq] at this; exact this e
theorem z2k {s : List Spn} {t : Int} {a : Spn} (ha : a ∈ s) (h : a.t = t) : (spn s t).2 = true := by
 cases hq : (spn s t).2 with
 | true => rfl
 | false => exact absurd h (zb7 hq a ha)
theorem zpg {s : List Spn} (hm : ka s = true) {a b : Spn} (ha : a ∈ s) (hb : b ∈ s) (h : a.t = b.t) : a = b := by
 obtain ⟨i,hi⟩ := List.mem_iff_getElem?.1 ha
 obtain ⟨j,hj⟩ := List.mem_iff_getElem?.1 hb
 rcases Nat.lt_trichotomy i j with h1 | h1 | h1
 ·have := zg3 hm i j a b h1 hi hj; omega
 ·subst h1; rw [hi] at hj; exact Option.some.inj hj
 ·have := zg3 hm j i b a h1 hj hi; omega
theorem zbp {s : List Spn} (hm : ka s = true) {a : Spn} (ha : a ∈ s) : spn s a.t = (a,true) := by
 have h2 := z2k ha rfl
 obtain ⟨h3,h4⟩ := j4 h2
 have := zpg hm h3 ha h4
 cases hq : spn s a.t with
 | mk x y =>
   rw [hq] at h2 this
   have e1 : x = a := this
   have e2 : y = true := h2
   rw [e1,e2]
theorem zbb {s : List Spn} (hm : ka s = true) {t : Int} (h : (spn s t).2 = true) : s[atP s t]? = some (spn s t).1 := by
 obtain ⟨h1,h2⟩ := j4 h
 obtain ⟨k,hk⟩ := List.mem_iff_getElem?.1 h1
 obtain ⟨p1,p2⟩ := zgs hm t
 have hkp : k = atP s t := by
  have n1 : ¬ k < atP s t := fun h => by have := (p2 k _ hk).2 h; omega
  by_cases hlt : atP s t < k
  ·have hkl := (List.getElem?_eq_some_iff.1 hk).1
   have hg := List.getElem?_eq_getElem (show atP s t < s.length by omega)
   have := zg3 hm _ _ _ _ hlt hg hk
   have h3 : atP s t < atP s t := (p2 _ _ hg).1 (by omega)
   omega
  ·omega
 rw [← hkp]; exact hk
theorem z45 {s : List Spn} (hm : ka s = true) (t : Int) : (match s[atP s t]? with | some a => uo a.t t == 0 | none => false) = (spn s t).2 := by
 cases hq : (spn s t).2 with
 | true =>
   rw [zbb hm hq]
   show (uo (spn s t).1.t t == 0) = true
   rw [beq_iff_eq,zvw]
   exact (j4 hq).2
 | false =>
   cases hg : s[atP s t]? with
   | none => rfl
   | some a =>
     show (uo a.t t == 0) = false
     rw [beq_eq_false_iff_ne,ne_eq,zvw]
     exact zb7 hq a (List.mem_iff_getElem?.2 ⟨_,hg⟩)
theorem z0m (c : Ct) (t : Int) (hs : c.s.length < 100000) (hm : ka c.s = true) : yn Cω 29 [.agg c.c,.int .i64 t] = some (.tuple [.int .i64 (atP c.s t : Nat),.bool (spn c.s t).2]) := by
 have ev := z62 Cω Lω c.k (c.s.map Spn.e) (c.d.map ie) (c.l.map Lk.e) (c.e.map Ed.e) t
 obtain ⟨p1,p2⟩ := zgs hm t
 have hb := z42 c.s t (by omega) (atP c.s t) p1 (fun k a hk => by
  show uo a.t t < 0 ↔ _
  rw [z1w]; exact p2 k a hk)
 have hi : (match c.s[atP c.s t]? with | some a => (fun (a : Spn) (x : Int) => uo a.t x) a t == 0 | none => false) = (spn c.s t).2 := z45 hm t
 rw [hi] at hb
 rw [hb] at ev
 simp only [zw,ze,z8,yj,yk,zu,zt,zf,zq,zx,zy,za,zh,zl,z7,ym,zi,zd,zm,zz,zg,zk,zj,zp,yg,zr,yh,yl,ye,yf,ya,zn,yd,zo,yc,yb,yp,zb,z6,yi] at ev
 exact pc ev rfl
def dm (c : Ct) (t : Int) : Bool := c.d.any fun a => t == a
def lv (c : Ct) (t : Int) : Bool := (spn c.s t).2 && ((spn c.s t).1.c == 0)
def sd (c : Ct) (t : Int) : Bool := (spn c.s t).2 && !dm c t
theorem z18 (c : Ct) (t : Int) (hd : c.d.length < 100000) : yn Cω 32 [.agg c.c,.int .i64 t] = some (.bool (dm c t)) := by
 have ev := z61 Cω Lω c.k (c.s.map Spn.e) (c.d.map ie) (c.l.map Lk.e) (c.e.map Ed.e) t
 rw [zny c.d t (by omega)] at ev
 simp only [zw,ze,z8,yj,yk,zu,zt,zf,zq,zx,zy,za,zh,zl,z7,ym,zi,zd,zm,zz,zg,zk,zj,zp,yg,zr,yh,yl,ye,yf,ya,zn,yd,zo,yc,yb,yp,zb,z6,yi] at ev
 exact pc ev rfl
theorem zzq (c : Ct) (t : Int) (hs : c.s.length < 100000) (hm : ka c.s = true) : yn Cω 59 [.agg c.c,.int .i64 t] = some (.bool (lv c t)) := by
 have ev := z6o Cω Lω c.k (c.s.map Spn.e) (c.d.map ie) (c.l.map Lk.e) (c.e.map Ed.e) t
 have ha := z0m c t hs hm
 unfold Ct.c at ha
 simp only [ha,zw,ze,z8,yj,yk,zu,zt,zf,zq,zx,zy,za,zh,zl,z7,ym,zi,zd,zm,zz,zg,zk,zj,zp,yg,zr,yh,yl,ye,yf,ya,zn,yd,zo,yc,yb,yp,zb,z6,yi] at ev
 unfold lv
 cases hq : (spn c.s t).2 with
 | true =>
   rw [hq] at ev
   simp only [if_true,nn,Int.toNat_natCast,y9 (zbb hm hq),Spn.e,zw,ze,z8,yj,yk,zu,zt,zf,zq,zx,zy,za,zh,zl,z7,ym,zi,zd,zm,zz,zg,zk,zj,zp,yg,zr,yh,yl,ye,yf,ya,zn,yd,zo,yc,yb,yp,zb,z6,yi] at ev
   exact pc ev rfl
 | false =>
   rw [hq] at ev
   simp only [Bool.false_eq_true,if_false] at ev
   exact pc ev rfl
theorem z5c (c : Ct) (t : Int) (hs : c.s.length < 100000) (hd : c.d.length < 100000) (hm : ka c.s = true) : yn Cω 62 [.agg c.c,.int .i64 t] = some (.bool (sd c t)) := by
 have ev := z6m Cω Lω c.k (c.s.map Spn.e) (c.d.map ie) (c.l.map Lk.e) (c.e.map Ed.e) t
 have ha := z0m c t hs hm
 have hb := z18 c t hd
 unfold Ct.c at ha hb
 simp only [ha,hb,zw,ze,z8,yj,yk,zu,zt,zf,zq,zx,zy,za,zh,zl,z7,ym,zi,zd,zm,zz,zg,zk,zj,zp,yg,zr,yh,yl,ye,yf,ya,zn,yd,zo,yc,yb,yp,zb,z6,yi] at ev
 unfold sd
 cases hq : (spn c.s t).2 with
 | true =>
   rw [hq] at ev
   simp only [if_true] at ev
   exact pc ev rfl
 | false =>
   rw [hq] at ev
   simp only [Bool.false_eq_true,if_false] at ev
   exact pc ev rfl
theorem z5o (a : Spn) (c : Ct) : yn Cω 58 [.agg a.e,.pref c.c] = some (.bool (decide (a.b > c.k) || decide (a.c > c.k))) := by
 have ev := z6p Cω Lω a.t a.b a.c c.k (c.s.map Spn.e) (c.d.map ie) (c.l.map Lk.e) (c.e.map Ed.e)
 cases hq : decide (a.b > c.k) with
 | true => rw [hq] at ev; exact pc ev rfl
 | false => rw [hq] at ev; exact pc ev rfl
theorem z5n (a : Lk) (c : Ct) (hs : c.s.length < 100000) (hd : c.d.length < 100000) (hm : ka c.s = true) : yn Cω 61 [.agg a.e,.pref c.c] = some (.bool (!sd c a.t)) := by
 have ev := z6n Cω Lω a.t a.k a.q.toNat a.p c.k (c.s.map Spn.e) (c.d.map ie) (c.l.map Lk.e) (c.e.map Ed.e)
 have h := z5c c a.t hs hd hm
 unfold Ct.c at h
 simp only [h,zw,ze,z8,yj,yk,zu,zt,zf,zq,zx,zy,za,zh,zl,z7,ym,zi,zd,zm,zz,zg,zk,zj,zp,yg,zr,yh,yl,ye,yf,ya,zn,yd,zo,yc,yb,yp,zb,z6,yi] at ev
 exact pc ev rfl
theorem z5m (a : Ed) (c : Ct) (hs : c.s.length < 100000) (hd : c.d.length < 100000) (hm : ka c.s = true) : yn Cω 64 [.agg a.e,.pref c.c] = some (.bool (!sd c a.f || !sd c a.t)) := by
 have ev := z6l Cω Lω a.f a.t c.k (c.s.map Spn.e) (c.d.map ie) (c.l.map Lk.e) (c.e.map Ed.e)
 have h := z5c c a.f hs hd hm
 have h' := z5c c a.t hs hd hm
 unfold Ct.c at h h'
 simp only [h,h',zw,ze,z8,yj,yk,zu,zt,zf,zq,zx,zy,za,zh,zl,z7,ym,zi,zd,zm,zz,zg,zk,zj,zp,yg,zr,yh,yl,ye,yf,ya,zn,yd,zo,yc,yb,yp,zb,z6,yi] at ev
 cases hq : sd c a.f with
 | true => rw [hq] at ev; exact pc ev rfl
 | false => rw [hq] at ev; exact pc ev rfl
theorem zyd (l : List Spn) (c : Ct) (hl : l.length < 4611686018427387904) : Lω 116 za2 0 (ud (l.map Spn.e) c.k (c.s.map Spn.e) (c.d.map ie) (c.l.map Lk.e) (c.e.map Ed.e) (l.length : Nat) 0) [] =
  some (zf2 (x7 (fun a => decide (a.b > c.k) || decide (a.c > c.k)) l 0) (fun i _ => (.ret,mkS 19 [(4,.int .i64 (i : Nat))],[])) (.exit 0,mkS 19 [],[])) :=
 qr (fun i => ud (l.map Spn.e) c.k (c.s.map Spn.e) (c.d.map ie) (c.l.map Lk.e) (c.e.map Ed.e) (l.length : Nat) (i : Nat)) [] l (fun a => decide (a.b > c.k) || decide (a.c > c.k)) (fun i _ => (.ret,mkS 19 [(4,.int .i64 (i : Nat))],[])) (.exit 0,mkS 19 [],[]) (fun i a hg hi => by
  have hs := z5o a c
  rw [zhq]
  try simp only [Spn.e,Ct.c] at hs
  simp only [decide_eq_true_eq,Int.ofNat_lt,List.length_map,if_true,nn,true_and,Int.toNat_natCast,zb,hi,y9 hg,Spn.e,Ct.c,zw,ze,z8,yj,yk,zu,zt,zf,zq,zx,zy,za,zh,zl,z7,ym,zi,zd,zm,zz,zg,zk,zj,zp,yg,zr,yh,yl,ye,yf,ya,zn,yd,zo,yc,yb,yp,zb,z6,yi,hs,yr (show i < 4611686018427387904 by omega)]) (by rw [zhq]; simp only [decide_eq_true_eq,Int.ofNat_lt,List.length_map,if_true,nn,true_and,Int.toNat_natCast,zb,Nat.lt_irrefl,if_false])
theorem zye (l : List Spn) (c : Ct) (hl : l.length < 4611686018427387904) : yn Cω 116 [.psl false (l.map Spn.e),.func 58 [.pref [.int .i64 c.k,.psl false (c.s.map Spn.e),.psl false (c.d.map ie),.psl false (c.l.map Lk.e),.psl false (c.e.map Ed.e)]]] = some (.int .i64 (zf2 (x7 (fun a => decide (a.b > c.k) || decide (a.c > c.k)) l 0) (fun i _ => ((i : Nat) : Int)) (-1))) := by
 have ev := zvh Cω Lω (l.map Spn.e) c.k (c.s.map Spn.e) (c.d.map ie) (c.l.map Lk.e) (c.e.map Ed.e)
 have lp := zyd l c hl
 rw [List.length_map,lp] at ev
 cases hq : x7 (fun a => decide (a.b > c.k) || decide (a.c > c.k)) l 0 with
 | none =>
   rw [hq] at ev
   simp only [xq,zw,ze,z8,yj,yk,zu,zt,zf,zq,zx,zy,za,zh,zl,z7,ym,zi,zd,zm,zz,zg,zk,zj,zp,yg,zr,yh,yl,ye,yf,ya,zn,yd,zo,yc,yb,yp,zb,z6,yi,if_true] at ev
   exact pc ev rfl
 | some x =>
   rw [hq] at ev
   simp only [xc,zw,ze,z8,yj,yk,zu,zt,zf,zq,zx,zy,za,zh,zl,z7,ym,zi,zd,zm,zz,zg,zk,zj,zp,yg,zr,yh,yl,ye,yf,ya,zn,yd,zo,yc,yb,yp,zb,z6,yi,y3,yz,ne_eq,not_false_eq_true,Nat.reduceLT,Nat.reduceEqDiff] at ev
   exact pc ev rfl
theorem zyf (l : List Spn) (c : Ct) (hl : l.length < 4611686018427387904) : yn Cω 57 [.psl false (l.map Spn.e),.func 58 [.pref [.int .i64 c.k,.psl false (c.s.map Spn.e),.psl false (c.d.map ie),.psl false (c.l.map Lk.e),.psl false (c.e.map Ed.e)]]] = some (.bool (l.any fun a => decide (a.b > c.k) || decide (a.c > c.k))) := by
 have ev := zyr Cω Lω (l.map Spn.e) c.k (c.s.map Spn.e) (c.d.map ie) (c.l.map Lk.e) (c.e.map Ed.e)
 rw [zye l c hl] at ev
 simp only [zw,ze,z8,yj,yk,zu,zt,zf,zq,zx,zy,za,zh,zl,z7,ym,zi,zd,zm,zz,zg,zk,zj,zp,yg,zr,yh,yl,ye,yf,ya,zn,yd,zo,yc,yb,yp,zb,z6,yi] at ev
 have hany := jz (p := fun a => decide (a.b > c.k) || decide (a.c > c.k)) l 0
 rw [← hany]
 cases hq : x7 (fun a => decide (a.b > c.k) || decide (a.c > c.k)) l 0 with
 | none =>
   rw [hq] at ev
   exact pc ev rfl
 | some y =>
   rw [hq] at ev
   have h0 : decide (((y.1 : Nat) : Int) ≥ 0) = true := by rw [decide_eq_true_eq]; omega
   simp only [xc,h0] at ev
   exact pc ev rfl
theorem zya (l : List Lk) (c : Ct) (hs : c.s.length < 100000) (hd : c.d.length < 100000) (hm : ka c.s = true) (hl : l.length < 4611686018427387904) : Lω 117 za0 0 (ub (l.map Lk.e) c.k (c.s.map Spn.e) (c.d.map ie) (c.l.map Lk.e) (c.e.map Ed.e) (l.length : Nat) 0) [] =
  some (zf2 (x7 (fun a => !sd c a.t) l 0) (fun i _ => (.ret,mkS 19 [(4,.int .i64 (i : Nat))],[])) (.exit 0,mkS 19 [],[])) :=
 qr (fun i => ub (l.map Lk.e) c.k (c.s.map Spn.e) (c.d.map ie) (c.l.map Lk.e) (c.e.map Ed.e) (l.length : Nat) (i : Nat)) [] l (fun a => !sd c a.t) (fun i _ => (.ret,mkS 19 [(4,.int .i64 (i : Nat))],[])) (.exit 0,mkS 19 [],[]) (fun i a hg hi => by
  have hs := z5n a c hs hd hm
  rw [zho]
  try simp only [Lk.e,Ct.c] at hs
  simp only [decide_eq_true_eq,Int.ofNat_lt,List.length_map,if_true,nn,true_and,Int.toNat_natCast,zb,hi,y9 hg,Lk.e,Ct.c,zw,ze,z8,yj,yk,zu,zt,zf,zq,zx,zy,za,zh,zl,z7,ym,zi,zd,zm,zz,zg,zk,zj,zp,yg,zr,yh,yl,ye,yf,ya,zn,yd,zo,yc,yb,yp,zb,z6,yi,hs,yr (show i < 4611686018427387904 by omega)]) (by rw [zho]; simp only [decide_eq_true_eq,Int.ofNat_lt,List.length_map,if_true,nn,true_and,Int.toNat_natCast,zb,Nat.lt_irrefl,if_false])
theorem zyb (l : List Lk) (c : Ct) (hs : c.s.length < 100000) (hd : c.d.length < 100000) (hm : ka c.s = true) (hl : l.length < 4611686018427387904) : yn Cω 117 [.psl false (l.map Lk.e),.func 61 [.pref [.int .i64 c.k,.psl false (c.s.map Spn.e),.psl false (c.d.map ie),.psl false (c.l.map Lk.e),.psl false (c.e.map Ed.e)]]] = some (.int .i64 (zf2 (x7 (fun a => !sd c a.t) l 0) (fun i _ => ((i : Nat) : Int)) (-1))) := by
 have ev := zvf Cω Lω (l.map Lk.e) c.k (c.s.map Spn.e) (c.d.map ie) (c.l.map Lk.e) (c.e.map Ed.e)
 have lp := zya l c hs hd hm hl
 rw [List.length_map,lp] at ev
 cases hq : x7 (fun a => !sd c a.t) l 0 with
 | none =>
   rw [hq] at ev
   simp only [xq,zw,ze,z8,yj,yk,zu,zt,zf,zq,zx,zy,za,zh,zl,z7,ym,zi,zd,zm,zz,zg,zk,zj,zp,yg,zr,yh,yl,ye,yf,ya,zn,yd,zo,yc,yb,yp,zb,z6,yi,if_true] at ev
   exact pc ev rfl
 | some x =>
   rw [hq] at ev
   simp only [xc,zw,ze,z8,yj,yk,zu,zt,zf,zq,zx,zy,za,zh,zl,z7,ym,zi,zd,zm,zz,zg,zk,zj,zp,yg,zr,yh,yl,ye,yf,ya,zn,yd,zo,yc,yb,yp,zb,z6,yi,y3,yz,ne_eq,not_false_eq_true,Nat.reduceLT,Nat.reduceEqDiff] at ev
   exact pc ev rfl
theorem zyc (l : List Lk) (c : Ct) (hs : c.s.length < 100000) (hd : c.d.length < 100000) (hm : ka c.s = true) (hl : l.length < 4611686018427387904) : yn Cω 60 [.psl false (l.map Lk.e),.func 61 [.pref [.int .i64 c.k,.psl false (c.s.map Spn.e),.psl false (c.d.map ie),.psl false (c.l.map Lk.e),.psl false (c.e.map Ed.e)]]] = some (.bool (l.any fun a => !sd c a.t)) := by
 have ev := zyq Cω Lω (l.map Lk.e) c.k (c.s.map Spn.e) (c.d.map ie) (c.l.map Lk.e) (c.e.map Ed.e)
 rw [zyb l c hs hd hm hl] at ev
 simp only [zw,ze,z8,yj,yk,zu,zt,zf,zq,zx,zy,za,zh,zl,z7,ym,zi,zd,zm,zz,zg,zk,zj,zp,yg,zr,yh,yl,ye,yf,ya,zn,yd,zo,yc,yb,yp,zb,z6,yi] at ev
 have hany := jz (p := fun a => !sd c a.t) l 0
 rw [← hany]
 cases hq : x7 (fun a => !sd c a.t) l 0 with
 | none =>
   rw [hq] at ev
   exact pc ev rfl
 | some y =>
   rw [hq] at ev
   have h0 : decide (((y.1 : Nat) : Int) ≥ 0) = true := by rw [decide_eq_true_eq]; omega
   simp only [xc,h0] at ev
   exact pc ev rfl
theorem zx7 (l : List Ed) (c : Ct) (hs : c.s.length < 100000) (hd : c.d.length < 100000) (hm : ka c.s = true) (hl : l.length < 4611686018427387904) : Lω 118 zaz 0 (ua (l.map Ed.e) c.k (c.s.map Spn.e) (c.d.map ie) (c.l.map Lk.e) (c.e.map Ed.e) (l.length : Nat) 0) [] =
  some (zf2 (x7 (fun a => !sd c a.f || !sd c a.t) l 0) (fun i _ => (.ret,mkS 19 [(4,.int .i64 (i : Nat))],[])) (.exit 0,mkS 19 [],[])) :=
 qr (fun i => ua (l.map Ed.e) c.k (c.s.map Spn.e) (c.d.map ie) (c.l.map Lk.e) (c.e.map Ed.e) (l.length : Nat) (i : Nat)) [] l (fun a => !sd c a.f || !sd c a.t) (fun i _ => (.ret,mkS 19 [(4,.int .i64 (i : Nat))],[])) (.exit 0,mkS 19 [],[]) (fun i a hg hi => by
  have hs := z5m a c hs hd hm
  rw [zhn]
  try simp only [Ed.e,Ct.c] at hs
  simp only [decide_eq_true_eq,Int.ofNat_lt,List.length_map,if_true,nn,true_and,Int.toNat_natCast,zb,hi,y9 hg,Ed.e,Ct.c,zw,ze,z8,yj,yk,zu,zt,zf,zq,zx,zy,za,zh,zl,z7,ym,zi,zd,zm,zz,zg,zk,zj,zp,yg,zr,yh,yl,ye,yf,ya,zn,yd,zo,yc,yb,yp,zb,z6,yi,hs,yr (show i < 4611686018427387904 by omega)]) (by rw [zhn]; simp only [decide_eq_true_eq,Int.ofNat_lt,List.length_map,if_true,nn,true_and,Int.toNat_natCast,zb,Nat.lt_irrefl,if_false])
theorem zx8 (l : List Ed) (c : Ct) (hs : c.s.length < 100000) (hd : c.d.length < 100000) (hm : ka c.s = true) (hl : l.length < 4611686018427387904) : yn Cω 118 [.psl false (l.map Ed.e),.func 64 [.pref [.int .i64 c.k,.psl false (c.s.map Spn.e),.psl false (c.d.map ie),.psl false (c.l.map Lk.e),.psl false (c.e.map Ed.e)]]] = some (.int .i64 (zf2 (x7 (fun a => !sd c a.f || !sd c a.t) l 0) (fun i _ => ((i : Nat) : Int)) (-1))) := by
 have ev := zve Cω Lω (l.map Ed.e) c.k (c.s.map Spn.e) (c.d.map ie) (c.l.map Lk.e) (c.e.map Ed.e)
 have lp := zx7 l c hs hd hm hl
 rw [List.length_map,lp] at ev
 cases hq : x7 (fun a => !sd c a.f || !sd c a.t) l 0 with
 | none =>
   rw [hq] at ev
   simp only [xq,zw,ze,z8,yj,yk,zu,zt,zf,zq,zx,zy,za,zh,zl,z7,ym,zi,zd,zm,zz,zg,zk,zj,zp,yg,zr,yh,yl,ye,yf,ya,zn,yd,zo,yc,yb,yp,zb,z6,yi,if_true] at ev
   exact pc ev rfl
 | some x =>
   rw [hq] at ev
   simp only [xc,zw,ze,z8,yj,yk,zu,zt,zf,zq,zx,zy,za,zh,zl,z7,ym,zi,zd,zm,zz,zg,zk,zj,zp,yg,zr,yh,yl,ye,yf,ya,zn,yd,zo,yc,yb,yp,zb,z6,yi,y3,yz,ne_eq,not_false_eq_true,Nat.reduceLT,Nat.reduceEqDiff] at ev
   exact pc ev rfl
theorem zx9 (l : List Ed) (c : Ct) (hs : c.s.length < 100000) (hd : c.d.length < 100000) (hm : ka c.s = true) (hl : l.length < 4611686018427387904) : yn Cω 63 [.psl false (l.map Ed.e),.func 64 [.pref [.int .i64 c.k,.psl false (c.s.map Spn.e),.psl false (c.d.map ie),.psl false (c.l.map Lk.e),.psl false (c.e.map Ed.e)]]] = some (.bool (l.any fun a => !sd c a.f || !sd c a.t)) := by
 have ev := zyp Cω Lω (l.map Ed.e) c.k (c.s.map Spn.e) (c.d.map ie) (c.l.map Lk.e) (c.e.map Ed.e)
 rw [zx8 l c hs hd hm hl] at ev
 simp only [zw,ze,z8,yj,yk,zu,zt,zf,zq,zx,zy,za,zh,zl,z7,ym,zi,zd,zm,zz,zg,zk,zj,zp,yg,zr,yh,yl,ye,yf,ya,zn,yd,zo,yc,yb,yp,zb,z6,yi] at ev
 have hany := jz (p := fun a => !sd c a.f || !sd c a.t) l 0
 rw [← hany]
 cases hq : x7 (fun a => !sd c a.f || !sd c a.t) l 0 with
 | none =>
   rw [hq] at ev
   exact pc ev rfl
 | some y =>
   rw [hq] at ev
   have h0 : decide (((y.1 : Nat) : Int) ≥ 0) = true := by rw [decide_eq_true_eq]; omega
   simp only [xc,h0] at ev
   exact pc ev rfl
def okD (c : Ct) (i : Nat) (t : Int) : Bool := lv c t && (decide (i = 0) || decide (c.d.getD (i - 1) t < t))
def zfc (c : Ct) : Bool := decide (0 ≤ c.k) && (decide (c.k ≤ 2147483647) && (ka c.s && (zgk c.l && (ur c.e && (!(c.s.any fun a => decide (a.b > c.k) || decide (a.c > c.k)) && (allI (okD c) c.d 0 && (!(c.l.any fun a => !sd c a.t) && !(c.e.any fun a => !sd c a.f || !sd c a.t))))))))
theorem zmt {α : Type} {p : Nat → α → Bool} : ∀ (l : List α) (i : Nat) (b : Bool),xb (fun i a b => b || !p i a) l i b = (b || !allI p l i)
 | [],i,b => by simp [xb,allI]
 | a :: l,i,b => by
   unfold xb allI
   rw [zmt l]
   cases b <;> cases p i a <;> simp
theorem zj5 (c : Ct) (hc : c.Sm) : yn Cω 20 [.agg c.c] = some (.int .i64 (if zfc c = true then 0 else 1)) := by
 have ev := z64 Cω Lω c.k (c.s.map Spn.e) (c.d.map ie) (c.l.map Lk.e) (c.e.map Ed.e)
 have i1 := zpk c.s (show c.s.length < 4611686018427387904 by have := hc.s; omega)
 have i2 := zj4 c.l (by have := hc.l; omega)
 have i3 := znz c.e (show c.e.length < 4611686018427387904 by have := hc.e; omega)
 simp only [i1,i2,i3,zw,ze,z8,yj,yk,zu,zt,zf,zq,zx,zy,za,zh,zl,z7,ym,zi,zd,zm,zz,zg,zk,zj,zp,yg,zr,yh,yl,ye,yf,ya,zn,yd,zo,yc,yb,yp,zb,z6,yi] at ev
 unfold zfc
 by_cases k0 : 0 ≤ c.k
 case neg =>
  rw [if_pos (by rw [decide_eq_true_eq]; omega)] at ev
  rw [decide_eq_false k0,Bool.false_and]
  exact pc ev rfl
 rw [if_neg (by rw [decide_eq_true_eq]; omega)] at ev
 rw [decide_eq_true k0,Bool.true_and]
 by_cases k1 : c.k ≤ 2147483647
 case neg =>
  rw [if_pos (by rw [decide_eq_true_eq]; omega)] at ev
  rw [decide_eq_false k1,Bool.false_and]
  exact pc ev rfl
 rw [if_neg (by rw [decide_eq_true_eq]; omega)] at ev
 rw [decide_eq_true k1,Bool.true_and]
 by_cases h1 : ka c.s = true
 case neg =>
  have h1' : ka c.s = false := by simpa using h1
  rw [h1',Bool.false_and]
  rw [h1'] at ev
  exact pc ev rfl
 rw [h1,Bool.true_and]
 simp only [h1,if_true] at ev
 rw [if_neg (by decide)] at ev
 by_cases h2 : zgk c.l = true
 case neg =>
  have h2' : zgk c.l = false := by simpa using h2
  rw [h2',Bool.false_and]
  rw [h2'] at ev
  exact pc ev rfl
 rw [h2,Bool.true_and]
 simp only [h2,if_true] at ev
 rw [if_neg (by decide)] at ev
 by_cases h3 : ur c.e = true
 case neg =>
  have h3' : ur c.e = false := by simpa using h3
  rw [h3',Bool.false_and]
  rw [h3'] at ev
  exact pc ev rfl
 rw [h3,Bool.true_and]
 simp only [h3,if_true] at ev
 rw [if_neg (by decide)] at ev
 rw [zyf c.s c (by have := hc.s; omega)] at ev
 simp only [zw,ze,z8,yj,yk,zu,zt,zf,zq,zx,zy,za,zh,zl,z7,ym,zi,zd,zm,zz,zg,zk,zj,zp,yg,zr,yh,yl,ye,yf,ya,zn,yd,zo,yc,yb,yp,zb,z6,yi] at ev
 have lp : ∀ b0 : Bool,Lω 20 zc6 0 (zbn b0 (c.d.map ie) (c.d.length : Nat) 0) [.box true 28 c.c] = _ := fun b0 =>
  jv (fun i (b : Bool) => zbn b (c.d.map ie) (c.d.length : Nat) (i : Nat)) (fun _ _ => [.box true 28 c.c]) c.d (fun i t b => b || !okD c i t)
   (fun b => (.exit 0,mkS 81 [(1,.ref 0 0 0),(3,.bool b)],[.box true 28 c.c])) (fun _ _ => True) (fun i t b hg hi _ => by
    refine ⟨trivial,?_⟩
    have hl := zzq c t hc.s h1
    unfold Ct.c at hl ⊢
    rw [zul]
    have hdi : decide (((i : Nat) : Int) < ((c.d.length : Nat) : Int)) = true := by rw [decide_eq_true_eq]; omega
    simp only [hdi,nn,Int.toNat_natCast,zb,y9 hg,ie,zw,ze,z8,yj,yk,zu,zt,zf,zq,zx,zy,za,zh,zl,z7,ym,zi,zd,zm,zz,zg,zk,zj,zp,yg,zr,yh,yl,ye,yf,ya,zn,yd,zo,yc,yb,yp,zb,z6,yi,yr (show i < 4611686018427387904 by have := hc.d; omega),if_true,hl]
    cases b with
    | true => rfl
    | false =>
      simp only [Bool.false_eq_true,if_false,Bool.false_or]
      unfold okD
      cases hq : lv c t with
      | false => rfl
      | true =>
        simp only [Bool.not_true,Bool.false_eq_true,if_false,Bool.true_and]
        by_cases h0 : 0 < i
        ·obtain ⟨p1,p2⟩ := ztu (e := ie) t hi (show c.d.length < 4611686018427387904 by have := hc.d; omega) h0
         simp only [ie] at p1
         rw [if_pos (by rw [decide_eq_true_eq]; omega),if_pos p2]
         simp only [p1,zb,zw,ze,z8,yj,yk,zu,zt,zf,zq,zx,zy,za,zh,zl,z7,ym,zi,zd,zm,zz,zg,zk,zj,zp,yg,zr,yh,yl,ye,yf,ya,zn,yd,zo,yc,yb,yp,zb,z6,yi]
         have e1 : decide (i = 0) = false := decide_eq_false (by omega)
         have e2 : decide (t ≤ c.d.getD (i - 1) t) = !decide (c.d.getD (i - 1) t < t) := by
          by_cases hh : c.d.getD (i - 1) t < t
          ·rw [decide_eq_true hh,decide_eq_false (by omega)]; rfl
          ·rw [decide_eq_false hh,decide_eq_true (by omega)]; rfl
         rw [e1,Bool.false_or,← e2]
        ·rw [if_neg (by rw [decide_eq_true_eq]; omega),decide_eq_true (show i = 0 by omega)]
         rfl) (fun b _ => by
    unfold Ct.c
    rw [zul]; simp only [Int.lt_irrefl,decide_false,Bool.false_eq_true,if_false]) b0 trivial
 have lp' := lp (c.s.any fun a => decide (a.b > c.k) || decide (a.c > c.k))
 unfold Ct.c at lp'
 rw [List.length_map,lp',zmt] at ev
 simp only [zw,ze,z8,yj,yk,zu,zt,zf,zq,zx,zy,za,zh,zl,z7,ym,zi,zd,zm,zz,zg,zk,zj,zp,yg,zr,yh,yl,ye,yf,ya,zn,yd,zo,yc,yb,yp,zb,z6,yi,y3,yz,ne_eq,not_false_eq_true,Nat.reduceLT,Nat.reduceEqDiff,if_true] at ev
 cases hA : (c.s.any fun a => decide (a.b > c.k) || decide (a.c > c.k)) with
 | true =>
   rw [hA] at ev
   exact pc ev rfl
 | false =>
   rw [hA] at ev
   simp only [Bool.false_or,Bool.not_false,Bool.true_and] at ev ⊢
   cases hD : allI (okD c) c.d 0 with
   | false =>
     rw [hD] at ev
     exact pc ev rfl
   | true =>
     rw [hD] at ev
     simp only [Bool.not_true,Bool.false_eq_true,if_false,Bool.true_and] at ev ⊢
     rw [zyc c.l c hc.s hc.d h1 (by have := hc.l; omega)] at ev
     simp only [zw,ze,z8,yj,yk,zu,zt,zf,zq,zx,zy,za,zh,zl,z7,ym,zi,zd,zm,zz,zg,zk,zj,zp,yg,zr,yh,yl,ye,yf,ya,zn,yd,zo,yc,yb,yp,zb,z6,yi] at ev
     cases hB : (c.l.any fun a => !sd c a.t) with
     | true => rw [hB] at ev; exact pc ev rfl
     | false =>
       rw [hB] at ev
       simp only [Bool.false_eq_true,if_false,Bool.not_false,Bool.true_and] at ev ⊢
       rw [zx9 c.e c hc.s hc.d h1 (by have := hc.e; omega)] at ev
       simp only [zw,ze,z8,yj,yk,zu,zt,zf,zq,zx,zy,za,zh,zl,z7,ym,zi,zd,zm,zz,zg,zk,zj,zp,yg,zr,yh,yl,ye,yf,ya,zn,yd,zo,yc,yb,yp,zb,z6,yi] at ev
       cases hE : (c.e.any fun a => !sd c a.f || !sd c a.t) with
       | true => rw [hE] at ev; exact pc ev rfl
       | false => rw [hE] at ev; exact pc ev rfl
end Go.Pvm.S
