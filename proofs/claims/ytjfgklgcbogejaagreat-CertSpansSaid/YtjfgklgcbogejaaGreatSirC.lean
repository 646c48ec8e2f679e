/- Part of the proof: locks: searched, struck; which may be: the program's and the document's. -/
import Derived.Test.YtjfgklgcbogejaaGreatSirB
set_option linter.unusedSimpArgs false
set_option linter.unusedVariables false
set_option maxRecDepth 100000
namespace Go.Pvm.S
open Go.Pvm Go.Proofs
theorem z7k (a : Lk) : xy Tryz.prog 78 a.e 0 = some (.agg a.e) := by
 obtain ⟨t,k,p,q⟩ := a
 kernel_rfl
theorem z4z (l : List Lk) (x : Lk) (hl : l.length < 1073741824) (p : Nat) (hp : p ≤ l.length) (hk : ∀ k a,l[k]? = some a → (zbu a x < 0 ↔ k < p)) : ∀ m lo hi : Nat,hi - lo ≤ m → lo ≤ p → p ≤ hi → hi ≤ l.length →
  Lω 177 vw 0 (vl (l.map Lk.e)  (l.length : Nat) (lo : Nat) (hi : Nat)) [.box true 78 [.int .i64 x.t,.int .i64 x.k,.float .f64 x.q.toNat,.int .i64 x.p]] = some (.exit 0,mkS 49 [(0,.psl false (l.map Lk.e)),(2,.func 115 []),(4,.ref 0 0 0),(8,.int .i64 (l.length : Nat)),(9,.int .i64 (p : Nat))],[.box true 78 [.int .i64 x.t,.int .i64 x.k,.float .f64 x.q.toNat,.int .i64 x.p]]) := by
 intro m
 induction m with
 | zero =>
   intro lo hi hm h1 h2 h3
   have : lo = hi := by omega
   subst this
   have : p = lo := by omega
   subst this
   refine lw ?_
   rw [zfe,if_neg (by simp)]
 | succ m ih =>
   intro lo hi hm h1 h2 h3
   by_cases hlt : lo < hi
   ·have hh : (lo + hi) / 2 < l.length := by omega
    have hg := List.getElem?_eq_getElem hh
    have hc := hk _ _ hg
    refine lw ?_
    rw [zfe,if_pos (by simp; omega),z3m (by omega),if_pos (nn _),Int.toNat_natCast,y9 hg]
    have hs := zs6 l[(lo + hi) / 2] x
    simp only [Lk.e] at hs
    simp only [Lk.e,zw,ze,z8,yj,yk,zu,zt,zf,zq,zx,zy,za,zh,zl,z7,ym,zi,zd,zm,zz,zg,zk,zj,zp,yg,zr,yh,yl,ye,yf,ya,zn,yd,zo,yc,yb,yp,zb,z6,yi,hs]
    by_cases hq : zbu l[(lo + hi) / 2] x < 0
    ·rw [if_pos (by rw [decide_eq_true_eq]; exact hq),yr (by omega)]
     exact ih _ hi (by omega) (by have := hc.1 hq; omega) h2 h3
    ·rw [if_neg (by rw [decide_eq_true_eq]; exact hq)]
     exact ih lo _ (by omega) h1 (by have : ¬ _ := fun h => hq (hc.2 h); omega) (by omega)
   ·exact ih lo hi (by omega) h1 h2 h3
theorem z4y (l : List Lk) (x : Lk) (hl : l.length < 1073741824) (p : Nat) (hp : p ≤ l.length) (hk : ∀ k a,l[k]? = some a → (zbu a x < 0 ↔ k < p)) :
  yn Cω 177 [.psl false (l.map Lk.e),.agg x.e,.func 115 []] = some (.tuple [.int .i64 (p : Nat),.bool (match l[p]? with | some a => zbu a x == 0 | none => false)]) := by
 have ev := zrs Cω Lω (l.map Lk.e) x.t x.k x.q.toNat x.p
 have lp := z4z l x hl p hp hk l.length 0 l.length (by omega) (by omega) hp (Nat.le_refl _)
 rw [z5f] at lp
 try simp only [Lk.e] at lp
 rw [List.length_map] at ev
 try simp only [Lk.e] at ev
 try simp only [Lk.e]
 rw [lp] at ev
 simp only [zw,ze,z8,yj,yk,zu,zt,zf,zq,zx,zy,za,zh,zl,z7,ym,zi,zd,zm,zz,zg,zk,zj,zp,yg,zr,yh,yl,ye,yf,ya,zn,yd,zo,yc,yb,yp,zb,z6,yi,y3,yz,ne_eq,not_false_eq_true,Nat.reduceLT,Nat.reduceEqDiff,if_true] at ev
 by_cases h : p < l.length
 ·have hg := List.getElem?_eq_getElem h
  rw [if_pos (by rw [decide_eq_true_eq]; omega),if_pos (nn _),Int.toNat_natCast] at ev
  have hg2 := y9 (f := Lk.e) hg
  simp only [Lk.e] at hg2
  rw [hg2] at ev
  have hs := zs6 l[p] x
  simp only [Lk.e] at hs
  simp only [zw,ze,z8,yj,yk,zu,zt,zf,zq,zx,zy,za,zh,zl,z7,ym,zi,zd,zm,zz,zg,zk,zj,zp,yg,zr,yh,yl,ye,yf,ya,zn,yd,zo,yc,yb,yp,zb,z6,yi,hs] at ev
  rw [hg]
  exact pc ev rfl
 ·rw [if_neg (by rw [decide_eq_true_eq]; omega)] at ev
  rw [List.getElem?_eq_none (by omega)]
  exact pc ev rfl
theorem zpi (a : Lk) (x : Int) : yn Cω 167 [.agg a.e,.pref [.int .i64 x]] = some (.bool (a.t == x)) := pc (z30 Cω Lω a.t a.k a.q.toNat a.p x) rfl
theorem zyx (l : List Lk) (x : Int) (hl : l.length < 4611686018427387904) : Lω 117 uy 0 (vp (l.map Lk.e) x (l.length : Nat) 0) [] =
  some (zf2 (x7 (fun a => a.t == x) l 0) (fun i _ => (.ret,mkS 19 [(4,.int .i64 (i : Nat))],[])) (.exit 0,mkS 19 [],[])) :=
 qr (fun i => vp (l.map Lk.e) x (l.length : Nat) (i : Nat)) [] l (fun a => a.t == x) (fun i _ => (.ret,mkS 19 [(4,.int .i64 (i : Nat))],[])) (.exit 0,mkS 19 [],[]) (fun i a hg hi => by
  have hs := zpi a x
  rw [zfo]
  try simp only [Lk.e] at hs
  simp only [decide_eq_true_eq,Int.ofNat_lt,List.length_map,if_true,nn,true_and,Int.toNat_natCast,zb,hi,y9 hg,Lk.e,zw,ze,z8,yj,yk,zu,zt,zf,zq,zx,zy,za,zh,zl,z7,ym,zi,zd,zm,zz,zg,zk,zj,zp,yg,zr,yh,yl,ye,yf,ya,zn,yd,zo,yc,yb,yp,zb,z6,yi,hs,yr (show i < 4611686018427387904 by omega)]) (by rw [zfo]; simp only [decide_eq_true_eq,Int.ofNat_lt,List.length_map,if_true,nn,true_and,Int.toNat_natCast,zb,Nat.lt_irrefl,if_false])
theorem zyy (l : List Lk) (x : Int) (hl : l.length < 4611686018427387904) : yn Cω 117 [.psl false (l.map Lk.e),.func 167 [.pref [.int .i64 x]]] = some (.int .i64 (zf2 (x7 (fun a => a.t == x) l 0) (fun i _ => ((i : Nat) : Int)) (-1))) := by
 have ev := zr2 Cω Lω (l.map Lk.e) x
 have lp := zyx l x hl
 rw [List.length_map,lp] at ev
 cases hq : x7 (fun a => a.t == x) l 0 with
 | none =>
   rw [hq] at ev
   simp only [xq,zw,ze,z8,yj,yk,zu,zt,zf,zq,zx,zy,za,zh,zl,z7,ym,zi,zd,zm,zz,zg,zk,zj,zp,yg,zr,yh,yl,ye,yf,ya,zn,yd,zo,yc,yb,yp,zb,z6,yi,if_true] at ev
   exact pc ev rfl
 | some x =>
   rw [hq] at ev
   simp only [xc,zw,ze,z8,yj,yk,zu,zt,zf,zq,zx,zy,za,zh,zl,z7,ym,zi,zd,zm,zz,zg,zk,zj,zp,yg,zr,yh,yl,ye,yf,ya,zn,yd,zo,yc,yb,yp,zb,z6,yi,y3,yz,ne_eq,not_false_eq_true,Nat.reduceLT,Nat.reduceEqDiff] at ev
   exact pc ev rfl
def zk6 (l : List Lk) (x : Int) : PV × List KO := if l.any (fun a => a.t == x) = true
 then (wb 0 4 0 (l.filter fun a => !(a.t == x)).length,[.made true 4 ((l.filter fun a => !(a.t == x)).map Lk.e ++ List.replicate (l.length - (l.filter fun a => !(a.t == x)).length) [.int .i64 0,.int .i64 0,.float .f64 0,.int .i64 0])])
 else (whole 0 4,[.made true 4 (l.map Lk.e)])
theorem z1m (l : List Lk) (x : Int) (hl : l.length < 4611686018427387904) (j : Nat) (K : List Lk) (hj : j ≤ l.length) (hK : K.length < j) : Lω 166 kq 1 (kn x (K.length : Nat) (j : Nat)) [.made true 4 ((K ++ l.drop K.length).map Lk.e)] =
  some (.exit 0,mkS 42 [(0,whole 0 4),(5,.int .i64 ((K ++ (l.drop j).filter fun a => !(a.t == x)).length : Nat))],[.made true 4 (((K ++ (l.drop j).filter fun a => !(a.t == x)) ++ l.drop (K ++ (l.drop j).filter fun a => !(a.t == x)).length).map Lk.e)]) := by
 have := zoj (fun j (K : List Lk) => kn x (K.length : Nat) (j : Nat)) (fun _ K => [.made true 4 ((K ++ l.drop K.length).map Lk.e)]) l (fun _ a K => .on (if (!(a.t == x)) = true then K ++ [a] else K))
  (fun K => (.exit 0,mkS 42 [(0,whole 0 4),(5,.int .i64 (K.length : Nat))],[.made true 4 ((K ++ l.drop K.length).map Lk.e)])) (fun j K => K.length < j) (f := 166) (cd := kq) (n0 := 1)
  (fun i a K hg hi hK => by
   have hlen : ((K ++ l.drop K.length).map Lk.e).length = l.length := by rw [List.length_map,List.length_append,List.length_drop]; omega
   have hgi : ((K ++ l.drop K.length).map Lk.e)[i]? = some (Lk.e a) := by
    refine y9 ?_
    rw [List.getElem?_append_right (by omega),List.getElem?_drop,show K.length + (i - K.length) = i by omega]
    exact hg
   have hs := zpi a x
   simp only [Lk.e] at hs
   have hpt := z7k a
   simp only [Lk.e] at hpt
   refine ⟨by split <;> (try simp only [List.length_append,List.length_cons,List.length_nil]) <;> omega,?_⟩
   rw [zfh]
   simp only [hlen,decide_eq_true_eq,Int.ofNat_lt,hi,if_true,nn,true_and,Int.toNat_natCast,hgi,zb,Lk.e,hpt,zw,ze,z8,yj,yk,zu,zt,zf,zq,zx,zy,za,zh,zl,z7,ym,zi,zd,zm,zz,zg,zk,zj,zp,yg,zr,yh,yl,ye,yf,ya,zn,yd,zo,yc,yb,yp,zb,z6,yi,hs,yr (show i < 4611686018427387904 by omega)]
   by_cases hp : (!(a.t == x)) = true
   ·rw [if_pos hp,if_pos hp,if_pos (by omega),if_pos (by omega),yr (by omega)]
    have hset : ((K ++ l.drop K.length).map Lk.e).set K.length (Lk.e a) = ((K ++ [a]) ++ l.drop (K ++ [a]).length).map Lk.e := by
     rw [← List.map_set]
     congr 1
     rw [List.set_append_right _ _ (Nat.le_refl _),Nat.sub_self,List.drop_eq_getElem_cons (by omega),List.set_cons_zero,List.append_assoc,List.length_append]
     rfl
    simp only [Lk.e] at hset
    rw [hset]
    simp only [List.length_append,List.length_cons,List.length_nil]
    try rfl
   ·rw [if_neg hp,if_neg hp])
  (fun K hK => by
   have hlen : ((K ++ l.drop K.length).map Lk.e).length = l.length := by rw [List.length_map,List.length_append,List.length_drop]; omega
   rw [zfh]
   simp only [hlen,decide_eq_true_eq,Nat.lt_irrefl,Int.ofNat_lt,if_false]) (l.length - j) j K (by omega) hK
 rw [this,uf,ql]
theorem z1l (l : List Lk) (x : Int) (hl : l.length < 1073741824) : Cω 166 [whole 0 4,.func 167 [.pref [.int .i64 x]]] [.made true 4 (l.map Lk.e)] = some (zk6 l x) := by
 have ev := zrv Cω Lω x (l.map Lk.e)
 have hx := zyy l x (by omega)
 simp only [hx,zw,ze,z8,yj,yk,zu,zt,zf,zq,zx,zy,za,zh,zl,z7,ym,zi,zd,zm,zz,zg,zk,zj,zp,yg,zr,yh,yl,ye,yf,ya,zn,yd,zo,yc,yb,yp,zb,z6,yi] at ev
 unfold zk6
 have hany := jz (p := fun a => a.t == x) l 0
 rw [← hany]
 cases hq : x7 (fun a => a.t == x) l 0 with
 | none =>
   rw [hq] at ev
   simp only [xq,beq_self_eq_true,if_true] at ev
   rw [if_neg (by decide)]
   exact cw ev
 | some y =>
   obtain ⟨i,b⟩ := y
   obtain ⟨_,hi,hb,hpb,hbe⟩ := vd hq
   simp only [Nat.zero_add,Nat.sub_zero] at hi hb hbe
   rw [hq,xc] at ev
   simp only at ev
   rw [if_neg (by rw [beq_iff_eq]; omega)] at ev
   have hil : i < l.length := by omega
   have hK0 : (l.take i).length = i := by rw [List.length_take]; omega
   have lp := z1m l x (by omega) (i + 1) (l.take i) (by omega) (by omega)
   rw [hK0,List.take_append_drop] at lp
   have hfl : l.take i ++ (l.drop (i + 1)).filter (fun a => !(a.t == x)) = l.filter (fun a => !(a.t == x)) := by
    conv => rhs; rw [← List.take_append_drop i l,List.filter_append,List.drop_eq_getElem_cons hil]
    have e1 : (l.take i).filter (fun a => !(a.t == x)) = l.take i := List.filter_eq_self.2 fun a ha => by
     obtain ⟨k,hk⟩ := List.mem_iff_getElem?.1 ha
     have hk2 : k < i := by have := (List.getElem?_eq_some_iff.1 hk).1; omega
     rw [List.getElem?_take_of_lt hk2] at hk
     have h9 : (a.t == x) = false := hbe k a hk2 hk
     rw [h9]; rfl
    have e2 : l[i] = b := by rw [List.getElem?_eq_getElem hil] at hb; exact Option.some.inj hb
    rw [e1,e2,List.filter_cons_of_neg (by have h9 : (fun a : Lk => a.t == x) b = true := hpb; show ¬ ((!((fun a : Lk => a.t == x) b)) = true); rw [h9]; decide)]
   rw [hfl] at lp
   rw [yr (by omega),lp] at ev
   have hfle : (l.filter fun a => !(a.t == x)).length ≤ l.length := List.length_filter_le _ _
   have hlen : (((l.filter fun a => !(a.t == x)) ++ l.drop (l.filter fun a => !(a.t == x)).length).map Lk.e).length = l.length := by rw [List.length_map,List.length_append,List.length_drop]; omega
   have hlt : (((l.filter fun a => !(a.t == x)) ++ l.drop (l.filter fun a => !(a.t == x)).length).map Lk.e).take (l.filter fun a => !(a.t == x)).length = (l.filter fun a => !(a.t == x)).map Lk.e := by
    rw [List.map_append,List.take_append_of_le_length (by rw [List.length_map]; exact Nat.le_refl _),List.take_of_length_le (by rw [List.length_map]; exact Nat.le_refl _)]
   simp only [zw,ze,z8,yj,yk,zu,zt,zf,zq,zx,zy,za,zh,zl,z7,ym,zi,zd,zm,zz,zg,zk,zj,zp,yg,zr,yh,yl,ye,yf,ya,zn,yd,zo,yc,yb,yp,zb,z6,yi,y3,yz,ne_eq,not_false_eq_true,Nat.reduceLT,Nat.reduceEqDiff,if_true,zhh,hlen,hlt,Nat.le_refl,and_true,hfle] at ev
   have hd : (((l.filter fun a => !(a.t == x)) ++ l.drop (l.filter fun a => !(a.t == x)).length).map Lk.e).drop ((l.filter fun a => !(a.t == x)).length + (l.length - (l.filter fun a => !(a.t == x)).length)) = [] := List.drop_of_length_le (by rw [hlen]; omega)
   rw [hd,List.append_nil] at ev
   have hll : (List.map Lk.e (l.filter fun a => !(a.t == x)) ++ List.replicate (l.length - (l.filter fun a => !(a.t == x)).length) ([.int .i64 0,.int .i64 0,.float .f64 0,.int .i64 0] : List PV)).length = l.length := by rw [List.length_append,List.length_map,List.length_replicate]; omega
   rw [if_pos ⟨Nat.zero_le _,by rw [hll]; exact hfle⟩,Nat.sub_zero] at ev
   rw [if_pos (by rfl)]
   exact cw ev
theorem z2m (a x : Lk) : yn Cω 175 [.agg a.e,.pref x.e] = some (.bool (covL a x)) := by
 have ev := z3w Cω Lω a.t a.k a.q.toNat a.p x.t x.k x.q.toNat x.p
 have hs := zf9 a x
 simp only [Lk.e] at hs
 simp only [hs,zw,ze,z8,yj,yk,zu,zt,zf,zq,zx,zy,za,zh,zl,z7,ym,zi,zd,zm,zz,zg,zk,zj,zp,yg,zr,yh,yl,ye,yf,ya,zn,yd,zo,yc,yb,yp,zb,z6,yi] at ev
 exact pc ev rfl
theorem zzn (a x : Lk) : yn Cω 176 [.agg a.e,.pref x.e] = some (.bool (covL x a)) := by
 have ev := z3v Cω Lω a.t a.k a.q.toNat a.p x.t x.k x.q.toNat x.p
 have hs := zf9 x a
 simp only [Lk.e] at hs
 simp only [hs,zw,ze,z8,yj,yk,zu,zt,zf,zq,zx,zy,za,zh,zl,z7,ym,zi,zd,zm,zz,zg,zk,zj,zp,yg,zr,yh,yl,ye,yf,ya,zn,yd,zo,yc,yb,yp,zb,z6,yi] at ev
 exact pc ev rfl
theorem zx0 (l : List Lk) (x : Lk) (hl : l.length < 4611686018427387904) : Lω 117 ux 0 (vo (l.map Lk.e) x.t x.k x.q.toNat x.p (l.length : Nat) 0) [] =
  some (zf2 (x7 (fun a => covL a x) l 0) (fun i _ => (.ret,mkS 19 [(4,.int .i64 (i : Nat))],[])) (.exit 0,mkS 19 [],[])) :=
 qr (fun i => vo (l.map Lk.e) x.t x.k x.q.toNat x.p (l.length : Nat) (i : Nat)) [] l (fun a => covL a x) (fun i _ => (.ret,mkS 19 [(4,.int .i64 (i : Nat))],[])) (.exit 0,mkS 19 [],[]) (fun i a hg hi => by
  have hs := z2m a x
  rw [zfn]
  try simp only [Lk.e] at hs
  simp only [decide_eq_true_eq,Int.ofNat_lt,List.length_map,if_true,nn,true_and,Int.toNat_natCast,zb,hi,y9 hg,Lk.e,zw,ze,z8,yj,yk,zu,zt,zf,zq,zx,zy,za,zh,zl,z7,ym,zi,zd,zm,zz,zg,zk,zj,zp,yg,zr,yh,yl,ye,yf,ya,zn,yd,zo,yc,yb,yp,zb,z6,yi,hs,yr (show i < 4611686018427387904 by omega)]) (by rw [zfn]; simp only [decide_eq_true_eq,Int.ofNat_lt,List.length_map,if_true,nn,true_and,Int.toNat_natCast,zb,Nat.lt_irrefl,if_false])
theorem zx1 (l : List Lk) (x : Lk) (hl : l.length < 4611686018427387904) : yn Cω 117 [.psl false (l.map Lk.e),.func 175 [.pref [.int .i64 x.t,.int .i64 x.k,.float .f64 x.q.toNat,.int .i64 x.p]]] = some (.int .i64 (zf2 (x7 (fun a => covL a x) l 0) (fun i _ => ((i : Nat) : Int)) (-1))) := by
 have ev := zr1 Cω Lω (l.map Lk.e) x.t x.k x.q.toNat x.p
 have lp := zx0 l x hl
 rw [List.length_map,lp] at ev
 cases hq : x7 (fun a => covL a x) l 0 with
 | none =>
   rw [hq] at ev
   simp only [xq,zw,ze,z8,yj,yk,zu,zt,zf,zq,zx,zy,za,zh,zl,z7,ym,zi,zd,zm,zz,zg,zk,zj,zp,yg,zr,yh,yl,ye,yf,ya,zn,yd,zo,yc,yb,yp,zb,z6,yi,if_true] at ev
   exact pc ev rfl
 | some x =>
   rw [hq] at ev
   simp only [xc,zw,ze,z8,yj,yk,zu,zt,zf,zq,zx,zy,za,zh,zl,z7,ym,zi,zd,zm,zz,zg,zk,zj,zp,yg,zr,yh,yl,ye,yf,ya,zn,yd,zo,yc,yb,yp,zb,z6,yi,y3,yz,ne_eq,not_false_eq_true,Nat.reduceLT,Nat.reduceEqDiff] at ev
   exact pc ev rfl
theorem zyv (l : List Lk) (x : Lk) (hl : l.length < 4611686018427387904) : Lω 117 uw 0 (vn (l.map Lk.e) x.t x.k x.q.toNat x.p (l.length : Nat) 0) [] =
  some (zf2 (x7 (fun a => covL x a) l 0) (fun i _ => (.ret,mkS 19 [(4,.int .i64 (i : Nat))],[])) (.exit 0,mkS 19 [],[])) :=
 qr (fun i => vn (l.map Lk.e) x.t x.k x.q.toNat x.p (l.length : Nat) (i : Nat)) [] l (fun a => covL x a) (fun i _ => (.ret,mkS 19 [(4,.int .i64 (i : Nat))],[])) (.exit 0,mkS 19 [],[]) (fun i a hg hi => by
  have hs := zzn a x
  rw [zfm]
  try simp only [Lk.e] at hs
  simp only [decide_eq_true_eq,Int.ofNat_lt,List.length_map,if_true,nn,true_and,Int.toNat_natCast,zb,hi,y9 hg,Lk.e,zw,ze,z8,yj,yk,zu,zt,zf,zq,zx,zy,za,zh,zl,z7,ym,zi,zd,zm,zz,zg,zk,zj,zp,yg,zr,yh,yl,ye,yf,ya,zn,yd,zo,yc,yb,yp,zb,z6,yi,hs,yr (show i < 4611686018427387904 by omega)]) (by rw [zfm]; simp only [decide_eq_true_eq,Int.ofNat_lt,List.length_map,if_true,nn,true_and,Int.toNat_natCast,zb,Nat.lt_irrefl,if_false])
theorem zyw (l : List Lk) (x : Lk) (hl : l.length < 4611686018427387904) : yn Cω 117 [.psl false (l.map Lk.e),.func 176 [.pref [.int .i64 x.t,.int .i64 x.k,.float .f64 x.q.toNat,.int .i64 x.p]]] = some (.int .i64 (zf2 (x7 (fun a => covL x a) l 0) (fun i _ => ((i : Nat) : Int)) (-1))) := by
 have ev := zr0 Cω Lω (l.map Lk.e) x.t x.k x.q.toNat x.p
 have lp := zyv l x hl
 rw [List.length_map,lp] at ev
 cases hq : x7 (fun a => covL x a) l 0 with
 | none =>
   rw [hq] at ev
   simp only [xq,zw,ze,z8,yj,yk,zu,zt,zf,zq,zx,zy,za,zh,zl,z7,ym,zi,zd,zm,zz,zg,zk,zj,zp,yg,zr,yh,yl,ye,yf,ya,zn,yd,zo,yc,yb,yp,zb,z6,yi,if_true] at ev
   exact pc ev rfl
 | some x =>
   rw [hq] at ev
   simp only [xc,zw,ze,z8,yj,yk,zu,zt,zf,zq,zx,zy,za,zh,zl,z7,ym,zi,zd,zm,zz,zg,zk,zj,zp,yg,zr,yh,yl,ye,yf,ya,zn,yd,zo,yc,yb,yp,zb,z6,yi,y3,yz,ne_eq,not_false_eq_true,Nat.reduceLT,Nat.reduceEqDiff] at ev
   exact pc ev rfl
def zk5 (l : List Lk) (x : Lk) : PV × List KO := if l.any (fun a => covL x a) = true
 then (wb 0 4 0 (l.filter fun a => !(covL x a)).length,[.made true 4 ((l.filter fun a => !(covL x a)).map Lk.e ++ List.replicate (l.length - (l.filter fun a => !(covL x a)).length) [.int .i64 0,.int .i64 0,.float .f64 0,.int .i64 0])])
 else (whole 0 4,[.made true 4 (l.map Lk.e)])
theorem z1k (l : List Lk) (x : Lk) (hl : l.length < 4611686018427387904) (j : Nat) (K : List Lk) (hj : j ≤ l.length) (hK : K.length < j) : Lω 166 kp 1 (kj x.t x.k x.q.toNat x.p (K.length : Nat) (j : Nat)) [.made true 4 ((K ++ l.drop K.length).map Lk.e)] =
  some (.exit 0,mkS 42 [(0,whole 0 4),(5,.int .i64 ((K ++ (l.drop j).filter fun a => !(covL x a)).length : Nat))],[.made true 4 (((K ++ (l.drop j).filter fun a => !(covL x a)) ++ l.drop (K ++ (l.drop j).filter fun a => !(covL x a)).length).map Lk.e)]) := by
 have := zoj (fun j (K : List Lk) => kj x.t x.k x.q.toNat x.p (K.length : Nat) (j : Nat)) (fun _ K => [.made true 4 ((K ++ l.drop K.length).map Lk.e)]) l (fun _ a K => .on (if (!(covL x a)) = true then K ++ [a] else K))
  (fun K => (.exit 0,mkS 42 [(0,whole 0 4),(5,.int .i64 (K.length : Nat))],[.made true 4 ((K ++ l.drop K.length).map Lk.e)])) (fun j K => K.length < j) (f := 166) (cd := kp) (n0 := 1)
  (fun i a K hg hi hK => by
   have hlen : ((K ++ l.drop K.length).map Lk.e).length = l.length := by rw [List.length_map,List.length_append,List.length_drop]; omega
   have hgi : ((K ++ l.drop K.length).map Lk.e)[i]? = some (Lk.e a) := by
    refine y9 ?_
    rw [List.getElem?_append_right (by omega),List.getElem?_drop,show K.length + (i - K.length) = i by omega]
    exact hg
   have hs := zzn a x
   simp only [Lk.e] at hs
   have hpt := z7k a
   simp only [Lk.e] at hpt
   refine ⟨by split <;> (try simp only [List.length_append,List.length_cons,List.length_nil]) <;> omega,?_⟩
   rw [zfg]
   simp only [hlen,decide_eq_true_eq,Int.ofNat_lt,hi,if_true,nn,true_and,Int.toNat_natCast,hgi,zb,Lk.e,hpt,zw,ze,z8,yj,yk,zu,zt,zf,zq,zx,zy,za,zh,zl,z7,ym,zi,zd,zm,zz,zg,zk,zj,zp,yg,zr,yh,yl,ye,yf,ya,zn,yd,zo,yc,yb,yp,zb,z6,yi,hs,yr (show i < 4611686018427387904 by omega)]
   by_cases hp : (!(covL x a)) = true
   ·rw [if_pos hp,if_pos hp,if_pos (by omega),if_pos (by omega),yr (by omega)]
    have hset : ((K ++ l.drop K.length).map Lk.e).set K.length (Lk.e a) = ((K ++ [a]) ++ l.drop (K ++ [a]).length).map Lk.e := by
     rw [← List.map_set]
     congr 1
     rw [List.set_append_right _ _ (Nat.le_refl _),Nat.sub_self,List.drop_eq_getElem_cons (by omega),List.set_cons_zero,List.append_assoc,List.length_append]
     rfl
    simp only [Lk.e] at hset
    rw [hset]
    simp only [List.length_append,List.length_cons,List.length_nil]
    try rfl
   ·rw [if_neg hp,if_neg hp])
  (fun K hK => by
   have hlen : ((K ++ l.drop K.length).map Lk.e).length = l.length := by rw [List.length_map,List.length_append,List.length_drop]; omega
   rw [zfg]
   simp only [hlen,decide_eq_true_eq,Nat.lt_irrefl,Int.ofNat_lt,if_false]) (l.length - j) j K (by omega) hK
 rw [this,uf,ql]
theorem z1j (l : List Lk) (x : Lk) (hl : l.length < 1073741824) : Cω 166 [whole 0 4,.func 176 [.pref [.int .i64 x.t,.int .i64 x.k,.float .f64 x.q.toNat,.int .i64 x.p]]] [.made true 4 (l.map Lk.e)] = some (zk5 l x) := by
 have ev := zru Cω Lω x.t x.k x.q.toNat x.p (l.map Lk.e)
 have hx := zyw l x (by omega)
 simp only [hx,zw,ze,z8,yj,yk,zu,zt,zf,zq,zx,zy,za,zh,zl,z7,ym,zi,zd,zm,zz,zg,zk,zj,zp,yg,zr,yh,yl,ye,yf,ya,zn,yd,zo,yc,yb,yp,zb,z6,yi] at ev
 unfold zk5
 have hany := jz (p := fun a => covL x a) l 0
 rw [← hany]
 cases hq : x7 (fun a => covL x a) l 0 with
 | none =>
   rw [hq] at ev
   simp only [xq,beq_self_eq_true,if_true] at ev
   rw [if_neg (by decide)]
   exact cw ev
 | some y =>
   obtain ⟨i,b⟩ := y
   obtain ⟨_,hi,hb,hpb,hbe⟩ := vd hq
   simp only [Nat.zero_add,Nat.sub_zero] at hi hb hbe
   rw [hq,xc] at ev
   simp only at ev
   rw [if_neg (by rw [beq_iff_eq]; omega)] at ev
   have hil : i < l.length := by omega
   have hK0 : (l.take i).length = i := by rw [List.length_take]; omega
   have lp := z1k l x (by omega) (i + 1) (l.take i) (by omega) (by omega)
   rw [hK0,List.take_append_drop] at lp
   have hfl : l.take i ++ (l.drop (i + 1)).filter (fun a => !(covL x a)) = l.filter (fun a => !(covL x a)) := by
    conv => rhs; rw [← List.take_append_drop i l,List.filter_append,List.drop_eq_getElem_cons hil]
    have e1 : (l.take i).filter (fun a => !(covL x a)) = l.take i := List.filter_eq_self.2 fun a ha => by
     obtain ⟨k,hk⟩ := List.mem_iff_getElem?.1 ha
     have hk2 : k < i := by have := (List.getElem?_eq_some_iff.1 hk).1; omega
     rw [List.getElem?_take_of_lt hk2] at hk
     have h9 : (covL x a) = false := hbe k a hk2 hk
     rw [h9]; rfl
    have e2 : l[i] = b := by rw [List.getElem?_eq_getElem hil] at hb; exact Option.some.inj hb
    rw [e1,e2,List.filter_cons_of_neg (by have h9 : (fun a : Lk => covL x a) b = true := hpb; show ¬ ((!((fun a : Lk => covL x a) b)) = true); rw [h9]; decide)]
   rw [hfl] at lp
   rw [yr (by omega),lp] at ev
   have hfle : (l.filter fun a => !(covL x a)).length ≤ l.length := List.length_filter_le _ _
   have hlen : (((l.filter fun a => !(covL x a)) ++ l.drop (l.filter fun a => !(covL x a)).length).map Lk.e).length = l.length := by rw [List.length_map,List.length_append,List.length_drop]; omega
   have hlt : (((l.filter fun a => !(covL x a)) ++ l.drop (l.filter fun a => !(covL x a)).length).map Lk.e).take (l.filter fun a => !(covL x a)).length = (l.filter fun a => !(covL x a)).map Lk.e := by
    rw [List.map_append,List.take_append_of_le_length (by rw [List.length_map]; exact Nat.le_refl _),List.take_of_length_le (by rw [List.length_map]; exact Nat.le_refl _)]
   simp only [zw,ze,z8,yj,yk,zu,zt,zf,zq,zx,zy,za,zh,zl,z7,ym,zi,zd,zm,zz,zg,zk,zj,zp,yg,zr,yh,yl,ye,yf,ya,zn,yd,zo,yc,yb,yp,zb,z6,yi,y3,yz,ne_eq,not_false_eq_true,Nat.reduceLT,Nat.reduceEqDiff,if_true,zhh,hlen,hlt,Nat.le_refl,and_true,hfle] at ev
   have hd : (((l.filter fun a => !(covL x a)) ++ l.drop (l.filter fun a => !(covL x a)).length).map Lk.e).drop ((l.filter fun a => !(covL x a)).length + (l.length - (l.filter fun a => !(covL x a)).length)) = [] := List.drop_of_length_le (by rw [hlen]; omega)
   rw [hd,List.append_nil] at ev
   have hll : (List.map Lk.e (l.filter fun a => !(covL x a)) ++ List.replicate (l.length - (l.filter fun a => !(covL x a)).length) ([.int .i64 0,.int .i64 0,.float .f64 0,.int .i64 0] : List PV)).length = l.length := by rw [List.length_append,List.length_map,List.length_replicate]; omega
   rw [if_pos ⟨Nat.zero_le _,by rw [hll]; exact hfle⟩,Nat.sub_zero] at ev
   rw [if_pos (by rfl)]
   exact cw ev
theorem z2r (l : List Lk) (x : Lk) (hl : l.length < 4611686018427387904) : yn Cω 60 [.psl false (l.map Lk.e),.func 175 [.pref x.e]] = some (.bool (l.any fun a => covL a x)) := by
 have ev := zvb Cω Lω (l.map Lk.e) x.t x.k x.q.toNat x.p
 have h := zx1 l x hl
 rw [h] at ev
 rw [← jz _ 0]
 simp only [zw,ze,z8,yj,yk,zu,zt,zf,zq,zx,zy,za,zh,zl,z7,ym,zi,zd,zm,zz,zg,zk,zj,zp,yg,zr,yh,yl,ye,yf,ya,zn,yd,zo,yc,yb,yp,zb,z6,yi] at ev
 cases hq : x7 (fun a => covL a x) l 0 with
 | none =>
   rw [hq] at ev
   exact pc ev rfl
 | some y =>
   rw [hq,xc,decide_eq_true (nn _)] at ev
   exact pc ev rfl
def okC (l : List Lk) (i : Nat) (x : Lk) : Bool := okL x && ((decide (i = 0) || decide (zbu (l.getD (i - 1) x) x < 0)) && allI (fun k y => decide (k = i) || !covL y x) l 0)
def zgk (l : List Lk) : Bool := decide (l.length ≤ 64) && allI (okC l) l 0
theorem z3c (a b : Nat) : ((((a : Nat) : Int) != ((b : Nat) : Int)) = true) = (a ≠ b) := z5v
theorem zuq (l : List Lk) (hl : l.length < 4611686018427387904) (i : Nat) (x : Lk) :
  Lω 55 zey 0 (zcu (l.map Lk.e) (i : Nat) (l.map Lk.e) (l.length : Nat) (i : Nat) (l.map Lk.e) (l.length : Nat) 0) [.box true 78 x.e] =
  some (if allI (fun k y => decide (k = i) || !covL y x) l 0 = true then (.exit 2,mkS 51 [(0,.psl false (l.map Lk.e)),(10,.psl false (l.map Lk.e)),(11,.int .i64 (l.length : Nat)),(12,.int .i64 (i : Nat))],[]) else (.ret,mkS 51 [(2,.int .i64 1)],[])) :=
 zdw (fun k => zcu (l.map Lk.e) (i : Nat) (l.map Lk.e) (l.length : Nat) (i : Nat) (l.map Lk.e) (l.length : Nat) (k : Nat)) [.box true 78 x.e] l (fun k y => decide (k = i) || !covL y x) _ _ (fun k y hg hk => by
  have hs := zf9 y x
  simp only [Lk.e] at hs
  have hdi : decide (((k : Nat) : Int) < ((l.length : Nat) : Int)) = true := by rw [decide_eq_true_eq]; omega
  show yx cfg xa Cω Lω _ _ _ _ [.box true 78 [.int .i64 x.t,.int .i64 x.k,.float .f64 x.q.toNat,.int .i64 x.p]] = _
  rw [zub]
  simp only [hdi,nn,Int.toNat_natCast,zb,y9 hg,Lk.e,zw,ze,z8,yj,yk,zu,zt,zf,zq,zx,zy,za,zh,zl,z7,ym,zi,zd,zm,zz,zg,zk,zj,zp,yg,zr,yh,yl,ye,yf,ya,zn,yd,zo,yc,yb,yp,zb,z6,yi,yr (show k < 4611686018427387904 by omega),hs,if_true]
  by_cases h : k = i
  ·rw [if_neg (by rw [z3c]; exact fun e => e h),decide_eq_true h,Bool.true_or,if_pos rfl]
  ·rw [if_pos (by rw [z3c]; exact h),decide_eq_false h,Bool.false_or]
   cases covL y x <;> rfl) (by
  show yx cfg xa Cω Lω _ _ _ _ [.box true 78 [.int .i64 x.t,.int .i64 x.k,.float .f64 x.q.toNat,.int .i64 x.p]] = _
  rw [zub]; simp only [Int.lt_irrefl,decide_false,Bool.false_eq_true,if_false])
theorem zxo (l : List Lk) (hl : l.length < 4611686018427387904) : Lω 55 zc4 0 (zep (l.map Lk.e) (l.map Lk.e) (l.length : Nat) 0) [] =
  some (if allI (okC l) l 0 = true then (.exit 0,mkS 51 [],[]) else (.ret,mkS 51 [(2,.int .i64 1)],[])) :=
 zdw (fun i => zep (l.map Lk.e) (l.map Lk.e) (l.length : Nat) (i : Nat)) [] l (okC l) _ _ (fun i x hg hi => by
  have hdi : decide (((i : Nat) : Int) < ((l.length : Nat) : Int)) = true := by rw [decide_eq_true_eq]; omega
  have hk := z2p x
  have ho := zs6 (l.getD (i - 1) x) x
  have hin := zuq l hl i x
  simp only [Lk.e] at hk ho
  rw [zuc]
  simp only [List.length_map]
  simp only [hdi,nn,Int.toNat_natCast,zb,y9 hg,Lk.e,zw,ze,z8,yj,yk,zu,zt,zf,zq,zx,zy,za,zh,zl,z7,ym,zi,zd,zm,zz,zg,zk,zj,zp,yg,zr,yh,yl,ye,yf,ya,zn,yd,zo,yc,yb,yp,zb,z6,yi,hk,if_true]
  simp only [Lk.e] at hin
  rw [hin]
  unfold okC
  cases okL x
  ·rfl
  ·simp only [Bool.not_true,Bool.false_eq_true,if_false,Bool.true_and]
   by_cases h0 : 0 < i
   ·have hd0 : decide (((i : Nat) : Int) > 0) = true := by rw [decide_eq_true_eq]; omega
    have hz : decide (i = 0) = false := decide_eq_false (by omega)
    obtain ⟨p1,p2⟩ := ztu (e := Lk.e) x hi hl h0
    rw [hd0,if_pos rfl,if_pos p2,p1,hz,Bool.false_or]
    simp only [Lk.e,zw,ze,z8,yj,yk,zu,zt,zf,zq,zx,zy,za,zh,zl,z7,ym,zi,zd,zm,zz,zg,zk,zj,zp,yg,zr,yh,yl,ye,yf,ya,zn,yd,zo,yc,yb,yp,zb,z6,yi,ho]
    by_cases hlt : zbu (l.getD (i - 1) x) x < 0
    ·rw [decide_eq_true hlt,Bool.true_and,if_neg (by rw [decide_eq_true_eq]; omega)]
     cases allI (fun k y => decide (k = i) || !covL y x) l 0
     ·simp only [Bool.false_eq_true,if_false,zw,ze,z8,yj,yk,zu,zt,zf,zq,zx,zy,za,zh,zl,z7,ym,zi,zd,zm,zz,zg,zk,zj,zp,yg,zr,yh,yl,ye,yf,ya,zn,yd,zo,yc,yb,yp,zb,z6,yi,y3,yz,ne_eq,not_false_eq_true,Nat.reduceLT,Nat.reduceEqDiff]
     ·simp only [if_true,zw,ze,z8,yj,yk,zu,zt,zf,zq,zx,zy,za,zh,zl,z7,ym,zi,zd,zm,zz,zg,zk,zj,zp,yg,zr,yh,yl,ye,yf,ya,zn,yd,zo,yc,yb,yp,zb,z6,yi,y3,yz,ne_eq,not_false_eq_true,Nat.reduceLT,Nat.reduceEqDiff,yr (show i < 4611686018427387904 by omega)]
    ·rw [decide_eq_false hlt,Bool.false_and,if_pos (by rw [decide_eq_true_eq]; omega),if_neg (by decide)]
   ·have hi0 : i = 0 := by omega
    have hd0 : decide (((i : Nat) : Int) > 0) = false := by rw [decide_eq_false_iff_not]; omega
    rw [hd0,if_neg (by decide),decide_eq_true hi0,Bool.true_or,Bool.true_and]
    cases allI (fun k y => decide (k = i) || !covL y x) l 0
    ·simp only [Bool.false_eq_true,if_false,zw,ze,z8,yj,yk,zu,zt,zf,zq,zx,zy,za,zh,zl,z7,ym,zi,zd,zm,zz,zg,zk,zj,zp,yg,zr,yh,yl,ye,yf,ya,zn,yd,zo,yc,yb,yp,zb,z6,yi,y3,yz,ne_eq,not_false_eq_true,Nat.reduceLT,Nat.reduceEqDiff]
    ·simp only [if_true,zw,ze,z8,yj,yk,zu,zt,zf,zq,zx,zy,za,zh,zl,z7,ym,zi,zd,zm,zz,zg,zk,zj,zp,yg,zr,yh,yl,ye,yf,ya,zn,yd,zo,yc,yb,yp,zb,z6,yi,y3,yz,ne_eq,not_false_eq_true,Nat.reduceLT,Nat.reduceEqDiff,yr (show i < 4611686018427387904 by omega)]) (by
  rw [zuc]; simp only [Int.lt_irrefl,decide_false,Bool.false_eq_true,if_false])
theorem zj4 (l : List Lk) (hl : l.length < 4611686018427387904) : yn Cω 55 [.psl false (l.map Lk.e)] = some (.int .i64 (if zgk l = true then 0 else 1)) := by
 have ev := z6r Cω Lω (l.map Lk.e)
 rw [List.length_map,zxo l hl] at ev
 unfold zgk
 by_cases h : l.length ≤ 64
 ·rw [if_neg (by rw [decide_eq_true_eq]; omega)] at ev
  simp only [z7a h,Bool.true_and]
  by_cases h2 : allI (okC l) l 0 = true
  ·simp only [h2,if_true,zw,ze,z8,yj,yk,zu,zt,zf,zq,zx,zy,za,zh,zl,z7,ym,zi,zd,zm,zz,zg,zk,zj,zp,yg,zr,yh,yl,ye,yf,ya,zn,yd,zo,yc,yb,yp,zb,z6,yi] at ev ⊢
   exact pc ev rfl
  ·simp only [h2,if_false,zw,ze,z8,yj,yk,zu,zt,zf,zq,zx,zy,za,zh,zl,z7,ym,zi,zd,zm,zz,zg,zk,zj,zp,yg,zr,yh,yl,ye,yf,ya,zn,yd,zo,yc,yb,yp,zb,z6,yi,y3,yz,ne_eq,not_false_eq_true,Nat.reduceLT,Nat.reduceEqDiff] at ev ⊢
   exact pc ev rfl
 ·rw [if_pos (by rw [decide_eq_true_eq]; omega)] at ev
  simp only [decide_eq_false h,Bool.false_and,Bool.false_eq_true,if_false]
  exact pc ev rfl
end Go.Pvm.S
