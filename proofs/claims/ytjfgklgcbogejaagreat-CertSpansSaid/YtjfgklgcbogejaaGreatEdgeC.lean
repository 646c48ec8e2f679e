/- Part of the proof: edges: looked for, one more, without somebody's; alike. -/
import Derived.Test.YtjfgklgcbogejaaGreatEdgeB
set_option linter.unusedSimpArgs false
set_option linter.unusedVariables false
set_option maxRecDepth 100000
namespace Go.Pvm.S
open Go.Pvm Go.Proofs
theorem z7y (a : Ed) : xy Tryz.prog 69 a.e 0 = some (.agg a.e) := by
 obtain ⟨f,t⟩ := a
 kernel_rfl
theorem zs3 (a : Spn) (x : Int) : yn Cω 183 [.agg a.e,.int .i64 x] = some (.int .i64 (uo a.t x)) := by
 have ev := z3r Cω Lω a.t a.b a.c x
 simp only [zwo,zw,ze,z8,yj,yk,zu,zt,zf,zq,zx,zy,za,zh,zl,z7,ym,zi,zd,zm,zz,zg,zk,zj,zp,yg,zr,yh,yl,ye,yf,ya,zn,yd,zo,yc,yb,yp,zb,z6,yi] at ev
 exact pc ev rfl
theorem z41 (l : List Ed) (x : Ed) (hl : l.length < 1073741824) (p : Nat) (hp : p ≤ l.length) (hk : ∀ k a,l[k]? = some a → (zc3 a x < 0 ↔ k < p)) : ∀ m lo hi : Nat,hi - lo ≤ m → lo ≤ p → p ≤ hi → hi ≤ l.length →
  Lω 106 vx 0 (vt (l.map Ed.e)  (l.length : Nat) (lo : Nat) (hi : Nat)) [.box true 69 [.int .i64 x.f,.int .i64 x.t]] = some (.exit 0,mkS 49 [(0,.psl false (l.map Ed.e)),(2,.func 107 []),(4,.ref 0 0 0),(8,.int .i64 (l.length : Nat)),(9,.int .i64 (p : Nat))],[.box true 69 [.int .i64 x.f,.int .i64 x.t]]) := by
 intro m
 induction m with
 | zero =>
   intro lo hi hm h1 h2 h3
   have : lo = hi := by omega
   subst this
   have : p = lo := by omega
   subst this
   refine lw ?_
   rw [zfq,if_neg (by simp)]
 | succ m ih =>
   intro lo hi hm h1 h2 h3
   by_cases hlt : lo < hi
   ·have hh : (lo + hi) / 2 < l.length := by omega
    have hg := List.getElem?_eq_getElem hh
    have hc := hk _ _ hg
    refine lw ?_
    rw [zfq,if_pos (by simp; omega),z3m (by omega),if_pos (nn _),Int.toNat_natCast,y9 hg]
    have hs := znw l[(lo + hi) / 2] x
    simp only [Ed.e] at hs
    simp only [Ed.e,zw,ze,z8,yj,yk,zu,zt,zf,zq,zx,zy,za,zh,zl,z7,ym,zi,zd,zm,zz,zg,zk,zj,zp,yg,zr,yh,yl,ye,yf,ya,zn,yd,zo,yc,yb,yp,zb,z6,yi,hs]
    by_cases hq : zc3 l[(lo + hi) / 2] x < 0
    ·rw [if_pos (by rw [decide_eq_true_eq]; exact hq),yr (by omega)]
     exact ih _ hi (by omega) (by have := hc.1 hq; omega) h2 h3
    ·rw [if_neg (by rw [decide_eq_true_eq]; exact hq)]
     exact ih lo _ (by omega) h1 (by have : ¬ _ := fun h => hq (hc.2 h); omega) (by omega)
   ·exact ih lo hi (by omega) h1 h2 h3
theorem z40 (l : List Ed) (x : Ed) (hl : l.length < 1073741824) (p : Nat) (hp : p ≤ l.length) (hk : ∀ k a,l[k]? = some a → (zc3 a x < 0 ↔ k < p)) :
  yn Cω 106 [.psl false (l.map Ed.e),.agg x.e,.func 107 []] = some (.tuple [.int .i64 (p : Nat),.bool (match l[p]? with | some a => zc3 a x == 0 | none => false)]) := by
 have ev := zr4 Cω Lω (l.map Ed.e) x.f x.t
 have lp := z41 l x hl p hp hk l.length 0 l.length (by omega) (by omega) hp (Nat.le_refl _)
 rw [z5f] at lp
 try simp only [Ed.e] at lp
 rw [List.length_map] at ev
 try simp only [Ed.e] at ev
 try simp only [Ed.e]
 rw [lp] at ev
 simp only [zw,ze,z8,yj,yk,zu,zt,zf,zq,zx,zy,za,zh,zl,z7,ym,zi,zd,zm,zz,zg,zk,zj,zp,yg,zr,yh,yl,ye,yf,ya,zn,yd,zo,yc,yb,yp,zb,z6,yi,y3,yz,ne_eq,not_false_eq_true,Nat.reduceLT,Nat.reduceEqDiff,if_true] at ev
 by_cases h : p < l.length
 ·have hg := List.getElem?_eq_getElem h
  rw [if_pos (by rw [decide_eq_true_eq]; omega),if_pos (nn _),Int.toNat_natCast] at ev
  have hg2 := y9 (f := Ed.e) hg
  simp only [Ed.e] at hg2
  rw [hg2] at ev
  have hs := znw l[p] x
  simp only [Ed.e] at hs
  simp only [zw,ze,z8,yj,yk,zu,zt,zf,zq,zx,zy,za,zh,zl,z7,ym,zi,zd,zm,zz,zg,zk,zj,zp,yg,zr,yh,yl,ye,yf,ya,zn,yd,zo,yc,yb,yp,zb,z6,yi,hs] at ev
  rw [hg]
  exact pc ev rfl
 ·rw [if_neg (by rw [decide_eq_true_eq]; omega)] at ev
  rw [List.getElem?_eq_none (by omega)]
  exact pc ev rfl
theorem z4x (l : List Spn) (x : Int) (hl : l.length < 1073741824) (p : Nat) (hp : p ≤ l.length) (hk : ∀ k a,l[k]? = some a → ((fun (a : Spn) (x : Int) => uo a.t x) a x < 0 ↔ k < p)) : ∀ m lo hi : Nat,hi - lo ≤ m → lo ≤ p → p ≤ hi → hi ≤ l.length →
  Lω 83 uj 0 (wz (l.map Spn.e) x (l.length : Nat) (lo : Nat) (hi : Nat)) [] = some (.exit 0,mkS 49 [(0,.psl false (l.map Spn.e)),(1,.int .i64 x),(2,.func 183 []),(8,.int .i64 (l.length : Nat)),(9,.int .i64 (p : Nat))],[]) := by
 intro m
 induction m with
 | zero =>
   intro lo hi hm h1 h2 h3
   have : lo = hi := by omega
   subst this
   have : p = lo := by omega
   subst this
   refine lw ?_
   rw [zhk,if_neg (by simp)]
 | succ m ih =>
   intro lo hi hm h1 h2 h3
   by_cases hlt : lo < hi
   ·have hh : (lo + hi) / 2 < l.length := by omega
    have hg := List.getElem?_eq_getElem hh
    have hc := hk _ _ hg
    refine lw ?_
    rw [zhk,if_pos (by simp; omega),z3m (by omega),if_pos (nn _),Int.toNat_natCast,y9 hg]
    have hs := zs3 l[(lo + hi) / 2] x
    simp only [Spn.e] at hs
    simp only [Spn.e,zw,ze,z8,yj,yk,zu,zt,zf,zq,zx,zy,za,zh,zl,z7,ym,zi,zd,zm,zz,zg,zk,zj,zp,yg,zr,yh,yl,ye,yf,ya,zn,yd,zo,yc,yb,yp,zb,z6,yi,hs]
    by_cases hq : (fun (a : Spn) (x : Int) => uo a.t x) l[(lo + hi) / 2] x < 0
    ·rw [if_pos (by rw [decide_eq_true_eq]; exact hq),yr (by omega)]
     exact ih _ hi (by omega) (by have := hc.1 hq; omega) h2 h3
    ·rw [if_neg (by rw [decide_eq_true_eq]; exact hq)]
     exact ih lo _ (by omega) h1 (by have : ¬ _ := fun h => hq (hc.2 h); omega) (by omega)
   ·exact ih lo hi (by omega) h1 h2 h3
theorem z4w (l : List Spn) (x : Int) (hl : l.length < 1073741824) (p : Nat) (hp : p ≤ l.length) (hk : ∀ k a,l[k]? = some a → ((fun (a : Spn) (x : Int) => uo a.t x) a x < 0 ↔ k < p)) :
  yn Cω 83 [.psl false (l.map Spn.e),.int .i64 x,.func 183 []] = some (.tuple [.int .i64 (p : Nat),.bool (match l[p]? with | some a => (fun (a : Spn) (x : Int) => uo a.t x) a x == 0 | none => false)]) := by
 have ev := zva Cω Lω (l.map Spn.e) x
 have lp := z4x l x hl p hp hk l.length 0 l.length (by omega) (by omega) hp (Nat.le_refl _)
 rw [z5f] at lp
 try simp only [Spn.e] at lp
 rw [List.length_map] at ev
 try simp only [Spn.e] at ev
 try simp only [Spn.e]
 rw [lp] at ev
 simp only [zw,ze,z8,yj,yk,zu,zt,zf,zq,zx,zy,za,zh,zl,z7,ym,zi,zd,zm,zz,zg,zk,zj,zp,yg,zr,yh,yl,ye,yf,ya,zn,yd,zo,yc,yb,yp,zb,z6,yi,y3,yz,ne_eq,not_false_eq_true,Nat.reduceLT,Nat.reduceEqDiff,if_true] at ev
 by_cases h : p < l.length
 ·have hg := List.getElem?_eq_getElem h
  rw [if_pos (by rw [decide_eq_true_eq]; omega),if_pos (nn _),Int.toNat_natCast] at ev
  have hg2 := y9 (f := Spn.e) hg
  simp only [Spn.e] at hg2
  rw [hg2] at ev
  have hs := zs3 l[p] x
  simp only [Spn.e] at hs
  simp only [zw,ze,z8,yj,yk,zu,zt,zf,zq,zx,zy,za,zh,zl,z7,ym,zi,zd,zm,zz,zg,zk,zj,zp,yg,zr,yh,yl,ye,yf,ya,zn,yd,zo,yc,yb,yp,zb,z6,yi,hs] at ev
  rw [hg]
  exact pc ev rfl
 ·rw [if_neg (by rw [decide_eq_true_eq]; omega)] at ev
  rw [List.getElem?_eq_none (by omega)]
  exact pc ev rfl
theorem zs9 (a : Ed) (x : Int) : yn Cω 169 [.agg a.e,.pref [.int .i64 x]] = some (.bool (a.f == x || a.t == x)) := by
 have ev := z3z Cω Lω a.f a.t x
 by_cases h : (a.f == x) = true
 ·simp only [h,if_true] at ev
  rw [h]
  exact pc ev rfl
 ·simp only [h,if_false] at ev
  have h' : (a.f == x) = false := by simpa using h
  rw [h',Bool.false_or]
  exact pc ev rfl
theorem zy1 (l : List Ed) (x : Int) (hl : l.length < 4611686018427387904) : Lω 118 uv 0 (vm (l.map Ed.e) x (l.length : Nat) 0) [] =
  some (zf2 (x7 (fun a => a.f == x || a.t == x) l 0) (fun i _ => (.ret,mkS 19 [(4,.int .i64 (i : Nat))],[])) (.exit 0,mkS 19 [],[])) :=
 qr (fun i => vm (l.map Ed.e) x (l.length : Nat) (i : Nat)) [] l (fun a => a.f == x || a.t == x) (fun i _ => (.ret,mkS 19 [(4,.int .i64 (i : Nat))],[])) (.exit 0,mkS 19 [],[]) (fun i a hg hi => by
  have hs := zs9 a x
  rw [zfl]
  try simp only [Ed.e] at hs
  simp only [decide_eq_true_eq,Int.ofNat_lt,List.length_map,if_true,nn,true_and,Int.toNat_natCast,zb,hi,y9 hg,Ed.e,zw,ze,z8,yj,yk,zu,zt,zf,zq,zx,zy,za,zh,zl,z7,ym,zi,zd,zm,zz,zg,zk,zj,zp,yg,zr,yh,yl,ye,yf,ya,zn,yd,zo,yc,yb,yp,zb,z6,yi,hs,yr (show i < 4611686018427387904 by omega)]) (by rw [zfl]; simp only [decide_eq_true_eq,Int.ofNat_lt,List.length_map,if_true,nn,true_and,Int.toNat_natCast,zb,Nat.lt_irrefl,if_false])
theorem zy2 (l : List Ed) (x : Int) (hl : l.length < 4611686018427387904) : yn Cω 118 [.psl false (l.map Ed.e),.func 169 [.pref [.int .i64 x]]] = some (.int .i64 (zf2 (x7 (fun a => a.f == x || a.t == x) l 0) (fun i _ => ((i : Nat) : Int)) (-1))) := by
 have ev := zrz Cω Lω (l.map Ed.e) x
 have lp := zy1 l x hl
 rw [List.length_map,lp] at ev
 cases hq : x7 (fun a => a.f == x || a.t == x) l 0 with
 | none =>
   rw [hq] at ev
   simp only [xq,zw,ze,z8,yj,yk,zu,zt,zf,zq,zx,zy,za,zh,zl,z7,ym,zi,zd,zm,zz,zg,zk,zj,zp,yg,zr,yh,yl,ye,yf,ya,zn,yd,zo,yc,yb,yp,zb,z6,yi,if_true] at ev
   exact pc ev rfl
 | some x =>
   rw [hq] at ev
   simp only [xc,zw,ze,z8,yj,yk,zu,zt,zf,zq,zx,zy,za,zh,zl,z7,ym,zi,zd,zm,zz,zg,zk,zj,zp,yg,zr,yh,yl,ye,yf,ya,zn,yd,zo,yc,yb,yp,zb,z6,yi,y3,yz,ne_eq,not_false_eq_true,Nat.reduceLT,Nat.reduceEqDiff] at ev
   exact pc ev rfl
def zk7 (l : List Ed) (x : Int) : PV × List KO := if l.any (fun a => a.f == x || a.t == x) = true
 then (wb 0 2 0 (l.filter fun a => !(a.f == x || a.t == x)).length,[.made true 2 ((l.filter fun a => !(a.f == x || a.t == x)).map Ed.e ++ List.replicate (l.length - (l.filter fun a => !(a.f == x || a.t == x)).length) [.int .i64 0,.int .i64 0]),.box true 3 [.int .i64 x]])
 else (whole 0 2,[.made true 2 (l.map Ed.e),.box true 3 [.int .i64 x]])
theorem z1q (l : List Ed) (x : Int) (hl : l.length < 4611686018427387904) (j : Nat) (K : List Ed) (hj : j ≤ l.length) (hK : K.length < j) : Lω 168 ko 2 (ki  (K.length : Nat) (j : Nat)) [.made true 2 ((K ++ l.drop K.length).map Ed.e),.box true 3 [.int .i64 x]] =
  some (.exit 0,mkS 42 [(0,whole 0 2),(5,.int .i64 ((K ++ (l.drop j).filter fun a => !(a.f == x || a.t == x)).length : Nat))],[.made true 2 (((K ++ (l.drop j).filter fun a => !(a.f == x || a.t == x)) ++ l.drop (K ++ (l.drop j).filter fun a => !(a.f == x || a.t == x)).length).map Ed.e),.box true 3 [.int .i64 x]]) := by
 have := zoj (fun j (K : List Ed) => ki  (K.length : Nat) (j : Nat)) (fun _ K => [.made true 2 ((K ++ l.drop K.length).map Ed.e),.box true 3 [.int .i64 x]]) l (fun _ a K => .on (if (!(a.f == x || a.t == x)) = true then K ++ [a] else K))
  (fun K => (.exit 0,mkS 42 [(0,whole 0 2),(5,.int .i64 (K.length : Nat))],[.made true 2 ((K ++ l.drop K.length).map Ed.e),.box true 3 [.int .i64 x]])) (fun j K => K.length < j) (f := 168) (cd := ko) (n0 := 2)
  (fun i a K hg hi hK => by
   have hlen : ((K ++ l.drop K.length).map Ed.e).length = l.length := by rw [List.length_map,List.length_append,List.length_drop]; omega
   have hgi : ((K ++ l.drop K.length).map Ed.e)[i]? = some (Ed.e a) := by
    refine y9 ?_
    rw [List.getElem?_append_right (by omega),List.getElem?_drop,show K.length + (i - K.length) = i by omega]
    exact hg
   have hs := zs9 a x
   simp only [Ed.e] at hs
   have hpt := z7y a
   simp only [Ed.e] at hpt
   refine ⟨by split <;> (try simp only [List.length_append,List.length_cons,List.length_nil]) <;> omega,?_⟩
   rw [zff]
   simp only [hlen,decide_eq_true_eq,Int.ofNat_lt,hi,if_true,nn,true_and,Int.toNat_natCast,hgi,zb,Ed.e,hpt,zw,ze,z8,yj,yk,zu,zt,zf,zq,zx,zy,za,zh,zl,z7,ym,zi,zd,zm,zz,zg,zk,zj,zp,yg,zr,yh,yl,ye,yf,ya,zn,yd,zo,yc,yb,yp,zb,z6,yi,hs,yr (show i < 4611686018427387904 by omega)]
   by_cases hp : (!(a.f == x || a.t == x)) = true
   ·rw [if_pos hp,if_pos hp,if_pos (by omega),if_pos (by omega),yr (by omega)]
    have hset : ((K ++ l.drop K.length).map Ed.e).set K.length (Ed.e a) = ((K ++ [a]) ++ l.drop (K ++ [a]).length).map Ed.e := by
     rw [← List.map_set]
     congr 1
     rw [List.set_append_right _ _ (Nat.le_refl _),Nat.sub_self,List.drop_eq_getElem_cons (by omega),List.set_cons_zero,List.append_assoc,List.length_append]
     rfl
    simp only [Ed.e] at hset
    rw [hset]
    simp only [List.length_append,List.length_cons,List.length_nil]
    try rfl
   ·rw [if_neg hp,if_neg hp])
  (fun K hK => by
   have hlen : ((K ++ l.drop K.length).map Ed.e).length = l.length := by rw [List.length_map,List.length_append,List.length_drop]; omega
   rw [zff]
   simp only [hlen,decide_eq_true_eq,Nat.lt_irrefl,Int.ofNat_lt,if_false]) (l.length - j) j K (by omega) hK
 rw [this,uf,ql]
theorem z1p (l : List Ed) (x : Int) (hl : l.length < 1073741824) : Cω 168 [whole 0 2,.func 169 [.ref 1 0 0]] [.made true 2 (l.map Ed.e),.box true 3 [.int .i64 x]] = some (zk7 l x) := by
 have ev := zrt Cω Lω  (l.map Ed.e) x
 have hx := zy2 l x (by omega)
 simp only [hx,zw,ze,z8,yj,yk,zu,zt,zf,zq,zx,zy,za,zh,zl,z7,ym,zi,zd,zm,zz,zg,zk,zj,zp,yg,zr,yh,yl,ye,yf,ya,zn,yd,zo,yc,yb,yp,zb,z6,yi] at ev
 unfold zk7
 have hany := jz (p := fun a => a.f == x || a.t == x) l 0
 rw [← hany]
 cases hq : x7 (fun a => a.f == x || a.t == x) l 0 with
 | none =>
   rw [hq] at ev
   simp only [xq,beq_self_eq_true,if_true] at ev
   rw [if_neg (by decide)]
   exact cw ev
 | some y =>
   obtain ⟨i,b⟩ := y
   obtain ⟨_,hi,hb,hpb,hbe⟩ := vd hq
   simp only [Nat.zero_add,Nat.sub_zero] at hi hb hbe
   rw [hq,xc] at ev
   simp only at ev
   rw [if_neg (by rw [beq_iff_eq]; omega)] at ev
   have hil : i < l.length := by omega
   have hK0 : (l.take i).length = i := by rw [List.length_take]; omega
   have lp := z1q l x (by omega) (i + 1) (l.take i) (by omega) (by omega)
   rw [hK0,List.take_append_drop] at lp
   have hfl : l.take i ++ (l.drop (i + 1)).filter (fun a => !(a.f == x || a.t == x)) = l.filter (fun a => !(a.f == x || a.t == x)) := by
    conv => rhs; rw [← List.take_append_drop i l,List.filter_append,List.drop_eq_getElem_cons hil]
    have e1 : (l.take i).filter (fun a => !(a.f == x || a.t == x)) = l.take i := List.filter_eq_self.2 fun a ha => by
     obtain ⟨k,hk⟩ := List.mem_iff_getElem?.1 ha
     have hk2 : k < i := by have := (List.getElem?_eq_some_iff.1 hk).1; omega
     rw [List.getElem?_take_of_lt hk2] at hk
     have h9 : (a.f == x || a.t == x) = false := hbe k a hk2 hk
     rw [h9]; rfl
    have e2 : l[i] = b := by rw [List.getElem?_eq_getElem hil] at hb; exact Option.some.inj hb
    rw [e1,e2,List.filter_cons_of_neg (by have h9 : (fun a : Ed => a.f == x || a.t == x) b = true := hpb; show ¬ ((!((fun a : Ed => a.f == x || a.t == x) b)) = true); rw [h9]; decide)]
   rw [hfl] at lp
   rw [yr (by omega),lp] at ev
   have hfle : (l.filter fun a => !(a.f == x || a.t == x)).length ≤ l.length := List.length_filter_le _ _
   have hlen : (((l.filter fun a => !(a.f == x || a.t == x)) ++ l.drop (l.filter fun a => !(a.f == x || a.t == x)).length).map Ed.e).length = l.length := by rw [List.length_map,List.length_append,List.length_drop]; omega
   have hlt : (((l.filter fun a => !(a.f == x || a.t == x)) ++ l.drop (l.filter fun a => !(a.f == x || a.t == x)).length).map Ed.e).take (l.filter fun a => !(a.f == x || a.t == x)).length = (l.filter fun a => !(a.f == x || a.t == x)).map Ed.e := by
    rw [List.map_append,List.take_append_of_le_length (by rw [List.length_map]; exact Nat.le_refl _),List.take_of_length_le (by rw [List.length_map]; exact Nat.le_refl _)]
   simp only [zw,ze,z8,yj,yk,zu,zt,zf,zq,zx,zy,za,zh,zl,z7,ym,zi,zd,zm,zz,zg,zk,zj,zp,yg,zr,yh,yl,ye,yf,ya,zn,yd,zo,yc,yb,yp,zb,z6,yi,y3,yz,ne_eq,not_false_eq_true,Nat.reduceLT,Nat.reduceEqDiff,if_true,zhh,hlen,hlt,Nat.le_refl,and_true,hfle] at ev
   have hd : (((l.filter fun a => !(a.f == x || a.t == x)) ++ l.drop (l.filter fun a => !(a.f == x || a.t == x)).length).map Ed.e).drop ((l.filter fun a => !(a.f == x || a.t == x)).length + (l.length - (l.filter fun a => !(a.f == x || a.t == x)).length)) = [] := List.drop_of_length_le (by rw [hlen]; omega)
   rw [hd,List.append_nil] at ev
   have hll : (List.map Ed.e (l.filter fun a => !(a.f == x || a.t == x)) ++ List.replicate (l.length - (l.filter fun a => !(a.f == x || a.t == x)).length) ([.int .i64 0,.int .i64 0] : List PV)).length = l.length := by rw [List.length_append,List.length_map,List.length_replicate]; omega
   rw [if_pos ⟨Nat.zero_le _,by rw [hll]; exact hfle⟩,Nat.sub_zero] at ev
   rw [if_pos (by rfl)]
   exact cw ev
end Go.Pvm.S
