/- Part of the proof: certifiers: of their own memory; without somebody; who is near; whom to give up. -/
import Derived.Test.YtjfgklgcbogejaaGreatCrtA
set_option linter.unusedSimpArgs false
set_option linter.unusedVariables false
set_option maxRecDepth 100000
namespace Go.Pvm.S
open Go.Pvm Go.Proofs
def Ct.w (c : Ct) (i j : Nat) : PV := .agg [.int .i64 c.k,whole i 3,whole j 1,.psl false (c.l.map Lk.e),.psl false (c.e.map Ed.e)]
def Ct.o (c : Ct) : List KO := [.made true 3 (c.s.map Spn.e),.made true 1 (c.d.map ie)]
theorem z2n (c : Ct) (hc : c.Sm) : Cω 28 [.agg c.c] [] = some (c.w 0 1,c.o) := by
 have ev := z63 Cω Lω c.k (c.s.map Spn.e) (c.d.map ie) (c.l.map Lk.e) (c.e.map Ed.e)
 rw [qt c.s Spn.e_ok (by have := hc.s; omega),qt c.d z56 (by have := hc.d; omega),qt c.l Lk.e_ok (by have := hc.l; omega),qt c.e Ed.e_ok (by have := hc.e; omega)] at ev
 simp only [zw,ze,z8,yj,yk,zu,zt,zf,zq,zx,zy,za,zh,zl,z7,ym,zi,zd,zm,zz,zg,zk,zj,zp,yg,zr,yh,yl,ye,yf,ya,zn,yd,zo,yc,yb,yp,zb,z6,yi,Option.map_some] at ev
 exact cw ev
theorem zj6 (c : Ct) (t : Int) (hc : c.Sm) (h : zfc c = false) : Cω 31 [.agg c.c,.int .i64 t] [] = some (.tuple [.agg [.int .i64 0,whole 0 3,whole 1 1,.nilsl,.nilsl],.int .i64 1],[.made true 3 [],.made true 1 []]) := by
 have ev := z3q Cω Lω c.k (c.s.map Spn.e) (c.d.map ie) (c.l.map Lk.e) (c.e.map Ed.e) t
 have i1 := zj5 c hc
 rw [h] at i1
 unfold Ct.c at i1
 simp only [i1,zw,ze,z8,yj,yk,zu,zt,zf,zq,zx,zy,za,zh,zl,z7,ym,zi,zd,zm,zz,zg,zk,zj,zp,yg,zr,yh,yl,ye,yf,ya,zn,yd,zo,yc,yb,yp,zb,z6,yi] at ev
 exact cw ev
theorem z3f {c : Ct} (h : zfc c = true) : ka c.s = true := by
 unfold zfc at h
 simp only [Bool.and_eq_true] at h
 exact h.2.2.1
theorem z5d (c : Ct) (t : Int) (hc : c.Sm) (h : zfc c = true) : Cω 31 [.agg c.c,.int .i64 t] [] = some (.tuple [c.w 0 1,.int .i64 (if lv c t = true then 0 else 3)],c.o) := by
 have ev := z3q Cω Lω c.k (c.s.map Spn.e) (c.d.map ie) (c.l.map Lk.e) (c.e.map Ed.e) t
 have i1 := zj5 c hc
 have i2 := zzq c t hc.s (z3f h)
 have i3 := z2n c hc
 rw [h] at i1
 unfold Ct.c at i1 i2 i3
 unfold Ct.w Ct.o at i3
 simp only [i1,i2,i3,zw,ze,z8,yj,yk,zu,zt,zf,zq,zx,zy,za,zh,zl,z7,ym,zi,zd,zm,zz,zg,zk,zj,zp,yg,zr,yh,yl,ye,yf,ya,zn,yd,zo,yc,yb,yp,zb,z6,yi] at ev
 cases hq : lv c t with
 | true => rw [hq] at ev; exact cw ev
 | false => rw [hq] at ev; exact cw ev
def drC (c : Ct) (t : Int) : Ct := { c with l := zn0 c.l t,e := ziq c.e t }
def rmC (c : Ct) (t : Int) : Ct := { c with s := c.s.filter fun a => !(a.t == t),d := c.d.filter fun a => !(a == t),l := zn0 c.l t,e := ziq c.e t }
theorem z5l (c : Ct) (t : Int) (hc : c.Sm) : Cω 91 [c.w 0 1,.int .i64 t] c.o = some ((drC c t).w 0 1,(drC c t).o) := by
 have ev := z3p Cω Lω c.k (c.l.map Lk.e) (c.e.map Ed.e) t (c.s.map Spn.e) (c.d.map ie)
 simp only [zs4 c.l t (show c.l.length < 1000000 by have := hc.l; omega),zzr c.e t (show c.e.length < 1073741824 by have := hc.e; omega),zw,ze,z8,yj,yk,zu,zt,zf,zq,zx,zy,za,zh,zl,z7,ym,zi,zd,zm,zz,zg,zk,zj,zp,yg,zr,yh,yl,ye,yf,ya,zn,yd,zo,yc,yb,yp,zb,z6,yi] at ev
 exact cw ev
theorem zzl (a : Spn) (x : Int) : yn Cω 93 [.agg a.e,.pref [.int .i64 x]] = some (.bool (a.t == x)) := pc (z6f Cω Lω a.t a.b a.c x) rfl
theorem zzk (a : Int) (x : Int) : yn Cω 95 [.int .i64 a,.pref [.int .i64 x]] = some (.bool (a == x)) := pc (z6e Cω Lω a x) rfl
theorem zw2 (a : Spn) : xy Tryz.prog 37 a.e 0 = some (.agg a.e) := by
 obtain ⟨t,b,c⟩ := a
 kernel_rfl
theorem zyt (l : List Spn) (x : Int) (hl : l.length < 4611686018427387904) : Lω 116 za1 0 (uc (l.map Spn.e) x (l.length : Nat) 0) [] =
  some (zf2 (x7 (fun a => a.t == x) l 0) (fun i _ => (.ret,mkS 19 [(4,.int .i64 (i : Nat))],[])) (.exit 0,mkS 19 [],[])) :=
 qr (fun i => uc (l.map Spn.e) x (l.length : Nat) (i : Nat)) [] l (fun a => a.t == x) (fun i _ => (.ret,mkS 19 [(4,.int .i64 (i : Nat))],[])) (.exit 0,mkS 19 [],[]) (fun i a hg hi => by
  have hs := zzl a x
  rw [zhp]
  try simp only [Spn.e] at hs
  simp only [decide_eq_true_eq,Int.ofNat_lt,List.length_map,if_true,nn,true_and,Int.toNat_natCast,zb,hi,y9 hg,Spn.e,zw,ze,z8,yj,yk,zu,zt,zf,zq,zx,zy,za,zh,zl,z7,ym,zi,zd,zm,zz,zg,zk,zj,zp,yg,zr,yh,yl,ye,yf,ya,zn,yd,zo,yc,yb,yp,zb,z6,yi,hs,yr (show i < 4611686018427387904 by omega)]) (by rw [zhp]; simp only [decide_eq_true_eq,Int.ofNat_lt,List.length_map,if_true,nn,true_and,Int.toNat_natCast,zb,Nat.lt_irrefl,if_false])
theorem zyu (l : List Spn) (x : Int) (hl : l.length < 4611686018427387904) : yn Cω 116 [.psl false (l.map Spn.e),.func 93 [.pref [.int .i64 x]]] = some (.int .i64 (zf2 (x7 (fun a => a.t == x) l 0) (fun i _ => ((i : Nat) : Int)) (-1))) := by
 have ev := zvg Cω Lω (l.map Spn.e) x
 have lp := zyt l x hl
 rw [List.length_map,lp] at ev
 cases hq : x7 (fun a => a.t == x) l 0 with
 | none =>
   rw [hq] at ev
   simp only [xq,zw,ze,z8,yj,yk,zu,zt,zf,zq,zx,zy,za,zh,zl,z7,ym,zi,zd,zm,zz,zg,zk,zj,zp,yg,zr,yh,yl,ye,yf,ya,zn,yd,zo,yc,yb,yp,zb,z6,yi,if_true] at ev
   exact pc ev rfl
 | some x =>
   rw [hq] at ev
   simp only [xc,zw,ze,z8,yj,yk,zu,zt,zf,zq,zx,zy,za,zh,zl,z7,ym,zi,zd,zm,zz,zg,zk,zj,zp,yg,zr,yh,yl,ye,yf,ya,zn,yd,zo,yc,yb,yp,zb,z6,yi,y3,yz,ne_eq,not_false_eq_true,Nat.reduceLT,Nat.reduceEqDiff] at ev
   exact pc ev rfl
theorem z1i (l : List Spn) (x : Int) (hl : l.length < 4611686018427387904) (j : Nat) (K : List Spn) (hj : j ≤ l.length) (hK : K.length < j) : Lω 92 wx 2 (wr  (K.length : Nat) (j : Nat)) [.made true 3 ((K ++ l.drop K.length).map Spn.e),.box true 3 [.int .i64 x]] =
  some (.exit 0,mkS 42 [(0,whole 0 3),(5,.int .i64 ((K ++ (l.drop j).filter fun a => !(a.t == x)).length : Nat))],[.made true 3 (((K ++ (l.drop j).filter fun a => !(a.t == x)) ++ l.drop (K ++ (l.drop j).filter fun a => !(a.t == x)).length).map Spn.e),.box true 3 [.int .i64 x]]) := by
 have := zoj (fun j (K : List Spn) => wr  (K.length : Nat) (j : Nat)) (fun _ K => [.made true 3 ((K ++ l.drop K.length).map Spn.e),.box true 3 [.int .i64 x]]) l (fun _ a K => .on (if (!(a.t == x)) = true then K ++ [a] else K))
  (fun K => (.exit 0,mkS 42 [(0,whole 0 3),(5,.int .i64 (K.length : Nat))],[.made true 3 ((K ++ l.drop K.length).map Spn.e),.box true 3 [.int .i64 x]])) (fun j K => K.length < j) (f := 92) (cd := wx) (n0 := 2)
  (fun i a K hg hi hK => by
   have hlen : ((K ++ l.drop K.length).map Spn.e).length = l.length := by rw [List.length_map,List.length_append,List.length_drop]; omega
   have hgi : ((K ++ l.drop K.length).map Spn.e)[i]? = some (Spn.e a) := by
    refine y9 ?_
    rw [List.getElem?_append_right (by omega),List.getElem?_drop,show K.length + (i - K.length) = i by omega]
    exact hg
   have hs := zzl a x
   try simp only [Spn.e] at hs
   have hpt := zw2 a
   simp only [Spn.e] at hpt
   refine ⟨by split <;> (try simp only [List.length_append,List.length_cons,List.length_nil]) <;> omega,?_⟩
   rw [zji]
   simp only [hlen,decide_eq_true_eq,Int.ofNat_lt,hi,if_true,nn,true_and,Int.toNat_natCast,hgi,zb,Spn.e,hpt,zw,ze,z8,yj,yk,zu,zt,zf,zq,zx,zy,za,zh,zl,z7,ym,zi,zd,zm,zz,zg,zk,zj,zp,yg,zr,yh,yl,ye,yf,ya,zn,yd,zo,yc,yb,yp,zb,z6,yi,hs,yr (show i < 4611686018427387904 by omega)]
   by_cases hp : (!(a.t == x)) = true
   ·rw [if_pos hp,if_pos hp,if_pos (by omega),if_pos (by omega),yr (by omega)]
    have hset : ((K ++ l.drop K.length).map Spn.e).set K.length (Spn.e a) = ((K ++ [a]) ++ l.drop (K ++ [a]).length).map Spn.e := by
     rw [← List.map_set]
     congr 1
     rw [List.set_append_right _ _ (Nat.le_refl _),Nat.sub_self,List.drop_eq_getElem_cons (by omega),List.set_cons_zero,List.append_assoc,List.length_append]
     rfl
    simp only [Spn.e] at hset
    rw [hset]
    simp only [List.length_append,List.length_cons,List.length_nil]
    try rfl
   ·rw [if_neg hp,if_neg hp])
  (fun K hK => by
   have hlen : ((K ++ l.drop K.length).map Spn.e).length = l.length := by rw [List.length_map,List.length_append,List.length_drop]; omega
   rw [zji]
   simp only [hlen,decide_eq_true_eq,Nat.lt_irrefl,Int.ofNat_lt,if_false]) (l.length - j) j K (by omega) hK
 rw [this,uf,ql]
theorem z1h (l : List Spn) (x : Int) (hl : l.length < 1073741824) : Cω 92 [whole 0 3,.func 93 [.ref 1 0 0]] [.made true 3 (l.map Spn.e),.box true 3 [.int .i64 x]] = some (whole 2 3,[.dead,.box true 3 [.int .i64 x],.made true 3 ((l.filter fun a => !(a.t == x)).map Spn.e)]) := by
 have ev := zyn Cω Lω  (l.map Spn.e) x
 have hx := zyu l x (by omega)
 simp only [hx,zw,ze,z8,yj,yk,zu,zt,zf,zq,zx,zy,za,zh,zl,z7,ym,zi,zd,zm,zz,zg,zk,zj,zp,yg,zr,yh,yl,ye,yf,ya,zn,yd,zo,yc,yb,yp,zb,z6,yi] at ev
 cases hq : x7 (fun a => a.t == x) l 0 with
 | none =>
   rw [hq] at ev
   simp only [xq,beq_self_eq_true,if_true] at ev
   have hany := jz (p := fun a => a.t == x) l 0
   rw [hq] at hany
   have hf : l.filter (fun a => !(a.t == x)) = l := List.filter_eq_self.2 fun a ha => by
    have h9 : l.any (fun a => a.t == x) = false := hany.symm
    rw [List.any_eq_false] at h9
    have h10 := h9 a ha
    rw [Bool.not_eq_true] at h10
    have h11 : (a.t == x) = false := h10
    rw [h11]; rfl
   rw [hf]
   exact cw ev
 | some y =>
   obtain ⟨i,b⟩ := y
   obtain ⟨_,hi,hb,hpb,hbe⟩ := vd hq
   simp only [Nat.zero_add,Nat.sub_zero] at hi hb hbe
   rw [hq,xc] at ev
   simp only at ev
   rw [if_neg (by rw [beq_iff_eq]; omega)] at ev
   have hil : i < l.length := by omega
   have hK0 : (l.take i).length = i := by rw [List.length_take]; omega
   have lp := z1i l x (by omega) (i + 1) (l.take i) (by omega) (by omega)
   rw [hK0,List.take_append_drop] at lp
   have hfl : l.take i ++ (l.drop (i + 1)).filter (fun a => !(a.t == x)) = l.filter (fun a => !(a.t == x)) := by
    conv => rhs; rw [← List.take_append_drop i l,List.filter_append,List.drop_eq_getElem_cons hil]
    have e1 : (l.take i).filter (fun a => !(a.t == x)) = l.take i := List.filter_eq_self.2 fun a ha => by
     obtain ⟨k,hk⟩ := List.mem_iff_getElem?.1 ha
     have hk2 : k < i := by have := (List.getElem?_eq_some_iff.1 hk).1; omega
     rw [List.getElem?_take_of_lt hk2] at hk
     have h9 : (a.t == x) = false := hbe k a hk2 hk
     rw [h9]; rfl
    have e2 : l[i] = b := by rw [List.getElem?_eq_getElem hil] at hb; exact Option.some.inj hb
    rw [e1,e2,List.filter_cons_of_neg (by have h9 : (fun a : Spn => a.t == x) b = true := hpb; show ¬ ((!((fun a : Spn => a.t == x) b)) = true); rw [h9]; decide)]
   rw [hfl] at lp
   rw [yr (by omega),lp] at ev
   have hfle : (l.filter fun a => !(a.t == x)).length ≤ l.length := List.length_filter_le _ _
   have hlen : (((l.filter fun a => !(a.t == x)) ++ l.drop (l.filter fun a => !(a.t == x)).length).map Spn.e).length = l.length := by rw [List.length_map,List.length_append,List.length_drop]; omega
   have hlt : (((l.filter fun a => !(a.t == x)) ++ l.drop (l.filter fun a => !(a.t == x)).length).map Spn.e).take (l.filter fun a => !(a.t == x)).length = (l.filter fun a => !(a.t == x)).map Spn.e := by
    rw [List.map_append,List.take_append_of_le_length (by rw [List.length_map]; exact Nat.le_refl _),List.take_of_length_le (by rw [List.length_map]; exact Nat.le_refl _)]
   simp only [zw,ze,z8,yj,yk,zu,zt,zf,zq,zx,zy,za,zh,zl,z7,ym,zi,zd,zm,zz,zg,zk,zj,zp,yg,zr,yh,yl,ye,yf,ya,zn,yd,zo,yc,yb,yp,zb,z6,yi,y3,yz,ne_eq,not_false_eq_true,Nat.reduceLT,Nat.reduceEqDiff,if_true,zhh,hlen,hlt,Nat.le_refl,and_true,hfle] at ev
   have hd : (((l.filter fun a => !(a.t == x)) ++ l.drop (l.filter fun a => !(a.t == x)).length).map Spn.e).drop ((l.filter fun a => !(a.t == x)).length + (l.length - (l.filter fun a => !(a.t == x)).length)) = [] := List.drop_of_length_le (by rw [hlen]; omega)
   rw [hd,List.append_nil] at ev
   have hll : (List.map Spn.e (l.filter fun a => !(a.t == x)) ++ List.replicate (l.length - (l.filter fun a => !(a.t == x)).length) ([.int .i64 0,.int .i64 0,.int .i64 0] : List PV)).length = l.length := by rw [List.length_append,List.length_map,List.length_replicate]; omega
   rw [if_pos ⟨Nat.zero_le _,by rw [hll]; exact hfle⟩,Nat.sub_zero,List.take_append_of_le_length (by rw [List.length_map]; exact Nat.le_refl _),List.take_of_length_le (by rw [List.length_map]; exact Nat.le_refl _)] at ev
   exact cw ev
theorem zyz (l : List Int) (x : Int) (hl : l.length < 4611686018427387904) : Lω 138 zay 0 (w9 (l.map ie) x (l.length : Nat) 0) [] =
  some (zf2 (x7 (fun a => a == x) l 0) (fun i _ => (.ret,mkS 19 [(4,.int .i64 (i : Nat))],[])) (.exit 0,mkS 19 [],[])) :=
 qr (fun i => w9 (l.map ie) x (l.length : Nat) (i : Nat)) [] l (fun a => a == x) (fun i _ => (.ret,mkS 19 [(4,.int .i64 (i : Nat))],[])) (.exit 0,mkS 19 [],[]) (fun i a hg hi => by
  have hs := zzk a x
  rw [zhm]
  try simp only [ie] at hs
  simp only [decide_eq_true_eq,Int.ofNat_lt,List.length_map,if_true,nn,true_and,Int.toNat_natCast,zb,hi,y9 hg,ie,zw,ze,z8,yj,yk,zu,zt,zf,zq,zx,zy,za,zh,zl,z7,ym,zi,zd,zm,zz,zg,zk,zj,zp,yg,zr,yh,yl,ye,yf,ya,zn,yd,zo,yc,yb,yp,zb,z6,yi,hs,yr (show i < 4611686018427387904 by omega)]) (by rw [zhm]; simp only [decide_eq_true_eq,Int.ofNat_lt,List.length_map,if_true,nn,true_and,Int.toNat_natCast,zb,Nat.lt_irrefl,if_false])
theorem zy0 (l : List Int) (x : Int) (hl : l.length < 4611686018427387904) : yn Cω 138 [.psl false (l.map ie),.func 95 [.pref [.int .i64 x]]] = some (.int .i64 (zf2 (x7 (fun a => a == x) l 0) (fun i _ => ((i : Nat) : Int)) (-1))) := by
 have ev := zvd Cω Lω (l.map ie) x
 have lp := zyz l x hl
 rw [List.length_map,lp] at ev
 cases hq : x7 (fun a => a == x) l 0 with
 | none =>
   rw [hq] at ev
   simp only [xq,zw,ze,z8,yj,yk,zu,zt,zf,zq,zx,zy,za,zh,zl,z7,ym,zi,zd,zm,zz,zg,zk,zj,zp,yg,zr,yh,yl,ye,yf,ya,zn,yd,zo,yc,yb,yp,zb,z6,yi,if_true] at ev
   exact pc ev rfl
 | some x =>
   rw [hq] at ev
   simp only [xc,zw,ze,z8,yj,yk,zu,zt,zf,zq,zx,zy,za,zh,zl,z7,ym,zi,zd,zm,zz,zg,zk,zj,zp,yg,zr,yh,yl,ye,yf,ya,zn,yd,zo,yc,yb,yp,zb,z6,yi,y3,yz,ne_eq,not_false_eq_true,Nat.reduceLT,Nat.reduceEqDiff] at ev
   exact pc ev rfl
theorem z1o (l : List Int) (x : Int) (hl : l.length < 4611686018427387904) (j : Nat) (K : List Int) (hj : j ≤ l.length) (hK : K.length < j) : Lω 94 ww 2 (wq  (K.length : Nat) (j : Nat)) [.made true 1 ((K ++ l.drop K.length).map ie),.box true 3 [.int .i64 x]] =
  some (.exit 0,mkS 42 [(0,whole 0 1),(5,.int .i64 ((K ++ (l.drop j).filter fun a => !(a == x)).length : Nat))],[.made true 1 (((K ++ (l.drop j).filter fun a => !(a == x)) ++ l.drop (K ++ (l.drop j).filter fun a => !(a == x)).length).map ie),.box true 3 [.int .i64 x]]) := by
 have := zoj (fun j (K : List Int) => wq  (K.length : Nat) (j : Nat)) (fun _ K => [.made true 1 ((K ++ l.drop K.length).map ie),.box true 3 [.int .i64 x]]) l (fun _ a K => .on (if (!(a == x)) = true then K ++ [a] else K))
  (fun K => (.exit 0,mkS 42 [(0,whole 0 1),(5,.int .i64 (K.length : Nat))],[.made true 1 ((K ++ l.drop K.length).map ie),.box true 3 [.int .i64 x]])) (fun j K => K.length < j) (f := 94) (cd := ww) (n0 := 2)
  (fun i a K hg hi hK => by
   have hlen : ((K ++ l.drop K.length).map ie).length = l.length := by rw [List.length_map,List.length_append,List.length_drop]; omega
   have hgi : ((K ++ l.drop K.length).map ie)[i]? = some (ie a) := by
    refine y9 ?_
    rw [List.getElem?_append_right (by omega),List.getElem?_drop,show K.length + (i - K.length) = i by omega]
    exact hg
   have hs := zzk a x
   try simp only [ie] at hs
   have hpt := ztt a
   simp only [ie] at hpt
   refine ⟨by split <;> (try simp only [List.length_append,List.length_cons,List.length_nil]) <;> omega,?_⟩
   rw [zjh]
   simp only [hlen,decide_eq_true_eq,Int.ofNat_lt,hi,if_true,nn,true_and,Int.toNat_natCast,hgi,zb,ie,hpt,zw,ze,z8,yj,yk,zu,zt,zf,zq,zx,zy,za,zh,zl,z7,ym,zi,zd,zm,zz,zg,zk,zj,zp,yg,zr,yh,yl,ye,yf,ya,zn,yd,zo,yc,yb,yp,zb,z6,yi,hs,yr (show i < 4611686018427387904 by omega)]
   by_cases hp : (!(a == x)) = true
   ·rw [if_pos hp,if_pos hp,if_pos (by omega),if_pos (by omega),yr (by omega)]
    have hset : ((K ++ l.drop K.length).map ie).set K.length (ie a) = ((K ++ [a]) ++ l.drop (K ++ [a]).length).map ie := by
     rw [← List.map_set]
     congr 1
     rw [List.set_append_right _ _ (Nat.le_refl _),Nat.sub_self,List.drop_eq_getElem_cons (by omega),List.set_cons_zero,List.append_assoc,List.length_append]
     rfl
    simp only [ie] at hset
    rw [hset]
    simp only [List.length_append,List.length_cons,List.length_nil]
    try rfl
   ·rw [if_neg hp,if_neg hp])
  (fun K hK => by
   have hlen : ((K ++ l.drop K.length).map ie).length = l.length := by rw [List.length_map,List.length_append,List.length_drop]; omega
   rw [zjh]
   simp only [hlen,decide_eq_true_eq,Nat.lt_irrefl,Int.ofNat_lt,if_false]) (l.length - j) j K (by omega) hK
 rw [this,uf,ql]
theorem z1n (l : List Int) (x : Int) (hl : l.length < 1073741824) : Cω 94 [whole 0 1,.func 95 [.ref 1 0 0]] [.made true 1 (l.map ie),.box true 3 [.int .i64 x]] = some (whole 2 1,[.dead,.box true 3 [.int .i64 x],.made true 1 ((l.filter fun a => !(a == x)).map ie)]) := by
 have ev := zym Cω Lω  (l.map ie) x
 have hx := zy0 l x (by omega)
 simp only [hx,zw,ze,z8,yj,yk,zu,zt,zf,zq,zx,zy,za,zh,zl,z7,ym,zi,zd,zm,zz,zg,zk,zj,zp,yg,zr,yh,yl,ye,yf,ya,zn,yd,zo,yc,yb,yp,zb,z6,yi] at ev
 cases hq : x7 (fun a => a == x) l 0 with
 | none =>
   rw [hq] at ev
   simp only [xq,beq_self_eq_true,if_true] at ev
   have hany := jz (p := fun a => a == x) l 0
   rw [hq] at hany
   have hf : l.filter (fun a => !(a == x)) = l := List.filter_eq_self.2 fun a ha => by
    have h9 : l.any (fun a => a == x) = false := hany.symm
    rw [List.any_eq_false] at h9
    have h10 := h9 a ha
    rw [Bool.not_eq_true] at h10
    have h11 : (a == x) = false := h10
    rw [h11]; rfl
   rw [hf]
   exact cw ev
 | some y =>
   obtain ⟨i,b⟩ := y
   obtain ⟨_,hi,hb,hpb,hbe⟩ := vd hq
   simp only [Nat.zero_add,Nat.sub_zero] at hi hb hbe
   rw [hq,xc] at ev
   simp only at ev
   rw [if_neg (by rw [beq_iff_eq]; omega)] at ev
   have hil : i < l.length := by omega
   have hK0 : (l.take i).length = i := by rw [List.length_take]; omega
   have lp := z1o l x (by omega) (i + 1) (l.take i) (by omega) (by omega)
   rw [hK0,List.take_append_drop] at lp
   have hfl : l.take i ++ (l.drop (i + 1)).filter (fun a => !(a == x)) = l.filter (fun a => !(a == x)) := by
    conv => rhs; rw [← List.take_append_drop i l,List.filter_append,List.drop_eq_getElem_cons hil]
    have e1 : (l.take i).filter (fun a => !(a == x)) = l.take i := List.filter_eq_self.2 fun a ha => by
     obtain ⟨k,hk⟩ := List.mem_iff_getElem?.1 ha
     have hk2 : k < i := by have := (List.getElem?_eq_some_iff.1 hk).1; omega
     rw [List.getElem?_take_of_lt hk2] at hk
     have h9 : (a == x) = false := hbe k a hk2 hk
     rw [h9]; rfl
    have e2 : l[i] = b := by rw [List.getElem?_eq_getElem hil] at hb; exact Option.some.inj hb
    rw [e1,e2,List.filter_cons_of_neg (by have h9 : (fun a : Int => a == x) b = true := hpb; show ¬ ((!((fun a : Int => a == x) b)) = true); rw [h9]; decide)]
   rw [hfl] at lp
   rw [yr (by omega),lp] at ev
   have hfle : (l.filter fun a => !(a == x)).length ≤ l.length := List.length_filter_le _ _
   have hlen : (((l.filter fun a => !(a == x)) ++ l.drop (l.filter fun a => !(a == x)).length).map ie).length = l.length := by rw [List.length_map,List.length_append,List.length_drop]; omega
   have hlt : (((l.filter fun a => !(a == x)) ++ l.drop (l.filter fun a => !(a == x)).length).map ie).take (l.filter fun a => !(a == x)).length = (l.filter fun a => !(a == x)).map ie := by
    rw [List.map_append,List.take_append_of_le_length (by rw [List.length_map]; exact Nat.le_refl _),List.take_of_length_le (by rw [List.length_map]; exact Nat.le_refl _)]
   simp only [zw,ze,z8,yj,yk,zu,zt,zf,zq,zx,zy,za,zh,zl,z7,ym,zi,zd,zm,zz,zg,zk,zj,zp,yg,zr,yh,yl,ye,yf,ya,zn,yd,zo,yc,yb,yp,zb,z6,yi,y3,yz,ne_eq,not_false_eq_true,Nat.reduceLT,Nat.reduceEqDiff,if_true,zhh,hlen,hlt,Nat.le_refl,and_true,hfle] at ev
   have hd : (((l.filter fun a => !(a == x)) ++ l.drop (l.filter fun a => !(a == x)).length).map ie).drop ((l.filter fun a => !(a == x)).length + (l.length - (l.filter fun a => !(a == x)).length)) = [] := List.drop_of_length_le (by rw [hlen]; omega)
   rw [hd,List.append_nil] at ev
   have hll : (List.map ie (l.filter fun a => !(a == x)) ++ List.replicate (l.length - (l.filter fun a => !(a == x)).length) ([.int .i64 0] : List PV)).length = l.length := by rw [List.length_append,List.length_map,List.length_replicate]; omega
   rw [if_pos ⟨Nat.zero_le _,by rw [hll]; exact hfle⟩,Nat.sub_zero,List.take_append_of_le_length (by rw [List.length_map]; exact Nat.le_refl _),List.take_of_length_le (by rw [List.length_map]; exact Nat.le_refl _)] at ev
   exact cw ev
theorem z0e (c : Ct) (t : Int) (hc : c.Sm) : Cω 34 [c.w 0 1,.int .i64 t] c.o = some ((rmC c t).w 2 3,[.dead,.dead] ++ (rmC c t).o) := by
 have ev := z6z Cω Lω c.k (c.l.map Lk.e) (c.e.map Ed.e) t (c.s.map Spn.e) (c.d.map ie)
 have i1 := z5l c t hc
 unfold Ct.w Ct.o at i1
 rw [i1] at ev
 simp only [zw,ze,z8,yj,yk,zu,zt,zf,zq,zx,zy,za,zh,zl,z7,ym,zi,zd,zm,zz,zg,zk,zj,zp,yg,zr,yh,yl,ye,yf,ya,zn,yd,zo,yc,yb,yp,zb,z6,yi] at ev
 have i2 := z1h c.s t (show c.s.length < 1073741824 by have := hc.s; omega)
 have i3 := z1n c.d t (show c.d.length < 1073741824 by have := hc.d; omega)
 have e1 : (drC c t).s = c.s := rfl
 have e2 : (drC c t).d = c.d := rfl
 rw [e1,e2,i2] at ev
 simp only [zw,ze,z8,yj,yk,zu,zt,zf,zq,zx,zy,za,zh,zl,z7,ym,zi,zd,zm,zz,zg,zk,zj,zp,yg,zr,yh,yl,ye,yf,ya,zn,yd,zo,yc,yb,yp,zb,z6,yi] at ev
 rw [i3] at ev
 simp only [zw,ze,z8,yj,yk,zu,zt,zf,zq,zx,zy,za,zh,zl,z7,ym,zi,zd,zm,zz,zg,zk,zj,zp,yg,zr,yh,yl,ye,yf,ya,zn,yd,zo,yc,yb,yp,zb,z6,yi] at ev
 exact cw ev
def zin (c : Ct) (s a : Spn) : Bool := (a.c == 0) && (!dm c a.t && decide (s.c > a.b))
def nrC (c : Ct) (s : Spn) : Bool := c.s.any fun a => zin c s a
theorem z0g (a : Spn) (c : Ct) (s : Spn) (hd : c.d.length < 100000) : yn Cω 135 [.agg a.e,.pref c.c,.pref s.e] = some (.bool (zin c s a)) := by
 have ev := z4g Cω Lω a.t a.b a.c c.k (c.s.map Spn.e) (c.d.map ie) (c.l.map Lk.e) (c.e.map Ed.e) s.t s.b s.c
 have h := z18 c a.t hd
 unfold Ct.c at h
 simp only [h,zw,ze,z8,yj,yk,zu,zt,zf,zq,zx,zy,za,zh,zl,z7,ym,zi,zd,zm,zz,zg,zk,zj,zp,yg,zr,yh,yl,ye,yf,ya,zn,yd,zo,yc,yb,yp,zb,z6,yi] at ev
 unfold zin
 cases hq : (a.c == 0) with
 | false => rw [hq] at ev; exact pc ev rfl
 | true =>
   rw [hq] at ev
   simp only [if_true,Bool.true_and] at ev ⊢
   cases hr : dm c a.t with
   | true => rw [hr] at ev; exact pc ev rfl
   | false => rw [hr] at ev; exact pc ev rfl
theorem zx3 (l : List Spn) (c : Ct) (s : Spn) (hd : c.d.length < 100000) (hl : l.length < 4611686018427387904) : Lω 116 uz 0 (vq (l.map Spn.e) c.k (c.s.map Spn.e) (c.d.map ie) (c.l.map Lk.e) (c.e.map Ed.e) s.t s.b s.c (l.length : Nat) 0) [] =
  some (zf2 (x7 (fun a => zin c s a) l 0) (fun i _ => (.ret,mkS 19 [(4,.int .i64 (i : Nat))],[])) (.exit 0,mkS 19 [],[])) :=
 qr (fun i => vq (l.map Spn.e) c.k (c.s.map Spn.e) (c.d.map ie) (c.l.map Lk.e) (c.e.map Ed.e) s.t s.b s.c (l.length : Nat) (i : Nat)) [] l (fun a => zin c s a) (fun i _ => (.ret,mkS 19 [(4,.int .i64 (i : Nat))],[])) (.exit 0,mkS 19 [],[]) (fun i a hg hi => by
  have hs := z0g a c s hd
  rw [zfp]
  try simp only [Spn.e,Ct.c] at hs
  simp only [decide_eq_true_eq,Int.ofNat_lt,List.length_map,if_true,nn,true_and,Int.toNat_natCast,zb,hi,y9 hg,Spn.e,Ct.c,zw,ze,z8,yj,yk,zu,zt,zf,zq,zx,zy,za,zh,zl,z7,ym,zi,zd,zm,zz,zg,zk,zj,zp,yg,zr,yh,yl,ye,yf,ya,zn,yd,zo,yc,yb,yp,zb,z6,yi,hs,yr (show i < 4611686018427387904 by omega)]) (by rw [zfp]; simp only [decide_eq_true_eq,Int.ofNat_lt,List.length_map,if_true,nn,true_and,Int.toNat_natCast,zb,Nat.lt_irrefl,if_false])
theorem zx4 (l : List Spn) (c : Ct) (s : Spn) (hd : c.d.length < 100000) (hl : l.length < 4611686018427387904) : yn Cω 116 [.psl false (l.map Spn.e),.func 135 [.pref [.int .i64 c.k,.psl false (c.s.map Spn.e),.psl false (c.d.map ie),.psl false (c.l.map Lk.e),.psl false (c.e.map Ed.e)],.pref [.int .i64 s.t,.int .i64 s.b,.int .i64 s.c]]] = some (.int .i64 (zf2 (x7 (fun a => zin c s a) l 0) (fun i _ => ((i : Nat) : Int)) (-1))) := by
 have ev := zr3 Cω Lω (l.map Spn.e) c.k (c.s.map Spn.e) (c.d.map ie) (c.l.map Lk.e) (c.e.map Ed.e) s.t s.b s.c
 have lp := zx3 l c s hd hl
 rw [List.length_map,lp] at ev
 cases hq : x7 (fun a => zin c s a) l 0 with
 | none =>
   rw [hq] at ev
   simp only [xq,zw,ze,z8,yj,yk,zu,zt,zf,zq,zx,zy,za,zh,zl,z7,ym,zi,zd,zm,zz,zg,zk,zj,zp,yg,zr,yh,yl,ye,yf,ya,zn,yd,zo,yc,yb,yp,zb,z6,yi,if_true] at ev
   exact pc ev rfl
 | some x =>
   rw [hq] at ev
   simp only [xc,zw,ze,z8,yj,yk,zu,zt,zf,zq,zx,zy,za,zh,zl,z7,ym,zi,zd,zm,zz,zg,zk,zj,zp,yg,zr,yh,yl,ye,yf,ya,zn,yd,zo,yc,yb,yp,zb,z6,yi,y3,yz,ne_eq,not_false_eq_true,Nat.reduceLT,Nat.reduceEqDiff] at ev
   exact pc ev rfl
theorem zx5 (l : List Spn) (c : Ct) (s : Spn) (hd : c.d.length < 100000) (hl : l.length < 4611686018427387904) : yn Cω 57 [.psl false (l.map Spn.e),.func 135 [.pref [.int .i64 c.k,.psl false (c.s.map Spn.e),.psl false (c.d.map ie),.psl false (c.l.map Lk.e),.psl false (c.e.map Ed.e)],.pref [.int .i64 s.t,.int .i64 s.b,.int .i64 s.c]]] = some (.bool (l.any fun a => zin c s a)) := by
 have ev := zvc Cω Lω (l.map Spn.e) c.k (c.s.map Spn.e) (c.d.map ie) (c.l.map Lk.e) (c.e.map Ed.e) s.t s.b s.c
 rw [zx4 l c s hd hl] at ev
 simp only [zw,ze,z8,yj,yk,zu,zt,zf,zq,zx,zy,za,zh,zl,z7,ym,zi,zd,zm,zz,zg,zk,zj,zp,yg,zr,yh,yl,ye,yf,ya,zn,yd,zo,yc,yb,yp,zb,z6,yi] at ev
 have hany := jz (p := fun a => zin c s a) l 0
 rw [← hany]
 cases hq : x7 (fun a => zin c s a) l 0 with
 | none =>
   rw [hq] at ev
   exact pc ev rfl
 | some y =>
   rw [hq] at ev
   have h0 : decide (((y.1 : Nat) : Int) ≥ 0) = true := by rw [decide_eq_true_eq]; omega
   simp only [xc,h0] at ev
   exact pc ev rfl
theorem z2o (c : Ct) (s : Spn) (hc : c.Sm) : yn Cω 89 [.agg c.c,.agg s.e] = some (.bool (nrC c s)) := by
 have ev := z6h Cω Lω c.k (c.s.map Spn.e) (c.d.map ie) (c.l.map Lk.e) (c.e.map Ed.e) s.t s.b s.c
 rw [zx5 c.s c s hc.d (by have := hc.s; omega)] at ev
 simp only [zw,ze,z8,yj,yk,zu,zt,zf,zq,zx,zy,za,zh,zl,z7,ym,zi,zd,zm,zz,zg,zk,zj,zp,yg,zr,yh,yl,ye,yf,ya,zn,yd,zo,yc,yb,yp,zb,z6,yi] at ev
 exact pc ev rfl
def bhG (c : Ct) (t : Int) : Nat → Ed → Spn → Spn := fun _ x f => if (x.f == t && ((spn c.s x.t).2 && (decide ((spn c.s x.t).1.c > 0) && (f.t == 0 || decide ((spn c.s x.t).1.c < f.c))))) = true then (spn c.s x.t).1 else f
def bhC (c : Ct) (t : Int) : Int := (xb (bhG c t) c.e 0 ⟨0,0,0⟩).t
theorem zwp (c : Ct) (t : Int) (hc : c.Sm) (hm : ka c.s = true) : yn Cω 90 [.agg c.c,.int .i64 t] = some (.int .i64 (bhC c t)) := by
 have ev := z6g Cω Lω c.k (c.s.map Spn.e) (c.d.map ie) (c.l.map Lk.e) (c.e.map Ed.e) t
 have lp : Lω 90 zax 0 (zab t (c.e.map Ed.e) (c.e.length : Nat) 0) [.box true 28 [.int .i64 c.k,.psl false (c.s.map Spn.e),.psl false (c.d.map ie),.psl false (c.l.map Lk.e),.psl false (c.e.map Ed.e)],.box true 37 [.int .i64 0,.int .i64 0,.int .i64 0]] = _ :=
  jv (fun i (f : Spn) => zab t (c.e.map Ed.e) (c.e.length : Nat) (i : Nat)) (fun _ f => [.box true 28 [.int .i64 c.k,.psl false (c.s.map Spn.e),.psl false (c.d.map ie),.psl false (c.l.map Lk.e),.psl false (c.e.map Ed.e)],.box true 37 [.int .i64 f.t,.int .i64 f.b,.int .i64 f.c]]) c.e (bhG c t)
   (fun f => (.exit 0,mkS 64 [(5,.ref 0 0 0)],[.box true 37 [.int .i64 f.t,.int .i64 f.b,.int .i64 f.c]])) (fun _ _ => True) (fun i x f hg hi _ => by
    refine ⟨trivial,?_⟩
    have ha := z0m c x.t hc.s hm
    unfold Ct.c at ha
    have hdi : decide (((i : Nat) : Int) < ((c.e.length : Nat) : Int)) = true := by rw [decide_eq_true_eq]; omega
    rw [zt9]
    simp only [hdi,nn,Int.toNat_natCast,zb,y9 hg,Ed.e,zw,ze,z8,yj,yk,zu,zt,zf,zq,zx,zy,za,zh,zl,z7,ym,zi,zd,zm,zz,zg,zk,zj,zp,yg,zr,yh,yl,ye,yf,ya,zn,yd,zo,yc,yb,yp,zb,z6,yi,yr (show i < 4611686018427387904 by have := hc.e; omega),if_true,ha]
    unfold bhG
    cases h1 : (x.f == t) with
    | false => rfl
    | true =>
      simp only [if_true,Bool.true_and]
      cases h2 : (spn c.s x.t).2 with
      | false => rfl
      | true =>
        simp only [if_true,Bool.true_and,y9 (zbb hm h2),Spn.e,zw,ze,z8,yj,yk,zu,zt,zf,zq,zx,zy,za,zh,zl,z7,ym,zi,zd,zm,zz,zg,zk,zj,zp,yg,zr,yh,yl,ye,yf,ya,zn,yd,zo,yc,yb,yp,zb,z6,yi]
        cases h3 : decide ((spn c.s x.t).1.c > 0) with
        | false => rfl
        | true =>
          simp only [if_true,Bool.true_and]
          cases h4 : (f.t == 0) with
          | true => rfl
          | false =>
            simp only [Bool.false_eq_true,if_false,Bool.false_or]
            cases h5 : decide ((spn c.s x.t).1.c < f.c) with
            | false => rfl
            | true => rfl) (fun f _ => by rw [zt9]; simp only [Int.lt_irrefl,decide_false,Bool.false_eq_true,if_false]) ⟨0,0,0⟩ trivial
 rw [List.length_map,lp] at ev
 simp only [zw,ze,z8,yj,yk,zu,zt,zf,zq,zx,zy,za,zh,zl,z7,ym,zi,zd,zm,zz,zg,zk,zj,zp,yg,zr,yh,yl,ye,yf,ya,zn,yd,zo,yc,yb,yp,zb,z6,yi,y3,yz,ne_eq,not_false_eq_true,Nat.reduceLT,Nat.reduceEqDiff,if_true] at ev
 exact pc ev rfl
end Go.Pvm.S
