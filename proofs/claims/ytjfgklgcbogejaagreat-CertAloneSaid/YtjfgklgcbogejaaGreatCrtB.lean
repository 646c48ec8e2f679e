/- Part of the proof: certifiers: of their own memory; without somebody; who is near; whom to give up. -/
import Derived.Test.YtjfgklgcbogejaaGreatCrtA
set_option linter.unusedSimpArgs false
set_option linter.unusedVariables false
set_option maxRecDepth 100000
namespace Go.Pvm.S
open Go.Pvm Go.Proofs
def Ct.w (c : Ct) (i j : Nat) : PV := .agg [.int .i64 c.k,whole i 3,whole j 1,.psl false (c.l.map Lk.e),.psl false (c.e.map Ed.e)]
def Ct.o (c : Ct) : List KO := [.made true 3 (c.s.map Spn.e),.made true 1 (c.d.map ie)]
theorem z25 (c : Ct) (hc : c.Sm) : Cω 28 [.agg c.c] [] = some (c.w 0 1,c.o) := by
 have ev := z7i Cω Lω c.k (c.s.map Spn.e) (c.d.map ie) (c.l.map Lk.e) (c.e.map Ed.e)
 rw [qi c.s Spn.e_ok (by have := hc.s; omega),qi c.d z6j (by have := hc.d; omega),qi c.l Lk.e_ok (by have := hc.l; omega),qi c.e Ed.e_ok (by have := hc.e; omega)] at ev
 simp only [zp,ze,zy,yi,yj,yg,zx,zf,ya,zq,zr,za,zh,zl,zw,ym,zi,zb,zm,zt,zg,zk,zj,yd,yf,ye,yk,yl,yb,yc,zz,zn,z8,zo,z7,z6,yo,zd,zu,yh,Option.map_some] at ev
 exact cw ev
theorem zka (c : Ct) (t : Int) (hc : c.Sm) (h : zfi c = false) : Cω 31 [.agg c.c,.int .i64 t] [] = some (.tuple [.agg [.int .i64 0,whole 0 3,whole 1 1,.nilsl,.nilsl],.int .i64 1],[.made true 3 [],.made true 1 []]) := by
 have ev := z37 Cω Lω c.k (c.s.map Spn.e) (c.d.map ie) (c.l.map Lk.e) (c.e.map Ed.e) t
 have i1 := zj9 c hc
 rw [h] at i1
 unfold Ct.c at i1
 simp only [i1,zp,ze,zy,yi,yj,yg,zx,zf,ya,zq,zr,za,zh,zl,zw,ym,zi,zb,zm,zt,zg,zk,zj,yd,yf,ye,yk,yl,yb,yc,zz,zn,z8,zo,z7,z6,yo,zd,zu,yh] at ev
 exact cw ev
theorem z3x {c : Ct} (h : zfi c = true) : qw c.s = true := by
 unfold zfi at h
 simp only [Bool.and_eq_true] at h
 exact h.2.2.1
theorem z5t (c : Ct) (t : Int) (hc : c.Sm) (h : zfi c = true) : Cω 31 [.agg c.c,.int .i64 t] [] = some (.tuple [c.w 0 1,.int .i64 (if lv c t = true then 0 else 3)],c.o) := by
 have ev := z37 Cω Lω c.k (c.s.map Spn.e) (c.d.map ie) (c.l.map Lk.e) (c.e.map Ed.e) t
 have i1 := zj9 c hc
 have i2 := zz6 c t hc.s (z3x h)
 have i3 := z25 c hc
 rw [h] at i1
 unfold Ct.c at i1 i2 i3
 unfold Ct.w Ct.o at i3
 simp only [i1,i2,i3,zp,ze,zy,yi,yj,yg,zx,zf,ya,zq,zr,za,zh,zl,zw,ym,zi,zb,zm,zt,zg,zk,zj,yd,yf,ye,yk,yl,yb,yc,zz,zn,z8,zo,z7,z6,yo,zd,zu,yh] at ev
 cases hq : lv c t with
 | true => rw [hq] at ev; exact cw ev
 | false => rw [hq] at ev; exact cw ev
def drC (c : Ct) (t : Int) : Ct := { c with l := zl5 c.l t,e := zif c.e t }
def rmC (c : Ct) (t : Int) : Ct := { c with s := c.s.filter fun a => !(a.t == t),d := c.d.filter fun a => !(a == t),l := zl5 c.l t,e := zif c.e t }
theorem z50 (c : Ct) (t : Int) (hc : c.Sm) : Cω 91 [c.w 0 1,.int .i64 t] c.o = some ((drC c t).w 0 1,(drC c t).o) := by
 have ev := z36 Cω Lω c.k (c.l.map Lk.e) (c.e.map Ed.e) t (c.s.map Spn.e) (c.d.map ie)
 simp only [ztg c.l t (show c.l.length < 1000000 by have := hc.l; omega),zz7 c.e t (show c.e.length < 1073741824 by have := hc.e; omega),zp,ze,zy,yi,yj,yg,zx,zf,ya,zq,zr,za,zh,zl,zw,ym,zi,zb,zm,zt,zg,zk,zj,yd,yf,ye,yk,yl,yb,yc,zz,zn,z8,zo,z7,z6,yo,zd,zu,yh] at ev
 exact cw ev
theorem zz2 (a : Spn) (x : Int) : yn Cω 93 [.agg a.e,.pref [.int .i64 x]] = some (.bool (a.t == x)) := pc (z6s Cω Lω a.t a.b a.c x) rfl
theorem zz1 (a : Int) (x : Int) : yn Cω 95 [.int .i64 a,.pref [.int .i64 x]] = some (.bool (a == x)) := pc (z6r Cω Lω a x) rfl
theorem zxe (a : Spn) : xx Tryz.prog 37 a.e 0 = some (.agg a.e) := by
 obtain ⟨t,b,c⟩ := a
 kernel_rfl
theorem zy7 (l : List Spn) (x : Int) (hl : l.length < 4611686018427387904) : Lω 116 za1 0 (w9 (l.map Spn.e) x (l.length : Nat) 0) [] =
  some (zf8 (xz (fun a => a.t == x) l 0) (fun i _ => (.ret,mkS 19 [(4,.int .i64 (i : Nat))],[])) (.exit 0,mkS 19 [],[])) :=
 qx (fun i => w9 (l.map Spn.e) x (l.length : Nat) (i : Nat)) [] l (fun a => a.t == x) (fun i _ => (.ret,mkS 19 [(4,.int .i64 (i : Nat))],[])) (.exit 0,mkS 19 [],[]) (fun i a hg hi => by
  have hs := zz2 a x
  rw [zht]
  try simp only [Spn.e] at hs
  simp only [decide_eq_true_eq,Int.ofNat_lt,List.length_map,if_true,nn,true_and,Int.toNat_natCast,zd,hi,y8 hg,Spn.e,zp,ze,zy,yi,yj,yg,zx,zf,ya,zq,zr,za,zh,zl,zw,ym,zi,zb,zm,zt,zg,zk,zj,yd,yf,ye,yk,yl,yb,yc,zz,zn,z8,zo,z7,z6,yo,zd,zu,yh,hs,yq (show i < 4611686018427387904 by omega)]) (by rw [zht]; simp only [decide_eq_true_eq,Int.ofNat_lt,List.length_map,if_true,nn,true_and,Int.toNat_natCast,zd,Nat.lt_irrefl,if_false])
theorem zy8 (l : List Spn) (x : Int) (hl : l.length < 4611686018427387904) : yn Cω 116 [.psl false (l.map Spn.e),.func 93 [.pref [.int .i64 x]]] = some (.int .i64 (zf8 (xz (fun a => a.t == x) l 0) (fun i _ => ((i : Nat) : Int)) (-1))) := by
 have ev := zvq Cω Lω (l.map Spn.e) x
 have lp := zy7 l x hl
 rw [List.length_map,lp] at ev
 cases hq : xz (fun a => a.t == x) l 0 with
 | none =>
   rw [hq] at ev
   simp only [xq,zp,ze,zy,yi,yj,yg,zx,zf,ya,zq,zr,za,zh,zl,zw,ym,zi,zb,zm,zt,zg,zk,zj,yd,yf,ye,yk,yl,yb,yc,zz,zn,z8,zo,z7,z6,yo,zd,zu,yh,if_true] at ev
   exact pc ev rfl
 | some x =>
   rw [hq] at ev
   simp only [xc,zp,ze,zy,yi,yj,yg,zx,zf,ya,zq,zr,za,zh,zl,zw,ym,zi,zb,zm,zt,zg,zk,zj,yd,yf,ye,yk,yl,yb,yc,zz,zn,z8,zo,z7,z6,yo,zd,zu,yh,y1,yz,ne_eq,not_false_eq_true,Nat.reduceLT,Nat.reduceEqDiff] at ev
   exact pc ev rfl
theorem z1w (l : List Spn) (x : Int) (hl : l.length < 4611686018427387904) (j : Nat) (K : List Spn) (hj : j ≤ l.length) (hK : K.length < j) : Lω 92 wt 2 (wn  (K.length : Nat) (j : Nat)) [.made true 3 ((K ++ l.drop K.length).map Spn.e),.box true 3 [.int .i64 x]] =
  some (.exit 0,mkS 42 [(0,whole 0 3),(5,.int .i64 ((K ++ (l.drop j).filter fun a => !(a.t == x)).length : Nat))],[.made true 3 (((K ++ (l.drop j).filter fun a => !(a.t == x)) ++ l.drop (K ++ (l.drop j).filter fun a => !(a.t == x)).length).map Spn.e),.box true 3 [.int .i64 x]]) := by
 have := zor (fun j (K : List Spn) => wn  (K.length : Nat) (j : Nat)) (fun _ K => [.made true 3 ((K ++ l.drop K.length).map Spn.e),.box true 3 [.int .i64 x]]) l (fun _ a K => .on (if (!(a.t == x)) = true then K ++ [a] else K))
  (fun K => (.exit 0,mkS 42 [(0,whole 0 3),(5,.int .i64 (K.length : Nat))],[.made true 3 ((K ++ l.drop K.length).map Spn.e),.box true 3 [.int .i64 x]])) (fun j K => K.length < j) (f := 92) (cd := wt) (n0 := 2)
  (fun i a K hg hi hK => by
   have hlen : ((K ++ l.drop K.length).map Spn.e).length = l.length := by rw [List.length_map,List.length_append,List.length_drop]; omega
   have hgi : ((K ++ l.drop K.length).map Spn.e)[i]? = some (Spn.e a) := by
    refine y8 ?_
    rw [List.getElem?_append_right (by omega),List.getElem?_drop,show K.length + (i - K.length) = i by omega]
    exact hg
   have hs := zz2 a x
   try simp only [Spn.e] at hs
   have hpt := zxe a
   simp only [Spn.e] at hpt
   refine ⟨by split <;> (try simp only [List.length_append,List.length_cons,List.length_nil]) <;> omega,?_⟩
   rw [zjo]
   simp only [hlen,decide_eq_true_eq,Int.ofNat_lt,hi,if_true,nn,true_and,Int.toNat_natCast,hgi,zd,Spn.e,hpt,zp,ze,zy,yi,yj,yg,zx,zf,ya,zq,zr,za,zh,zl,zw,ym,zi,zb,zm,zt,zg,zk,zj,yd,yf,ye,yk,yl,yb,yc,zz,zn,z8,zo,z7,z6,yo,zd,zu,yh,hs,yq (show i < 4611686018427387904 by omega)]
   by_cases hp : (!(a.t == x)) = true
   ·rw [if_pos hp,if_pos hp,if_pos (by omega),if_pos (by omega),yq (by omega)]
    have hset : ((K ++ l.drop K.length).map Spn.e).set K.length (Spn.e a) = ((K ++ [a]) ++ l.drop (K ++ [a]).length).map Spn.e := by
     rw [← List.map_set]
     congr 1
     rw [List.set_append_right _ _ (Nat.le_refl _),Nat.sub_self,List.drop_eq_getElem_cons (by omega),List.set_cons_zero,List.append_assoc,List.length_append]
     rfl
    simp only [Spn.e] at hset
    rw [hset]
    simp only [List.length_append,List.length_cons,List.length_nil]
    try rfl
   ·rw [if_neg hp,if_neg hp])
  (fun K hK => by
   have hlen : ((K ++ l.drop K.length).map Spn.e).length = l.length := by rw [List.length_map,List.length_append,List.length_drop]; omega
   rw [zjo]
   simp only [hlen,decide_eq_true_eq,Nat.lt_irrefl,Int.ofNat_lt,if_false]) (l.length - j) j K (by omega) hK
 rw [this,uc,kq]
theorem z1v (l : List Spn) (x : Int) (hl : l.length < 1073741824) : Cω 92 [whole 0 3,.func 93 [.ref 1 0 0]] [.made true 3 (l.map Spn.e),.box true 3 [.int .i64 x]] = some (whole 2 3,[.dead,.box true 3 [.int .i64 x],.made true 3 ((l.filter fun a => !(a.t == x)).map Spn.e)]) := by
 have ev := zy0 Cω Lω  (l.map Spn.e) x
 have hx := zy8 l x (by omega)
 simp only [hx,zp,ze,zy,yi,yj,yg,zx,zf,ya,zq,zr,za,zh,zl,zw,ym,zi,zb,zm,zt,zg,zk,zj,yd,yf,ye,yk,yl,yb,yc,zz,zn,z8,zo,z7,z6,yo,zd,zu,yh] at ev
 cases hq : xz (fun a => a.t == x) l 0 with
 | none =>
   rw [hq] at ev
   simp only [xq,beq_self_eq_true,if_true] at ev
   have hany := j4 (p := fun a => a.t == x) l 0
   rw [hq] at hany
   have hf : l.filter (fun a => !(a.t == x)) = l := List.filter_eq_self.2 fun a ha => by
    have h9 : l.any (fun a => a.t == x) = false := hany.symm
    rw [List.any_eq_false] at h9
    have h10 := h9 a ha
    rw [Bool.not_eq_true] at h10
    have h11 : (a.t == x) = false := h10
    rw [h11]; rfl
   rw [hf]
   exact cw ev
 | some y =>
   obtain ⟨i,b⟩ := y
   obtain ⟨_,hi,hb,hpb,hbe⟩ := k7 hq
   simp only [Nat.zero_add,Nat.sub_zero] at hi hb hbe
   rw [hq,xc] at ev
   simp only at ev
   rw [if_neg (by rw [beq_iff_eq]; omega)] at ev
   have hil : i < l.length := by omega
   have hK0 : (l.take i).length = i := by rw [List.length_take]; omega
   have lp := z1w l x (by omega) (i + 1) (l.take i) (by omega) (by omega)
   rw [hK0,List.take_append_drop] at lp
   have hfl : l.take i ++ (l.drop (i + 1)).filter (fun a => !(a.t == x)) = l.filter (fun a => !(a.t == x)) := by
    conv => rhs; rw [← List.take_append_drop i l,List.filter_append,List.drop_eq_getElem_cons hil]
    have e1 : (l.take i).filter (fun a => !(a.t == x)) = l.take i := List.filter_eq_self.2 fun a ha => by
     obtain ⟨k,hk⟩ := List.mem_iff_getElem?.1 ha
     have hk2 : k < i := by have := (List.getElem?_eq_some_iff.1 hk).1; omega
     rw [List.getElem?_take_of_lt hk2] at hk
     have h9 : (a.t == x) = false := hbe k a hk2 hk
     rw [h9]; rfl
    have e2 : l[i] = b := by rw [List.getElem?_eq_getElem hil] at hb; exact Option.some.inj hb
    rw [e1,e2,List.filter_cons_of_neg (by have h9 : (fun a : Spn => a.t == x) b = true := hpb; show ¬ ((!((fun a : Spn => a.t == x) b)) = true); rw [h9]; decide)]
   rw [hfl] at lp
   rw [yq (by omega),lp] at ev
   have hfle : (l.filter fun a => !(a.t == x)).length ≤ l.length := List.length_filter_le _ _
   have hlen : (((l.filter fun a => !(a.t == x)) ++ l.drop (l.filter fun a => !(a.t == x)).length).map Spn.e).length = l.length := by rw [List.length_map,List.length_append,List.length_drop]; omega
   have hlt : (((l.filter fun a => !(a.t == x)) ++ l.drop (l.filter fun a => !(a.t == x)).length).map Spn.e).take (l.filter fun a => !(a.t == x)).length = (l.filter fun a => !(a.t == x)).map Spn.e := by
    rw [List.map_append,List.take_append_of_le_length (by rw [List.length_map]; exact Nat.le_refl _),List.take_of_length_le (by rw [List.length_map]; exact Nat.le_refl _)]
   simp only [zp,ze,zy,yi,yj,yg,zx,zf,ya,zq,zr,za,zh,zl,zw,ym,zi,zb,zm,zt,zg,zk,zj,yd,yf,ye,yk,yl,yb,yc,zz,zn,z8,zo,z7,z6,yo,zd,zu,yh,y1,yz,ne_eq,not_false_eq_true,Nat.reduceLT,Nat.reduceEqDiff,if_true,zhj,hlen,hlt,Nat.le_refl,and_true,hfle] at ev
   have hd : (((l.filter fun a => !(a.t == x)) ++ l.drop (l.filter fun a => !(a.t == x)).length).map Spn.e).drop ((l.filter fun a => !(a.t == x)).length + (l.length - (l.filter fun a => !(a.t == x)).length)) = [] := List.drop_of_length_le (by rw [hlen]; omega)
   rw [hd,List.append_nil] at ev
   have hll : (List.map Spn.e (l.filter fun a => !(a.t == x)) ++ List.replicate (l.length - (l.filter fun a => !(a.t == x)).length) ([.int .i64 0,.int .i64 0,.int .i64 0] : List PV)).length = l.length := by rw [List.length_append,List.length_map,List.length_replicate]; omega
   rw [if_pos ⟨Nat.zero_le _,by rw [hll]; exact hfle⟩,Nat.sub_zero,List.take_append_of_le_length (by rw [List.length_map]; exact Nat.le_refl _),List.take_of_length_le (by rw [List.length_map]; exact Nat.le_refl _)] at ev
   exact cw ev
theorem zzd (l : List Int) (x : Int) (hl : l.length < 4611686018427387904) : Lω 138 zay 0 (wx (l.map ie) x (l.length : Nat) 0) [] =
  some (zf8 (xz (fun a => a == x) l 0) (fun i _ => (.ret,mkS 19 [(4,.int .i64 (i : Nat))],[])) (.exit 0,mkS 19 [],[])) :=
 qx (fun i => wx (l.map ie) x (l.length : Nat) (i : Nat)) [] l (fun a => a == x) (fun i _ => (.ret,mkS 19 [(4,.int .i64 (i : Nat))],[])) (.exit 0,mkS 19 [],[]) (fun i a hg hi => by
  have hs := zz1 a x
  rw [zhq]
  try simp only [ie] at hs
  simp only [decide_eq_true_eq,Int.ofNat_lt,List.length_map,if_true,nn,true_and,Int.toNat_natCast,zd,hi,y8 hg,ie,zp,ze,zy,yi,yj,yg,zx,zf,ya,zq,zr,za,zh,zl,zw,ym,zi,zb,zm,zt,zg,zk,zj,yd,yf,ye,yk,yl,yb,yc,zz,zn,z8,zo,z7,z6,yo,zd,zu,yh,hs,yq (show i < 4611686018427387904 by omega)]) (by rw [zhq]; simp only [decide_eq_true_eq,Int.ofNat_lt,List.length_map,if_true,nn,true_and,Int.toNat_natCast,zd,Nat.lt_irrefl,if_false])
theorem zze (l : List Int) (x : Int) (hl : l.length < 4611686018427387904) : yn Cω 138 [.psl false (l.map ie),.func 95 [.pref [.int .i64 x]]] = some (.int .i64 (zf8 (xz (fun a => a == x) l 0) (fun i _ => ((i : Nat) : Int)) (-1))) := by
 have ev := zvn Cω Lω (l.map ie) x
 have lp := zzd l x hl
 rw [List.length_map,lp] at ev
 cases hq : xz (fun a => a == x) l 0 with
 | none =>
   rw [hq] at ev
   simp only [xq,zp,ze,zy,yi,yj,yg,zx,zf,ya,zq,zr,za,zh,zl,zw,ym,zi,zb,zm,zt,zg,zk,zj,yd,yf,ye,yk,yl,yb,yc,zz,zn,z8,zo,z7,z6,yo,zd,zu,yh,if_true] at ev
   exact pc ev rfl
 | some x =>
   rw [hq] at ev
   simp only [xc,zp,ze,zy,yi,yj,yg,zx,zf,ya,zq,zr,za,zh,zl,zw,ym,zi,zb,zm,zt,zg,zk,zj,yd,yf,ye,yk,yl,yb,yc,zz,zn,z8,zo,z7,z6,yo,zd,zu,yh,y1,yz,ne_eq,not_false_eq_true,Nat.reduceLT,Nat.reduceEqDiff] at ev
   exact pc ev rfl
theorem z12 (l : List Int) (x : Int) (hl : l.length < 4611686018427387904) (j : Nat) (K : List Int) (hj : j ≤ l.length) (hK : K.length < j) : Lω 94 wr 2 (wm  (K.length : Nat) (j : Nat)) [.made true 1 ((K ++ l.drop K.length).map ie),.box true 3 [.int .i64 x]] =
  some (.exit 0,mkS 42 [(0,whole 0 1),(5,.int .i64 ((K ++ (l.drop j).filter fun a => !(a == x)).length : Nat))],[.made true 1 (((K ++ (l.drop j).filter fun a => !(a == x)) ++ l.drop (K ++ (l.drop j).filter fun a => !(a == x)).length).map ie),.box true 3 [.int .i64 x]]) := by
 have := zor (fun j (K : List Int) => wm  (K.length : Nat) (j : Nat)) (fun _ K => [.made true 1 ((K ++ l.drop K.length).map ie),.box true 3 [.int .i64 x]]) l (fun _ a K => .on (if (!(a == x)) = true then K ++ [a] else K))
  (fun K => (.exit 0,mkS 42 [(0,whole 0 1),(5,.int .i64 (K.length : Nat))],[.made true 1 ((K ++ l.drop K.length).map ie),.box true 3 [.int .i64 x]])) (fun j K => K.length < j) (f := 94) (cd := wr) (n0 := 2)
  (fun i a K hg hi hK => by
   have hlen : ((K ++ l.drop K.length).map ie).length = l.length := by rw [List.length_map,List.length_append,List.length_drop]; omega
   have hgi : ((K ++ l.drop K.length).map ie)[i]? = some (ie a) := by
    refine y8 ?_
    rw [List.getElem?_append_right (by omega),List.getElem?_drop,show K.length + (i - K.length) = i by omega]
    exact hg
   have hs := zz1 a x
   try simp only [ie] at hs
   have hpt := zxf a
   simp only [ie] at hpt
   refine ⟨by split <;> (try simp only [List.length_append,List.length_cons,List.length_nil]) <;> omega,?_⟩
   rw [zjn]
   simp only [hlen,decide_eq_true_eq,Int.ofNat_lt,hi,if_true,nn,true_and,Int.toNat_natCast,hgi,zd,ie,hpt,zp,ze,zy,yi,yj,yg,zx,zf,ya,zq,zr,za,zh,zl,zw,ym,zi,zb,zm,zt,zg,zk,zj,yd,yf,ye,yk,yl,yb,yc,zz,zn,z8,zo,z7,z6,yo,zd,zu,yh,hs,yq (show i < 4611686018427387904 by omega)]
   by_cases hp : (!(a == x)) = true
   ·rw [if_pos hp,if_pos hp,if_pos (by omega),if_pos (by omega),yq (by omega)]
    have hset : ((K ++ l.drop K.length).map ie).set K.length (ie a) = ((K ++ [a]) ++ l.drop (K ++ [a]).length).map ie := by
     rw [← List.map_set]
     congr 1
     rw [List.set_append_right _ _ (Nat.le_refl _),Nat.sub_self,List.drop_eq_getElem_cons (by omega),List.set_cons_zero,List.append_assoc,List.length_append]
     rfl
    simp only [ie] at hset
    rw [hset]
    simp only [List.length_append,List.length_cons,List.length_nil]
    try rfl
   ·rw [if_neg hp,if_neg hp])
  (fun K hK => by
   have hlen : ((K ++ l.drop K.length).map ie).length = l.length := by rw [List.length_map,List.length_append,List.length_drop]; omega
   rw [zjn]
   simp only [hlen,decide_eq_true_eq,Nat.lt_irrefl,Int.ofNat_lt,if_false]) (l.length - j) j K (by omega) hK
 rw [this,uc,kq]
theorem z11 (l : List Int) (x : Int) (hl : l.length < 1073741824) : Cω 94 [whole 0 1,.func 95 [.ref 1 0 0]] [.made true 1 (l.map ie),.box true 3 [.int .i64 x]] = some (whole 2 1,[.dead,.box true 3 [.int .i64 x],.made true 1 ((l.filter fun a => !(a == x)).map ie)]) := by
 have ev := zyz Cω Lω  (l.map ie) x
 have hx := zze l x (by omega)
 simp only [hx,zp,ze,zy,yi,yj,yg,zx,zf,ya,zq,zr,za,zh,zl,zw,ym,zi,zb,zm,zt,zg,zk,zj,yd,yf,ye,yk,yl,yb,yc,zz,zn,z8,zo,z7,z6,yo,zd,zu,yh] at ev
 cases hq : xz (fun a => a == x) l 0 with
 | none =>
   rw [hq] at ev
   simp only [xq,beq_self_eq_true,if_true] at ev
   have hany := j4 (p := fun a => a == x) l 0
   rw [hq] at hany
   have hf : l.filter (fun a => !(a == x)) = l := List.filter_eq_self.2 fun a ha => by
    have h9 : l.any (fun a => a == x) = false := hany.symm
    rw [List.any_eq_false] at h9
    have h10 := h9 a ha
    rw [Bool.not_eq_true] at h10
    have h11 : (a == x) = false := h10
    rw [h11]; rfl
   rw [hf]
   exact cw ev
 | some y =>
   obtain ⟨i,b⟩ := y
   obtain ⟨_,hi,hb,hpb,hbe⟩ := k7 hq
   simp only [Nat.zero_add,Nat.sub_zero] at hi hb hbe
   rw [hq,xc] at ev
   simp only at ev
   rw [if_neg (by rw [beq_iff_eq]; omega)] at ev
   have hil : i < l.length := by omega
   have hK0 : (l.take i).length = i := by rw [List.length_take]; omega
   have lp := z12 l x (by omega) (i + 1) (l.take i) (by omega) (by omega)
   rw [hK0,List.take_append_drop] at lp
   have hfl : l.take i ++ (l.drop (i + 1)).filter (fun a => !(a == x)) = l.filter (fun a => !(a == x)) := by
    conv => rhs; rw [← List.take_append_drop i l,List.filter_append,List.drop_eq_getElem_cons hil]
    have e1 : (l.take i).filter (fun a => !(a == x)) = l.take i := List.filter_eq_self.2 fun a ha => by
     obtain ⟨k,hk⟩ := List.mem_iff_getElem?.1 ha
     have hk2 : k < i := by have := (List.getElem?_eq_some_iff.1 hk).1; omega
     rw [List.getElem?_take_of_lt hk2] at hk
     have h9 : (a == x) = false := hbe k a hk2 hk
     rw [h9]; rfl
    have e2 : l[i] = b := by rw [List.getElem?_eq_getElem hil] at hb; exact Option.some.inj hb
    rw [e1,e2,List.filter_cons_of_neg (by have h9 : (fun a : Int => a == x) b = true := hpb; show ¬ ((!((fun a : Int => a == x) b)) = true); rw [h9]; decide)]
   rw [hfl] at lp
   rw [yq (by omega),lp] at ev
   have hfle : (l.filter fun a => !(a == x)).length ≤ l.length := List.length_filter_le _ _
   have hlen : (((l.filter fun a => !(a == x)) ++ l.drop (l.filter fun a => !(a == x)).length).map ie).length = l.length := by rw [List.length_map,List.length_append,List.length_drop]; omega
   have hlt : (((l.filter fun a => !(a == x)) ++ l.drop (l.filter fun a => !(a == x)).length).map ie).take (l.filter fun a => !(a == x)).length = (l.filter fun a => !(a == x)).map ie := by
    rw [List.map_append,List.take_append_of_le_length (by rw [List.length_map]; exact Nat.le_refl _),List.take_of_length_le (by rw [List.length_map]; exact Nat.le_refl _)]
   simp only [zp,ze,zy,yi,yj,yg,zx,zf,ya,zq,zr,za,zh,zl,zw,ym,zi,zb,zm,zt,zg,zk,zj,yd,yf,ye,yk,yl,yb,yc,zz,zn,z8,zo,z7,z6,yo,zd,zu,yh,y1,yz,ne_eq,not_false_eq_true,Nat.reduceLT,Nat.reduceEqDiff,if_true,zhj,hlen,hlt,Nat.le_refl,and_true,hfle] at ev
   have hd : (((l.filter fun a => !(a == x)) ++ l.drop (l.filter fun a => !(a == x)).length).map ie).drop ((l.filter fun a => !(a == x)).length + (l.length - (l.filter fun a => !(a == x)).length)) = [] := List.drop_of_length_le (by rw [hlen]; omega)
   rw [hd,List.append_nil] at ev
   have hll : (List.map ie (l.filter fun a => !(a == x)) ++ List.replicate (l.length - (l.filter fun a => !(a == x)).length) ([.int .i64 0] : List PV)).length = l.length := by rw [List.length_append,List.length_map,List.length_replicate]; omega
   rw [if_pos ⟨Nat.zero_le _,by rw [hll]; exact hfle⟩,Nat.sub_zero,List.take_append_of_le_length (by rw [List.length_map]; exact Nat.le_refl _),List.take_of_length_le (by rw [List.length_map]; exact Nat.le_refl _)] at ev
   exact cw ev
theorem z23 (c : Ct) (t : Int) (hc : c.Sm) : Cω 34 [c.w 0 1,.int .i64 t] c.o = some ((rmC c t).w 2 3,[.dead,.dead] ++ (rmC c t).o) := by
 have ev := z7e Cω Lω c.k (c.l.map Lk.e) (c.e.map Ed.e) t (c.s.map Spn.e) (c.d.map ie)
 have i1 := z50 c t hc
 unfold Ct.w Ct.o at i1
 rw [i1] at ev
 simp only [zp,ze,zy,yi,yj,yg,zx,zf,ya,zq,zr,za,zh,zl,zw,ym,zi,zb,zm,zt,zg,zk,zj,yd,yf,ye,yk,yl,yb,yc,zz,zn,z8,zo,z7,z6,yo,zd,zu,yh] at ev
 have i2 := z1v c.s t (show c.s.length < 1073741824 by have := hc.s; omega)
 have i3 := z11 c.d t (show c.d.length < 1073741824 by have := hc.d; omega)
 have e1 : (drC c t).s = c.s := rfl
 have e2 : (drC c t).d = c.d := rfl
 rw [e1,e2,i2] at ev
 simp only [zp,ze,zy,yi,yj,yg,zx,zf,ya,zq,zr,za,zh,zl,zw,ym,zi,zb,zm,zt,zg,zk,zj,yd,yf,ye,yk,yl,yb,yc,zz,zn,z8,zo,z7,z6,yo,zd,zu,yh] at ev
 rw [i3] at ev
 simp only [zp,ze,zy,yi,yj,yg,zx,zf,ya,zq,zr,za,zh,zl,zw,ym,zi,zb,zm,zt,zg,zk,zj,yd,yf,ye,yk,yl,yb,yc,zz,zn,z8,zo,z7,z6,yo,zd,zu,yh] at ev
 exact cw ev
def zhl (c : Ct) (s a : Spn) : Bool := (a.c == 0) && (!dm c a.t && decide (s.c > a.b))
def nrC (c : Ct) (s : Spn) : Bool := c.s.any fun a => zhl c s a
theorem z0w (a : Spn) (c : Ct) (s : Spn) (hd : c.d.length < 100000) : yn Cω 135 [.agg a.e,.pref c.c,.pref s.e] = some (.bool (zhl c s a)) := by
 have ev := z4x Cω Lω a.t a.b a.c c.k (c.s.map Spn.e) (c.d.map ie) (c.l.map Lk.e) (c.e.map Ed.e) s.t s.b s.c
 have h := z0z c a.t hd
 unfold Ct.c at h
 simp only [h,zp,ze,zy,yi,yj,yg,zx,zf,ya,zq,zr,za,zh,zl,zw,ym,zi,zb,zm,zt,zg,zk,zj,yd,yf,ye,yk,yl,yb,yc,zz,zn,z8,zo,z7,z6,yo,zd,zu,yh] at ev
 unfold zhl
 cases hq : (a.c == 0) with
 | false => rw [hq] at ev; exact pc ev rfl
 | true =>
   rw [hq] at ev
   simp only [if_true,Bool.true_and] at ev ⊢
   cases hr : dm c a.t with
   | true => rw [hr] at ev; exact pc ev rfl
   | false => rw [hr] at ev; exact pc ev rfl
theorem zyg (l : List Spn) (c : Ct) (s : Spn) (hd : c.d.length < 100000) (hl : l.length < 4611686018427387904) : Lω 116 ux 0 (vm (l.map Spn.e) c.k (c.s.map Spn.e) (c.d.map ie) (c.l.map Lk.e) (c.e.map Ed.e) s.t s.b s.c (l.length : Nat) 0) [] =
  some (zf8 (xz (fun a => zhl c s a) l 0) (fun i _ => (.ret,mkS 19 [(4,.int .i64 (i : Nat))],[])) (.exit 0,mkS 19 [],[])) :=
 qx (fun i => vm (l.map Spn.e) c.k (c.s.map Spn.e) (c.d.map ie) (c.l.map Lk.e) (c.e.map Ed.e) s.t s.b s.c (l.length : Nat) (i : Nat)) [] l (fun a => zhl c s a) (fun i _ => (.ret,mkS 19 [(4,.int .i64 (i : Nat))],[])) (.exit 0,mkS 19 [],[]) (fun i a hg hi => by
  have hs := z0w a c s hd
  rw [zfv]
  try simp only [Spn.e,Ct.c] at hs
  simp only [decide_eq_true_eq,Int.ofNat_lt,List.length_map,if_true,nn,true_and,Int.toNat_natCast,zd,hi,y8 hg,Spn.e,Ct.c,zp,ze,zy,yi,yj,yg,zx,zf,ya,zq,zr,za,zh,zl,zw,ym,zi,zb,zm,zt,zg,zk,zj,yd,yf,ye,yk,yl,yb,yc,zz,zn,z8,zo,z7,z6,yo,zd,zu,yh,hs,yq (show i < 4611686018427387904 by omega)]) (by rw [zfv]; simp only [decide_eq_true_eq,Int.ofNat_lt,List.length_map,if_true,nn,true_and,Int.toNat_natCast,zd,Nat.lt_irrefl,if_false])
theorem zyh (l : List Spn) (c : Ct) (s : Spn) (hd : c.d.length < 100000) (hl : l.length < 4611686018427387904) : yn Cω 116 [.psl false (l.map Spn.e),.func 135 [.pref [.int .i64 c.k,.psl false (c.s.map Spn.e),.psl false (c.d.map ie),.psl false (c.l.map Lk.e),.psl false (c.e.map Ed.e)],.pref [.int .i64 s.t,.int .i64 s.b,.int .i64 s.c]]] = some (.int .i64 (zf8 (xz (fun a => zhl c s a) l 0) (fun i _ => ((i : Nat) : Int)) (-1))) := by
 have ev := zsh Cω Lω (l.map Spn.e) c.k (c.s.map Spn.e) (c.d.map ie) (c.l.map Lk.e) (c.e.map Ed.e) s.t s.b s.c
 have lp := zyg l c s hd hl
 rw [List.length_map,lp] at ev
 cases hq : xz (fun a => zhl c s a) l 0 with
 | none =>
   rw [hq] at ev
   simp only [xq,zp,ze,zy,yi,yj,yg,zx,zf,ya,zq,zr,za,zh,zl,zw,ym,zi,zb,zm,zt,zg,zk,zj,yd,yf,ye,yk,yl,yb,yc,zz,zn,z8,zo,z7,z6,yo,zd,zu,yh,if_true] at ev
   exact pc ev rfl
 | some x =>
   rw [hq] at ev
   simp only [xc,zp,ze,zy,yi,yj,yg,zx,zf,ya,zq,zr,za,zh,zl,zw,ym,zi,zb,zm,zt,zg,zk,zj,yd,yf,ye,yk,yl,yb,yc,zz,zn,z8,zo,z7,z6,yo,zd,zu,yh,y1,yz,ne_eq,not_false_eq_true,Nat.reduceLT,Nat.reduceEqDiff] at ev
   exact pc ev rfl
theorem zyi (l : List Spn) (c : Ct) (s : Spn) (hd : c.d.length < 100000) (hl : l.length < 4611686018427387904) : yn Cω 57 [.psl false (l.map Spn.e),.func 135 [.pref [.int .i64 c.k,.psl false (c.s.map Spn.e),.psl false (c.d.map ie),.psl false (c.l.map Lk.e),.psl false (c.e.map Ed.e)],.pref [.int .i64 s.t,.int .i64 s.b,.int .i64 s.c]]] = some (.bool (l.any fun a => zhl c s a)) := by
 have ev := zvm Cω Lω (l.map Spn.e) c.k (c.s.map Spn.e) (c.d.map ie) (c.l.map Lk.e) (c.e.map Ed.e) s.t s.b s.c
 rw [zyh l c s hd hl] at ev
 simp only [zp,ze,zy,yi,yj,yg,zx,zf,ya,zq,zr,za,zh,zl,zw,ym,zi,zb,zm,zt,zg,zk,zj,yd,yf,ye,yk,yl,yb,yc,zz,zn,z8,zo,z7,z6,yo,zd,zu,yh] at ev
 have hany := j4 (p := fun a => zhl c s a) l 0
 rw [← hany]
 cases hq : xz (fun a => zhl c s a) l 0 with
 | none =>
   rw [hq] at ev
   exact pc ev rfl
 | some y =>
   rw [hq] at ev
   have h0 : decide (((y.1 : Nat) : Int) ≥ 0) = true := by rw [decide_eq_true_eq]; omega
   simp only [xc,h0] at ev
   exact pc ev rfl
theorem z26 (c : Ct) (s : Spn) (hc : c.Sm) : yn Cω 89 [.agg c.c,.agg s.e] = some (.bool (nrC c s)) := by
 have ev := z6u Cω Lω c.k (c.s.map Spn.e) (c.d.map ie) (c.l.map Lk.e) (c.e.map Ed.e) s.t s.b s.c
 rw [zyi c.s c s hc.d (by have := hc.s; omega)] at ev
 simp only [zp,ze,zy,yi,yj,yg,zx,zf,ya,zq,zr,za,zh,zl,zw,ym,zi,zb,zm,zt,zg,zk,zj,yd,yf,ye,yk,yl,yb,yc,zz,zn,z8,zo,z7,z6,yo,zd,zu,yh] at ev
 exact pc ev rfl
def bhG (c : Ct) (t : Int) : Nat → Ed → Spn → Spn := fun _ x f => if (x.f == t && ((spn c.s x.t).2 && (decide ((spn c.s x.t).1.c > 0) && (f.t == 0 || decide ((spn c.s x.t).1.c < f.c))))) = true then (spn c.s x.t).1 else f
def bhC (c : Ct) (t : Int) : Int := (xa (bhG c t) c.e 0 ⟨0,0,0⟩).t
theorem zw2 (c : Ct) (t : Int) (hc : c.Sm) (hm : qw c.s = true) : yn Cω 90 [.agg c.c,.int .i64 t] = some (.int .i64 (bhC c t)) := by
 have ev := z6t Cω Lω c.k (c.s.map Spn.e) (c.d.map ie) (c.l.map Lk.e) (c.e.map Ed.e) t
 have lp : Lω 90 zax 0 (u9 t (c.e.map Ed.e) (c.e.length : Nat) 0) [.box true 28 [.int .i64 c.k,.psl false (c.s.map Spn.e),.psl false (c.d.map ie),.psl false (c.l.map Lk.e),.psl false (c.e.map Ed.e)],.box true 37 [.int .i64 0,.int .i64 0,.int .i64 0]] = _ :=
  jx (fun i (f : Spn) => u9 t (c.e.map Ed.e) (c.e.length : Nat) (i : Nat)) (fun _ f => [.box true 28 [.int .i64 c.k,.psl false (c.s.map Spn.e),.psl false (c.d.map ie),.psl false (c.l.map Lk.e),.psl false (c.e.map Ed.e)],.box true 37 [.int .i64 f.t,.int .i64 f.b,.int .i64 f.c]]) c.e (bhG c t)
   (fun f => (.exit 0,mkS 64 [(5,.ref 0 0 0)],[.box true 37 [.int .i64 f.t,.int .i64 f.b,.int .i64 f.c]])) (fun _ _ => True) (fun i x f hg hi _ => by
    refine ⟨trivial,?_⟩
    have ha := z01 c x.t hc.s hm
    unfold Ct.c at ha
    have hdi : decide (((i : Nat) : Int) < ((c.e.length : Nat) : Int)) = true := by rw [decide_eq_true_eq]; omega
    rw [zun]
    simp only [hdi,nn,Int.toNat_natCast,zd,y8 hg,Ed.e,zp,ze,zy,yi,yj,yg,zx,zf,ya,zq,zr,za,zh,zl,zw,ym,zi,zb,zm,zt,zg,zk,zj,yd,yf,ye,yk,yl,yb,yc,zz,zn,z8,zo,z7,z6,yo,zd,zu,yh,yq (show i < 4611686018427387904 by have := hc.e; omega),if_true,ha]
    unfold bhG
    cases h1 : (x.f == t) with
    | false => rfl
    | true =>
      simp only [if_true,Bool.true_and]
      cases h2 : (spn c.s x.t).2 with
      | false => rfl
      | true =>
        simp only [if_true,Bool.true_and,y8 (zbb hm h2),Spn.e,zp,ze,zy,yi,yj,yg,zx,zf,ya,zq,zr,za,zh,zl,zw,ym,zi,zb,zm,zt,zg,zk,zj,yd,yf,ye,yk,yl,yb,yc,zz,zn,z8,zo,z7,z6,yo,zd,zu,yh]
        cases h3 : decide ((spn c.s x.t).1.c > 0) with
        | false => rfl
        | true =>
          simp only [if_true,Bool.true_and]
          cases h4 : (f.t == 0) with
          | true => rfl
          | false =>
            simp only [Bool.false_eq_true,if_false,Bool.false_or]
            cases h5 : decide ((spn c.s x.t).1.c < f.c) with
            | false => rfl
            | true => rfl) (fun f _ => by rw [zun]; simp only [Int.lt_irrefl,decide_false,Bool.false_eq_true,if_false]) ⟨0,0,0⟩ trivial
 rw [List.length_map,lp] at ev
 simp only [zp,ze,zy,yi,yj,yg,zx,zf,ya,zq,zr,za,zh,zl,zw,ym,zi,zb,zm,zt,zg,zk,zj,yd,yf,ye,yk,yl,yb,yc,zz,zn,z8,zo,z7,z6,yo,zd,zu,yh,y1,yz,ne_eq,not_false_eq_true,Nat.reduceLT,Nat.reduceEqDiff,if_true] at ev
 exact pc ev rfl
end Go.Pvm.S
