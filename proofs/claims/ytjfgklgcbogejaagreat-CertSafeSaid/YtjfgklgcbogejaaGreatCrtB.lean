/- Part of the proof: certifiers: of their own memory; without somebody; who is near; whom to give up. -/
import Derived.Test.YtjfgklgcbogejaaGreatCrtA
set_option linter.unusedSimpArgs false
set_option linter.unusedVariables false
set_option maxRecDepth 100000
namespace Go.Pvm.S
open Go.Pvm Go.Proofs
def Ct.w (c : Ct) (i j : Nat) : PV := .agg [.int .i64 c.k,whole i 3,whole j 1,.psl false (c.l.map Lk.e),.psl false (c.e.map Ed.e)]
def Ct.o (c : Ct) : List KO := [.made true 3 (c.s.map Spn.e),.made true 1 (c.d.map ie)]
theorem z43 (c : Ct) (hc : c.Sm) : Cω 28 [.agg c.c] [] = some (c.w 0 1,c.o) := by
 have ev := z9z Cω Lω c.k (c.s.map Spn.e) (c.d.map ie) (c.l.map Lk.e) (c.e.map Ed.e)
 rw [q9 c.s Spn.e_ok (by have := hc.s; omega),q9 c.d z8v (by have := hc.d; omega),q9 c.l Lk.e_ok (by have := hc.l; omega),q9 c.e Ed.e_ok (by have := hc.e; omega)] at ev
 simp only [zw,ze,ya,yk,yl,zu,zt,zf,zq,zx,zy,za,zh,zl,z8,yn,zi,zd,zm,z6,zg,zk,zj,zp,yh,zr,yi,ym,yf,yg,yb,zn,ye,zo,yd,yc,yp,zb,z7,yj,Option.map_some] at ev
 exact cw ev
theorem zhn (c : Ct) (t : Int) (hc : c.Sm) (h : zee c = false) : Cω 31 [.agg c.c,.int .i64 t] [] = some (.tuple [.agg [.int .i64 0,whole 0 3,whole 1 1,.nilsl,.nilsl],.int .i64 1],[.made true 3 [],.made true 1 []]) := by
 have ev := z6f Cω Lω c.k (c.s.map Spn.e) (c.d.map ie) (c.l.map Lk.e) (c.e.map Ed.e) t
 have i1 := zkw c hc
 rw [h] at i1
 unfold Ct.c at i1
 simp only [i1,zw,ze,ya,yk,yl,zu,zt,zf,zq,zx,zy,za,zh,zl,z8,yn,zi,zd,zm,z6,zg,zk,zj,zp,yh,zr,yi,ym,yf,yg,yb,zn,ye,zo,yd,yc,yp,zb,z7,yj] at ev
 exact cw ev
theorem z5y {c : Ct} (h : zee c = true) : qq c.s = true := by
 unfold zee at h
 simp only [Bool.and_eq_true] at h
 exact h.2.2.1
theorem z5b (c : Ct) (t : Int) (hc : c.Sm) (h : zee c = true) : Cω 31 [.agg c.c,.int .i64 t] [] = some (.tuple [c.w 0 1,.int .i64 (if lv c t = true then 0 else 3)],c.o) := by
 have ev := z6f Cω Lω c.k (c.s.map Spn.e) (c.d.map ie) (c.l.map Lk.e) (c.e.map Ed.e) t
 have i1 := zkw c hc
 have i2 := z1r c t hc.s (z5y h)
 have i3 := z43 c hc
 rw [h] at i1
 unfold Ct.c at i1 i2 i3
 unfold Ct.w Ct.o at i3
 simp only [i1,i2,i3,zw,ze,ya,yk,yl,zu,zt,zf,zq,zx,zy,za,zh,zl,z8,yn,zi,zd,zm,z6,zg,zk,zj,zp,yh,zr,yi,ym,yf,yg,yb,zn,ye,zo,yd,yc,yp,zb,z7,yj] at ev
 cases hq : lv c t with
 | true => rw [hq] at ev; exact cw ev
 | false => rw [hq] at ev; exact cw ev
def drC (c : Ct) (t : Int) : Ct := { c with l := zo2 c.l t,e := zjg c.e t }
def rmC (c : Ct) (t : Int) : Ct := { c with s := c.s.filter fun a => !(a.t == t),d := c.d.filter fun a => !(a == t),l := zo2 c.l t,e := zjg c.e t }
theorem z8c (c : Ct) (t : Int) (hc : c.Sm) : Cω 91 [c.w 0 1,.int .i64 t] c.o = some ((drC c t).w 0 1,(drC c t).o) := by
 have ev := z6e Cω Lω c.k (c.l.map Lk.e) (c.e.map Ed.e) t (c.s.map Spn.e) (c.d.map ie)
 simp only [zuj c.l t (show c.l.length < 1000000 by have := hc.l; omega),z1s c.e t (show c.e.length < 1073741824 by have := hc.e; omega),zw,ze,ya,yk,yl,zu,zt,zf,zq,zx,zy,za,zh,zl,z8,yn,zi,zd,zm,z6,zg,zk,zj,zp,yh,zr,yi,ym,yf,yg,yb,zn,ye,zo,yd,yc,yp,zb,z7,yj] at ev
 exact cw ev
theorem z1n (a : Spn) (x : Int) : yo Cω 93 [.agg a.e,.pref [.int .i64 x]] = some (.bool (a.t == x)) := pc (z84 Cω Lω a.t a.b a.c x) rfl
theorem z1m (a : Int) (x : Int) : yo Cω 95 [.int .i64 a,.pref [.int .i64 x]] = some (.bool (a == x)) := pc (z83 Cω Lω a x) rfl
theorem zyx (a : Spn) : x7 Tryz.prog 37 a.e 0 = some (.agg a.e) := by
 obtain ⟨t,b,c⟩ := a
 kernel_rfl
theorem z0s (l : List Spn) (x : Int) (hl : l.length < 4611686018427387904) : Lω 116 zbf 0 (um (l.map Spn.e) x (l.length : Nat) 0) [] =
  some (zgj (ja (fun a => a.t == x) l 0) (fun i _ => (.ret,mkS 19 [(4,.int .i64 (i : Nat))],[])) (.exit 0,mkS 19 [],[])) :=
 q8 (fun i => um (l.map Spn.e) x (l.length : Nat) (i : Nat)) [] l (fun a => a.t == x) (fun i _ => (.ret,mkS 19 [(4,.int .i64 (i : Nat))],[])) (.exit 0,mkS 19 [],[]) (fun i a hg hi => by
  have hs := z1n a x
  rw [zib]
  try simp only [Spn.e] at hs
  simp only [decide_eq_true_eq,Int.ofNat_lt,List.length_map,if_true,nn,true_and,Int.toNat_natCast,zb,hi,y7 hg,Spn.e,zw,ze,ya,yk,yl,zu,zt,zf,zq,zx,zy,za,zh,zl,z8,yn,zi,zd,zm,z6,zg,zk,zj,zp,yh,zr,yi,ym,yf,yg,yb,zn,ye,zo,yd,yc,yp,zb,z7,yj,hs,yr (show i < 4611686018427387904 by omega)]) (by rw [zib]; simp only [decide_eq_true_eq,Int.ofNat_lt,List.length_map,if_true,nn,true_and,Int.toNat_natCast,zb,Nat.lt_irrefl,if_false])
theorem z0t (l : List Spn) (x : Int) (hl : l.length < 4611686018427387904) : yo Cω 116 [.psl false (l.map Spn.e),.func 93 [.pref [.int .i64 x]]] = some (.int .i64 (zgj (ja (fun a => a.t == x) l 0) (fun i _ => ((i : Nat) : Int)) (-1))) := by
 have ev := zw6 Cω Lω (l.map Spn.e) x
 have lp := z0s l x hl
 rw [List.length_map,lp] at ev
 cases hq : ja (fun a => a.t == x) l 0 with
 | none =>
   rw [hq] at ev
   simp only [xv,zw,ze,ya,yk,yl,zu,zt,zf,zq,zx,zy,za,zh,zl,z8,yn,zi,zd,zm,z6,zg,zk,zj,zp,yh,zr,yi,ym,yf,yg,yb,zn,ye,zo,yd,yc,yp,zb,z7,yj,if_true] at ev
   exact pc ev rfl
 | some x =>
   rw [hq] at ev
   simp only [xg,zw,ze,ya,yk,yl,zu,zt,zf,zq,zx,zy,za,zh,zl,z8,yn,zi,zd,zm,z6,zg,zk,zj,zp,yh,zr,yi,ym,yf,yg,yb,zn,ye,zo,yd,yc,yp,zb,z7,yj,y4,y2,ne_eq,not_false_eq_true,Nat.reduceLT,Nat.reduceEqDiff] at ev
   exact pc ev rfl
theorem z3m (l : List Spn) (x : Int) (hl : l.length < 4611686018427387904) (j : Nat) (K : List Spn) (hj : j ≤ l.length) (hK : K.length < j) : Lω 92 ug 2 (uc  (K.length : Nat) (j : Nat)) [.made true 3 ((K ++ l.drop K.length).map Spn.e),.box true 3 [.int .i64 x]] =
  some (.exit 0,mkS 42 [(0,whole 0 3),(5,.int .i64 ((K ++ (l.drop j).filter fun a => !(a.t == x)).length : Nat))],[.made true 3 (((K ++ (l.drop j).filter fun a => !(a.t == x)) ++ l.drop (K ++ (l.drop j).filter fun a => !(a.t == x)).length).map Spn.e),.box true 3 [.int .i64 x]]) := by
 have := zpm (fun j (K : List Spn) => uc  (K.length : Nat) (j : Nat)) (fun _ K => [.made true 3 ((K ++ l.drop K.length).map Spn.e),.box true 3 [.int .i64 x]]) l (fun _ a K => .on (if (!(a.t == x)) = true then K ++ [a] else K))
  (fun K => (.exit 0,mkS 42 [(0,whole 0 3),(5,.int .i64 (K.length : Nat))],[.made true 3 ((K ++ l.drop K.length).map Spn.e),.box true 3 [.int .i64 x]])) (fun j K => K.length < j) (f := 92) (cd := ug) (n0 := 2)
  (fun i a K hg hi hK => by
   have hlen : ((K ++ l.drop K.length).map Spn.e).length = l.length := by rw [List.length_map,List.length_append,List.length_drop]; omega
   have hgi : ((K ++ l.drop K.length).map Spn.e)[i]? = some (Spn.e a) := by
    refine y7 ?_
    rw [List.getElem?_append_right (by omega),List.getElem?_drop,show K.length + (i - K.length) = i by omega]
    exact hg
   have hs := z1n a x
   try simp only [Spn.e] at hs
   have hpt := zyx a
   simp only [Spn.e] at hpt
   refine ⟨by split <;> (try simp only [List.length_append,List.length_cons,List.length_nil]) <;> omega,?_⟩
   rw [zj9]
   simp only [hlen,decide_eq_true_eq,Int.ofNat_lt,hi,if_true,nn,true_and,Int.toNat_natCast,hgi,zb,Spn.e,hpt,zw,ze,ya,yk,yl,zu,zt,zf,zq,zx,zy,za,zh,zl,z8,yn,zi,zd,zm,z6,zg,zk,zj,zp,yh,zr,yi,ym,yf,yg,yb,zn,ye,zo,yd,yc,yp,zb,z7,yj,hs,yr (show i < 4611686018427387904 by omega)]
   by_cases hp : (!(a.t == x)) = true
   ·rw [if_pos hp,if_pos hp,if_pos (by omega),if_pos (by omega),yr (by omega)]
    have hset : ((K ++ l.drop K.length).map Spn.e).set K.length (Spn.e a) = ((K ++ [a]) ++ l.drop (K ++ [a]).length).map Spn.e := by
     rw [← List.map_set]
     congr 1
     rw [List.set_append_right _ _ (Nat.le_refl _),Nat.sub_self,List.drop_eq_getElem_cons (by omega),List.set_cons_zero,List.append_assoc,List.length_append]
     rfl
    simp only [Spn.e] at hset
    rw [hset]
    simp only [List.length_append,List.length_cons,List.length_nil]
    try rfl
   ·rw [if_neg hp,if_neg hp])
  (fun K hK => by
   have hlen : ((K ++ l.drop K.length).map Spn.e).length = l.length := by rw [List.length_map,List.length_append,List.length_drop]; omega
   rw [zj9]
   simp only [hlen,decide_eq_true_eq,Nat.lt_irrefl,Int.ofNat_lt,if_false]) (l.length - j) j K (by omega) hK
 rw [this,up,k9]
theorem z3l (l : List Spn) (x : Int) (hl : l.length < 1073741824) : Cω 92 [whole 0 3,.func 93 [.ref 1 0 0]] [.made true 3 (l.map Spn.e),.box true 3 [.int .i64 x]] = some (whole 2 3,[.dead,.box true 3 [.int .i64 x],.made true 3 ((l.filter fun a => !(a.t == x)).map Spn.e)]) := by
 have ev := z0l Cω Lω  (l.map Spn.e) x
 have hx := z0t l x (by omega)
 simp only [hx,zw,ze,ya,yk,yl,zu,zt,zf,zq,zx,zy,za,zh,zl,z8,yn,zi,zd,zm,z6,zg,zk,zj,zp,yh,zr,yi,ym,yf,yg,yb,zn,ye,zo,yd,yc,yp,zb,z7,yj] at ev
 cases hq : ja (fun a => a.t == x) l 0 with
 | none =>
   rw [hq] at ev
   simp only [xv,beq_self_eq_true,if_true] at ev
   have hany := qi (p := fun a => a.t == x) l 0
   rw [hq] at hany
   have hf : l.filter (fun a => !(a.t == x)) = l := List.filter_eq_self.2 fun a ha => by
    have h9 : l.any (fun a => a.t == x) = false := hany.symm
    rw [List.any_eq_false] at h9
    have h10 := h9 a ha
    rw [Bool.not_eq_true] at h10
    have h11 : (a.t == x) = false := h10
    rw [h11]; rfl
   rw [hf]
   exact cw ev
 | some y =>
   obtain ⟨i,b⟩ := y
   obtain ⟨_,hi,hb,hpb,hbe⟩ := vl hq
   simp only [Nat.zero_add,Nat.sub_zero] at hi hb hbe
   rw [hq,xg] at ev
   simp only at ev
   rw [if_neg (by rw [beq_iff_eq]; omega)] at ev
   have hil : i < l.length := by omega
   have hK0 : (l.take i).length = i := by rw [List.length_take]; omega
   have lp := z3m l x (by omega) (i + 1) (l.take i) (by omega) (by omega)
   rw [hK0,List.take_append_drop] at lp
   have hfl : l.take i ++ (l.drop (i + 1)).filter (fun a => !(a.t == x)) = l.filter (fun a => !(a.t == x)) := by
    conv => rhs; rw [← List.take_append_drop i l,List.filter_append,List.drop_eq_getElem_cons hil]
    have e1 : (l.take i).filter (fun a => !(a.t == x)) = l.take i := List.filter_eq_self.2 fun a ha => by
     obtain ⟨k,hk⟩ := List.mem_iff_getElem?.1 ha
     have hk2 : k < i := by have := (List.getElem?_eq_some_iff.1 hk).1; omega
     rw [List.getElem?_take_of_lt hk2] at hk
     have h9 : (a.t == x) = false := hbe k a hk2 hk
     rw [h9]; rfl
    have e2 : l[i] = b := by rw [List.getElem?_eq_getElem hil] at hb; exact Option.some.inj hb
    rw [e1,e2,List.filter_cons_of_neg (by have h9 : (fun a : Spn => a.t == x) b = true := hpb; show ¬ ((!((fun a : Spn => a.t == x) b)) = true); rw [h9]; decide)]
   rw [hfl] at lp
   rw [yr (by omega),lp] at ev
   have hfle : (l.filter fun a => !(a.t == x)).length ≤ l.length := List.length_filter_le _ _
   have hlen : (((l.filter fun a => !(a.t == x)) ++ l.drop (l.filter fun a => !(a.t == x)).length).map Spn.e).length = l.length := by rw [List.length_map,List.length_append,List.length_drop]; omega
   have hlt : (((l.filter fun a => !(a.t == x)) ++ l.drop (l.filter fun a => !(a.t == x)).length).map Spn.e).take (l.filter fun a => !(a.t == x)).length = (l.filter fun a => !(a.t == x)).map Spn.e := by
    rw [List.map_append,List.take_append_of_le_length (by rw [List.length_map]; exact Nat.le_refl _),List.take_of_length_le (by rw [List.length_map]; exact Nat.le_refl _)]
   simp only [zw,ze,ya,yk,yl,zu,zt,zf,zq,zx,zy,za,zh,zl,z8,yn,zi,zd,zm,z6,zg,zk,zj,zp,yh,zr,yi,ym,yf,yg,yb,zn,ye,zo,yd,yc,yp,zb,z7,yj,y4,y2,ne_eq,not_false_eq_true,Nat.reduceLT,Nat.reduceEqDiff,if_true,zh2,hlen,hlt,Nat.le_refl,and_true,hfle] at ev
   have hd : (((l.filter fun a => !(a.t == x)) ++ l.drop (l.filter fun a => !(a.t == x)).length).map Spn.e).drop ((l.filter fun a => !(a.t == x)).length + (l.length - (l.filter fun a => !(a.t == x)).length)) = [] := List.drop_of_length_le (by rw [hlen]; omega)
   rw [hd,List.append_nil] at ev
   have hll : (List.map Spn.e (l.filter fun a => !(a.t == x)) ++ List.replicate (l.length - (l.filter fun a => !(a.t == x)).length) ([.int .i64 0,.int .i64 0,.int .i64 0] : List PV)).length = l.length := by rw [List.length_append,List.length_map,List.length_replicate]; omega
   rw [if_pos ⟨Nat.zero_le _,by rw [hll]; exact hfle⟩,Nat.sub_zero,List.take_append_of_le_length (by rw [List.length_map]; exact Nat.le_refl _),List.take_of_length_le (by rw [List.length_map]; exact Nat.le_refl _)] at ev
   exact cw ev
theorem z0y (l : List Int) (x : Int) (hl : l.length < 4611686018427387904) : Lω 138 zbc 0 (uj (l.map ie) x (l.length : Nat) 0) [] =
  some (zgj (ja (fun a => a == x) l 0) (fun i _ => (.ret,mkS 19 [(4,.int .i64 (i : Nat))],[])) (.exit 0,mkS 19 [],[])) :=
 q8 (fun i => uj (l.map ie) x (l.length : Nat) (i : Nat)) [] l (fun a => a == x) (fun i _ => (.ret,mkS 19 [(4,.int .i64 (i : Nat))],[])) (.exit 0,mkS 19 [],[]) (fun i a hg hi => by
  have hs := z1m a x
  rw [zh8]
  try simp only [ie] at hs
  simp only [decide_eq_true_eq,Int.ofNat_lt,List.length_map,if_true,nn,true_and,Int.toNat_natCast,zb,hi,y7 hg,ie,zw,ze,ya,yk,yl,zu,zt,zf,zq,zx,zy,za,zh,zl,z8,yn,zi,zd,zm,z6,zg,zk,zj,zp,yh,zr,yi,ym,yf,yg,yb,zn,ye,zo,yd,yc,yp,zb,z7,yj,hs,yr (show i < 4611686018427387904 by omega)]) (by rw [zh8]; simp only [decide_eq_true_eq,Int.ofNat_lt,List.length_map,if_true,nn,true_and,Int.toNat_natCast,zb,Nat.lt_irrefl,if_false])
theorem z0z (l : List Int) (x : Int) (hl : l.length < 4611686018427387904) : yo Cω 138 [.psl false (l.map ie),.func 95 [.pref [.int .i64 x]]] = some (.int .i64 (zgj (ja (fun a => a == x) l 0) (fun i _ => ((i : Nat) : Int)) (-1))) := by
 have ev := zw3 Cω Lω (l.map ie) x
 have lp := z0y l x hl
 rw [List.length_map,lp] at ev
 cases hq : ja (fun a => a == x) l 0 with
 | none =>
   rw [hq] at ev
   simp only [xv,zw,ze,ya,yk,yl,zu,zt,zf,zq,zx,zy,za,zh,zl,z8,yn,zi,zd,zm,z6,zg,zk,zj,zp,yh,zr,yi,ym,yf,yg,yb,zn,ye,zo,yd,yc,yp,zb,z7,yj,if_true] at ev
   exact pc ev rfl
 | some x =>
   rw [hq] at ev
   simp only [xg,zw,ze,ya,yk,yl,zu,zt,zf,zq,zx,zy,za,zh,zl,z8,yn,zi,zd,zm,z6,zg,zk,zj,zp,yh,zr,yi,ym,yf,yg,yb,zn,ye,zo,yd,yc,yp,zb,z7,yj,y4,y2,ne_eq,not_false_eq_true,Nat.reduceLT,Nat.reduceEqDiff] at ev
   exact pc ev rfl
theorem z3s (l : List Int) (x : Int) (hl : l.length < 4611686018427387904) (j : Nat) (K : List Int) (hj : j ≤ l.length) (hK : K.length < j) : Lω 94 uf 2 (ub  (K.length : Nat) (j : Nat)) [.made true 1 ((K ++ l.drop K.length).map ie),.box true 3 [.int .i64 x]] =
  some (.exit 0,mkS 42 [(0,whole 0 1),(5,.int .i64 ((K ++ (l.drop j).filter fun a => !(a == x)).length : Nat))],[.made true 1 (((K ++ (l.drop j).filter fun a => !(a == x)) ++ l.drop (K ++ (l.drop j).filter fun a => !(a == x)).length).map ie),.box true 3 [.int .i64 x]]) := by
 have := zpm (fun j (K : List Int) => ub  (K.length : Nat) (j : Nat)) (fun _ K => [.made true 1 ((K ++ l.drop K.length).map ie),.box true 3 [.int .i64 x]]) l (fun _ a K => .on (if (!(a == x)) = true then K ++ [a] else K))
  (fun K => (.exit 0,mkS 42 [(0,whole 0 1),(5,.int .i64 (K.length : Nat))],[.made true 1 ((K ++ l.drop K.length).map ie),.box true 3 [.int .i64 x]])) (fun j K => K.length < j) (f := 94) (cd := uf) (n0 := 2)
  (fun i a K hg hi hK => by
   have hlen : ((K ++ l.drop K.length).map ie).length = l.length := by rw [List.length_map,List.length_append,List.length_drop]; omega
   have hgi : ((K ++ l.drop K.length).map ie)[i]? = some (ie a) := by
    refine y7 ?_
    rw [List.getElem?_append_right (by omega),List.getElem?_drop,show K.length + (i - K.length) = i by omega]
    exact hg
   have hs := z1m a x
   try simp only [ie] at hs
   have hpt := zyy a
   simp only [ie] at hpt
   refine ⟨by split <;> (try simp only [List.length_append,List.length_cons,List.length_nil]) <;> omega,?_⟩
   rw [zj8]
   simp only [hlen,decide_eq_true_eq,Int.ofNat_lt,hi,if_true,nn,true_and,Int.toNat_natCast,hgi,zb,ie,hpt,zw,ze,ya,yk,yl,zu,zt,zf,zq,zx,zy,za,zh,zl,z8,yn,zi,zd,zm,z6,zg,zk,zj,zp,yh,zr,yi,ym,yf,yg,yb,zn,ye,zo,yd,yc,yp,zb,z7,yj,hs,yr (show i < 4611686018427387904 by omega)]
   by_cases hp : (!(a == x)) = true
   ·rw [if_pos hp,if_pos hp,if_pos (by omega),if_pos (by omega),yr (by omega)]
    have hset : ((K ++ l.drop K.length).map ie).set K.length (ie a) = ((K ++ [a]) ++ l.drop (K ++ [a]).length).map ie := by
     rw [← List.map_set]
     congr 1
     rw [List.set_append_right _ _ (Nat.le_refl _),Nat.sub_self,List.drop_eq_getElem_cons (by omega),List.set_cons_zero,List.append_assoc,List.length_append]
     rfl
    simp only [ie] at hset
    rw [hset]
    simp only [List.length_append,List.length_cons,List.length_nil]
    try rfl
   ·rw [if_neg hp,if_neg hp])
  (fun K hK => by
   have hlen : ((K ++ l.drop K.length).map ie).length = l.length := by rw [List.length_map,List.length_append,List.length_drop]; omega
   rw [zj8]
   simp only [hlen,decide_eq_true_eq,Nat.lt_irrefl,Int.ofNat_lt,if_false]) (l.length - j) j K (by omega) hK
 rw [this,up,k9]
theorem z3r (l : List Int) (x : Int) (hl : l.length < 1073741824) : Cω 94 [whole 0 1,.func 95 [.ref 1 0 0]] [.made true 1 (l.map ie),.box true 3 [.int .i64 x]] = some (whole 2 1,[.dead,.box true 3 [.int .i64 x],.made true 1 ((l.filter fun a => !(a == x)).map ie)]) := by
 have ev := z0k Cω Lω  (l.map ie) x
 have hx := z0z l x (by omega)
 simp only [hx,zw,ze,ya,yk,yl,zu,zt,zf,zq,zx,zy,za,zh,zl,z8,yn,zi,zd,zm,z6,zg,zk,zj,zp,yh,zr,yi,ym,yf,yg,yb,zn,ye,zo,yd,yc,yp,zb,z7,yj] at ev
 cases hq : ja (fun a => a == x) l 0 with
 | none =>
   rw [hq] at ev
   simp only [xv,beq_self_eq_true,if_true] at ev
   have hany := qi (p := fun a => a == x) l 0
   rw [hq] at hany
   have hf : l.filter (fun a => !(a == x)) = l := List.filter_eq_self.2 fun a ha => by
    have h9 : l.any (fun a => a == x) = false := hany.symm
    rw [List.any_eq_false] at h9
    have h10 := h9 a ha
    rw [Bool.not_eq_true] at h10
    have h11 : (a == x) = false := h10
    rw [h11]; rfl
   rw [hf]
   exact cw ev
 | some y =>
   obtain ⟨i,b⟩ := y
   obtain ⟨_,hi,hb,hpb,hbe⟩ := vl hq
   simp only [Nat.zero_add,Nat.sub_zero] at hi hb hbe
   rw [hq,xg] at ev
   simp only at ev
   rw [if_neg (by rw [beq_iff_eq]; omega)] at ev
   have hil : i < l.length := by omega
   have hK0 : (l.take i).length = i := by rw [List.length_take]; omega
   have lp := z3s l x (by omega) (i + 1) (l.take i) (by omega) (by omega)
   rw [hK0,List.take_append_drop] at lp
   have hfl : l.take i ++ (l.drop (i + 1)).filter (fun a => !(a == x)) = l.filter (fun a => !(a == x)) := by
    conv => rhs; rw [← List.take_append_drop i l,List.filter_append,List.drop_eq_getElem_cons hil]
    have e1 : (l.take i).filter (fun a => !(a == x)) = l.take i := List.filter_eq_self.2 fun a ha => by
     obtain ⟨k,hk⟩ := List.mem_iff_getElem?.1 ha
     have hk2 : k < i := by have := (List.getElem?_eq_some_iff.1 hk).1; omega
     rw [List.getElem?_take_of_lt hk2] at hk
     have h9 : (a == x) = false := hbe k a hk2 hk
     rw [h9]; rfl
    have e2 : l[i] = b := by rw [List.getElem?_eq_getElem hil] at hb; exact Option.some.inj hb
    rw [e1,e2,List.filter_cons_of_neg (by have h9 : (fun a : Int => a == x) b = true := hpb; show ¬ ((!((fun a : Int => a == x) b)) = true); rw [h9]; decide)]
   rw [hfl] at lp
   rw [yr (by omega),lp] at ev
   have hfle : (l.filter fun a => !(a == x)).length ≤ l.length := List.length_filter_le _ _
   have hlen : (((l.filter fun a => !(a == x)) ++ l.drop (l.filter fun a => !(a == x)).length).map ie).length = l.length := by rw [List.length_map,List.length_append,List.length_drop]; omega
   have hlt : (((l.filter fun a => !(a == x)) ++ l.drop (l.filter fun a => !(a == x)).length).map ie).take (l.filter fun a => !(a == x)).length = (l.filter fun a => !(a == x)).map ie := by
    rw [List.map_append,List.take_append_of_le_length (by rw [List.length_map]; exact Nat.le_refl _),List.take_of_length_le (by rw [List.length_map]; exact Nat.le_refl _)]
   simp only [zw,ze,ya,yk,yl,zu,zt,zf,zq,zx,zy,za,zh,zl,z8,yn,zi,zd,zm,z6,zg,zk,zj,zp,yh,zr,yi,ym,yf,yg,yb,zn,ye,zo,yd,yc,yp,zb,z7,yj,y4,y2,ne_eq,not_false_eq_true,Nat.reduceLT,Nat.reduceEqDiff,if_true,zh2,hlen,hlt,Nat.le_refl,and_true,hfle] at ev
   have hd : (((l.filter fun a => !(a == x)) ++ l.drop (l.filter fun a => !(a == x)).length).map ie).drop ((l.filter fun a => !(a == x)).length + (l.length - (l.filter fun a => !(a == x)).length)) = [] := List.drop_of_length_le (by rw [hlen]; omega)
   rw [hd,List.append_nil] at ev
   have hll : (List.map ie (l.filter fun a => !(a == x)) ++ List.replicate (l.length - (l.filter fun a => !(a == x)).length) ([.int .i64 0] : List PV)).length = l.length := by rw [List.length_append,List.length_map,List.length_replicate]; omega
   rw [if_pos ⟨Nat.zero_le _,by rw [hll]; exact hfle⟩,Nat.sub_zero,List.take_append_of_le_length (by rw [List.length_map]; exact Nat.le_refl _),List.take_of_length_le (by rw [List.length_map]; exact Nat.le_refl _)] at ev
   exact cw ev
theorem z2h (c : Ct) (t : Int) (hc : c.Sm) : Cω 34 [c.w 0 1,.int .i64 t] c.o = some ((rmC c t).w 2 3,[.dead,.dead] ++ (rmC c t).o) := by
 have ev := z9v Cω Lω c.k (c.l.map Lk.e) (c.e.map Ed.e) t (c.s.map Spn.e) (c.d.map ie)
 have i1 := z8c c t hc
 unfold Ct.w Ct.o at i1
 rw [i1] at ev
 simp only [zw,ze,ya,yk,yl,zu,zt,zf,zq,zx,zy,za,zh,zl,z8,yn,zi,zd,zm,z6,zg,zk,zj,zp,yh,zr,yi,ym,yf,yg,yb,zn,ye,zo,yd,yc,yp,zb,z7,yj] at ev
 have i2 := z3l c.s t (show c.s.length < 1073741824 by have := hc.s; omega)
 have i3 := z3r c.d t (show c.d.length < 1073741824 by have := hc.d; omega)
 have e1 : (drC c t).s = c.s := rfl
 have e2 : (drC c t).d = c.d := rfl
 rw [e1,e2,i2] at ev
 simp only [zw,ze,ya,yk,yl,zu,zt,zf,zq,zx,zy,za,zh,zl,z8,yn,zi,zd,zm,z6,zg,zk,zj,zp,yh,zr,yi,ym,yf,yg,yb,zn,ye,zo,yd,yc,yp,zb,z7,yj] at ev
 rw [i3] at ev
 simp only [zw,ze,ya,yk,yl,zu,zt,zf,zq,zx,zy,za,zh,zl,z8,yn,zi,zd,zm,z6,zg,zk,zj,zp,yh,zr,yi,ym,yf,yg,yb,zn,ye,zo,yd,yc,yp,zb,z7,yj] at ev
 exact cw ev
def zh3 (c : Ct) (s a : Spn) : Bool := (a.c == 0) && (!dm c a.t && decide (s.c > a.b))
def nrC (c : Ct) (s : Spn) : Bool := c.s.any fun a => zh3 c s a
theorem z2k (a : Spn) (c : Ct) (s : Spn) (hd : c.d.length < 100000) : yo Cω 135 [.agg a.e,.pref c.c,.pref s.e] = some (.bool (zh3 c s a)) := by
 have ev := z65 Cω Lω a.t a.b a.c c.k (c.s.map Spn.e) (c.d.map ie) (c.l.map Lk.e) (c.e.map Ed.e) s.t s.b s.c
 have h := z2n c a.t hd
 unfold Ct.c at h
 simp only [h,zw,ze,ya,yk,yl,zu,zt,zf,zq,zx,zy,za,zh,zl,z8,yn,zi,zd,zm,z6,zg,zk,zj,zp,yh,zr,yi,ym,yf,yg,yb,zn,ye,zo,yd,yc,yp,zb,z7,yj] at ev
 unfold zh3
 cases hq : (a.c == 0) with
 | false => rw [hq] at ev; exact pc ev rfl
 | true =>
   rw [hq] at ev
   simp only [if_true,Bool.true_and] at ev ⊢
   cases hr : dm c a.t with
   | true => rw [hr] at ev; exact pc ev rfl
   | false => rw [hr] at ev; exact pc ev rfl
theorem zz0 (l : List Spn) (c : Ct) (s : Spn) (hd : c.d.length < 100000) (hl : l.length < 4611686018427387904) : Lω 116 zaf 0 (vz (l.map Spn.e) c.k (c.s.map Spn.e) (c.d.map ie) (c.l.map Lk.e) (c.e.map Ed.e) s.t s.b s.c (l.length : Nat) 0) [] =
  some (zgj (ja (fun a => zh3 c s a) l 0) (fun i _ => (.ret,mkS 19 [(4,.int .i64 (i : Nat))],[])) (.exit 0,mkS 19 [],[])) :=
 q8 (fun i => vz (l.map Spn.e) c.k (c.s.map Spn.e) (c.d.map ie) (c.l.map Lk.e) (c.e.map Ed.e) s.t s.b s.c (l.length : Nat) (i : Nat)) [] l (fun a => zh3 c s a) (fun i _ => (.ret,mkS 19 [(4,.int .i64 (i : Nat))],[])) (.exit 0,mkS 19 [],[]) (fun i a hg hi => by
  have hs := z2k a c s hd
  rw [zf6]
  try simp only [Spn.e,Ct.c] at hs
  simp only [decide_eq_true_eq,Int.ofNat_lt,List.length_map,if_true,nn,true_and,Int.toNat_natCast,zb,hi,y7 hg,Spn.e,Ct.c,zw,ze,ya,yk,yl,zu,zt,zf,zq,zx,zy,za,zh,zl,z8,yn,zi,zd,zm,z6,zg,zk,zj,zp,yh,zr,yi,ym,yf,yg,yb,zn,ye,zo,yd,yc,yp,zb,z7,yj,hs,yr (show i < 4611686018427387904 by omega)]) (by rw [zf6]; simp only [decide_eq_true_eq,Int.ofNat_lt,List.length_map,if_true,nn,true_and,Int.toNat_natCast,zb,Nat.lt_irrefl,if_false])
theorem zz1 (l : List Spn) (c : Ct) (s : Spn) (hd : c.d.length < 100000) (hl : l.length < 4611686018427387904) : yo Cω 116 [.psl false (l.map Spn.e),.func 135 [.pref [.int .i64 c.k,.psl false (c.s.map Spn.e),.psl false (c.d.map ie),.psl false (c.l.map Lk.e),.psl false (c.e.map Ed.e)],.pref [.int .i64 s.t,.int .i64 s.b,.int .i64 s.c]]] = some (.int .i64 (zgj (ja (fun a => zh3 c s a) l 0) (fun i _ => ((i : Nat) : Int)) (-1))) := by
 have ev := ztl Cω Lω (l.map Spn.e) c.k (c.s.map Spn.e) (c.d.map ie) (c.l.map Lk.e) (c.e.map Ed.e) s.t s.b s.c
 have lp := zz0 l c s hd hl
 rw [List.length_map,lp] at ev
 cases hq : ja (fun a => zh3 c s a) l 0 with
 | none =>
   rw [hq] at ev
   simp only [xv,zw,ze,ya,yk,yl,zu,zt,zf,zq,zx,zy,za,zh,zl,z8,yn,zi,zd,zm,z6,zg,zk,zj,zp,yh,zr,yi,ym,yf,yg,yb,zn,ye,zo,yd,yc,yp,zb,z7,yj,if_true] at ev
   exact pc ev rfl
 | some x =>
   rw [hq] at ev
   simp only [xg,zw,ze,ya,yk,yl,zu,zt,zf,zq,zx,zy,za,zh,zl,z8,yn,zi,zd,zm,z6,zg,zk,zj,zp,yh,zr,yi,ym,yf,yg,yb,zn,ye,zo,yd,yc,yp,zb,z7,yj,y4,y2,ne_eq,not_false_eq_true,Nat.reduceLT,Nat.reduceEqDiff] at ev
   exact pc ev rfl
theorem zz2 (l : List Spn) (c : Ct) (s : Spn) (hd : c.d.length < 100000) (hl : l.length < 4611686018427387904) : yo Cω 57 [.psl false (l.map Spn.e),.func 135 [.pref [.int .i64 c.k,.psl false (c.s.map Spn.e),.psl false (c.d.map ie),.psl false (c.l.map Lk.e),.psl false (c.e.map Ed.e)],.pref [.int .i64 s.t,.int .i64 s.b,.int .i64 s.c]]] = some (.bool (l.any fun a => zh3 c s a)) := by
 have ev := zw2 Cω Lω (l.map Spn.e) c.k (c.s.map Spn.e) (c.d.map ie) (c.l.map Lk.e) (c.e.map Ed.e) s.t s.b s.c
 rw [zz1 l c s hd hl] at ev
 simp only [zw,ze,ya,yk,yl,zu,zt,zf,zq,zx,zy,za,zh,zl,z8,yn,zi,zd,zm,z6,zg,zk,zj,zp,yh,zr,yi,ym,yf,yg,yb,zn,ye,zo,yd,yc,yp,zb,z7,yj] at ev
 have hany := qi (p := fun a => zh3 c s a) l 0
 rw [← hany]
 cases hq : ja (fun a => zh3 c s a) l 0 with
 | none =>
   rw [hq] at ev
   exact pc ev rfl
 | some y =>
   rw [hq] at ev
   have h0 : decide (((y.1 : Nat) : Int) ≥ 0) = true := by rw [decide_eq_true_eq]; omega
   simp only [xg,h0] at ev
   exact pc ev rfl
theorem z44 (c : Ct) (s : Spn) (hc : c.Sm) : yo Cω 89 [.agg c.c,.agg s.e] = some (.bool (nrC c s)) := by
 have ev := z86 Cω Lω c.k (c.s.map Spn.e) (c.d.map ie) (c.l.map Lk.e) (c.e.map Ed.e) s.t s.b s.c
 rw [zz2 c.s c s hc.d (by have := hc.s; omega)] at ev
 simp only [zw,ze,ya,yk,yl,zu,zt,zf,zq,zx,zy,za,zh,zl,z8,yn,zi,zd,zm,z6,zg,zk,zj,zp,yh,zr,yi,ym,yf,yg,yb,zn,ye,zo,yd,yc,yp,zb,z7,yj] at ev
 exact pc ev rfl
def bhG (c : Ct) (t : Int) : Nat → Ed → Spn → Spn := fun _ x f => if (x.f == t && ((spn c.s x.t).2 && (decide ((spn c.s x.t).1.c > 0) && (f.t == 0 || decide ((spn c.s x.t).1.c < f.c))))) = true then (spn c.s x.t).1 else f
def bhC (c : Ct) (t : Int) : Int := (y5 (bhG c t) c.e 0 ⟨0,0,0⟩).t
theorem zyl (c : Ct) (t : Int) (hc : c.Sm) (hm : qq c.s = true) : yo Cω 90 [.agg c.c,.int .i64 t] = some (.int .i64 (bhC c t)) := by
 have ev := z85 Cω Lω c.k (c.s.map Spn.e) (c.d.map ie) (c.l.map Lk.e) (c.e.map Ed.e) t
 have lp : Lω 90 zba 0 (zam t (c.e.map Ed.e) (c.e.length : Nat) 0) [.box true 28 [.int .i64 c.k,.psl false (c.s.map Spn.e),.psl false (c.d.map ie),.psl false (c.l.map Lk.e),.psl false (c.e.map Ed.e)],.box true 37 [.int .i64 0,.int .i64 0,.int .i64 0]] = _ :=
  ji (fun i (f : Spn) => zam t (c.e.map Ed.e) (c.e.length : Nat) (i : Nat)) (fun _ f => [.box true 28 [.int .i64 c.k,.psl false (c.s.map Spn.e),.psl false (c.d.map ie),.psl false (c.l.map Lk.e),.psl false (c.e.map Ed.e)],.box true 37 [.int .i64 f.t,.int .i64 f.b,.int .i64 f.c]]) c.e (bhG c t)
   (fun f => (.exit 0,mkS 64 [(5,.ref 0 0 0)],[.box true 37 [.int .i64 f.t,.int .i64 f.b,.int .i64 f.c]])) (fun _ _ => True) (fun i x f hg hi _ => by
    refine ⟨trivial,?_⟩
    have ha := z2p c x.t hc.s hm
    unfold Ct.c at ha
    have hdi : decide (((i : Nat) : Int) < ((c.e.length : Nat) : Int)) = true := by rw [decide_eq_true_eq]; omega
    rw [zvs]
    simp only [hdi,nn,Int.toNat_natCast,zb,y7 hg,Ed.e,zw,ze,ya,yk,yl,zu,zt,zf,zq,zx,zy,za,zh,zl,z8,yn,zi,zd,zm,z6,zg,zk,zj,zp,yh,zr,yi,ym,yf,yg,yb,zn,ye,zo,yd,yc,yp,zb,z7,yj,yr (show i < 4611686018427387904 by have := hc.e; omega),if_true,ha]
    unfold bhG
    cases h1 : (x.f == t) with
    | false => rfl
    | true =>
      simp only [if_true,Bool.true_and]
      cases h2 : (spn c.s x.t).2 with
      | false => rfl
      | true =>
        simp only [if_true,Bool.true_and,y7 (zbp hm h2),Spn.e,zw,ze,ya,yk,yl,zu,zt,zf,zq,zx,zy,za,zh,zl,z8,yn,zi,zd,zm,z6,zg,zk,zj,zp,yh,zr,yi,ym,yf,yg,yb,zn,ye,zo,yd,yc,yp,zb,z7,yj]
        cases h3 : decide ((spn c.s x.t).1.c > 0) with
        | false => rfl
        | true =>
          simp only [if_true,Bool.true_and]
          cases h4 : (f.t == 0) with
          | true => rfl
          | false =>
            simp only [Bool.false_eq_true,if_false,Bool.false_or]
            cases h5 : decide ((spn c.s x.t).1.c < f.c) with
            | false => rfl
            | true => rfl) (fun f _ => by rw [zvs]; simp only [Int.lt_irrefl,decide_false,Bool.false_eq_true,if_false]) ⟨0,0,0⟩ trivial
 rw [List.length_map,lp] at ev
 simp only [zw,ze,ya,yk,yl,zu,zt,zf,zq,zx,zy,za,zh,zl,z8,yn,zi,zd,zm,z6,zg,zk,zj,zp,yh,zr,yi,ym,yf,yg,yb,zn,ye,zo,yd,yc,yp,zb,z7,yj,y4,y2,ne_eq,not_false_eq_true,Nat.reduceLT,Nat.reduceEqDiff,if_true] at ev
 exact pc ev rfl
end Go.Pvm.S
