/- Part of the proof: locks: alike by the document; who holds a key. -/
import Derived.Test.YtjfgklgcbogejaaGreatSirK
set_option linter.unusedSimpArgs false
set_option linter.unusedVariables false
set_option maxRecDepth 100000
namespace Go.Pvm.S
open Go.Pvm Go.Proofs
theorem zsp (a b : List Lk) (hl : a.length < 1000000) : yo Cω 45 [.psl false (a.map Lk.e),.psl false (b.map Lk.e)] = some (.bool (decide (a = b))) := by
 have ev := z9l Cω Lω (a.map Lk.e) (b.map Lk.e)
 rw [List.length_map,List.length_map] at ev
 by_cases h : a.length = b.length
 ·rw [if_neg (by rw [zpg]; exact fun e => e h)] at ev
  have lp : Lω 45 zlf 0 (zhi (a.map Lk.e) (b.map Lk.e) 0) [] = _ :=
   uu (fun i => zhi (a.map Lk.e) (b.map Lk.e) (i : Nat)) [] a (fun i x => decide (b[i]? = some x)) (.ret,mkS 68 [(4,.bool false)],[]) (.exit 0,mkS 68 [],[]) (fun i x hg hi => by
    have hb : b[i]? = some b[i] := List.getElem?_eq_getElem (by omega)
    have hm := y7 (f := Lk.e) hb
    have hs := z2j x.q (b[i]).q
    have hdi : decide (((i : Nat) : Int) < (((a.map Lk.e).length : Nat) : Int)) = true := by rw [decide_eq_true_eq,List.length_map]; omega
    simp only [Lk.e] at hm
    rw [zv1]
    simp only [hdi,nn,Int.toNat_natCast,zb,y7 hg,hm,Lk.e,zw,ze,ya,yk,yl,zu,zt,zf,zq,zx,zy,za,zh,zl,z8,yn,zi,zd,zm,z6,zg,zk,zj,zp,yh,zr,yi,ym,yf,yg,yb,zn,ye,zo,yd,yc,yp,zb,z7,yj,yr (show i < 4611686018427387904 by omega),hs,if_true,hb]
    clear hs hm
    by_cases hx : x = b[i]
    ·subst hx
     simp only [bne_self_eq_false,beq_self_eq_true,Bool.not_true,Bool.false_eq_true,if_false,decide_true,if_true]
    ·have hx' : ¬ b[i] = x := fun e => hx e.symm
     simp only [hx',Option.some.injEq,decide_false,Bool.false_eq_true,if_false]
     by_cases e1 : x.t = (b[i]).t
     ·rw [if_neg (by rw [bne_iff_ne]; exact fun e => e e1)]
      by_cases e2 : x.k = (b[i]).k
      ·rw [if_neg (by rw [bne_iff_ne]; exact fun e => e e2)]
       by_cases e3 : x.p = (b[i]).p
       ·rw [if_neg (by rw [bne_iff_ne]; exact fun e => e e3)]
        have e4 : ¬ x.q = (b[i]).q := fun e4 => hx (Lk.ext'.2 ⟨e1,e2,e3,e4⟩)
        rw [beq_eq_false_iff_ne.2 e4,if_pos (by decide)]
       ·rw [if_pos (by rw [bne_iff_ne]; exact e3)]
      ·rw [if_pos (by rw [bne_iff_ne]; exact e2)]
     ·rw [if_pos (by rw [bne_iff_ne]; exact e1)]) (by rw [zv1]; simp only [List.length_map,Int.lt_irrefl,decide_false,Bool.false_eq_true,if_false])
  rw [lp,zw8 h] at ev
  by_cases h2 : a = b
  ·simp only [h2,decide_true,if_true,zw,ze,ya,yk,yl,zu,zt,zf,zq,zx,zy,za,zh,zl,z8,yn,zi,zd,zm,z6,zg,zk,zj,zp,yh,zr,yi,ym,yf,yg,yb,zn,ye,zo,yd,yc,yp,zb,z7,yj] at ev ⊢
   exact pc ev rfl
  ·simp only [h2,decide_false,Bool.false_eq_true,if_false,zw,ze,ya,yk,yl,zu,zt,zf,zq,zx,zy,za,zh,zl,z8,yn,zi,zd,zm,z6,zg,zk,zj,zp,yh,zr,yi,ym,yf,yg,yb,zn,ye,zo,yd,yc,yp,zb,z7,yj,y4,y2,ne_eq,not_false_eq_true,Nat.reduceLT,Nat.reduceEqDiff] at ev ⊢
   exact pc ev rfl
 ·rw [if_pos (by rw [zpg]; exact h)] at ev
  have h2 : ¬ a = b := fun e => h (by rw [e])
  rw [decide_eq_false h2]
  exact pc ev rfl
theorem zo0 (l : List Int) (n : Int) (hl : l.length < 1000000) : yo Cω 88 [.psl false (l.map ie),.int .i64 n] = some (.bool (l.any fun a => n == a)) := by
 have e1 := z66 Cω Lω (l.map ie) n
 have lp : Lω 134 zg1 0 (zd1 (l.map ie) n (l.length : Nat) 0) [] = _ :=
  q8 (fun i => zd1 (l.map ie) n (l.length : Nat) (i : Nat)) [] l (fun a => n == a) (fun i _ => (.ret,mkS 19 [(4,.int .i64 (i : Nat))],[])) (.exit 0,mkS 19 [],[]) (fun i a hg hi => by
   have hdi : decide (((i : Nat) : Int) < ((l.length : Nat) : Int)) = true := by rw [decide_eq_true_eq]; omega
   rw [zrh]
   simp only [hdi,nn,Int.toNat_natCast,zb,y7 hg,ie,zw,ze,ya,yk,yl,zu,zt,zf,zq,zx,zy,za,zh,zl,z8,yn,zi,zd,zm,z6,zg,zk,zj,zp,yh,zr,yi,ym,yf,yg,yb,zn,ye,zo,yd,yc,yp,zb,z7,yj,yr (show i < 4611686018427387904 by omega),if_true]) (by rw [zrh]; simp only [Int.lt_irrefl,decide_false,Bool.false_eq_true,if_false])
 have ev := z87 Cω Lω (l.map ie) n
 rw [List.length_map,lp] at e1
 rw [← qi _ 0]
 cases hq : ja (fun a : Int => n == a) l 0 with
 | none =>
   rw [hq] at e1
   simp only [xv,zw,ze,ya,yk,yl,zu,zt,zf,zq,zx,zy,za,zh,zl,z8,yn,zi,zd,zm,z6,zg,zk,zj,zp,yh,zr,yi,ym,yf,yg,yb,zn,ye,zo,yd,yc,yp,zb,z7,yj,if_true] at e1
   have h9 : yo Cω 134 [.psl false (l.map ie),.int .i64 n] = some (.int .i64 (-1)) := pc e1 rfl
   rw [h9] at ev
   exact pc ev rfl
 | some y =>
   rw [hq] at e1
   simp only [xg,zw,ze,ya,yk,yl,zu,zt,zf,zq,zx,zy,za,zh,zl,z8,yn,zi,zd,zm,z6,zg,zk,zj,zp,yh,zr,yi,ym,yf,yg,yb,zn,ye,zo,yd,yc,yp,zb,z7,yj,y4,y2,ne_eq,not_false_eq_true,Nat.reduceLT,Nat.reduceEqDiff] at e1
   have h9 : yo Cω 134 [.psl false (l.map ie),.int .i64 n] = some (.int .i64 (y.1 : Nat)) := pc e1 rfl
   rw [h9] at ev
   simp only [zw,ze,ya,yk,yl,zu,zt,zf,zq,zx,zy,za,zh,zl,z8,yn,zi,zd,zm,z6,zg,zk,zj,zp,yh,zr,yi,ym,yf,yg,yb,zn,ye,zo,yd,yc,yp,zb,z7,yj,decide_eq_true (nn y.1)] at ev
   exact pc ev rfl
end Go.Pvm.S
