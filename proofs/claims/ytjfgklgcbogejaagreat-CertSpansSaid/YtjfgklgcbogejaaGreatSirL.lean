/- Part of the proof: locks: alike by the document; who holds a key. -/
import Derived.Test.YtjfgklgcbogejaaGreatSirK
set_option linter.unusedSimpArgs false
set_option linter.unusedVariables false
set_option maxRecDepth 100000
namespace Go.Pvm.S
open Go.Pvm Go.Proofs
theorem z5k (l : List Int) (n : Int) (hl : l.length < 1000000) : yn Cω 11 [.psl false (l.map ie),.int .i64 n] = some (.bool (l.any fun a => a == n)) := by
 have ev := z68 Cω Lω (l.map ie) n
 have lp : Lω 11 zko 0 (zg2 (l.map ie) n 0) [] = _ :=
  qr (fun i => zg2 (l.map ie) n (i : Nat)) [] l (fun a => a == n) (fun _ _ => (.ret,mkS 18 [(4,.bool true)],[])) (.exit 0,mkS 18 [],[]) (fun i a hg hi => by
   have hdi : decide (((i : Nat) : Int) < (((l.map ie).length : Nat) : Int)) = true := by rw [decide_eq_true_eq,List.length_map]; omega
   rw [zun]
   simp only [hdi,nn,Int.toNat_natCast,zb,y9 hg,ie,zw,ze,z8,yj,yk,zu,zt,zf,zq,zx,zy,za,zh,zl,z7,ym,zi,zd,zm,zz,zg,zk,zj,zp,yg,zr,yh,yl,ye,yf,ya,zn,yd,zo,yc,yb,yp,zb,z6,yi,yr (show i < 4611686018427387904 by omega),if_true]) (by rw [zun]; simp only [List.length_map,Int.lt_irrefl,decide_false,Bool.false_eq_true,if_false])
 rw [lp] at ev
 rw [← jz _ 0]
 cases hq : x7 (fun a : Int => a == n) l 0 with
 | none =>
   rw [hq] at ev
   simp only [xq,zw,ze,z8,yj,yk,zu,zt,zf,zq,zx,zy,za,zh,zl,z7,ym,zi,zd,zm,zz,zg,zk,zj,zp,yg,zr,yh,yl,ye,yf,ya,zn,yd,zo,yc,yb,yp,zb,z6,yi,if_true] at ev
   exact pc ev rfl
 | some y =>
   rw [hq] at ev
   simp only [xc,zw,ze,z8,yj,yk,zu,zt,zf,zq,zx,zy,za,zh,zl,z7,ym,zi,zd,zm,zz,zg,zk,zj,zp,yg,zr,yh,yl,ye,yf,ya,zn,yd,zo,yc,yb,yp,zb,z6,yi,y3,yz,ne_eq,not_false_eq_true,Nat.reduceLT,Nat.reduceEqDiff] at ev
   exact pc ev rfl
theorem zny (l : List Int) (n : Int) (hl : l.length < 1000000) : yn Cω 88 [.psl false (l.map ie),.int .i64 n] = some (.bool (l.any fun a => n == a)) := by
 have e1 := z4h Cω Lω (l.map ie) n
 have lp : Lω 134 zgo 0 (zdk (l.map ie) n (l.length : Nat) 0) [] = _ :=
  qr (fun i => zdk (l.map ie) n (l.length : Nat) (i : Nat)) [] l (fun a => n == a) (fun i _ => (.ret,mkS 19 [(4,.int .i64 (i : Nat))],[])) (.exit 0,mkS 19 [],[]) (fun i a hg hi => by
   have hdi : decide (((i : Nat) : Int) < ((l.length : Nat) : Int)) = true := by rw [decide_eq_true_eq]; omega
   rw [zp5]
   simp only [hdi,nn,Int.toNat_natCast,zb,y9 hg,ie,zw,ze,z8,yj,yk,zu,zt,zf,zq,zx,zy,za,zh,zl,z7,ym,zi,zd,zm,zz,zg,zk,zj,zp,yg,zr,yh,yl,ye,yf,ya,zn,yd,zo,yc,yb,yp,zb,z6,yi,yr (show i < 4611686018427387904 by omega),if_true]) (by rw [zp5]; simp only [Int.lt_irrefl,decide_false,Bool.false_eq_true,if_false])
 have ev := z6i Cω Lω (l.map ie) n
 rw [List.length_map,lp] at e1
 rw [← jz _ 0]
 cases hq : x7 (fun a : Int => n == a) l 0 with
 | none =>
   rw [hq] at e1
   simp only [xq,zw,ze,z8,yj,yk,zu,zt,zf,zq,zx,zy,za,zh,zl,z7,ym,zi,zd,zm,zz,zg,zk,zj,zp,yg,zr,yh,yl,ye,yf,ya,zn,yd,zo,yc,yb,yp,zb,z6,yi,if_true] at e1
   have h9 : yn Cω 134 [.psl false (l.map ie),.int .i64 n] = some (.int .i64 (-1)) := pc e1 rfl
   rw [h9] at ev
   exact pc ev rfl
 | some y =>
   rw [hq] at e1
   simp only [xc,zw,ze,z8,yj,yk,zu,zt,zf,zq,zx,zy,za,zh,zl,z7,ym,zi,zd,zm,zz,zg,zk,zj,zp,yg,zr,yh,yl,ye,yf,ya,zn,yd,zo,yc,yb,yp,zb,z6,yi,y3,yz,ne_eq,not_false_eq_true,Nat.reduceLT,Nat.reduceEqDiff] at e1
   have h9 : yn Cω 134 [.psl false (l.map ie),.int .i64 n] = some (.int .i64 (y.1 : Nat)) := pc e1 rfl
   rw [h9] at ev
   simp only [zw,ze,z8,yj,yk,zu,zt,zf,zq,zx,zy,za,zh,zl,z7,ym,zi,zd,zm,zz,zg,zk,zj,zp,yg,zr,yh,yl,ye,yf,ya,zn,yd,zo,yc,yb,yp,zb,z6,yi,decide_eq_true (nn y.1)] at ev
   exact pc ev rfl
end Go.Pvm.S
