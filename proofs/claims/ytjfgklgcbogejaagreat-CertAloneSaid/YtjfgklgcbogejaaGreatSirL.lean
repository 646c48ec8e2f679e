/- Part of the proof: locks: alike by the document; who holds a key. -/
import Derived.Test.YtjfgklgcbogejaaGreatSirK
set_option linter.unusedSimpArgs false
set_option linter.unusedVariables false
set_option maxRecDepth 100000
namespace Go.Pvm.S
open Go.Pvm Go.Proofs
theorem zn9 (l : List Int) (n : Int) (hl : l.length < 1000000) : yn Cω 88 [.psl false (l.map ie),.int .i64 n] = some (.bool (l.any fun a => n == a)) := by
 have e1 := z4y Cω Lω (l.map ie) n
 have lp : Lω 134 zgs 0 (zdk (l.map ie) n (l.length : Nat) 0) [] = _ :=
  qx (fun i => zdk (l.map ie) n (l.length : Nat) (i : Nat)) [] l (fun a => n == a) (fun i _ => (.ret,mkS 19 [(4,.int .i64 (i : Nat))],[])) (.exit 0,mkS 19 [],[]) (fun i a hg hi => by
   have hdi : decide (((i : Nat) : Int) < ((l.length : Nat) : Int)) = true := by rw [decide_eq_true_eq]; omega
   rw [zqj]
   simp only [hdi,nn,Int.toNat_natCast,zd,y8 hg,ie,zp,ze,zy,yi,yj,yg,zx,zf,ya,zq,zr,za,zh,zl,zw,ym,zi,zb,zm,zt,zg,zk,zj,yd,yf,ye,yk,yl,yb,yc,zz,zn,z8,zo,z7,z6,yo,zd,zu,yh,yq (show i < 4611686018427387904 by omega),if_true]) (by rw [zqj]; simp only [Int.lt_irrefl,decide_false,Bool.false_eq_true,if_false])
 have ev := z6v Cω Lω (l.map ie) n
 rw [List.length_map,lp] at e1
 rw [← j4 _ 0]
 cases hq : xz (fun a : Int => n == a) l 0 with
 | none =>
   rw [hq] at e1
   simp only [xq,zp,ze,zy,yi,yj,yg,zx,zf,ya,zq,zr,za,zh,zl,zw,ym,zi,zb,zm,zt,zg,zk,zj,yd,yf,ye,yk,yl,yb,yc,zz,zn,z8,zo,z7,z6,yo,zd,zu,yh,if_true] at e1
   have h9 : yn Cω 134 [.psl false (l.map ie),.int .i64 n] = some (.int .i64 (-1)) := pc e1 rfl
   rw [h9] at ev
   exact pc ev rfl
 | some y =>
   rw [hq] at e1
   simp only [xc,zp,ze,zy,yi,yj,yg,zx,zf,ya,zq,zr,za,zh,zl,zw,ym,zi,zb,zm,zt,zg,zk,zj,yd,yf,ye,yk,yl,yb,yc,zz,zn,z8,zo,z7,z6,yo,zd,zu,yh,y1,yz,ne_eq,not_false_eq_true,Nat.reduceLT,Nat.reduceEqDiff] at e1
   have h9 : yn Cω 134 [.psl false (l.map ie),.int .i64 n] = some (.int .i64 (y.1 : Nat)) := pc e1 rfl
   rw [h9] at ev
   simp only [zp,ze,zy,yi,yj,yg,zx,zf,ya,zq,zr,za,zh,zl,zw,ym,zi,zb,zm,zt,zg,zk,zj,yd,yf,ye,yk,yl,yb,yc,zz,zn,z8,zo,z7,z6,yo,zd,zu,yh,decide_eq_true (nn y.1)] at ev
   exact pc ev rfl
end Go.Pvm.S
