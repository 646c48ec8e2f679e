/- Part of the proof: locks: who holds a key. -/
import Derived.Test.YtjfgklgcbogejaaGreatSirL
set_option linter.unusedSimpArgs false
set_option linter.unusedVariables false
set_option maxRecDepth 100000
namespace Go.Pvm.S
open Go.Pvm Go.Proofs
def hG (q : Wd) : Nat → Lk → List Int → List Int := fun _ a out => if (covL a (kyL a.t q) && !(out.any fun b => a.t == b)) = true then out ++ [a.t] else out
def hold (l : List Lk) (q : Wd) : List Int := xb (hG q) l 0 []
theorem zs7 (l : List Lk) (q : Wd) (hl : l.length < 100000) : yn Cω 41 [.psl false (l.map Lk.e),.float .f64 q.toNat] = some (.psl false ((if zgk l = true then hold l q else []).map ie)) := by
 have ev := z6v Cω Lω (l.map Lk.e) q.toNat
 rw [zj4 l (by omega),List.length_map] at ev
 simp only [zw,ze,z8,yj,yk,zu,zt,zf,zq,zx,zy,za,zh,zl,z7,ym,zi,zd,zm,zz,zg,zk,zj,zp,yg,zr,yh,yl,ye,yf,ya,zn,yd,zo,yc,yb,yp,zb,z6,yi] at ev
 by_cases hm : zgk l = true
 case neg =>
  have hm' : zgk l = false := by simpa using hm
  simp only [hm',Bool.false_eq_true,if_false] at ev ⊢
  rw [if_pos (by decide)] at ev
  exact pc ev rfl
 simp only [hm,if_true] at ev ⊢
 rw [if_neg (by decide)] at ev
 have lp : Lω 41 zez 0 (zcv q.toNat (l.map Lk.e) (l.length : Nat) 0) [.made true 1 []] = _ :=
  jv (fun i (_ : List Int) => zcv q.toNat (l.map Lk.e) (l.length : Nat) (i : Nat)) (fun _ s => [.made true 1 (s.map ie)]) l (hG q)
   (fun s => (.exit 0,mkS 38 [(5,whole 0 1)],[.made true 1 (s.map ie)])) (fun i s => s.length ≤ i) (fun i a s hg hi hs => by
   refine ⟨?_,?_⟩
   ·unfold hG
    split
    ·simp only [List.length_append,List.length_cons,List.length_nil]; omega
    ·omega
   ·have hc := zf9 a (kyL a.t q)
    have hk := zny s a.t (by omega)
    have hdi : decide (((i : Nat) : Int) < ((l.length : Nat) : Int)) = true := by rw [decide_eq_true_eq]; omega
    have hs9 : s.length < 4294967295 := by omega
    have b1 : ((s.map ie).length + ([[.int .i64 a.t]] : List (List PV)).length) * 8 ≤ 140737488355328 := by rw [List.length_map]; exact rm8 hs9
    have m1 : s.map ie ++ ([[.int .i64 a.t]] : List (List PV)) = (s ++ [a.t]).map ie := zgl (f := ie) s a.t
    simp only [Lk.e] at hc
    have hc' : yn Cω 104 [.agg [.int .i64 a.t,.int .i64 a.k,.float .f64 a.q.toNat,.int .i64 a.p],.agg [.int .i64 a.t,.int .i64 1,.float .f64 (zp9 q).toNat,.int .i64 0]] = some (.bool (covL a (kyL a.t q))) := hc
    rw [zue]
    simp only [hdi,nn,Int.toNat_natCast,zb,y9 hg,Lk.e,zw,ze,z8,yj,yk,zu,zt,zf,zq,zx,zy,za,zh,zl,z7,ym,zi,zd,zm,zz,zg,zk,zj,zp,yg,zr,yh,yl,ye,yf,ya,zn,yd,zo,yc,yb,yp,zb,z6,yi,yr (show i < 4611686018427387904 by omega),if_true,zwn,hc',hk,b1]
    simp only [m1]
    unfold hG
    cases covL a (kyL a.t q) <;> cases (s.any fun b => a.t == b) <;> rfl) (fun s hs => by rw [zue]; simp only [Int.lt_irrefl,decide_false,Bool.false_eq_true,if_false]) [] (Nat.le_refl _)
 rw [lp] at ev
 simp only [zw,ze,z8,yj,yk,zu,zt,zf,zq,zx,zy,za,zh,zl,z7,ym,zi,zd,zm,zz,zg,zk,zj,zp,yg,zr,yh,yl,ye,yf,ya,zn,yd,zo,yc,yb,yp,zb,z6,yi,if_true,y3,yz,ne_eq,not_false_eq_true,Nat.reduceLT,Nat.reduceEqDiff] at ev
 exact pc ev rfl
end Go.Pvm.S
