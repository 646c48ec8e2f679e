/- Part of the proof: numbers compared; the first that is not nought. -/
import Derived.Test.YtjfgklgcbogejaaGreatKL
import Derived.Test.YtjfgklgcbogejaaGreatEqK1
import Derived.Test.YtjfgklgcbogejaaGreatEqK2
import Derived.Test.YtjfgklgcbogejaaGreatEqK3
import Derived.Test.YtjfgklgcbogejaaGreatEqK4
import Derived.Test.YtjfgklgcbogejaaGreatEqK5
import Derived.Test.YtjfgklgcbogejaaGreatEqK
import Derived.Test.YtjfgklgcbogejaaGreatProg
import Derived.KernelRfl
import Derived.Test.YtjfgklgcbogejaaGreatEqK7
set_option linter.unusedSimpArgs false
set_option linter.unusedVariables false
set_option maxRecDepth 100000
namespace Go.Pvm.S
open Go.Pvm Go.Proofs
def uo (a b : Int) : Int := if a < b then -1 else if a > b then 1 else 0
theorem zwo (a b : Int) : yn Cω 85 [.int .i64 a,.int .i64 b] = some (.int .i64 (uo a b)) := by
 have hn : ∀ z,yn Cω 132 [.int .i64 z] = some (.bool false) := fun z => pc (zz5 Cω Lω z) (by show PV.bool (z != z) = _; rw [bne_self_eq_false])
 have ev := z6j Cω Lω a b
 simp only [hn,zw,ze,z8,yj,yk,zu,zt,zf,zq,zx,zy,za,zh,zl,z7,ym,zi,zd,zm,zz,zg,zk,zj,zp,yg,zr,yh,yl,ye,yf,ya,zn,yd,zo,yc,yb,yp,zb,z6,yi,Bool.false_eq_true,if_false,decide_eq_true_eq] at ev
 unfold uo
 by_cases h : a < b
 ·rw [if_pos h] at ev ⊢
  exact pc ev rfl
 ·rw [if_neg h] at ev ⊢
  by_cases h2 : a > b
  ·rw [if_pos h2] at ev ⊢
   exact pc ev rfl
  ·rw [if_neg h2] at ev ⊢
   exact pc ev rfl
def orI (l : List Int) : Int := ((l.find? (· != 0)).getD 0)
theorem z70 (l : List Int) (hl : l.length < 4611686018427387904) : Lω 154 zgm 0 (zdi 0 (l.map ie) (l.length : Nat) 0) [] =
  some (ztl (fun i a _ => if (a != 0) = true then .out (.ret,mkS 18 [(2,.int .i64 a)],[]) else .on ()) (fun _ => (.exit 0,mkS 18 [(3,.int .i64 0)],[])) l 0 ()) :=
 zxp (fun i _ => zdi 0 (l.map ie) (l.length : Nat) (i : Nat)) (fun _ _ => []) l _ _ (fun _ _ => True)
  (fun i a s hg hi _ => by
   rw [zp1]
   simp only [decide_eq_true_eq,Int.ofNat_lt,List.length_map,if_true,nn,true_and,Int.toNat_natCast,zb,hi,y9 hg,ie,zw,ze,z8,yj,yk,zu,zt,zf,zq,zx,zy,za,zh,zl,z7,ym,zi,zd,zm,zz,zg,zk,zj,zp,yg,zr,yh,yl,ye,yf,ya,zn,yd,zo,yc,yb,yp,zb,z6,yi]
   by_cases h : (a != 0) = true
   ·simp only [h,if_true]
   ·simp only [h,if_false,yr (show i < 4611686018427387904 by omega)]
    first | rfl | exact ⟨trivial,rfl⟩)
  (fun s _ => by rw [zp1]; simp only [decide_eq_true_eq,Int.ofNat_lt,List.length_map,if_true,nn,true_and,Int.toNat_natCast,zb,Nat.lt_irrefl,if_false]) () trivial
theorem z7h (l : List Int) (hl : l.length < 4611686018427387904) : yn Cω 154 [.psl false (l.map ie)] = some (.int .i64 (orI l)) := by
 have ev := z32 Cω Lω (l.map ie)
 have lp := z70 l hl
 rw [zg6] at lp
 rw [List.length_map,lp] at ev
 have hf := zjn (p := fun a : Int => a != 0) l 0
 unfold orI
 rw [← hf]
 cases hq : x7 (fun a : Int => a != 0) l 0 with
 | none =>
   rw [hq] at ev
   simp only [xc,xq,zw,ze,z8,yj,yk,zu,zt,zf,zq,zx,zy,za,zh,zl,z7,ym,zi,zd,zm,zz,zg,zk,zj,zp,yg,zr,yh,yl,ye,yf,ya,zn,yd,zo,yc,yb,yp,zb,z6,yi,y3,yz,ne_eq,not_false_eq_true,Nat.reduceLT,Nat.reduceEqDiff,if_true] at ev
   exact pc ev rfl
 | some x =>
   rw [hq] at ev
   simp only [xc,xq,zw,ze,z8,yj,yk,zu,zt,zf,zq,zx,zy,za,zh,zl,z7,ym,zi,zd,zm,zz,zg,zk,zj,zp,yg,zr,yh,yl,ye,yf,ya,zn,yd,zo,yc,yb,yp,zb,z6,yi,y3,yz,ne_eq,not_false_eq_true,Nat.reduceLT,Nat.reduceEqDiff,if_true] at ev
   exact pc ev rfl
theorem j1 (a b : Int) : (a < b ∧ uo a b = -1) ∨ (a = b ∧ uo a b = 0) ∨ (b < a ∧ uo a b = 1) := by
 unfold uo
 rcases Int.lt_trichotomy a b with h | h | h
 ·exact .inl ⟨h,by rw [if_pos h]⟩
 ·exact .inr (.inl ⟨h,by rw [if_neg (by omega),if_neg (by omega)]⟩)
 ·exact .inr (.inr ⟨h,by rw [if_neg (by omega),if_pos h]⟩)
theorem z7m (a b : Int) : orI [a,b] = if a = 0 then b else a := by
 unfold orI
 by_cases h : a = 0
 ·subst h
  by_cases h2 : b = 0
  ·subst h2; rfl
  ·have : (b != 0) = true := by simpa using h2
   simp [List.find?_cons,this]
 ·have : (a != 0) = true := by simpa using h
  simp [List.find?_cons,this,h]
theorem zgg (a : Int) (l : List Int) : orI (a :: l) = if a = 0 then orI l else a := by
 unfold orI
 by_cases h : a = 0
 ·subst h; rfl
 ·have : (a != 0) = true := by simpa using h
  simp [List.find?_cons,this,h]
theorem z0w : orI [] = 0 := rfl
end Go.Pvm.S
