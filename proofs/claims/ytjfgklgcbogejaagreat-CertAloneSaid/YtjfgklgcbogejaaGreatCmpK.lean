/- Part of the proof: numbers compared; the first that is not nought. -/
import Derived.Test.YtjfgklgcbogejaaGreatKL
import Derived.Test.YtjfgklgcbogejaaGreatEqK1
import Derived.Test.YtjfgklgcbogejaaGreatEqK2
import Derived.Test.YtjfgklgcbogejaaGreatEqK3
import Derived.Test.YtjfgklgcbogejaaGreatEqK4
import Derived.Test.YtjfgklgcbogejaaGreatEqK5
import Derived.Test.YtjfgklgcbogejaaGreatEqK
import Derived.Test.YtjfgklgcbogejaaGreatProg
import Derived.KernelRfl
import Derived.Test.YtjfgklgcbogejaaGreatEqK7
set_option linter.unusedSimpArgs false
set_option linter.unusedVariables false
set_option maxRecDepth 100000
namespace Go.Pvm.S
open Go.Pvm Go.Proofs
def ul (a b : Int) : Int := if a < b then -1 else if a > b then 1 else 0
theorem zw1 (a b : Int) : yn Cω 85 [.int .i64 a,.int .i64 b] = some (.int .i64 (ul a b)) := by
 have hn : ∀ z,yn Cω 132 [.int .i64 z] = some (.bool false) := fun z => pc (z0m Cω Lω z) (by show PV.bool (z != z) = _; rw [bne_self_eq_false])
 have ev := z6w Cω Lω a b
 simp only [hn,zp,ze,zy,yi,yj,yg,zx,zf,ya,zq,zr,za,zh,zl,zw,ym,zi,zb,zm,zt,zg,zk,zj,yd,yf,ye,yk,yl,yb,yc,zz,zn,z8,zo,z7,z6,yo,zd,zu,yh,Bool.false_eq_true,if_false,decide_eq_true_eq] at ev
 unfold ul
 by_cases h : a < b
 ·rw [if_pos h] at ev ⊢
  exact pc ev rfl
 ·rw [if_neg h] at ev ⊢
  by_cases h2 : a > b
  ·rw [if_pos h2] at ev ⊢
   exact pc ev rfl
  ·rw [if_neg h2] at ev ⊢
   exact pc ev rfl
def orI (l : List Int) : Int := ((l.find? (· != 0)).getD 0)
theorem z8c (l : List Int) (hl : l.length < 4611686018427387904) : Lω 154 zgq 0 (zdi 0 (l.map ie) (l.length : Nat) 0) [] =
  some (ztx (fun i a _ => if (a != 0) = true then .out (.ret,mkS 18 [(2,.int .i64 a)],[]) else .on ()) (fun _ => (.exit 0,mkS 18 [(3,.int .i64 0)],[])) l 0 ()) :=
 zx1 (fun i _ => zdi 0 (l.map ie) (l.length : Nat) (i : Nat)) (fun _ _ => []) l _ _ (fun _ _ => True)
  (fun i a s hg hi _ => by
   rw [zqf]
   simp only [decide_eq_true_eq,Int.ofNat_lt,List.length_map,if_true,nn,true_and,Int.toNat_natCast,zd,hi,y8 hg,ie,zp,ze,zy,yi,yj,yg,zx,zf,ya,zq,zr,za,zh,zl,zw,ym,zi,zb,zm,zt,zg,zk,zj,yd,yf,ye,yk,yl,yb,yc,zz,zn,z8,zo,z7,z6,yo,zd,zu,yh]
   by_cases h : (a != 0) = true
   ·simp only [h,if_true]
   ·simp only [h,if_false,yq (show i < 4611686018427387904 by omega)]
    first | rfl | exact ⟨trivial,rfl⟩)
  (fun s _ => by rw [zqf]; simp only [decide_eq_true_eq,Int.ofNat_lt,List.length_map,if_true,nn,true_and,Int.toNat_natCast,zd,Nat.lt_irrefl,if_false]) () trivial
theorem z7v (l : List Int) (hl : l.length < 4611686018427387904) : yn Cω 154 [.psl false (l.map ie)] = some (.int .i64 (orI l)) := by
 have ev := z4j Cω Lω (l.map ie)
 have lp := z8c l hl
 rw [zg9] at lp
 rw [List.length_map,lp] at ev
 have hf := zjt (p := fun a : Int => a != 0) l 0
 unfold orI
 rw [← hf]
 cases hq : xz (fun a : Int => a != 0) l 0 with
 | none =>
   rw [hq] at ev
   simp only [xc,xq,zp,ze,zy,yi,yj,yg,zx,zf,ya,zq,zr,za,zh,zl,zw,ym,zi,zb,zm,zt,zg,zk,zj,yd,yf,ye,yk,yl,yb,yc,zz,zn,z8,zo,z7,z6,yo,zd,zu,yh,y1,yz,ne_eq,not_false_eq_true,Nat.reduceLT,Nat.reduceEqDiff,if_true] at ev
   exact pc ev rfl
 | some x =>
   rw [hq] at ev
   simp only [xc,xq,zp,ze,zy,yi,yj,yg,zx,zf,ya,zq,zr,za,zh,zl,zw,ym,zi,zb,zm,zt,zg,zk,zj,yd,yf,ye,yk,yl,yb,yc,zz,zn,z8,zo,z7,z6,yo,zd,zu,yh,y1,yz,ne_eq,not_false_eq_true,Nat.reduceLT,Nat.reduceEqDiff,if_true] at ev
   exact pc ev rfl
theorem jt (a b : Int) : (a < b ∧ ul a b = -1) ∨ (a = b ∧ ul a b = 0) ∨ (b < a ∧ ul a b = 1) := by
 unfold ul
 rcases Int.lt_trichotomy a b with h | h | h
 ·exact .inl ⟨h,by rw [if_pos h]⟩
 ·exact .inr (.inl ⟨h,by rw [if_neg (by omega),if_neg (by omega)]⟩)
 ·exact .inr (.inr ⟨h,by rw [if_neg (by omega),if_pos h]⟩)
theorem z7z (a b : Int) : orI [a,b] = if a = 0 then b else a := by
 unfold orI
 by_cases h : a = 0
 ·subst h
  by_cases h2 : b = 0
  ·subst h2; rfl
  ·have : (b != 0) = true := by simpa using h2
   simp [List.find?_cons,this]
 ·have : (a != 0) = true := by simpa using h
  simp [List.find?_cons,this,h]
theorem zgm (a : Int) (l : List Int) : orI (a :: l) = if a = 0 then orI l else a := by
 unfold orI
 by_cases h : a = 0
 ·subst h; rfl
 ·have : (a != 0) = true := by simpa using h
  simp [List.find?_cons,this,h]
theorem z1b : orI [] = 0 := rfl
end Go.Pvm.S
