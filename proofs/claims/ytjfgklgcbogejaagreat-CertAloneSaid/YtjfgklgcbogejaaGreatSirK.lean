/- Part of the proof: locks: alike, without somebody's, who holds a key: the program's and the document's. -/
import Derived.Test.YtjfgklgcbogejaaGreatSirJ
set_option linter.unusedSimpArgs false
set_option linter.unusedVariables false
set_option maxRecDepth 100000
namespace Go.Pvm.S
open Go.Pvm Go.Proofs
def zl5 (l : List Lk) (t : Int) : List Lk := l.filter fun a => !(a.t == t)
theorem ztg (l : List Lk) (t : Int) (hl : l.length < 1000000) : yn Cω 136 [.psl false (l.map Lk.e),.int .i64 t] = some (.psl false ((zl5 l t).map Lk.e)) := by
 have ev := z4w Cω Lω (l.map Lk.e) t
 rw [qi l Lk.e_ok (by omega)] at ev
 simp only [zd,z1z l t (show l.length < 1073741824 by omega)] at ev
 unfold zld at ev
 unfold zl5
 by_cases h : l.any (fun a => a.t == t) = true
 ·rw [if_pos h] at ev
  simp only [zp,ze,zy,yi,yj,yg,zx,zf,ya,zq,zr,za,zh,zl,zw,ym,zi,zb,zm,zt,zg,zk,zj,yd,yf,ye,yk,yl,yb,yc,zz,zn,z8,zo,z7,z6,yo,zd,zu,yh] at ev
  refine pc ev ?_
  simp only [vy,fzK]
  show PV.psl false _ = _
  simp only [List.drop_zero]
  rw [List.take_append_of_le_length (by rw [List.length_map]; exact Nat.le_refl _),List.take_of_length_le (by rw [List.length_map]; exact Nat.le_refl _)]
 ·rw [if_neg h] at ev
  simp only [zp,ze,zy,yi,yj,yg,zx,zf,ya,zq,zr,za,zh,zl,zw,ym,zi,zb,zm,zt,zg,zk,zj,yd,yf,ye,yk,yl,yb,yc,zz,zn,z8,zo,z7,z6,yo,zd,zu,yh] at ev
  have hf : l.filter (fun a => !(a.t == t)) = l := List.filter_eq_self.2 fun a ha => by
   have h' : l.any (fun a => a.t == t) = false := by simpa using h
   have := List.any_eq_false.1 h' a ha
   simpa using this
  rw [hf]
  exact pc ev rfl
end Go.Pvm.S
