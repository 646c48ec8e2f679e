/- Part of the proof: locks: alike, without somebody's, who holds a key: the program's and the document's. -/
import Derived.Test.YtjfgklgcbogejaaGreatSirJ
set_option linter.unusedSimpArgs false
set_option linter.unusedVariables false
set_option maxRecDepth 100000
namespace Go.Pvm.S
open Go.Pvm Go.Proofs
def zn0 (l : List Lk) (t : Int) : List Lk := l.filter fun a => !(a.t == t)
theorem zs4 (l : List Lk) (t : Int) (hl : l.length < 1000000) : yn Cω 136 [.psl false (l.map Lk.e),.int .i64 t] = some (.psl false ((zn0 l t).map Lk.e)) := by
 have ev := z4f Cω Lω (l.map Lk.e) t
 rw [qt l Lk.e_ok (by omega)] at ev
 simp only [zb,z1l l t (show l.length < 1073741824 by omega)] at ev
 unfold zk6 at ev
 unfold zn0
 by_cases h : l.any (fun a => a.t == t) = true
 ·rw [if_pos h] at ev
  simp only [zw,ze,z8,yj,yk,zu,zt,zf,zq,zx,zy,za,zh,zl,z7,ym,zi,zd,zm,zz,zg,zk,zj,zp,yg,zr,yh,yl,ye,yf,ya,zn,yd,zo,yc,yb,yp,zb,z6,yi] at ev
  refine pc ev ?_
  simp only [wb,fzK]
  show PV.psl false _ = _
  simp only [List.drop_zero]
  rw [List.take_append_of_le_length (by rw [List.length_map]; exact Nat.le_refl _),List.take_of_length_le (by rw [List.length_map]; exact Nat.le_refl _)]
 ·rw [if_neg h] at ev
  simp only [zw,ze,z8,yj,yk,zu,zt,zf,zq,zx,zy,za,zh,zl,z7,ym,zi,zd,zm,zz,zg,zk,zj,zp,yg,zr,yh,yl,ye,yf,ya,zn,yd,zo,yc,yb,yp,zb,z6,yi] at ev
  have hf : l.filter (fun a => !(a.t == t)) = l := List.filter_eq_self.2 fun a ha => by
   have h' : l.any (fun a => a.t == t) = false := by simpa using h
   have := List.any_eq_false.1 h' a ha
   simpa using this
  rw [hf]
  exact pc ev rfl
end Go.Pvm.S
