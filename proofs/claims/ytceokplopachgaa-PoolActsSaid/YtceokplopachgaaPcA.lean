/- Part of the proof: clocks, the program's: where a page is, whether a clock may be, copies, frames that are found. -/
import Derived.Test.YtceokplopachgaaPolA
set_option linter.unusedSimpArgs false
set_option linter.unusedVariables false
set_option maxRecDepth 100000
namespace Go.Pvm.S
open Go.Pvm Go.Proofs
structure Sp where
 p : Int
 u : Bool
 n : Bool
 deriving DecidableEq
structure Ck where
 l : List Sp
 h : Int
 deriving DecidableEq
def Sp.e (s : Sp) : List PV := [.int .i64 s.p,.bool s.u,.bool s.n]
theorem Sp.e_ok (s : Sp) : s.e.length = 3 ∧ s.e.all PV.plain = true ∧ PV.own.owns s.e = true := ⟨rfl,rfl,rfl⟩
def sps (l : List Sp) : PV := .psl false (l.map Sp.e)
def Ck.v (c : Ck) : PV := .agg [sps c.l,.int .i64 c.h]
def atS (l : List Sp) (page : Int) : Option Nat := l.findIdx? fun s => s.p == page
def zn4 (o : Option Nat) : Int := match o with | some j => (j : Nat) | none => -1
theorem zyl (s : Sp) (page : Int) : jm Cω 85 [.agg s.e,.pref [.int .i64 page]] = some (.bool (s.p == page)) := pc (zy9 _ _ s.p s.u s.n page) rfl
theorem zw8 (l : List Sp) (page : Int) (hl : l.length < 4611686018427387904) : ∀ (k i : Nat),i + k = l.length → Lω 84 zaz 0 (zaq (l.map Sp.e) page (l.length : Nat) (i : Nat)) [] =
  some (match (l.drop i).findIdx? (fun s => s.p == page) with | some j => (.ret,mkS 19 [(4,.int .i64 ((i + j : Nat) : Int))],[]) | none => (.exit 0,mkS 19 [],[]))
 | 0,i,h => by
   refine lw ?_
   rw [zgj,if_neg (by simp; omega),List.drop_of_length_le (by omega)]
   rfl
 | k + 1,i,h => by
   have hi : i < l.length := by omega
   have hg := haf hi
   refine lw ?_
   rw [zgj,if_pos (by simp; omega),if_pos (by omega),hax,zdf hg]
   simp only [Sp.e,zb,zc,ye,xb,xc,y1,yq,zo,yl,ym,yk,zm,zx,yd,yp,xw,zy,zl,yf,yo,zr,z6,zz,yn,yz,yy,xd,xe,yw,yx,yr,yg,yv,yh,yu,yt,vn,za,ya,y9]
   have := zyl l[i] page
   simp only [Sp.e] at this
   rw [this]
   simp only [zb,zc,ye,xb,xc,y1,yq,zo,yl,ym,yk,zm,zx,yd,yp,xw,zy,zl,yf,yo,zr,z6,zz,yn,yz,yy,xd,xe,yw,yx,yr,yg,yv,yh,yu,yt,vn,za,ya,y9]
   rw [hbo hi,List.findIdx?_cons]
   by_cases hp : (l[i].p == page) = true
   ·rw [if_pos hp,if_pos hp]
    simp
   ·rw [if_neg hp,if_neg hp,y6 (by omega),zw8 l page hl k (i + 1) (by omega)]
    cases (l.drop (i + 1)).findIdx? fun s => s.p == page with
    | none => rfl
    | some j =>
      simp only [Option.map_some]
      rw [show i + 1 + j = i + (j + 1) by omega]
theorem zx8 (c : Ck) (page : Int) (hl : c.l.length < 4611686018427387904) : jm Cω 68 [c.v,.int .i64 page] = some (.int .i64 (zn4 (atS c.l page))) := by
 have hx : jm Cω 84 [.psl false (c.l.map Sp.e),.func 85 [.pref [.int .i64 page]]] = some (.int .i64 (zn4 (atS c.l page))) := by
  have ev := zs2 Cω Lω (c.l.map Sp.e) page
  have lp := zw8 c.l page hl c.l.length 0 (by omega)
  rw [ha8,zp3] at lp
  simp only [han,lp,za] at ev
  unfold atS
  cases hq : c.l.findIdx? fun s => s.p == page with
  | none =>
    rw [hq] at ev
    exact pc ev rfl
  | some j =>
    rw [hq] at ev
    simp only [zcm (show 4 < 19 by decide),hb4] at ev
    exact pc ev rfl
 have ev := zzc Cω Lω (c.l.map Sp.e) c.h page
 simp only [hx,zb,zc,ye,xb,xc,y1,yq,zo,yl,ym,yk,zm,zx,yd,yp,xw,zy,zl,yf,yo,zr,z6,zz,yn,yz,yy,xd,xe,yw,yx,yr,yg,yv,yh,yu,yt,vn,za,ya,y9] at ev
 exact pc ev rfl
end Go.Pvm.S
