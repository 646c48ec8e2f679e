/- Part of the proof: certifiers: the small question. -/
import Derived.Test.YtjfgklgcbogejaaGreatCrtH
set_option linter.unusedSimpArgs false
set_option linter.unusedVariables false
set_option maxRecDepth 100000
namespace Go.Pvm.S
open Go.Pvm Go.Proofs
theorem z0b {l : List Ed} {s : List Spn} {v : Int} (h : (ur l && ka s) = true) (hm : zoh l s = [v]) : kw l s = [v] := by
 unfold kw
 rw [if_pos h,hm,List.mergeSort_singleton]; rfl
theorem z0c {l : List Ed} {s : List Spn} (hm : zoh l s = []) : kw l s = [] := by
 unfold kw
 split
 ·rw [hm,List.mergeSort_nil]; rfl
 ·rfl
theorem z1c {c : Ct} (hm : zoh c.e c.s = []) : gvC c = c := by
 unfold gvC
 rw [z0c hm]; rfl
theorem z1b {c : Ct} {v : Int} (h : (ur c.e && ka c.s) = true) (hm : zoh c.e c.s = [v]) : gvC c = gvG 0 v c := by
 unfold gvC
 rw [z0b h hm]; rfl
theorem zk3 {c : Ct} {t : Int} (hm : zoh c.e c.s = []) (hd : dm c t = false) : enC c t = (c,0) := by
 unfold enC
 rw [z1c hm,if_neg (by rw [hd]; decide)]
theorem zzt {c : Ct} {t : Int} {lk : List Lk → List Lk × Int} {l : List Lk} (h1 : zfc c = true) (h2 : lv c t = true) (h3 : dm c t = false) (h4 : lk c.l = (l,0)) : rdC c t [] lk = enC { c with l := l } t := by
 unfold rdC
 rw [if_pos h1,if_pos h2,if_neg (by rw [h3]; decide),h4]
 rw [if_neg (fun h => h rfl)]
 rfl
theorem zzg {c c' : Ct} {t : Int} {q : Wd} (h1 : zfc c = true) (h2 : lv c t = true) (h3 : dm c t = false) (h4 : xb (wrG t (spn c.s t).1.b) (hold c.l q) 0 c = c') : wrC c t q = enC c' t := by
 unfold wrC
 rw [if_pos h1,if_pos h2,if_neg (by rw [h3]; decide),h4]
def q5 : Wd := 4617315517961601024
def qm : Wd := 13840687554816376832
def w1 : Ct := ⟨1,[⟨1,1,0⟩],[],[],[]⟩
def w2 : Ct := ⟨2,[⟨1,1,0⟩,⟨2,2,0⟩],[],[],[]⟩
def w3 : Ct := ⟨2,[⟨1,1,0⟩,⟨2,2,0⟩],[],[⟨1,1,0,q5⟩],[]⟩
def w4 : Ct := ⟨2,[⟨1,1,0⟩,⟨2,2,0⟩],[],[⟨1,1,0,q5⟩,⟨2,1,0,qm⟩],[]⟩
def w5 : Ct := ⟨2,[⟨1,1,0⟩,⟨2,2,0⟩],[],[⟨1,1,0,q5⟩,⟨2,1,0,qm⟩],[⟨2,1⟩]⟩
def w6 : Ct := ⟨2,[⟨1,1,0⟩,⟨2,2,0⟩],[],[⟨1,1,0,q5⟩,⟨2,1,0,qm⟩],[⟨1,2⟩,⟨2,1⟩]⟩
def w7 : Ct := ⟨3,[⟨2,2,0⟩],[2],[],[]⟩
def w8 : Ct := ⟨3,[],[],[],[]⟩
theorem wk1 : zjt zc 1 = (w1,0) := by kernel_rfl
theorem wk2 : zjt w1 2 = (w2,0) := by kernel_rfl
theorem wk3 : rdC w2 1 [] (fun l => zel l 1 q5) = (w3,0) := by
 rw [zzt (l := w3.l) (by kernel_rfl) (by kernel_rfl) (by kernel_rfl) (by kernel_rfl)]
 exact zk3 (by kernel_rfl) (by kernel_rfl)
theorem wk4 : rdC w3 2 [] (fun l => zel l 2 qm) = (w4,0) := by
 rw [zzt (l := w4.l) (by kernel_rfl) (by kernel_rfl) (by kernel_rfl) (by kernel_rfl)]
 exact zk3 (by kernel_rfl) (by kernel_rfl)
theorem wk5 : wrC w4 1 qm = (w5,0) := by
 rw [zzg (c' := w5) (by kernel_rfl) (by kernel_rfl) (by kernel_rfl) (by kernel_rfl)]
 exact zk3 (by kernel_rfl) (by kernel_rfl)
theorem wk6 : wrC w5 2 q5 = (w6,0) := by
 rw [zzg (c' := w6) (by kernel_rfl) (by kernel_rfl) (by kernel_rfl) (by kernel_rfl)]
 exact zk3 (by kernel_rfl) (by kernel_rfl)
theorem wk7 : zis w6 1 = (w7,0) := by
 unfold zis
 rw [if_pos (by kernel_rfl),if_pos (by kernel_rfl),if_neg (by rw [show dm w6 1 = false from by kernel_rfl]; decide),if_neg (by show ¬ ((2 : Int) > 2147483643); decide),z1b (v := 2) (by kernel_rfl) (by kernel_rfl)]
 kernel_rfl
theorem wk8 : zis w7 2 = (w8,14) := by
 unfold zis
 rw [if_pos (by kernel_rfl),if_pos (by kernel_rfl),if_pos (by kernel_rfl)]
 kernel_rfl
theorem smW {c : Ct} (h1 : c.s.length < 100000) (h2 : c.d.length < 100000) (h3 : c.l.length < 100000) (h4 : c.e.length < 100000) : c.Sm := ⟨h1,h2,h3,h4⟩
theorem zwq : yn Cω 13 [] = some (.bool true) := by
 have ev := z66 Cω Lω
 have a1 := zj7 zc 1 (smW (by decide) (by decide) (by decide) (by decide))
 have a2 := zj7 w1 2 (smW (by decide) (by decide) (by decide) (by decide))
 have a3 := zs5 w2 (smW (by decide) (by decide) (by decide) (by decide)) 1 q5 [] (by decide)
 have a4 := zs5 w3 (smW (by decide) (by decide) (by decide) (by decide)) 2 qm [] (by decide)
 have a5 := zs2 w4 (smW (by decide) (by decide) (by decide) (by decide)) 1 qm
 have a6 := zs2 w5 (smW (by decide) (by decide) (by decide) (by decide)) 2 q5
 have a7 := zj3 w6 1 (smW (by decide) (by decide) (by decide) (by decide))
 have a8 := zj3 w7 2 (smW (by decide) (by decide) (by decide) (by decide))
 rw [wk1] at a1; rw [wk2] at a2; rw [wk3] at a3; rw [wk4] at a4; rw [wk5] at a5; rw [wk6] at a6; rw [wk7] at a7; rw [wk8] at a8
 have b1 : yn Cω 7 [.agg [.int .i64 0,.psl false [],.psl false [],.psl false [],.psl false []],.int .i64 1] = _ := a1
 rw [b1] at ev
 simp only [Ct.c,zw,ze,z8,yj,yk,zu,zt,zf,zq,zx,zy,za,zh,zl,z7,ym,zi,zd,zm,zz,zg,zk,zj,zp,yg,zr,yh,yl,ye,yf,ya,zn,yd,zo,yc,yb,yp,zb,z6,yi] at ev
 have b2 : yn Cω 7 [.agg [.int .i64 w1.k,.psl false (w1.s.map Spn.e),.psl false (w1.d.map ie),.psl false (w1.l.map Lk.e),.psl false (w1.e.map Ed.e)],.int .i64 2] = _ := a2
 rw [b2] at ev
 simp only [Ct.c,zw,ze,z8,yj,yk,zu,zt,zf,zq,zx,zy,za,zh,zl,z7,ym,zi,zd,zm,zz,zg,zk,zj,zp,yg,zr,yh,yl,ye,yf,ya,zn,yd,zo,yc,yb,yp,zb,z6,yi] at ev
 have b3 : yn Cω 10 [.agg [.int .i64 w2.k,.psl false (w2.s.map Spn.e),.psl false (w2.d.map ie),.psl false (w2.l.map Lk.e),.psl false (w2.e.map Ed.e)],.int .i64 1,.float .f64 4617315517961601024,.psl false []] = _ := a3
 rw [b3] at ev
 simp only [Ct.c,zw,ze,z8,yj,yk,zu,zt,zf,zq,zx,zy,za,zh,zl,z7,ym,zi,zd,zm,zz,zg,zk,zj,zp,yg,zr,yh,yl,ye,yf,ya,zn,yd,zo,yc,yb,yp,zb,z6,yi] at ev
 have b4 : yn Cω 10 [.agg [.int .i64 w3.k,.psl false (w3.s.map Spn.e),.psl false (w3.d.map ie),.psl false (w3.l.map Lk.e),.psl false (w3.e.map Ed.e)],.int .i64 2,.float .f64 13840687554816376832,.psl false []] = _ := a4
 rw [b4] at ev
 simp only [Ct.c,zw,ze,z8,yj,yk,zu,zt,zf,zq,zx,zy,za,zh,zl,z7,ym,zi,zd,zm,zz,zg,zk,zj,zp,yg,zr,yh,yl,ye,yf,ya,zn,yd,zo,yc,yb,yp,zb,z6,yi] at ev
 have b5 : yn Cω 15 [.agg [.int .i64 w4.k,.psl false (w4.s.map Spn.e),.psl false (w4.d.map ie),.psl false (w4.l.map Lk.e),.psl false (w4.e.map Ed.e)],.int .i64 1,.float .f64 13840687554816376832] = _ := a5
 rw [b5] at ev
 simp only [Ct.c,zw,ze,z8,yj,yk,zu,zt,zf,zq,zx,zy,za,zh,zl,z7,ym,zi,zd,zm,zz,zg,zk,zj,zp,yg,zr,yh,yl,ye,yf,ya,zn,yd,zo,yc,yb,yp,zb,z6,yi] at ev
 have b6 : yn Cω 15 [.agg [.int .i64 w5.k,.psl false (w5.s.map Spn.e),.psl false (w5.d.map ie),.psl false (w5.l.map Lk.e),.psl false (w5.e.map Ed.e)],.int .i64 2,.float .f64 4617315517961601024] = _ := a6
 rw [b6] at ev
 simp only [Ct.c,zw,ze,z8,yj,yk,zu,zt,zf,zq,zx,zy,za,zh,zl,z7,ym,zi,zd,zm,zz,zg,zk,zj,zp,yg,zr,yh,yl,ye,yf,ya,zn,yd,zo,yc,yb,yp,zb,z6,yi] at ev
 have b7 : yn Cω 8 [.agg [.int .i64 w6.k,.psl false (w6.s.map Spn.e),.psl false (w6.d.map ie),.psl false (w6.l.map Lk.e),.psl false (w6.e.map Ed.e)],.int .i64 1] = _ := a7
 rw [b7] at ev
 simp only [Ct.c,zw,ze,z8,yj,yk,zu,zt,zf,zq,zx,zy,za,zh,zl,z7,ym,zi,zd,zm,zz,zg,zk,zj,zp,yg,zr,yh,yl,ye,yf,ya,zn,yd,zo,yc,yb,yp,zb,z6,yi] at ev
 have b8 : yn Cω 8 [.agg [.int .i64 w7.k,.psl false (w7.s.map Spn.e),.psl false (w7.d.map ie),.psl false (w7.l.map Lk.e),.psl false (w7.e.map Ed.e)],.int .i64 2] = _ := a8
 rw [b8] at ev
 simp only [Ct.c,zw,ze,z8,yj,yk,zu,zt,zf,zq,zx,zy,za,zh,zl,z7,ym,zi,zd,zm,zz,zg,zk,zj,zp,yg,zr,yh,yl,ye,yf,ya,zn,yd,zo,yc,yb,yp,zb,z6,yi] at ev
 exact pc ev rfl
end Go.Pvm.S
