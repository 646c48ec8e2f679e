/- Part of the proof: certifiers: a key or a range read. -/
import Derived.Test.YtjfgklgcbogejaaGreatCrtF
set_option linter.unusedSimpArgs false
set_option linter.unusedVariables false
set_option maxRecDepth 100000
namespace Go.Pvm.S
open Go.Pvm Go.Proofs
def ovG (t : Int) : Nat → Int → Ct → Ct := fun _ w c => if (w != t && sd c w) = true then { c with e := (zwd c.e ⟨t,w⟩).1 } else c
theorem zzu {c : Ct} (h : CtOk c) {t : Int} (h1 : sd c t = true) (i : Nat) (w : Int) : CtOk (ovG t i w c) ∧ sd (ovG t i w c) t = true := by
 unfold ovG
 split
 ·rename_i hc
  rw [Bool.and_eq_true] at hc
  exact ⟨h.add (x := ⟨t,w⟩) h1 hc.2,h1⟩
 ·exact ⟨h,h1⟩
theorem zoc (t : Int) : ∀ (l : List Int) (i : Nat) {c : Ct},CtOk c → sd c t = true → CtOk (xb (ovG t) l i c) ∧ sd (xb (ovG t) l i c) t = true
 | [],i,c,h,h1 => ⟨h,h1⟩
 | a :: l,i,c,h,h1 => by
   rw [jf]
   obtain ⟨g1,g2⟩ := zzu h h1 i a
   exact zoc t l (i + 1) g1 g2
noncomputable def enC (c : Ct) (t : Int) : Ct × Int := (gvC c,if dm (gvC c) t = true then 14 else 0)
noncomputable def rdC (c : Ct) (t : Int) (newer : List Int) (lk : List Lk → List Lk × Int) : Ct × Int :=
 if zfc c = true then
  if lv c t = true then
   if dm c t = true then (c,14)
   else if (lk c.l).2 ≠ 0 then (c,(lk c.l).2)
   else enC (xb (ovG t) newer 0 { c with l := (lk c.l).1 }) t
  else (c,3)
 else (zc,1)
theorem CtOk.inn {c : Ct} (h : CtOk c) {t : Int} (ht : lv c t = true) : S.inn t = true := by
 obtain ⟨h1,h2⟩ := j4 (lv_iff.1 ht).1
 have := ((mayS_iff.1 h.s).2.1 _ h1).1
 rwa [h2] at this
theorem z0f (l : List Lk) (t : Int) (q : Wd) (hl : l.length < 1000000) : yn Cω 37 [.psl false (l.map Lk.e),.pref [.int .i64 t],.pref [.float .f64 q.toNat]] = some (.tuple [.psl false ((zel l t q).1.map Lk.e),.int .i64 (zel l t q).2]) := by
 have ev := z6x Cω Lω (l.map Lk.e) t q.toNat
 rw [z2q l t q hl] at ev
 simp only [zw,ze,z8,yj,yk,zu,zt,zf,zq,zx,zy,za,zh,zl,z7,ym,zi,zd,zm,zz,zg,zk,zj,zp,yg,zr,yh,yl,ye,yf,ya,zn,yd,zo,yc,yb,yp,zb,z6,yi] at ev
 exact pc ev rfl
theorem z21 (t : Int) (q : Wd) (newer : List Int) (hn : newer.length < 1000000) (c0 : Ct) (h0 : CtOk c0) (h1 : sd c0 t = true) :
  Lω 36 vb 0 (ke t (newer.map ie) (newer.length : Nat) 0) ([] ++ [.box true 28 [.int .i64 c0.k,whole 2 3,whole 3 1,.psl false (c0.l.map Lk.e),.psl false (c0.e.map Ed.e)],.box true 28 [.int .i64 0,whole 4 3,whole 5 1,whole 6 4,whole 7 2],.made true 3 (c0.s.map Spn.e),.made true 1 (c0.d.map ie),.made true 3 [],.made true 1 [],.made true 4 [],.made true 2 []]) =
  some (.exit 1,mkS 72 [(1,.int .i64 t),(4,.ref 0 0 0),(8,.ref 1 0 0)],[] ++ [.box true 28 [.int .i64 (xb (ovG t) newer 0 c0).k,whole 2 3,whole 3 1,.psl false ((xb (ovG t) newer 0 c0).l.map Lk.e),.psl false ((xb (ovG t) newer 0 c0).e.map Ed.e)],.box true 28 [.int .i64 0,whole 4 3,whole 5 1,whole 6 4,whole 7 2],.made true 3 ((xb (ovG t) newer 0 c0).s.map Spn.e),.made true 1 ((xb (ovG t) newer 0 c0).d.map ie),.made true 3 [],.made true 1 [],.made true 4 [],.made true 2 []]) :=
 jv (fun i (_ : Ct) => ke t (newer.map ie) (newer.length : Nat) (i : Nat)) (fun _ c => [] ++ [.box true 28 [.int .i64 c.k,whole 2 3,whole 3 1,.psl false (c.l.map Lk.e),.psl false (c.e.map Ed.e)],.box true 28 [.int .i64 0,whole 4 3,whole 5 1,whole 6 4,whole 7 2],.made true 3 (c.s.map Spn.e),.made true 1 (c.d.map ie),.made true 3 [],.made true 1 [],.made true 4 [],.made true 2 []]) newer (ovG t)
  (fun c => (.exit 1,mkS 72 [(1,.int .i64 t),(4,.ref 0 0 0),(8,.ref 1 0 0)],[] ++ [.box true 28 [.int .i64 c.k,whole 2 3,whole 3 1,.psl false (c.l.map Lk.e),.psl false (c.e.map Ed.e)],.box true 28 [.int .i64 0,whole 4 3,whole 5 1,whole 6 4,whole 7 2],.made true 3 (c.s.map Spn.e),.made true 1 (c.d.map ie),.made true 3 [],.made true 1 [],.made true 4 [],.made true 2 []])) (fun i c => CtOk c ∧ sd c t = true) (fun i w c hg hi hc => by
   refine ⟨zzu hc.1 hc.2 i w,?_⟩
   have hdi : decide (((i : Nat) : Int) < ((newer.length : Nat) : Int)) = true := by rw [decide_eq_true_eq]; omega
   have sm := hc.1.Sm
   have i1 := z5c c w sm.s sm.d hc.1.s
   have i2 := z2v c.e ⟨t,w⟩ (show c.e.length < 1073741824 by have := sm.e; omega)
   unfold Ct.c at i1
   simp only at i2
   simp only [List.cons_append,List.nil_append]
   rw [zhl]
   simp only [hdi,nn,Int.toNat_natCast,zb,y9 hg,ie,zw,ze,z8,yj,yk,zu,zt,zf,zq,zx,zy,za,zh,zl,z7,ym,zi,zd,zm,zz,zg,zk,zj,zp,yg,zr,yh,yl,ye,yf,ya,zn,yd,zo,yc,yb,yp,zb,z6,yi,yr (show i < 4611686018427387904 by omega),if_true,i1,i2]
   unfold ovG
   cases hq : (w != t) with
   | false => rfl
   | true =>
     cases hr : sd c w with
     | false => rfl
     | true => rfl) (fun c hc => by
   simp only [List.cons_append,List.nil_append]
   rw [zhl]; simp only [Int.lt_irrefl,decide_false,Bool.false_eq_true,if_false]) c0 ⟨h0,h1⟩
theorem z20 (c : Ct) (hc : c.Sm) (t : Int) (q : Wd) (newer : List Int) (hn : newer.length < 1000000) : ∃ w : Bool,Cω 36 [.agg c.c,.int .i64 t,.psl false (newer.map ie),.func 37 [.pref [.int .i64 t],.pref [.float .f64 q.toNat]]] [] =
  some (.tuple [(rdC c t newer (fun l => zel l t q)).1.w 0 1,.int .i64 (rdC c t newer (fun l => zel l t q)).2],[] ++ (rdC c t newer (fun l => zel l t q)).1.o) ∨ (zfc c = false ∧ Cω 36 [.agg c.c,.int .i64 t,.psl false (newer.map ie),.func 37 [.pref [.int .i64 t],.pref [.float .f64 q.toNat]]] [] =
  some (.tuple [.agg [.int .i64 0,whole 0 3,whole 1 1,.psl false [],.psl false []],.int .i64 1],[] ++ zc.o)) := by
 have ev := zys Cω Lω c.k (c.s.map Spn.e) (c.d.map ie) (c.l.map Lk.e) (c.e.map Ed.e) t (newer.map ie) t q.toNat
 unfold rdC
 by_cases hm : zfc c = true
 case neg =>
  have hm' : zfc c = false := by simpa using hm
  have i1 := zj6 c t hc hm'
  unfold Ct.c at i1
  rw [i1] at ev
  simp only [zw,ze,z8,yj,yk,zu,zt,zf,zq,zx,zy,za,zh,zl,z7,ym,zi,zd,zm,zz,zg,zk,zj,zp,yg,zr,yh,yl,ye,yf,ya,zn,yd,zo,yc,yb,yp,zb,z6,yi] at ev
  exact ⟨true,.inr ⟨hm',cw ev⟩⟩
 have ok := mayC_iff.1 hm
 have i1 := z5d c t hc hm
 unfold Ct.c Ct.w Ct.o at i1
 rw [if_pos hm]
 rw [i1] at ev
 simp only [zw,ze,z8,yj,yk,zu,zt,zf,zq,zx,zy,za,zh,zl,z7,ym,zi,zd,zm,zz,zg,zk,zj,zp,yg,zr,yh,yl,ye,yf,ya,zn,yd,zo,yc,yb,yp,zb,z6,yi] at ev
 by_cases h1 : lv c t = true
 case neg =>
  rw [if_neg h1] at ev ⊢
  rw [if_pos (by decide)] at ev
  exact ⟨true,.inl (cw ev)⟩
 rw [if_pos h1] at ev ⊢
 rw [if_neg (by decide)] at ev
 have i2 := z18 c t hc.d
 unfold Ct.c at i2
 simp only [i2,zw,ze,z8,yj,yk,zu,zt,zf,zq,zx,zy,za,zh,zl,z7,ym,zi,zd,zm,zz,zg,zk,zj,zp,yg,zr,yh,yl,ye,yf,ya,zn,yd,zo,yc,yb,yp,zb,z6,yi] at ev
 by_cases h2 : dm c t = true
 ·rw [if_pos h2] at ev ⊢
  exact ⟨true,.inl (cw ev)⟩
 rw [if_neg h2] at ev ⊢
 have i3 := z0f c.l t q (show c.l.length < 1000000 by have := hc.l; omega)
 rw [i3] at ev
 simp only [zw,ze,z8,yj,yk,zu,zt,zf,zq,zx,zy,za,zh,zl,z7,ym,zi,zd,zm,zz,zg,zk,zj,zp,yg,zr,yh,yl,ye,yf,ya,zn,yd,zo,yc,yb,yp,zb,z6,yi] at ev
 by_cases h3 : ((fun l => zel l t q) c.l).2 = 0
 case neg =>
  rw [if_pos (by rw [bne_iff_ne]; exact h3)] at ev
  rw [if_pos h3]
  exact ⟨false,.inl (cw ev)⟩
 rw [if_neg (by rw [bne_iff_ne]; exact fun h => h h3)] at ev
 rw [if_neg (fun h => h h3)]
 have hin : inn t = true := ok.inn h1
 have hsd : sd c t = true := sd_iff.2 ⟨(lv_iff.1 h1).1,fun h => h2 (dm_iff.2 h)⟩
 have ok2 : CtOk { c with l := ((fun l => zel l t q) c.l).1 } := ok.lk (zqb ok.l hin q) (fun v hv => zqa hv) hsd
 have i4 := z21 t q newer hn { c with l := ((fun l => zel l t q) c.l).1 } ok2 hsd
 have ok3 := zoc t newer 0 ok2 hsd
 simp only [List.cons_append,List.nil_append] at i4
 rw [List.length_map,i4] at ev
 simp only [zw,ze,z8,yj,yk,zu,zt,zf,zq,zx,zy,za,zh,zl,z7,ym,zi,zd,zm,zz,zg,zk,zj,zp,yg,zr,yh,yl,ye,yf,ya,zn,yd,zo,yc,yb,yp,zb,z6,yi,y3,yz,ne_eq,not_false_eq_true,Nat.reduceLT,Nat.reduceEqDiff,if_true] at ev
 have i5 := zs8 (xb (ovG t) newer 0 { c with l := ((fun l => zel l t q) c.l).1 }) t ok3.1.Sm ok3.1.s ok3.1.e ok3.1.da ok3.1.gv.Sm.d
 unfold Ct.w Ct.o at i5
 rw [i5] at ev
 simp only [zw,ze,z8,yj,yk,zu,zt,zf,zq,zx,zy,za,zh,zl,z7,ym,zi,zd,zm,zz,zg,zk,zj,zp,yg,zr,yh,yl,ye,yf,ya,zn,yd,zo,yc,yb,yp,zb,z6,yi] at ev
 exact ⟨false,.inl (cw ev)⟩
theorem zs5 (c : Ct) (hc : c.Sm) (t : Int) (q : Wd) (newer : List Int) (hn : newer.length < 1000000) : yn Cω 10 [.agg c.c,.int .i64 t,.float .f64 q.toNat,.psl false (newer.map ie)] = some (.tuple [.agg (rdC c t newer (fun l => zel l t q)).1.c,.int .i64 (rdC c t newer (fun l => zel l t q)).2]) := by
 have ev := z69 Cω Lω c.k (c.s.map Spn.e) (c.d.map ie) (c.l.map Lk.e) (c.e.map Ed.e) t q.toNat (newer.map ie)
 obtain ⟨w,i1 | ⟨hm,i1⟩⟩ := z20 c hc t q newer hn
 ·generalize rdC c t newer (fun l => zel l t q) = r at i1 ⊢
  unfold Ct.c Ct.w Ct.o at i1
  simp only [List.cons_append,List.nil_append] at i1
  rw [i1] at ev
  simp only [zw,ze,z8,yj,yk,zu,zt,zf,zq,zx,zy,za,zh,zl,z7,ym,zi,zd,zm,zz,zg,zk,zj,zp,yg,zr,yh,yl,ye,yf,ya,zn,yd,zo,yc,yb,yp,zb,z6,yi] at ev
  exact pc ev (fzC r.1 r.2)
 ·have e : rdC c t newer (fun l => zel l t q) = (zc,1) := by unfold rdC; rw [if_neg (by rw [hm]; decide)]
  rw [e]
  unfold Ct.c Ct.o at i1
  simp only [List.cons_append,List.nil_append] at i1
  rw [i1] at ev
  simp only [zw,ze,z8,yj,yk,zu,zt,zf,zq,zx,zy,za,zh,zl,z7,ym,zi,zd,zm,zz,zg,zk,zj,zp,yg,zr,yh,yl,ye,yf,ya,zn,yd,zo,yc,yb,yp,zb,z6,yi] at ev
  exact pc ev rfl
theorem z2z {c : Ct} {t : Int} {newer : List Int} {lk : List Lk → List Lk × Int} (hk : CtOk c → S.inn t = true → zgk (lk c.l).1 = true ∧ ∀ v ∈ (lk c.l).1,v.t = t ∨ v ∈ c.l) : CtOk (rdC c t newer lk).1 := by
 unfold rdC
 split
 ·rename_i hm
  have ok := mayC_iff.1 hm
  split
  ·rename_i h1
   split
   ·exact ok
   ·rename_i h2
    split
    ·exact ok
    ·obtain ⟨k1,k2⟩ := hk ok (ok.inn h1)
     have hsd : sd c t = true := sd_iff.2 ⟨(lv_iff.1 h1).1,fun h => h2 (dm_iff.2 h)⟩
     exact (zoc t newer 0 (ok.lk k1 k2 hsd) hsd).1.gv
  ·exact ok
 ·exact zsl
theorem z2y {c : Ct} {t : Int} {newer : List Int} {q : Wd} : CtOk (rdC c t newer (fun l => zel l t q)).1 := z2z fun ok hin => ⟨zqb ok.l hin q,fun v hv => zqa hv⟩
end Go.Pvm.S
