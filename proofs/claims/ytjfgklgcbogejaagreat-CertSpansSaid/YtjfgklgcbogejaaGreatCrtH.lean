/- Part of the proof: certifiers: a range read; a key written. -/
import Derived.Test.YtjfgklgcbogejaaGreatCrtG
set_option linter.unusedSimpArgs false
set_option linter.unusedVariables false
set_option maxRecDepth 100000
namespace Go.Pvm.S
open Go.Pvm Go.Proofs
def wrG (t b : Int) : Nat → Int → Ct → Ct := fun _ r c => if (r != t && ((spn c.s r).1.c == 0 || decide ((spn c.s r).1.c > b))) = true then { c with e := (zwd c.e ⟨r,t⟩).1 } else c
noncomputable def wrC (c : Ct) (t : Int) (q : Wd) : Ct × Int :=
 if zfc c = true then
  if lv c t = true then
   if dm c t = true then (c,14)
   else enC (xb (wrG t (spn c.s t).1.b) (hold c.l q) 0 c) t
  else (c,3)
 else (zc,1)
theorem zzf {c : Ct} (h : CtOk c) {t : Int} (h1 : sd c t = true) (b : Int) (i : Nat) {r : Int} (hr : sd c r = true) : CtOk (wrG t b i r c) ∧ (wrG t b i r c).s = c.s ∧ (wrG t b i r c).d = c.d ∧ (wrG t b i r c).l = c.l ∧ (wrG t b i r c).k = c.k := by
 unfold wrG
 split
 ·exact ⟨h.add (x := ⟨r,t⟩) hr h1,rfl,rfl,rfl,rfl⟩
 ·exact ⟨h,rfl,rfl,rfl,rfl⟩
theorem zso (t b : Int) : ∀ (l : List Int) (i : Nat) {c : Ct},CtOk c → sd c t = true → (∀ r ∈ l,sd c r = true) → CtOk (xb (wrG t b) l i c) ∧ (xb (wrG t b) l i c).s = c.s ∧ (xb (wrG t b) l i c).d = c.d ∧ (xb (wrG t b) l i c).l = c.l ∧ (xb (wrG t b) l i c).k = c.k
 | [],i,c,h,_,_ => ⟨h,rfl,rfl,rfl,rfl⟩
 | a :: l,i,c,h,h1,h2 => by
   rw [jf]
   obtain ⟨g1,g2,g3,g4,g5⟩ := zzf h h1 b i (h2 a (List.mem_cons_self ..))
   have hs : ∀ u,sd (wrG t b i a c) u = sd c u := fun u => by unfold sd dm; rw [g2,g3]
   obtain ⟨k1,k2,k3,k4,k5⟩ := zso t b l (i + 1) g1 (by rw [hs]; exact h1) fun r hr => by rw [hs]; exact h2 r (List.mem_cons_of_mem _ hr)
   exact ⟨k1,k2.trans g2,k3.trans g3,k4.trans g4,k5.trans g5⟩
theorem zqj {q : Wd} {t : Int} : ∀ (l : List Lk) (i : Nat) (out : List Int),t ∈ xb (hG q) l i out → t ∈ out ∨ ∃ a ∈ l,a.t = t
 | [],i,out,h => .inl h
 | a :: l,i,out,h => by
   rw [jf] at h
   rcases zqj l (i + 1) _ h with h | ⟨b,hb,e⟩
   ·unfold hG at h
    split at h
    ·rcases List.mem_append.1 h with h | h
     ·exact .inl h
     ·exact .inr ⟨a,List.mem_cons_self ..,(List.mem_singleton.1 h).symm⟩
    ·exact .inl h
   ·exact .inr ⟨b,List.mem_cons_of_mem _ hb,e⟩
theorem CtOk.hold {c : Ct} (h : CtOk c) {q : Wd} {r : Int} (hr : r ∈ S.hold c.l q) : sd c r = true := by
 rcases zqj c.l 0 [] hr with h1 | ⟨a,ha,rfl⟩
 ·cases h1
 ·exact h.ls a ha
theorem z23 (a : Spn) : xy Tryz.prog 3 a.e 1 = some (.int .i64 a.b) := by
 obtain ⟨t,b,c⟩ := a
 kernel_rfl
def wrO (c : Ct) : List KO := [.box true 28 [.int .i64 c.k,whole 2 3,whole 3 1,.psl false (c.l.map Lk.e),.psl false (c.e.map Ed.e)],.box true 28 [.int .i64 0,whole 4 3,whole 5 1,whole 6 4,whole 7 2],.made true 3 (c.s.map Spn.e),.made true 1 (c.d.map ie),.made true 3 [],.made true 1 [],.made true 4 [],.made true 2 []]
theorem z7z (t : Int) (s : List Spn) (d : List Int) (hs : ka s = true) (ht : (spn s t).2 = true) (l : List Int) (hl : l.length < 1000000) (hsd : ∀ r ∈ l,(spn s r).2 = true ∧ r ∉ d) (c0 : Ct) (h0 : CtOk c0) (e1 : c0.s = s) (e2 : c0.d = d) (h1 : sd c0 t = true) :
  Lω 15 zc7 0 (zbo t (atP s t : Nat) (l.map ie) (l.length : Nat) 0) (wrO c0) = some (.exit 1,mkS 92 [(1,.int .i64 t),(3,.ref 0 0 0),(6,.ref 1 0 0)],wrO (xb (wrG t (spn s t).1.b) l 0 c0)) :=
 jv (fun i (_ : Ct) => zbo t (atP s t : Nat) (l.map ie) (l.length : Nat) (i : Nat)) (fun _ c => wrO c) l (wrG t (spn s t).1.b) (fun c => (.exit 1,mkS 92 [(1,.int .i64 t),(3,.ref 0 0 0),(6,.ref 1 0 0)],wrO c)) (fun i c => CtOk c ∧ c.s = s ∧ c.d = d ∧ sd c t = true) (fun i r c hg hi hc => by
  obtain ⟨c1,c2,c3,c4⟩ := hc
  have hrl : r ∈ l := List.mem_iff_getElem?.2 ⟨i,hg⟩
  have hr : sd c r = true := sd_iff.2 (by rw [c2,c3]; exact hsd r hrl)
  obtain ⟨g1,g2,g3,_,_⟩ := zzf c1 c4 (spn s t).1.b i hr
  have hsw : sd (wrG t (spn s t).1.b i r c) t = sd c t := by unfold sd dm; rw [g2,g3]
  refine ⟨⟨g1,g2.trans c2,g3.trans c3,hsw.trans c4⟩,?_⟩
  have hdi : decide (((i : Nat) : Int) < ((l.length : Nat) : Int)) = true := by rw [decide_eq_true_eq]; omega
  have sm := c1.Sm
  have i1 := z0m c r sm.s c1.s
  have i2 := z2v c.e ⟨r,t⟩ (show c.e.length < 1073741824 by have := sm.e; omega)
  unfold Ct.c at i1
  simp only at i2
  have hrs : (spn c.s r).2 = true := (sd_iff.1 hr).1
  have hgr := zbb c1.s hrs
  have hlt := (List.getElem?_eq_some_iff.1 hgr).1
  have hlt2 : ((atP c.s r : Nat) : Int) < ((c.s.length : Nat) : Int) := by omega
  have hts : (spn c.s t).2 = true := (sd_iff.1 c4).1
  have hgt := zbb c1.s hts
  have hmt := (List.getElem?_eq_some_iff.1 hgt).1
  have hmt2 : ((atP c.s t : Nat) : Int) < ((c.s.length : Nat) : Int) := by omega
  have p1 := zw2 (spn c.s r).1
  have p2 := z23 (spn c.s t).1
  simp only [Spn.e] at p1 p2
  rw [← c2]
  unfold wrO
  rw [zum]
  simp only [hdi,nn,true_and,Int.toNat_natCast,List.length_map,zb,y9 hg,y9 hgr,y9 hgt,hlt2,hmt2,ie,Spn.e,p1,p2,zw,ze,z8,yj,yk,zu,zt,zf,zq,zx,zy,za,zh,zl,z7,ym,zi,zd,zm,zz,zg,zk,zj,zp,yg,zr,yh,yl,ye,yf,ya,zn,yd,zo,yc,yb,yp,zb,z6,yi,yr (show i < 4611686018427387904 by omega),if_true,i1,i2]
  unfold wrG
  cases hq : (r != t) with
  | false => rfl
  | true =>
    simp only [if_true,Bool.true_and]
    cases hz : ((spn c.s r).1.c == 0) with
    | true => rfl
    | false =>
      simp only [Bool.false_eq_true,if_false,Bool.false_or]
      cases hy : decide ((spn c.s r).1.c > (spn c.s t).1.b) with
      | false => rfl
      | true => rfl) (fun c hc => by unfold wrO; rw [zum]; simp only [Int.lt_irrefl,decide_false,Bool.false_eq_true,if_false]) c0 ⟨h0,e1,e2,h1⟩
theorem zs2 (c : Ct) (hc : c.Sm) (t : Int) (q : Wd) : yn Cω 15 [.agg c.c,.int .i64 t,.float .f64 q.toNat] = some (.tuple [.agg (wrC c t q).1.c,.int .i64 (wrC c t q).2]) := by
 have ev := z65 Cω Lω c.k (c.s.map Spn.e) (c.d.map ie) (c.l.map Lk.e) (c.e.map Ed.e) t q.toNat
 unfold wrC
 by_cases hm : zfc c = true
 case neg =>
  have hm' : zfc c = false := by simpa using hm
  have i1 := zj6 c t hc hm'
  unfold Ct.c at i1
  rw [if_neg hm]
  rw [i1] at ev
  simp only [zw,ze,z8,yj,yk,zu,zt,zf,zq,zx,zy,za,zh,zl,z7,ym,zi,zd,zm,zz,zg,zk,zj,zp,yg,zr,yh,yl,ye,yf,ya,zn,yd,zo,yc,yb,yp,zb,z6,yi] at ev
  exact pc ev rfl
 have ok := mayC_iff.1 hm
 have i1 := z5d c t hc hm
 unfold Ct.c Ct.w Ct.o at i1
 rw [if_pos hm]
 rw [i1] at ev
 simp only [zw,ze,z8,yj,yk,zu,zt,zf,zq,zx,zy,za,zh,zl,z7,ym,zi,zd,zm,zz,zg,zk,zj,zp,yg,zr,yh,yl,ye,yf,ya,zn,yd,zo,yc,yb,yp,zb,z6,yi] at ev
 by_cases h1 : lv c t = true
 case neg =>
  rw [if_neg h1] at ev ⊢
  rw [if_pos (by decide)] at ev
  exact pc ev (fzC c 3)
 rw [if_pos h1] at ev ⊢
 rw [if_neg (by decide)] at ev
 have i2 := z18 c t hc.d
 unfold Ct.c at i2
 simp only [i2,zw,ze,z8,yj,yk,zu,zt,zf,zq,zx,zy,za,zh,zl,z7,ym,zi,zd,zm,zz,zg,zk,zj,zp,yg,zr,yh,yl,ye,yf,ya,zn,yd,zo,yc,yb,yp,zb,z6,yi] at ev
 by_cases h2 : dm c t = true
 ·rw [if_pos h2] at ev ⊢
  exact pc ev (fzC c 14)
 rw [if_neg h2] at ev ⊢
 have i3 := z0m c t hc.s ok.s
 unfold Ct.c at i3
 have i4 := zs7 c.l q (show c.l.length < 100000 by have := hc.l; omega)
 rw [if_pos ok.l] at i4
 simp only [i3,i4,zw,ze,z8,yj,yk,zu,zt,zf,zq,zx,zy,za,zh,zl,z7,ym,zi,zd,zm,zz,zg,zk,zj,zp,yg,zr,yh,yl,ye,yf,ya,zn,yd,zo,yc,yb,yp,zb,z6,yi] at ev
 have hsd : sd c t = true := sd_iff.2 ⟨(lv_iff.1 h1).1,fun h => h2 (dm_iff.2 h)⟩
 have hh : ∀ r ∈ hold c.l q,sd c r = true := fun r hr => ok.hold hr
 have hhl : (hold c.l q).length < 1000000 := by
  have := zqk q c.l 0 []
  rw [List.length_nil] at this
  have h9 := hc.l
  unfold hold
  omega
 have i5 := z7z t c.s c.d ok.s (lv_iff.1 h1).1 (hold c.l q) hhl (fun r hr => sd_iff.1 (hh r hr)) c ok rfl rfl hsd
 obtain ⟨k1,k2,k3,k4,k5⟩ := zso t (spn c.s t).1.b (hold c.l q) 0 ok hsd hh
 unfold wrO at i5
 rw [List.length_map,i5] at ev
 simp only [zw,ze,z8,yj,yk,zu,zt,zf,zq,zx,zy,za,zh,zl,z7,ym,zi,zd,zm,zz,zg,zk,zj,zp,yg,zr,yh,yl,ye,yf,ya,zn,yd,zo,yc,yb,yp,zb,z6,yi,y3,yz,ne_eq,not_false_eq_true,Nat.reduceLT,Nat.reduceEqDiff,if_true] at ev
 have i6 := zs8 (xb (wrG t (spn c.s t).1.b) (hold c.l q) 0 c) t k1.Sm k1.s k1.e k1.da k1.gv.Sm.d
 unfold Ct.w Ct.o at i6
 rw [i6] at ev
 simp only [zw,ze,z8,yj,yk,zu,zt,zf,zq,zx,zy,za,zh,zl,z7,ym,zi,zd,zm,zz,zg,zk,zj,zp,yg,zr,yh,yl,ye,yf,ya,zn,yd,zo,yc,yb,yp,zb,z6,yi] at ev
 exact pc ev (fzC (gvC (xb (wrG t (spn c.s t).1.b) (hold c.l q) 0 c)) (if dm (gvC (xb (wrG t (spn c.s t).1.b) (hold c.l q) 0 c)) t = true then 14 else 0))
end Go.Pvm.S
