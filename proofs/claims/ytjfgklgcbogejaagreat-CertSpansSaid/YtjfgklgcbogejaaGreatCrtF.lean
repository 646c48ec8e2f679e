/- Part of the proof: certifiers: each call: begin, commit, abort. -/
import Derived.Test.YtjfgklgcbogejaaGreatCrtE
set_option linter.unusedSimpArgs false
set_option linter.unusedVariables false
set_option maxRecDepth 100000
namespace Go.Pvm.S
open Go.Pvm Go.Proofs
def zc : Ct := ⟨0,[],[],[],[]⟩
theorem fzC (c : Ct) (n : Int) : fzK xn c.o (.tuple [c.w 0 1,.int .i64 n]) = .tuple [.agg c.c,.int .i64 n] := rfl
def zlo (s : List Spn) (x : Spn) : List Spn := s.take (atP s x.t) ++ x :: s.drop (atP s x.t)
def zjt (c : Ct) (t : Int) : Ct × Int :=
 if zfc c = true then
  if inn t = true then
   if (spn c.s t).2 = true ∨ c.k > 2147483643 then (c,2)
   else if c.s.length = 24 then (c,12)
   else ({ c with k := c.k + 1,s := zlo c.s ⟨t,c.k + 1,0⟩ },0)
  else (c,1)
 else (zc,1)
theorem z7w {n : Nat} (h : n < 4294967295) : (n + 1) * 24 ≤ 140737488355328 := by omega
theorem z2f {k : Int} (h0 : 0 ≤ k) (h1 : k ≤ 2147483643) : IntKind.wrap .i64 (k + 1) = k + 1 := q8 (by omega) (by omega)
theorem zj7 (c : Ct) (t : Int) (hc : c.Sm) : yn Cω 7 [.agg c.c,.int .i64 t] = some (.tuple [.agg (zjt c t).1.c,.int .i64 (zjt c t).2]) := by
 have ev := z78 Cω Lω c.k (c.s.map Spn.e) (c.d.map ie) (c.l.map Lk.e) (c.e.map Ed.e) t
 have i1 := zj5 c hc
 unfold Ct.c at i1
 unfold zjt
 by_cases hm : zfc c = true
 case neg =>
  have hm' : zfc c = false := by simpa using hm
  rw [hm'] at i1
  rw [if_neg hm]
  simp only [i1,zw,ze,z8,yj,yk,zu,zt,zf,zq,zx,zy,za,zh,zl,z7,ym,zi,zd,zm,zz,zg,zk,zj,zp,yg,zr,yh,yl,ye,yf,ya,zn,yd,zo,yc,yb,yp,zb,z6,yi] at ev
  exact pc ev rfl
 have ok := mayC_iff.1 hm
 rw [if_pos hm]
 rw [hm] at i1
 have i2 := z2n c hc
 have i3 := z0m c t hc.s ok.s
 unfold Ct.w Ct.o at i2
 unfold Ct.c at i2 i3
 simp only [i1,if_true,zw,ze,z8,yj,yk,zu,zt,zf,zq,zx,zy,za,zh,zl,z7,ym,zi,zd,zm,zz,zg,zk,zj,zp,yg,zr,yh,yl,ye,yf,ya,zn,yd,zo,yc,yb,yp,zb,z6,yi] at ev
 rw [if_neg (by decide),i2] at ev
 simp only [zw,ze,z8,yj,yk,zu,zt,zf,zq,zx,zy,za,zh,zl,z7,ym,zi,zd,zm,zz,zg,zk,zj,zp,yg,zr,yh,yl,ye,yf,ya,zn,yd,zo,yc,yb,yp,zb,z6,yi,i3] at ev
 by_cases h1 : t < 1
 ·rw [if_pos (decide_eq_true h1)] at ev
  rw [if_neg (by rw [inn_iff]; omega)]
  exact pc ev (fzC c 1)
 rw [if_neg (by rw [decide_eq_true_eq]; exact h1)] at ev
 by_cases h2 : t > 2147483647
 ·rw [if_pos (decide_eq_true h2)] at ev
  rw [if_neg (by rw [inn_iff]; omega)]
  exact pc ev (fzC c 1)
 rw [if_neg (by rw [decide_eq_true_eq]; exact h2)] at ev
 rw [if_pos (inn_iff.2 ⟨by omega,by omega⟩)]
 by_cases h3 : (spn c.s t).2 = true
 ·rw [if_pos h3] at ev
  rw [if_pos (.inl h3)]
  exact pc ev (fzC c 2)
 rw [if_neg h3] at ev
 by_cases h4 : c.k > 2147483643
 ·rw [if_pos (decide_eq_true h4)] at ev
  rw [if_pos (.inr h4)]
  exact pc ev (fzC c 2)
 rw [if_neg (by rw [decide_eq_true_eq]; exact h4)] at ev
 rw [if_neg (by rintro (h | h); exact h3 h; exact h4 h)]
 by_cases h5 : c.s.length = 24
 ·rw [if_pos (by rw [List.length_map,h5]; rfl)] at ev
  rw [if_pos h5]
  exact pc ev (fzC c 12)
 rw [if_neg (by rw [List.length_map,beq_iff_eq]; omega)] at ev
 rw [if_neg h5]
 have hle := (zgs ok.s t).1
 have hw := z2f ok.k0 (show c.k ≤ 2147483643 by omega)
 rw [if_pos ⟨nn _,by rw [Int.toNat_natCast,List.length_map]; exact hle⟩,hw,if_pos (by rw [List.length_map]; exact z7w (by have := hc.s; omega)),Int.toNat_natCast] at ev
 have m1 : List.take (atP c.s t) (c.s.map Spn.e) ++ ([[.int .i64 t,.int .i64 (c.k + 1),.int .i64 0]] : List (List PV)) ++ List.drop (atP c.s t) (c.s.map Spn.e) = (zlo c.s ⟨t,c.k + 1,0⟩).map Spn.e := by
  unfold zlo
  rw [List.map_append,List.map_cons,List.map_take,List.map_drop,List.append_assoc]; rfl
 rw [m1] at ev
 exact pc ev (fzC { c with k := c.k + 1,s := zlo c.s ⟨t,c.k + 1,0⟩ } 0)
def zno (c : Ct) (t : Int) : Ct × Int := if zfc c = true then (if lv c t = true then (fgC (rmC c t),0) else (c,3)) else (zc,1)
theorem z0n (c : Ct) (t : Int) (hc : c.Sm) : yn Cω 9 [.agg c.c,.int .i64 t] = some (.tuple [.agg (zno c t).1.c,.int .i64 (zno c t).2]) := by
 have ev := z76 Cω Lω c.k (c.s.map Spn.e) (c.d.map ie) (c.l.map Lk.e) (c.e.map Ed.e) t
 unfold zno
 by_cases hm : zfc c = true
 case neg =>
  have hm' : zfc c = false := by simpa using hm
  have i1 := zj6 c t hc hm'
  unfold Ct.c at i1
  rw [if_neg hm]
  rw [i1] at ev
  simp only [zw,ze,z8,yj,yk,zu,zt,zf,zq,zx,zy,za,zh,zl,z7,ym,zi,zd,zm,zz,zg,zk,zj,zp,yg,zr,yh,yl,ye,yf,ya,zn,yd,zo,yc,yb,yp,zb,z6,yi] at ev
  exact pc ev rfl
 have ok := mayC_iff.1 hm
 have i1 := z5d c t hc hm
 unfold Ct.c Ct.w Ct.o at i1
 rw [if_pos hm]
 rw [i1] at ev
 simp only [zw,ze,z8,yj,yk,zu,zt,zf,zq,zx,zy,za,zh,zl,z7,ym,zi,zd,zm,zz,zg,zk,zj,zp,yg,zr,yh,yl,ye,yf,ya,zn,yd,zo,yc,yb,yp,zb,z6,yi] at ev
 by_cases h1 : lv c t = true
 case neg =>
  rw [if_neg h1] at ev ⊢
  rw [if_pos (by decide)] at ev
  exact pc ev (fzC c 3)
 rw [if_pos h1] at ev ⊢
 rw [if_neg (by decide)] at ev
 have i2 := z0e c t hc
 have i3 := zj2 (rmC c t) (ztp hc t) (ok.rm t).s
 unfold Ct.w Ct.o at i2 i3
 simp only [List.cons_append,List.nil_append] at i2 i3
 rw [i2] at ev
 simp only [zw,ze,z8,yj,yk,zu,zt,zf,zq,zx,zy,za,zh,zl,z7,ym,zi,zd,zm,zz,zg,zk,zj,zp,yg,zr,yh,yl,ye,yf,ya,zn,yd,zo,yc,yb,yp,zb,z6,yi] at ev
 rw [i3] at ev
 simp only [zw,ze,z8,yj,yk,zu,zt,zf,zq,zx,zy,za,zh,zl,z7,ym,zi,zd,zm,zz,zg,zk,zj,zp,yg,zr,yh,yl,ye,yf,ya,zn,yd,zo,yc,yb,yp,zb,z6,yi] at ev
 exact pc ev (fzC (fgC (rmC c t)) 0)
def cmS (s : List Spn) (t k : Int) : List Spn := s.set (atP s t) ⟨(spn s t).1.t,(spn s t).1.b,k⟩
def cmC (c : Ct) (t : Int) : Ct := { c with k := c.k + 1,s := cmS c.s t (c.k + 1) }
noncomputable def zis (c : Ct) (t : Int) : Ct × Int :=
 if zfc c = true then
  if lv c t = true then
   if dm c t = true then (fgC (rmC c t),14)
   else if c.k > 2147483643 then (c,2)
   else (fgC (gvC (cmC c t)),0)
  else (c,3)
 else (zc,1)
theorem zov {s : List Spn} (hs : ka s = true) {t k : Int} (h : (spn s t).2 = true) {a : Spn} (ha : a ∈ cmS s t k) : (a.t ≠ t ∧ a ∈ s) ∨ a = ⟨t,(spn s t).1.b,k⟩ := by
 unfold cmS at ha
 have hg := zbb hs h
 obtain ⟨h1,h2⟩ := j4 h
 obtain ⟨i,hi⟩ := List.mem_iff_getElem?.1 ha
 rw [List.getElem?_set] at hi
 split at hi
 ·rename_i he
  split at hi
  ·right
   cases hi
   rw [h2]
  ·cases hi
 ·rename_i he
  left
  refine ⟨fun e => ?_,List.mem_iff_getElem?.2 ⟨i,hi⟩⟩
  have h3 := zpg hs (List.mem_iff_getElem?.2 ⟨i,hi⟩) h1 (by rw [h2]; exact e)
  rcases Nat.lt_trichotomy i (atP s t) with h4 | h4 | h4
  ·have := zg3 hs i (atP s t) _ _ h4 hi hg; rw [h3] at this; omega
  ·exact he h4.symm
  ·have := zg3 hs (atP s t) i _ _ h4 hg hi; rw [h3] at this; omega
theorem z4u {s : List Spn} (hs : ka s = true) {t k : Int} (h : (spn s t).2 = true) : (cmS s t k).map (·.t) = s.map (·.t) := by
 unfold cmS
 have hg := zbb hs h
 refine List.ext_getElem? fun i => ?_
 rw [List.getElem?_map,List.getElem?_map,List.getElem?_set]
 split
 ·rename_i he
  subst he
  rw [hg,if_pos (List.getElem?_eq_some_iff.1 hg).1]
  rfl
 ·rfl
theorem zvy {s : List Spn} (hs : ka s = true) {t k : Int} (h : (spn s t).2 = true) (hk : (spn s t).1.b < k) (hk2 : k ≤ 2147483647) : ka (cmS s t k) = true := by
 obtain ⟨h1,h2,h3⟩ := mayS_iff.1 hs
 refine mayS_iff.2 ⟨by unfold cmS; rw [List.length_set]; exact h1,fun a ha => ?_,?_⟩
 ·rcases zov hs h ha with ⟨_,ha⟩ | rfl
  ·exact h2 a ha
  ·obtain ⟨g1,g2⟩ := j4 h
   obtain ⟨k1,k2,k3,k4⟩ := h2 _ g1
   rw [g2] at k1
   exact ⟨k1,k2,k3,.inr ⟨hk,hk2⟩⟩
 ·have := zsu hs
  rw [← z4u hs h (k := k),List.pairwise_map] at this
  exact this
theorem zvx {s : List Spn} (hs : ka s = true) {t k : Int} (h : (spn s t).2 = true) (hk : (spn s t).1.b < k) (hk2 : k ≤ 2147483647) (u : Int) : spn (cmS s t k) u = if u = t then (⟨t,(spn s t).1.b,k⟩,true) else spn s u := by
 have hm := zvy hs h hk hk2
 have hg := zbb hs h
 obtain ⟨g1,g2⟩ := j4 h
 by_cases hu : u = t
 ·subst hu
  rw [if_pos rfl]
  have hin : (⟨u,(spn s u).1.b,k⟩ : Spn) ∈ cmS s u k := by
   unfold cmS
   rw [g2]
   exact List.mem_iff_getElem?.2 ⟨atP s u,by rw [List.getElem?_set_self (List.getElem?_eq_some_iff.1 hg).1]⟩
  exact zbp hm hin
 ·rw [if_neg hu]
  cases hq : (spn s u).2 with
  | true =>
    obtain ⟨k1,k2⟩ := j4 hq
    have hin : (spn s u).1 ∈ cmS s t k := by
     obtain ⟨i,hi⟩ := List.mem_iff_getElem?.1 k1
     have hne : atP s t ≠ i := fun e => by
      rw [← e,hg] at hi
      have := Option.some.inj hi
      rw [← this,g2] at k2
      exact hu k2.symm
     unfold cmS
     exact List.mem_iff_getElem?.2 ⟨i,by rw [List.getElem?_set_ne hne]; exact hi⟩
    have h4 := zbp hm hin
    have h5 := zbp hs k1
    rw [k2] at h4 h5
    rw [h4,h5]
  | false =>
    have h1 := zb7 hq
    have h2 : s.find? (fun a => a.t == u) = none := List.find?_eq_none.2 fun a ha => by rw [beq_iff_eq]; exact h1 a ha
    have h3 : (cmS s t k).find? (fun a => a.t == u) = none := List.find?_eq_none.2 fun a ha => by
     rw [beq_iff_eq]
     rcases zov hs h ha with ⟨_,ha⟩ | rfl
     ·exact h1 a ha
     ·exact fun e => hu e.symm
    unfold spn
    rw [h2,h3]
theorem CtOk.cm {c : Ct} (h : CtOk c) {t : Int} (ht : lv c t = true) (hd : dm c t = false) (hk : c.k ≤ 2147483643) : CtOk (cmC c t) := by
 obtain ⟨h1,h2⟩ := lv_iff.1 ht
 obtain ⟨g1,g2⟩ := j4 h1
 have hb := h.b _ g1
 have hk1 : (spn c.s t).1.b < c.k + 1 := by omega
 have hk2 : c.k + 1 ≤ 2147483647 := by omega
 have hsp := zvx h.s h1 hk1 hk2
 have hsd : ∀ u,sd c u = true → sd (cmC c t) u = true := fun u hu => by
  rw [sd_iff] at hu ⊢
  show (spn (cmS c.s t (c.k + 1)) u).2 = true ∧ u ∉ c.d
  rw [hsp]
  split
  ·exact ⟨rfl,hu.2⟩
  ·exact hu
 refine ⟨?_,?_,zvy h.s h1 hk1 hk2,h.l,h.e,fun a ha => ?_,fun u hu => ?_,h.da,fun x hx => hsd _ (h.ls x hx),fun x hx => ⟨hsd _ (h.es x hx).1,hsd _ (h.es x hx).2⟩⟩
 ·show 0 ≤ c.k + 1; have := h.k0; omega
 ·exact hk2
 ·rcases zov h.s h1 ha with ⟨_,ha⟩ | rfl
  ·have := h.b a ha
   show a.b ≤ c.k + 1 ∧ a.c ≤ c.k + 1
   omega
  ·show (spn c.s t).1.b ≤ c.k + 1 ∧ c.k + 1 ≤ c.k + 1
   omega
 ·have h3 := h.dl u hu
  rw [lv_iff] at h3 ⊢
  show (spn (cmS c.s t (c.k + 1)) u).2 = true ∧ (spn (cmS c.s t (c.k + 1)) u).1.c = 0
  rw [hsp,if_neg (fun e => by
   rw [e] at hu
   have h9 : dm c t = true := dm_iff.2 hu
   rw [h9] at hd; cases hd)]
  exact h3
theorem zj3 (c : Ct) (t : Int) (hc : c.Sm) : yn Cω 8 [.agg c.c,.int .i64 t] = some (.tuple [.agg (zis c t).1.c,.int .i64 (zis c t).2]) := by
 have ev := z77 Cω Lω c.k (c.s.map Spn.e) (c.d.map ie) (c.l.map Lk.e) (c.e.map Ed.e) t
 unfold zis
 by_cases hm : zfc c = true
 case neg =>
  have hm' : zfc c = false := by simpa using hm
  have i1 := zj6 c t hc hm'
  unfold Ct.c at i1
  rw [if_neg hm]
  rw [i1] at ev
  simp only [zw,ze,z8,yj,yk,zu,zt,zf,zq,zx,zy,za,zh,zl,z7,ym,zi,zd,zm,zz,zg,zk,zj,zp,yg,zr,yh,yl,ye,yf,ya,zn,yd,zo,yc,yb,yp,zb,z6,yi] at ev
  exact pc ev rfl
 have ok := mayC_iff.1 hm
 have i1 := z5d c t hc hm
 unfold Ct.c Ct.w Ct.o at i1
 rw [if_pos hm]
 rw [i1] at ev
 simp only [zw,ze,z8,yj,yk,zu,zt,zf,zq,zx,zy,za,zh,zl,z7,ym,zi,zd,zm,zz,zg,zk,zj,zp,yg,zr,yh,yl,ye,yf,ya,zn,yd,zo,yc,yb,yp,zb,z6,yi] at ev
 by_cases h1 : lv c t = true
 case neg =>
  rw [if_neg h1] at ev ⊢
  rw [if_pos (by decide)] at ev
  exact pc ev (fzC c 3)
 rw [if_pos h1] at ev ⊢
 rw [if_neg (by decide)] at ev
 have i2 := z18 c t hc.d
 unfold Ct.c at i2
 simp only [i2,zw,ze,z8,yj,yk,zu,zt,zf,zq,zx,zy,za,zh,zl,z7,ym,zi,zd,zm,zz,zg,zk,zj,zp,yg,zr,yh,yl,ye,yf,ya,zn,yd,zo,yc,yb,yp,zb,z6,yi] at ev
 by_cases h2 : dm c t = true
 ·rw [if_pos h2] at ev ⊢
  have i2 := z0e c t hc
  have i3 := zj2 (rmC c t) (ztp hc t) (ok.rm t).s
  unfold Ct.w Ct.o at i2 i3
  simp only [List.cons_append,List.nil_append] at i2 i3
  rw [i2] at ev
  simp only [zw,ze,z8,yj,yk,zu,zt,zf,zq,zx,zy,za,zh,zl,z7,ym,zi,zd,zm,zz,zg,zk,zj,zp,yg,zr,yh,yl,ye,yf,ya,zn,yd,zo,yc,yb,yp,zb,z6,yi] at ev
  rw [i3] at ev
  simp only [zw,ze,z8,yj,yk,zu,zt,zf,zq,zx,zy,za,zh,zl,z7,ym,zi,zd,zm,zz,zg,zk,zj,zp,yg,zr,yh,yl,ye,yf,ya,zn,yd,zo,yc,yb,yp,zb,z6,yi] at ev
  exact pc ev (fzC (fgC (rmC c t)) 14)
 rw [if_neg h2] at ev ⊢
 by_cases h3 : c.k > 2147483643
 ·rw [if_pos (decide_eq_true h3)] at ev
  rw [if_pos h3]
  exact pc ev (fzC c 2)
 rw [if_neg (by rw [decide_eq_true_eq]; exact h3)] at ev
 rw [if_neg h3]
 have i4 := z0m c t hc.s ok.s
 unfold Ct.c at i4
 have hw := z2f ok.k0 (show c.k ≤ 2147483643 by omega)
 have hth := (lv_iff.1 h1).1
 have hg := zbb ok.s hth
 have hlt := (List.getElem?_eq_some_iff.1 hg).1
 simp only [i4,zw,ze,z8,yj,yk,zu,zt,zf,zq,zx,zy,za,zh,zl,z7,ym,zi,zd,zm,zz,zg,zk,zj,zp,yg,zr,yh,yl,ye,yf,ya,zn,yd,zo,yc,yb,yp,zb,z6,yi,hw] at ev
 rw [if_pos ⟨nn _,by rw [List.length_map]; omega⟩,if_pos (by rw [Int.toNat_natCast,List.length_map]; exact hlt),Int.toNat_natCast] at ev
 have m1 : (c.s.map Spn.e).set (atP c.s t) (over ((c.s.map Spn.e).getD (atP c.s t) []) 2 [.int .i64 (c.k + 1)]) = (cmS c.s t (c.k + 1)).map Spn.e := by
  rw [z00 hg]
  unfold cmS
  rw [← map_set]
  rfl
 rw [m1] at ev
 have hdm : dm c t = false := by simpa using h2
 have ok2 := ok.cm h1 hdm (show c.k ≤ 2147483643 by omega)
 have i5 := zpj (cmC c t) ok2.Sm ok2.s ok2.e ok2.da
 have i6 := zj2 (gvC (cmC c t)) ok2.gv.Sm ok2.gv.s
 unfold Ct.w Ct.o at i5 i6
 simp only [List.cons_append,List.nil_append] at i6
 have i5' : Cω 35 [.agg [.int .i64 (c.k + 1),whole 0 3,whole 1 1,.psl false (c.l.map Lk.e),.psl false (c.e.map Ed.e)]] [.made true 3 ((cmS c.s t (c.k + 1)).map Spn.e),.made true 1 (c.d.map ie)] = _ := i5
 rw [i5'] at ev
 simp only [zw,ze,z8,yj,yk,zu,zt,zf,zq,zx,zy,za,zh,zl,z7,ym,zi,zd,zm,zz,zg,zk,zj,zp,yg,zr,yh,yl,ye,yf,ya,zn,yd,zo,yc,yb,yp,zb,z6,yi] at ev
 rw [i6] at ev
 simp only [zw,ze,z8,yj,yk,zu,zt,zf,zq,zx,zy,za,zh,zl,z7,ym,zi,zd,zm,zz,zg,zk,zj,zp,yg,zr,yh,yl,ye,yf,ya,zn,yd,zo,yc,yb,yp,zb,z6,yi] at ev
 exact pc ev (fzC (fgC (gvC (cmC c t))) 0)
theorem zsl : CtOk zc := ⟨by decide,by decide,rfl,rfl,rfl,(fun a ha => by cases ha),(fun a ha => by cases ha),.nil,(fun a ha => by cases ha),(fun a ha => by cases ha)⟩
theorem z17 {c : Ct} (t : Int) : CtOk (zno c t).1 := by
 unfold zno
 split
 ·rename_i h
  split
  ·exact ((mayC_iff.1 h).rm t).fgC
  ·exact mayC_iff.1 h
 ·exact zsl
theorem z1s {c : Ct} (t : Int) : CtOk (zis c t).1 := by
 unfold zis
 split
 ·rename_i h
  have ok := mayC_iff.1 h
  split
  ·rename_i h1
   split
   ·exact (ok.rm t).fgC
   ·rename_i h2
    split
    ·exact ok
    ·rename_i h3
     exact ((ok.cm h1 (by simpa using h2) (by omega)).gv).fgC
  ·exact ok
 ·exact zsl
theorem insS_mem {s : List Spn} {x a : Spn} : a ∈ zlo s x ↔ a = x ∨ a ∈ s := by
 unfold zlo
 rw [List.mem_append,List.mem_cons]
 constructor
 ·rintro (h | h | h)
  ·exact .inr (List.mem_of_mem_take h)
  ·exact .inl h
  ·exact .inr (List.mem_of_mem_drop h)
 ·rintro (h | h)
  ·exact .inr (.inl h)
  ·rw [← List.take_append_drop (atP s x.t) s] at h
   rcases List.mem_append.1 h with h | h
   ·exact .inl h
   ·exact .inr (.inr h)
theorem zqe {s : List Spn} (hs : ka s = true) {x : Spn} (hx : OkA x) (hn : (spn s x.t).2 = false) (hl : s.length < 24) : ka (zlo s x) = true := by
 obtain ⟨h1,h2,h3⟩ := mayS_iff.1 hs
 obtain ⟨p1,p2⟩ := zgs hs x.t
 refine mayS_iff.2 ⟨?_,fun a ha => ?_,?_⟩
 ·unfold zlo
  simp only [List.length_append,List.length_take,List.length_cons,List.length_drop]; omega
 ·rcases insS_mem.1 ha with rfl | ha
  ·exact hx
  ·exact h2 a ha
 ·unfold zlo
  have hlt : ∀ a ∈ s.take (atP s x.t),a.t < x.t := fun a ha => by
   obtain ⟨k,hk⟩ := List.mem_iff_getElem?.1 ha
   have hkl : k < atP s x.t := by have := (List.getElem?_eq_some_iff.1 hk).1; rw [List.length_take] at this; omega
   rw [List.getElem?_take_of_lt hkl] at hk
   exact (p2 k a hk).2 hkl
  have hgt : ∀ b ∈ s.drop (atP s x.t),x.t < b.t := fun b hb => by
   obtain ⟨k,hk⟩ := List.mem_iff_getElem?.1 hb
   rw [List.getElem?_drop] at hk
   have h4 : ¬ b.t < x.t := fun h => by have := (p2 _ b hk).1 h; omega
   have h5 := zb7 hn b (List.mem_iff_getElem?.2 ⟨_,hk⟩)
   omega
  refine List.pairwise_append.2 ⟨h3.sublist (List.take_sublist _ _),List.pairwise_cons.2 ⟨hgt,h3.sublist (List.drop_sublist _ _)⟩,fun a ha b hb => ?_⟩
  rcases List.mem_cons.1 hb with rfl | hb
  ·exact hlt a ha
  ·have := hlt a ha; have := hgt b hb; omega
theorem zqd {s : List Spn} (hs : ka s = true) {x : Spn} (hx : OkA x) (hn : (spn s x.t).2 = false) (hl : s.length < 24) (u : Int) : spn (zlo s x) u = if u = x.t then (x,true) else spn s u := by
 have hm := zqe hs hx hn hl
 by_cases hu : u = x.t
 ·rw [if_pos hu,hu]
  exact zbp hm (insS_mem.2 (.inl rfl))
 ·rw [if_neg hu]
  cases hq : (spn s u).2 with
  | true =>
    obtain ⟨k1,k2⟩ := j4 hq
    have h4 := zbp hm (insS_mem.2 (.inr k1))
    have h5 := zbp hs k1
    rw [k2] at h4 h5
    rw [h4,h5]
  | false =>
    have h1 := zb7 hq
    have h2 : s.find? (fun a => a.t == u) = none := List.find?_eq_none.2 fun a ha => by rw [beq_iff_eq]; exact h1 a ha
    have h3 : (zlo s x).find? (fun a => a.t == u) = none := List.find?_eq_none.2 fun a ha => by
     rw [beq_iff_eq]
     rcases insS_mem.1 ha with rfl | ha
     ·exact fun e => hu e.symm
     ·exact h1 a ha
    unfold spn
    rw [h2,h3]
theorem z12 {c : Ct} (t : Int) : CtOk (zjt c t).1 := by
 unfold zjt
 split
 ·rename_i h
  have ok := mayC_iff.1 h
  split
  ·rename_i ht
   split
   ·exact ok
   ·rename_i h1
    split
    ·exact ok
    ·rename_i h2
     have hk : c.k ≤ 2147483643 := by
      have : ¬ c.k > 2147483643 := fun h => h1 (.inr h)
      omega
     have hn : (spn c.s t).2 = false := by
      cases hq : (spn c.s t).2 with
      | true => exact absurd (.inl hq) h1
      | false => rfl
     have hx : OkA ⟨t,c.k + 1,0⟩ := ⟨ht,by show 0 ≤ c.k + 1; have := ok.k0; omega,by show c.k + 1 ≤ 2147483647; omega,.inl rfl⟩
     have hl : c.s.length < 24 := by have := (mayS_iff.1 ok.s).1; omega
     have hsp := zqd ok.s hx hn hl
     have hne : ∀ u,(spn c.s u).2 = true → u ≠ t := fun u hu e => by rw [e,hn] at hu; cases hu
     have hsd : ∀ u,sd c u = true → sd { c with k := c.k + 1,s := zlo c.s ⟨t,c.k + 1,0⟩ } u = true := fun u hu => by
      rw [sd_iff] at hu ⊢
      show (spn (zlo c.s ⟨t,c.k + 1,0⟩) u).2 = true ∧ u ∉ c.d
      rw [hsp,if_neg (hne u hu.1)]
      exact hu
     refine ⟨?_,?_,zqe ok.s hx hn hl,ok.l,ok.e,fun a ha => ?_,fun u hu => ?_,ok.da,fun x hx => hsd _ (ok.ls x hx),fun x hx => ⟨hsd _ (ok.es x hx).1,hsd _ (ok.es x hx).2⟩⟩
     ·show 0 ≤ c.k + 1; have := ok.k0; omega
     ·show c.k + 1 ≤ 2147483647; omega
     ·show a.b ≤ c.k + 1 ∧ a.c ≤ c.k + 1
      rcases insS_mem.1 ha with rfl | ha
      ·have := ok.k0
       show c.k + 1 ≤ c.k + 1 ∧ (0 : Int) ≤ c.k + 1
       omega
      ·have := ok.b a ha; omega
     ·have h3 := ok.dl u hu
      rw [lv_iff] at h3 ⊢
      show (spn (zlo c.s ⟨t,c.k + 1,0⟩) u).2 = true ∧ (spn (zlo c.s ⟨t,c.k + 1,0⟩) u).1.c = 0
      rw [hsp,if_neg (hne u h3.1)]
      exact h3
  ·exact ok
 ·exact zsl
end Go.Pvm.S
