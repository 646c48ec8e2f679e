/- Part of the proof: the clock of a pool: a page touched, a page dropped. -/
import Derived.Test.YtceokplopachgaaPolE
set_option linter.unusedSimpArgs false
set_option linter.unusedVariables false
set_option maxRecDepth 100000
namespace Go.Pvm.S
open Go.Pvm Go.Proofs
theorem zgk {α : Type} {l : List α} {i j : Nat} {a b : α} (h : (l.set i a)[j]? = some b) : (j = i ∧ b = a) ∨ (j ≠ i ∧ l[j]? = some b) := by
 rw [List.getElem?_set] at h
 split at h
 ·rename_i e
  split at h
  ·cases h; exact .inl ⟨e.symm,rfl⟩
  ·cases h
 ·rename_i e; exact .inr ⟨fun e' => e e'.symm,h⟩
structure Tou (n : Nat) (c : Ck) (k : Int) (c' : Ck) (was : Int) : Prop where
 ok : CkOk n c'
 new : ∀ s ∈ c'.l,0 ≤ s.p → s.p = k ∨ ∃ t ∈ c.l,t.p = s.p
 old : ∀ t ∈ c.l,0 ≤ t.p → t.p = was ∨ ∃ s ∈ c'.l,s.p = t.p
 has : ∃ s ∈ c'.l,s.p = k
 wk : was ≠ k
 w : was = -1 ∨ (0 ≤ was ∧ ¬ ∃ s ∈ c'.l,s.p = was)
theorem CkOk.ok {n : Nat} {c : Ck} (h : CkOk n c) : c.ok = true := okC h.n1.1 h.n1.2 h.ln h.hh h.gd
theorem CkOk.touch {n : Nat} {c : Ck} (h : CkOk n c) {k : Int} (k0 : 0 ≤ k) (k1 : k < 64) : (j8 c k).2.2.2 = 0 ∧ Tou n c k (j8 c k).1 (j8 c k).2.2.1 := by
 have hln := h.ln
 have hhh := h.hh
 have hn1 := h.n1
 unfold j8
 rw [if_neg (by rw [h.ok]; decide),if_neg (by omega)]
 cases hq : atS c.l k with
 | some i =>
   obtain ⟨s,hs,rfl⟩ := zeb hq
   have hi : i < c.l.length := (had.1 hs).1
   have hgd : c.l.getD i noSp = s := by rw [hai,hs]; rfl
   have hsm := haj hs
   simp only [hgd]
   have mem : ∀ t ∈ c.l.set i { s with u := true },t = { s with u := true } ∨ t ∈ c.l := fun t ht => (List.mem_or_eq_of_mem_set ht).symm
   refine ⟨trivial,⟨hn1,by simp [hln],hhh,?_,?_⟩,?_,?_,?_,by omega,.inl rfl⟩
   ·exact Good.put h.gd ⟨k0,k1⟩ fun j t ht e => h.gd.one j i t s ht hs (by rw [e]; exact k0) e
   ·intro t ht
    rcases mem t ht with rfl | ht
    ·exact h.pn s hsm
    ·exact h.pn t ht
   ·intro t ht h0
    rcases mem t ht with rfl | ht
    ·exact .inl rfl
    ·exact .inr ⟨t,ht,rfl⟩
   ·intro t ht h0
    right
    obtain ⟨j,hj⟩ := hau.1 ht
    by_cases e : i = j
    ·subst e
     rw [hs] at hj
     cases hj
     exact ⟨_,haj (ha3 hi),rfl⟩
    ·exact ⟨t,haj ((ha5 e).trans hj),rfl⟩
   ·exact ⟨_,haj (ha3 hi),rfl⟩
 | none =>
   have hno : ∀ (j : Nat) (t : Sp),c.l[j]? = some t → t.p ≠ k := fun j t ht => zm0 hq ht
   have hsp := fun i => zob (l := c.l) h.gd (h := c.h.toNat) (i := i) (by omega)
   have hso := fun j s => zoc (l := c.l) (h := c.h.toNat) (by omega) (j := j) (s := s)
   have hlt := fun i => zms (l := c.l) (h := c.h.toNat) (i := i) (by omega)
   have hfl := zjf c.l c.h.toNat
   have h0l : 0 < c.l.length := by omega
   have hex := hso 0 _ (haf h0l) (h.pn _ (List.getElem_mem h0l))
   simp only
   generalize w6 c.l c.h.toNat = r at hsp hso hlt hfl hex
   obtain ⟨o,l',h'⟩ := r
   cases o with
   | none => obtain ⟨i,hi⟩ := hex; cases hi
   | some i =>
     obtain ⟨k1',k2,s,k3,k4⟩ := hsp i rfl
     have hi : i < l'.length := (had.1 k3).1
     simp only at hfl k1' k2 k3
     have hg := k1'.good h.gd
     have hgd : l'.getD i noSp = s := by rw [hai,k3]; rfl
     simp only [hgd]
     have back : ∀ (j : Nat) (t : Sp),l'[j]? = some t → ∃ t' ∈ c.l,t'.p = t.p ∧ t'.n = t.n := fun j t ht => by
      obtain ⟨t',b1,b2⟩ := k1'.back ht
      exact ⟨t',haj b1,(Kn.pn b2).1.symm,(Kn.pn b2).2.symm⟩
     refine ⟨trivial,⟨hn1,by simp [hfl,hln],⟨by simp only; omega,by simp only; omega⟩,?_,?_⟩,?_,?_,?_,?_,?_⟩
     ·refine Good.put hg ⟨k0,k1⟩ fun j t ht e => ?_
      obtain ⟨s',b1,b2⟩ := k1'.back ht
      exact absurd ((Kn.pn b2).1.symm.trans e) (hno j s' b1)
     ·intro t ht
      obtain ⟨j,hj⟩ := hau.1 ht
      rcases zgk hj with ⟨rfl,rfl⟩ | ⟨_,hj⟩
      ·rfl
      ·obtain ⟨t',b1,_,b2⟩ := back j t hj
       rw [← b2]; exact h.pn t' b1
     ·intro t ht _
      obtain ⟨j,hj⟩ := hau.1 ht
      rcases zgk hj with ⟨rfl,rfl⟩ | ⟨_,hj⟩
      ·exact .inl rfl
      ·obtain ⟨t',b1,b2,_⟩ := back j t hj
       exact .inr ⟨t',b1,b2⟩
     ·intro t ht _
      obtain ⟨j,hj⟩ := hau.1 ht
      obtain ⟨t',b1,b2⟩ := k1'.2 j t hj
      by_cases e : i = j
      ·subst e
       rw [k3] at b1
       cases b1
       exact .inl (Kn.pn b2).1.symm
      ·exact .inr ⟨t',haj ((ha5 e).trans b1),(Kn.pn b2).1⟩
     ·exact ⟨_,haj (ha3 hi),rfl⟩
     ·intro e
      obtain ⟨s',b1,b2⟩ := k1'.back k3
      exact hno i s' b1 ((Kn.pn b2).1.symm.trans e)
     ·rcases hg.rng i s k3 with e | e
      ·left; rw [e]; rfl
      ·right
       refine ⟨e.1,fun ⟨t,ht,hp⟩ => ?_⟩
       obtain ⟨j,hj⟩ := hau.1 ht
       rcases zgk hj with ⟨rfl,rfl⟩ | ⟨hne,hj⟩
       ·obtain ⟨s',b1,b2⟩ := k1'.back k3
        exact hno j s' b1 ((Kn.pn b2).1.symm.trans hp.symm)
       ·exact hne (hg.one j i t s hj k3 (by rw [hp]; exact e.1) hp)
def w7 (c : Ck) (k : Int) : Ck × Int :=
 if c.ok = false then (⟨[],0⟩,1) else match atS c.l k with
 | none => (c,3)
 | some i => if k < 0 then (c,3) else if (c.l.getD i noSp).n = true then (c,1) else (⟨c.l.set i noSp,c.h⟩,0)
theorem zwh (c : Ck) (k : Int) (hl : c.l.length ≤ 100) : jm Cω 42 [c.v,.int .i64 k] = some (.tuple [(w7 c k).1.v,.int .i64 (w7 c k).2]) := by
 have ev := zzg Cω Lω (c.l.map Sp.e) c.h k
 have hc := zpe c (by omega)
 simp only [Ck.v,sps] at hc
 simp only [hc,zb,zc,ye,xb,xc,y1,yq,zo,yl,ym,yk,zm,zx,yd,yp,xw,zy,zl,yf,yo,zr,z6,zz,yn,yz,yy,xd,xe,yw,yx,yr,yg,yv,yh,yu,yt,vn,za,ya,y9] at ev
 unfold w7
 by_cases c1 : c.ok = true
 ·rw [if_pos c1,if_neg (by decide)] at ev
  rw [if_neg (by rw [c1]; decide)]
  have ho := zwe c hl
  have ha := zx8 c k (by omega)
  simp only [Ck.v,sps] at ho ha
  simp only [ho,ha,zb,zc,ye,xb,xc,y1,yq,zo,yl,ym,yk,zm,zx,yd,yp,xw,zy,zl,yf,yo,zr,z6,zz,yn,yz,yy,xd,xe,yw,yx,yr,yg,yv,yh,yu,yt,vn,za,ya,y9] at ev
  cases hq : atS c.l k with
  | none =>
    simp only [hq,zn4] at ev
    rw [if_pos (by decide)] at ev
    exact pc ev rfl
  | some i =>
    have hi := zrg hq
    have hg := haf hi
    have hgd : c.l.getD i noSp = c.l[i] := by rw [hai,hg]; rfl
    simp only [hq,zn4] at ev
    rw [if_neg (by simp)] at ev
    by_cases c2 : k < 0
    ·rw [if_pos (by simpa using c2)] at ev
     simp only [if_pos c2]
     exact pc ev rfl
    ·have hp : xl Try.prog 4 (c.l[i]).e 2 = some (.bool (c.l[i]).n) := oBool.part 2
     rw [if_neg (by simpa using c2),han,if_pos ⟨by omega,by omega⟩,hax,zdf hg,za,hp,za,zc] at ev
     simp only [if_neg c2,hgd]
     by_cases c3 : (c.l[i]).n = true
     ·rw [if_pos c3] at ev
      rw [if_pos c3]
      exact pc ev rfl
     ·rw [if_neg c3,if_pos ⟨by omega,by omega⟩,if_pos hi] at ev
      rw [if_neg c3]
      have hs : (c.l.map Sp.e).set i [.int .i64 (-1),.bool false,.bool false] = (c.l.set i noSp).map Sp.e := by rw [List.map_set]; rfl
      rw [hs] at ev
      exact pc ev rfl
 ·rw [if_neg c1,if_pos (by decide)] at ev
  rw [if_pos (by simpa using c1)]
  exact pc ev rfl
theorem CkOk.drop {n : Nat} {c : Ck} (h : CkOk n c) {k : Int} (k0 : 0 ≤ k) : CkOk n (w7 c k).1 ∧ ((w7 c k).1.l.length = n) ∧ (∀ t ∈ c.l,0 ≤ t.p → t.p = k ∨ ∃ s ∈ (w7 c k).1.l,s.p = t.p) ∧ ∀ s ∈ (w7 c k).1.l,0 ≤ s.p → ∃ t ∈ c.l,t.p = s.p := by
 have hid : CkOk n c ∧ (c.l.length = n) ∧ (∀ t ∈ c.l,0 ≤ t.p → t.p = k ∨ ∃ s ∈ c.l,s.p = t.p) ∧ ∀ s ∈ c.l,0 ≤ s.p → ∃ t ∈ c.l,t.p = s.p := ⟨h,h.ln,fun t ht _ => .inr ⟨t,ht,rfl⟩,fun s hs _ => ⟨s,hs,rfl⟩⟩
 unfold w7
 rw [if_neg (by rw [h.ok]; decide)]
 cases hq : atS c.l k with
 | none => exact hid
 | some i =>
   simp only
   rw [if_neg (by omega)]
   split
   ·exact hid
   ·obtain ⟨s,hs,hk⟩ := zeb hq
    have hi := (had.1 hs).1
    refine ⟨⟨h.n1,by simp [h.ln],h.hh,⟨fun j t ht => ?_,fun j l t v ht hv h0 he => ?_⟩,fun t ht => ?_⟩,by simp [h.ln],fun t ht h0 => ?_,fun t ht h0 => ?_⟩
    ·rcases zgk ht with ⟨_,rfl⟩ | ⟨_,ht⟩
     ·exact .inl rfl
     ·exact h.gd.rng j t ht
    ·rcases zgk ht with ⟨rfl,rfl⟩ | ⟨_,ht⟩
     ·exact absurd h0 (by decide)
     ·rcases zgk hv with ⟨rfl,rfl⟩ | ⟨_,hv⟩
      ·rw [he] at h0; exact absurd h0 (by decide)
      ·exact h.gd.one j l t v ht hv h0 he
    ·rcases (List.mem_or_eq_of_mem_set ht) with ht | rfl
     ·exact h.pn t ht
     ·rfl
    ·obtain ⟨j,hj⟩ := hau.1 ht
     by_cases e : i = j
     ·subst e
      rw [hs] at hj
      cases hj
      exact .inl hk
     ·exact .inr ⟨t,haj ((ha5 e).trans hj),rfl⟩
    ·rcases (List.mem_or_eq_of_mem_set ht) with ht | rfl
     ·exact ⟨t,ht,rfl⟩
     ·exact absurd h0 (by decide)
section
variable {vs : PV}
theorem zxx {c2 : Cfg} (hm : c2.mode 42 = .pure) (hP : c2.P = Try.prog) {c : Ck} (hs : IsS (Fn Sp.e) vs c.l) (hl : c.l.length ≤ 100) (k : Int) (σ : Store) :
  ∃ vs',zi c2 (ze cfg) 42 [.agg [vs,.int .i64 c.h],.int .i64 k] σ = some (.tuple [.agg [vs',.int .i64 (w7 c k).1.h],.int .i64 (w7 c k).2],σ) ∧ IsS (Fn Sp.e) vs' (w7 c k).1.l := by
 have hpl : ∀ x ∈ [vs,.int .i64 c.h],x.plain = true := fun x hx => by
  rcases ha6.1 hx with rfl | hx
  ·exact hs.plain
  ·rw [ham.1 hx]; rfl
 obtain ⟨p,h1,h2⟩ := zq7 (c2 := c2) hm hP (by kernel_rfl) (zwh c k hl) (.cons (.agg (.cons (IsS.vfS hs) (.cons (.base _ rfl) .nil))) (.cons (.base _ rfl) .nil)) (fun σ => by rw [List.map_cons,List.map_cons,List.map_nil,zxr hpl]; rfl) (by unfold PV.lf.lfs; rw [zw9 hpl]; rfl) σ
 cases h2 with
 | base h => cases ‹PV.base _ = true›
 | tuple h =>
   cases h with | cons a0 h => cases h with | cons a1 h =>
   cases h
   obtain ⟨vs',rfl,hv⟩ := VF.ck a0
   rw [a1.base_eq rfl] at h1
   exact ⟨vs',h1,hv⟩
end
end Go.Pvm.S
