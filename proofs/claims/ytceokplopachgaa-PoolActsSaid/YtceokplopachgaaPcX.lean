/- Part of the proof: the document's clock over values alone: it is the clock's. -/
import Derived.Test.YtceokplopachgaaRfA
set_option linter.unusedSimpArgs false
set_option linter.unusedVariables false
set_option maxRecDepth 100000
namespace Go.Pvm.S
open Go.Pvm Go.Proofs
theorem sPl (l : List Sp) : zt 3 (l.map Sp.e) = true := z5e l fun a => ⟨rfl,rfl⟩
theorem z61 (c : Ck) {i : Nat} (hi : i < c.l.length) (hl : c.l.length ≤ 100) (s : Sp) : jm Cω 76 [c.v,.int .i64 (i : Nat),.agg s.e] = some (Ck.v ⟨c.l.set i s,c.h⟩) := by
 have ev := yah Cω Lω (c.l.map Sp.e) c.h (i : Nat) s.p s.u s.n
 rw [sPl,if_neg (by decide),han,List.length_nil,if_pos (by omega),List.nil_append,han,if_pos ⟨by omega,by omega⟩,hax,if_pos hi,show (c.l.map Sp.e).set i [.int .i64 s.p,.bool s.u,.bool s.n] = (c.l.set i s).map Sp.e from (List.map_set ..).symm] at ev
 exact pc ev rfl
theorem z85 (c : Ck) (k : Int) (hl : c.l.length ≤ 100) : jm Cω 75 [c.v,.int .i64 k] = some (.int .i64 (zn4 (atS c.l k))) := by
 have key : ∀ (m i : Nat),i + m = c.l.length → (∀ j < i,∀ s,c.l[j]? = some s → (s.p == k) = false) → Lω 75 z6c 0 (z5y k (i : Nat)) [.box true 46 [sps c.l,.int .i64 c.h]] = some (match atS c.l k with | some j => (.ret,mkS 22 [(4,.int .i64 (j : Nat))],[]) | none => (.exit 0,mkS 22 [],[])) := by
  intro m
  induction m with
  | zero =>
    intro i hi hn
    have hq : atS c.l k = none := by
     unfold atS
     rw [List.findIdx?_eq_none_iff]
     intro x hx
     obtain ⟨j,hj⟩ := hau.1 hx
     have hjl := (had.1 hj).1
     exact hn j (by omega) x hj
    rw [hq]
    refine lw ((z7s Cω Lω k (i : Nat) (c.l.map Sp.e) c.h).trans ?_)
    rw [if_neg (by rw [hbw,han]; omega)]
  | succ m ih =>
    intro i hi hn
    have hw := haf (show i < c.l.length by omega)
    have ev := z7s Cω Lω k (i : Nat) (c.l.map Sp.e) c.h
    rw [if_pos (by rw [hbw,han]; omega),if_pos (by omega),hax,zw2 hw,za] at ev
    have he : (c.l[i]).e = [.int .i64 (c.l[i]).p,.bool (c.l[i]).u,.bool (c.l[i]).n] := rfl
    rw [he,yn,yz,yz,yl] at ev
    cases hp : (c.l[i]).p == k with
    | true =>
      rw [hp,if_pos rfl] at ev
      have hq : atS c.l k = some i := by
       unfold atS
       rw [List.findIdx?_eq_some_iff_getElem]
       refine ⟨by omega,hp,fun j hj => ?_⟩
       have := hn j hj _ (haf (by omega))
       rw [this]; decide
      rw [hq]
      exact lw ev
    | false =>
      rw [hp,if_neg (by decide),y6 (by omega)] at ev
      exact lw (ev.trans (ih (i + 1) (by omega) fun j hj s hs => by
       by_cases e : j = i
       ·subst e; rw [hw] at hs; cases hs; exact hp
       ·exact hn j (by omega) s hs))
 have ev := yai Cω Lω (c.l.map Sp.e) c.h k
 have lp := key c.l.length 0 (by omega) (fun j hj => absurd hj (Nat.not_lt_zero _))
 rw [zp3] at lp
 unfold sps at lp
 rw [lp,za] at ev
 cases hq : atS c.l k with
 | none =>
   rw [hq] at ev
   simp only [zb,zc,ye,xb,xc,y1,yq,zo,yl,ym,yk,zm,zx,yd,yp,xw,zy,zl,yf,yo,zr,z6,zz,yn,yz,yy,xd,xe,yw,yx,yr,yg,yv,yh,yu,yt,vn,za,ya,y9,if_true] at ev
   exact pc ev rfl
 | some j =>
   rw [hq] at ev
   have g1 : List.getD (mkS 22 [(4,PV.int .i64 (j : Nat))]) 4 .undef = .int .i64 (j : Nat) := rfl
   simp only [zb,zc,ye,xb,xc,y1,yq,zo,yl,ym,yk,zm,zx,yd,yp,xw,zy,zl,yf,yo,zr,z6,zz,yn,yz,yy,xd,xe,yw,yx,yr,yg,yv,yh,yu,yt,vn,za,ya,y9,g1] at ev
   exact pc ev rfl
end Go.Pvm.S
set_option linter.unusedSimpArgs false
set_option linter.unusedVariables false
set_option maxRecDepth 100000
namespace Go.Pvm.S
open Go.Pvm Go.Proofs
theorem ya9 (page : Int) (c : Ck) {n : Nat} (hn : 1 ≤ n ∧ n ≤ 100) (hc : c.l.length = n) : ∀ (k i : Nat) (l : List Sp) (h : Nat) {j : Nat} {l' : List Sp} {h' : Nat},i + k = 2 * n → l.length = n → h < n → uy k l h = (some j,l',h') →
  Lω 73 z42 0 (z41 page (i : Nat)) [.box true 46 [sps c.l,.int .i64 c.h],.box true 46 [whole 3 3,.int .i64 0],.box true 46 [sps l,.int .i64 (h : Nat)],.made true 3 []] =
   some (.ret,mkS 99 [(4,.ref 0 0 0),(5,.int .i64 (j : Nat)),(6,.int .i64 (l'.getD j noSp).p),(7,.int .i64 0)],[.box true 46 [sps (l'.set j ⟨page,true,false⟩),.int .i64 (h' : Nat)]])
 | 0,i,l,h,j,l',h',_,_,_,hf => by unfold uy at hf; cases hf
 | k + 1,i,l,h,j,l',h',hi,hl,hh,hf => by
   obtain ⟨s,hw⟩ : ∃ s,l[h]? = some s := ⟨_,haf (show h < l.length by omega)⟩
   have ev := z8n Cω Lω page (i : Nat) (c.l.map Sp.e) c.h 0 (l.map Sp.e) (h : Nat) []
   rw [han,hc,show IntKind.wrap .i64 (2 * ((n : Nat) : Int)) = ((2 * n : Nat) : Int) by rw [zap (by omega) (by omega)]; omega,if_pos (by rw [hbw]; omega),if_pos (by omega),hax,zw2 hw,za] at ev
   have he : s.e = [.int .i64 s.p,.bool s.u,.bool s.n] := rfl
   rw [he,yn,yz,yz,yl,y6 (show h < 4611686018427387904 by omega),han,hl] at ev
   unfold uy at hf
   rw [hw] at hf
   simp only at hf
   have wi := y6 (show i < 4611686018427387904 by omega)
   -- where the hand goes
   obtain ⟨h2,e2,hh2,step⟩ : ∃ h2 : Nat,(h + 1) % l.length = h2 ∧ h2 < n ∧ (((((h + 1 : Nat) : Int) == ((n : Nat) : Int)) = true ∧ h2 = 0) ∨ ((((h + 1 : Nat) : Int) == ((n : Nat) : Int)) = false ∧ h2 = h + 1)) := by
    refine ⟨(h + 1) % l.length,rfl,by rw [hl]; exact Nat.mod_lt _ (by omega),?_⟩
    by_cases e : h + 1 = n
    ·left; exact ⟨by rw [e]; exact hb3 _,by rw [hl,e,Nat.mod_self]⟩
    ·right; exact ⟨by rw [beq_eq_false_iff_ne]; omega,by rw [hl,Nat.mod_eq_of_lt (by omega)]⟩
   rw [e2] at hf
   have hS : ∀ t : Sp,jm Cω 76 [.agg [sps l,.int .i64 (h2 : Nat)],.int .i64 (h : Nat),.agg t.e] = some (.agg [sps (l.set h t),.int .i64 (h2 : Nat)]) := fun t => z61 ⟨l,(h2 : Nat)⟩ (i := h) (by show h < l.length; omega) (by show l.length ≤ 100; omega) t
   have ih := fun (l2 : List Sp) (hl2 : l2.length = n) (hf2 : uy k l2 h2 = (some j,l',h')) => ya9 page c hn hc k (i + 1) l2 h2 (by omega) hl2 hh2 hf2
   unfold sps at hS ih
   rw [wi] at ev
   cases hnn : s.n with
   | true =>
     rw [hnn,if_pos rfl] at hf
     rw [hnn] at ev
     rcases step with ⟨c1,c2⟩ | ⟨c1,c2⟩
     ·rw [c1,if_pos rfl,if_neg (by decide),if_neg (by decide)] at ev
      have r := ih l hl hf
      rw [c2] at r
      exact lw (ev.trans r)
     ·rw [c1,if_neg (by decide),if_neg (by decide),if_neg (by decide)] at ev
      have r := ih l hl hf
      rw [c2] at r
      exact lw (ev.trans r)
   | false =>
     rw [hnn,if_neg (by decide)] at hf
     rw [hnn] at ev
     cases huu : s.u with
     | true =>
       rw [huu,if_pos rfl] at hf
       rw [huu] at ev
       have hSS := hS ⟨s.p,false,false⟩
       have r := ih (l.set h ⟨s.p,false,false⟩) (by rw [List.length_set]; exact hl) hf
       have hse : Sp.e ⟨s.p,false,false⟩ = [.int .i64 s.p,.bool false,.bool false] := rfl
       rw [hse] at hSS
       rcases step with ⟨c1,c2⟩ | ⟨c1,c2⟩
       ·rw [c2] at r hSS
        rw [c1,if_pos rfl,if_pos (show (!false) = true from rfl),if_neg (show ¬ (!true) = true by decide),if_pos (show (!false) = true from rfl)] at ev
        have hSS' : jm Cω 76 [.agg [.psl false (l.map Sp.e),.int .i64 0],.int .i64 (h : Nat),.agg [.int .i64 s.p,.bool false,.bool false]] = _ := hSS
        rw [hSS',za,y1,xd,yn,yl] at ev
        exact lw (ev.trans r)
       ·rw [c2] at r hSS
        rw [c1,if_neg (by decide),if_pos (show (!false) = true from rfl),if_neg (show ¬ (!true) = true by decide),if_pos (show (!false) = true from rfl),hSS,za,y1,xd,yn,yl] at ev
        exact lw (ev.trans r)
     | false =>
       rw [huu,if_neg (by decide)] at hf
       rw [huu] at ev
       cases hf
       have hSS := hS ⟨page,true,false⟩
       have hse : Sp.e ⟨page,true,false⟩ = [.int .i64 page,.bool true,.bool false] := rfl
       rw [hse] at hSS
       have hg : l.getD h noSp = s := by rw [hai,hw]; rfl
       rw [hg]
       unfold sps
       rcases step with ⟨c1,c2⟩ | ⟨c1,c2⟩
       ·rw [c2] at hSS ⊢
        have hSS' : jm Cω 76 [.agg [.psl false (l.map Sp.e),.int .i64 0],.int .i64 (h : Nat),.agg [.int .i64 page,.bool true,.bool false]] = _ := hSS
        rw [c1,if_pos rfl,if_pos (show (!false) = true from rfl),if_pos (show (!false) = true from rfl),hSS',za,y1,xd,yn,yl] at ev
        exact lw ev
       ·rw [c2] at hSS ⊢
        rw [c1,if_neg (by decide),if_pos (show (!false) = true from rfl),if_pos (show (!false) = true from rfl),hSS,za,y1,xd,yn,yl] at ev
        exact lw ev
theorem z9g {l : List Sp} {k : Int} {i : Nat} (h : atS l k = some i) : ∃ hi : i < l.length,(l[i]).p = k := by
 unfold atS at h
 obtain ⟨hi,h1,_⟩ := List.findIdx?_eq_some_iff_getElem.1 h
 exact ⟨hi,by simpa using h1⟩
theorem z8d {n : Nat} {c : Ck} (h : CkOk n c) {k : Int} (hk : 0 ≤ k ∧ k < 64) : jm Cω 73 [c.v,.int .i64 k] = some (.tuple [(j8 c k).1.v,.int .i64 (j8 c k).2.1,.int .i64 (j8 c k).2.2.1,.int .i64 0]) := by
 have hl : c.l.length ≤ 100 := by have := h.ln; have := h.n1; omega
 have ev := yak Cω Lω (c.l.map Sp.e) c.h k
 have a1 := z85 c k hl
 have a2 := z85 c (-1) hl
 unfold Ck.v sps at a1 a2
 rw [if_neg (by rw [hbw]; omega),if_neg (by rw [hbw]; omega),a1,za,zb] at ev
 unfold j8
 rw [if_neg (by rw [h.ok]; decide),if_neg (by omega)]
 cases hq : atS c.l k with
 | some i =>
   obtain ⟨hi,hp⟩ := z9g hq
   have hw := haf hi
   rw [hq,show zn4 (some i) = ((i : Nat) : Int) from rfl,if_pos (by rw [hbw]; omega),if_pos (by omega),hax,zw2 hw,za] at ev
   have he : (c.l[i]).e = [.int .i64 (c.l[i]).p,.bool (c.l[i]).u,.bool (c.l[i]).n] := rfl
   have hS := z61 c hi hl ⟨(c.l[i]).p,true,(c.l[i]).n⟩
   have hse : Sp.e ⟨(c.l[i]).p,true,(c.l[i]).n⟩ = [.int .i64 (c.l[i]).p,.bool true,.bool (c.l[i]).n] := rfl
   unfold Ck.v sps at hS
   rw [hse] at hS
   rw [he,yn,yz,yz,yl,hS,za,y1,xd,yn,yl] at ev
   have hg : c.l.getD i noSp = c.l[i] := by rw [hai,hw]; rfl
   simp only [hg]
   exact pc ev rfl
 | none =>
   rw [hq,show zn4 none = (-1 : Int) from rfl,if_neg (by decide),a2,za,zb] at ev
   unfold w6
   simp only
   cases hq2 : atS c.l (-1) with
   | some i =>
     obtain ⟨hi,hp⟩ := z9g hq2
     have hw := haf hi
     have hS := z61 c hi hl ⟨k,true,false⟩
     have hse : Sp.e ⟨k,true,false⟩ = [.int .i64 k,.bool true,.bool false] := rfl
     unfold Ck.v sps at hS
     rw [hse] at hS
     rw [hq2,show zn4 (some i) = ((i : Nat) : Int) from rfl,if_pos (by rw [hbw]; omega),hS,za,y1,xd,yn,yl] at ev
     have hg : (c.l.getD i noSp).p = -1 := by rw [hai,hw]; exact hp
     have hh : ((c.h.toNat : Nat) : Int) = c.h := by have := h.hh; omega
     simp only [hg,hh]
     exact pc ev rfl
   | none =>
     rw [hq2,show zn4 none = (-1 : Int) from rfl,if_neg (by decide)] at ev
     have hn0 : 0 < c.l.length := by have := h.ln; have := h.n1; omega
     have hw := haf hn0
     obtain ⟨i,hi⟩ := zoc (h := c.h.toNat) (by have := h.hh; have := h.ln; omega) hw (h.pn _ (List.getElem_mem hn0))
     unfold w6 at hi
     rw [hq2] at hi
     simp only at hi ⊢
     cases hf : uy (2 * c.l.length) c.l c.h.toNat with
     | mk o r =>
       obtain ⟨l',h'⟩ := r
       rw [hf] at hi
       have hi : o = some i := hi
       subst hi
       have hh : ((c.h.toNat : Nat) : Int) = c.h := by have := h.hh; omega
       have lp := ya9 k c (n := c.l.length) (by omega) rfl (2 * c.l.length) 0 c.l c.h.toNat (by omega) rfl (by have := h.hh; have := h.ln; omega) hf
       rw [zp3,hh] at lp
       unfold sps at lp
       rw [lp,za] at ev
       have g1 : List.getD (mkS 99 [(4,PV.ref 0 0 0),(5,.int .i64 (i : Nat)),(6,.int .i64 (l'.getD i noSp).p),(7,.int .i64 0)]) 4 .undef = .ref 0 0 0 := rfl
       have g2 : List.getD (mkS 99 [(4,PV.ref 0 0 0),(5,.int .i64 (i : Nat)),(6,.int .i64 (l'.getD i noSp).p),(7,.int .i64 0)]) 5 .undef = .int .i64 (i : Nat) := rfl
       have g3 : List.getD (mkS 99 [(4,PV.ref 0 0 0),(5,.int .i64 (i : Nat)),(6,.int .i64 (l'.getD i noSp).p),(7,.int .i64 0)]) 6 .undef = .int .i64 (l'.getD i noSp).p := rfl
       have g4 : List.getD (mkS 99 [(4,PV.ref 0 0 0),(5,.int .i64 (i : Nat)),(6,.int .i64 (l'.getD i noSp).p),(7,.int .i64 0)]) 7 .undef = .int .i64 0 := rfl
       simp only [zb,zc,ye,xb,xc,y1,yq,zo,yl,ym,yk,zm,zx,yd,yp,xw,zy,zl,yf,yo,zr,z6,zz,yn,yz,yy,xd,xe,yw,yx,yr,yg,yv,yh,yu,yt,vn,za,ya,y9,g1,g2,g3,g4] at ev
       exact pc ev rfl
theorem z84 {n : Nat} {c : Ck} (h : CkOk n c) {k : Int} (hk : 0 ≤ k) : ∃ e,jm Cω 54 [c.v,.int .i64 k] = some (.tuple [(w7 c k).1.v,.int .i64 e]) := by
 have hl : c.l.length ≤ 100 := by have := h.ln; have := h.n1; omega
 have ev := yao Cω Lω (c.l.map Sp.e) c.h k
 have a1 := z85 c k hl
 unfold Ck.v sps at a1
 rw [a1,za,zb,if_neg (by rw [hbw]; omega)] at ev
 unfold w7
 rw [if_neg (by rw [h.ok]; decide)]
 cases hq : atS c.l k with
 | none =>
   rw [hq,show zn4 none = (-1 : Int) from rfl,if_pos (by decide)] at ev
   exact ⟨_,pc ev rfl⟩
 | some i =>
   obtain ⟨hi,hp⟩ := z9g hq
   have hw := haf hi
   have hpn := h.pn _ (List.getElem_mem hi)
   have hg : c.l.getD i noSp = c.l[i] := by rw [hai,hw]; rfl
   have he : (c.l[i]).e = [.int .i64 (c.l[i]).p,.bool (c.l[i]).u,.bool (c.l[i]).n] := rfl
   have hS := z61 c hi hl noSp
   have hse : Sp.e noSp = [.int .i64 (-1),.bool false,.bool false] := rfl
   unfold Ck.v sps at hS
   rw [hse] at hS
   rw [hq,show zn4 (some i) = ((i : Nat) : Int) from rfl,if_neg (by rw [hbw]; omega),if_pos (by omega),hax,zw2 hw,za,he,yn,yz,yz,yl,if_neg (by rw [hpn]; decide),hS,za,y1,xd,yn,yl] at ev
   simp only [if_neg (show ¬ k < 0 by omega),hg,hpn]
   exact ⟨_,pc ev rfl⟩
end Go.Pvm.S
