/- Part of the proof: the document's pool over values alone: read, put, let out, all written. -/
import Derived.Test.YtceokplopachgaaPdA
set_option linter.unusedSimpArgs false
set_option linter.unusedVariables false
set_option maxRecDepth 100000
namespace Go.Pvm.S
open Go.Pvm Go.Proofs
theorem Rok.mono {P n m : Nat} {r : Rf} (h : Rok P n r) (hm : n ≤ m) : Rok P m r := ⟨h.hP,h.pl,h.bs,h.st,haz h.dn hm,h.ar,h.kl⟩
theorem Rok.wrF {P page : Nat} {b : By} (hp : page < P) (hb : b.length = 512) : ∀ (k i n : Nat) (r : Rf),i + k = 4 → Rok P n r → Rok P (n + k) (rwF page b k i r)
 | 0,i,n,r,h,hr => hr
 | k + 1,i,n,r,h,hr => by
   have hP := hr.hP
   have hu : Pt.size ⟨((page * 4 + i : Nat) : Int),(b.drop (i * 128)).take 128,false,0⟩ = 1 := by
    unfold Pt.size
    rw [if_neg (by rintro ⟨e,_⟩; have e : ((page * 4 + i : Nat) : Int) < 0 := e; omega)]
   have hlen : ((b.drop (i * 128)).take 128).length = 128 := by simp; omega
   obtain ⟨e1,e2,e3⟩ := z5j r ⟨((page * 4 + i : Nat) : Int),(b.drop (i * 128)).take 128,false,0⟩
   have e4 := z77 r ⟨((page * 4 + i : Nat) : Int),(b.drop (i * 128)).take 128,false,0⟩ hr.ar (by rw [hu]; decide)
   have hpt : (r.now.part ⟨((page * 4 + i : Nat) : Int),(b.drop (i * 128)).take 128,false,0⟩) = r.now.put (((page * 4 + i : Nat) : Int),(b.drop (i * 128)).take 128) := by
    unfold Dk.part
    rw [if_pos (by show (0 : Int) ≤ ((page * 4 + i : Nat) : Int); omega)]
   rw [hpt] at e1
   have hok : Rok P (n + 1) (r.act ⟨((page * 4 + i : Nat) : Int),(b.drop (i * 128)).take 128,false,0⟩) := by
    refine ⟨hP,?_,by rw [e1]; exact hr.bs,by rw [e1]; exact hr.st,by have := hr.dn; omega,e4,by rw [e3]; exact hr.kl⟩
    rw [e1]
    show (putP r.now.pg _).length = _
    rw [zg8 (by rw [hr.pl]; show 128 * Int.toNat ((page * 4 + i : Nat) : Int) + 128 ≤ _; rw [hax]; omega) hlen,hr.pl]
   have := Rok.wrF hp hb k (i + 1) (n + 1) _ (by omega) hok
   rw [show n + 1 + k = n + (k + 1) by omega] at this
   exact this
theorem z8l (x : Int × Sh) (l : List (Int × Sh)) : (z5u x l).length ≤ 2 * l.length + 1 := by
 have h := z5h x false l
 unfold z5u
 rw [hak]
 split
 ·rw [List.length_nil]; omega
 ·rw [ha9]; omega
theorem z8m (k : Int) (l : List (Int × Sh)) : (z6b k l).length ≤ l.length := List.length_filter_le _ _
section
variable {P n m : Nat} {w : Rp}
theorem Wok.wr (h : Wok P n m w) (i : Nat) : Rok P (n + 4) (w.wr i).d ∧ (w.wr i).l.length ≤ 2 * w.l.length + 1 ∧ (w.wr i).c = w.c ∧ ∀ e ∈ (w.wr i).l,0 ≤ e.1 ∧ e.1 < P ∧ e.2.b.length = 512 := by
 unfold Rp.wr
 cases hw : w.l[i]? with
 | none => exact ⟨h.r.mono (by omega),by show w.l.length ≤ _; omega,rfl,h.g⟩
 | some e =>
   obtain ⟨k,x⟩ := e
   obtain ⟨g1,g2,g3⟩ := h.g _ (haj hw)
   have g1 : 0 ≤ k := g1
   have g2 : k < P := g2
   simp only
   split
   ·exact ⟨h.r.mono (by omega),by omega,rfl,h.g⟩
   ·have hr : Rok P n (w.rs x).d := by
     unfold Rp.rs
     split
     ·exact h.r.sync
     ·exact h.r
    have hc : (w.rs x).c = w.c := by unfold Rp.rs; split <;> rfl
    refine ⟨Rok.wrF (by omega) g3 4 0 n _ (by omega) hr,z8l _ _,hc,fun e he => ?_⟩
    rcases z8k he with rfl | he
    ·exact ⟨g1,g2,g3⟩
    ·exact h.g e he
def Rp.lv (w : Rp) (was : Int) : Rp := match wc w.l was with
 | none => w
 | some i => { w.wr i with l := z6b was (w.wr i).l }
def Rp.rd (w : Rp) (k : Int) : Rp := match wc w.l k with
 | some _ => w
 | none => { w with l := z5u (k,⟨(w.d.now.pg.drop (k.toNat * 512)).take 512,false,0⟩) w.l }
def Rp.tch (w : Rp) (k : Int) : Rp := { w with c := (j8 w.c k).1 }
def Rp.letP (w : Rp) (k : Int) : Rp := ((w.tch k).lv (j8 w.c k).2.2.1).rd k
theorem z9s (h : Wok P n m w) (hl : w.l.length ≤ 200) {k : Int} (hk : 0 ≤ k ∧ k < P) : jm Cω 49 [.agg w.e,.int .i64 k] = some (.agg (w.letP k).e) := by
 have hP := h.r.hP
 have ev := yat Cω Lω (w.d.kept.pg.map cB) w.d.kept.base (w.d.kept.st.map cB) (w.d.now.pg.map cB) w.d.now.base (w.d.now.st.map cB) (w.d.done.map Pt.e) w.d.gone w.d.armed (w.c.l.map Sp.e) w.c.h (w.l.map shE) w.sy k
 rw [z9l h.c (show 0 ≤ k ∧ k < 64 by omega)] at ev
 have hT : Wok P n m (w.tch k) := ⟨h.r,h.nb,(h.c.touch hk.1 (by omega)).2.ok,h.l,h.g⟩
 unfold Rp.letP
 unfold Rp.tch at hT ⊢
 generalize j8 w.c k = t at ev hT ⊢
 obtain ⟨c,fr,was,er⟩ := t
 simp only at hT ⊢
 simp only [zb,zc,ye,xb,xc,y1,yq,zo,yl,ym,yk,zm,zx,yd,yp,xw,zy,zl,yf,yo,zr,z6,zz,yn,yz,yy,xd,xe,yw,yx,yr,yg,yv,yh,yu,yt,vn,za,ya,y9] at ev
 rw [xAt w.d c w.l w.sy was (by omega)] at ev
 simp only [zb,zc,ye,xb,xc,y1,yq,zo,yl,ym,yk,zm,zx,yd,yp,xw,zy,zl,yf,yo,zr,z6,zz,yn,yz,yy,xd,xe,yw,yx,yr,yg,yv,yh,yu,yt,vn,za,ya,y9] at ev
 -- a page is read,if it is not in
 have w1 : IntKind.wrap .i64 (512 * k) = ((k.toNat * 512 : Nat) : Int) := by rw [zap (by omega) (by omega)]; omega
 have w2 : IntKind.wrap .i64 (((k.toNat * 512 : Nat) : Int) + 512) = ((k.toNat * 512 + 512 : Nat) : Int) := by rw [zap (by omega) (by omega)]; omega
 unfold Rp.lv
 cases hq : wc w.l was with
 | none =>
   simp only [hq]
   rw [hq,show zn4 none = (-1 : Int) from rfl,if_neg (by decide),xAt w.d c w.l w.sy k (by omega)] at ev
   simp only [zb,zc,ye,xb,xc,y1,yq,zo,yl,ym,yk,zm,zx,yd,yp,xw,zy,zl,yf,yo,zr,z6,zz,yn,yz,yy,xd,xe,yw,yx,yr,yg,yv,yh,yu,yt,vn,za,ya,y9] at ev
   unfold Rp.rd
   cases hq2 : wc w.l k with
   | some j =>
     rw [hq2,show zn4 (some j) = ((j : Nat) : Int) from rfl,if_pos (by rw [hbw]; omega)] at ev
     simp only [hq2]
     exact pc ev rfl
   | none =>
     rw [hq2,show zn4 none = (-1 : Int) from rfl,if_neg (by decide),z80] at ev
     simp only [zb,zc,ye,xb,xc,y1,yq,zo,yl,ym,yk,zm,zx,yd,yp,xw,zy,zl,yf,yo,zr,z6,zz,yn,yz,yy,xd,xe,yw,yx,yr,yg,yv,yh,yu,yt,vn,za,ya,y9] at ev
     rw [w1,w2,z78,z78,za,za,if_pos (z9k _),han,if_pos ⟨by omega,by rw [h.r.pl]; omega⟩,show k.toNat * 512 + 512 - k.toNat * 512 = 512 by omega,← List.map_drop,← List.map_take,z9m w.d c w.l w.sy k _ false 0 (by omega)] at ev
     simp only [zb,zc,ye,xb,xc,y1,yq,zo,yl,ym,yk,zm,zx,yd,yp,xw,zy,zl,yf,yo,zr,z6,zz,yn,yz,yy,xd,xe,yw,yx,yr,yg,yv,yh,yu,yt,vn,za,ya,y9] at ev
     simp only [hq2]
     exact pc ev rfl
 | some i =>
   obtain ⟨hi,_⟩ := qd hq
   simp only [hq]
   obtain ⟨k1,k2,k3,k4⟩ := hT.wr i
   rw [hq,show zn4 (some i) = ((i : Nat) : Int) from rfl,if_pos (by rw [hbw]; omega),xWr w.d c w.l w.sy hT hi rfl] at ev
   have k2 : (Rp.wr ⟨w.d,c,w.l,w.sy⟩ i).l.length ≤ 2 * w.l.length + 1 := k2
   generalize Rp.wr ⟨w.d,c,w.l,w.sy⟩ i = v at ev k1 k2 ⊢
   simp only [zb,zc,ye,xb,xc,y1,yq,zo,yl,ym,yk,zm,zx,yd,yp,xw,zy,zl,yf,yo,zr,z6,zz,yn,yz,yy,xd,xe,yw,yx,yr,yg,yv,yh,yu,yt,vn,za,ya,y9] at ev
   rw [ya4 v.d v.c v.l v.sy was (by omega)] at ev
   have k5 := z8m was v.l
   generalize z6b was v.l = vl at ev k5 ⊢
   simp only [zb,zc,ye,xb,xc,y1,yq,zo,yl,ym,yk,zm,zx,yd,yp,xw,zy,zl,yf,yo,zr,z6,zz,yn,yz,yy,xd,xe,yw,yx,yr,yg,yv,yh,yu,yt,vn,za,ya,y9] at ev
   rw [xAt v.d v.c vl v.sy k (by omega)] at ev
   simp only [zb,zc,ye,xb,xc,y1,yq,zo,yl,ym,yk,zm,zx,yd,yp,xw,zy,zl,yf,yo,zr,z6,zz,yn,yz,yy,xd,xe,yw,yx,yr,yg,yv,yh,yu,yt,vn,za,ya,y9] at ev
   unfold Rp.rd
   cases hq2 : wc vl k with
   | some j =>
     rw [hq2,show zn4 (some j) = ((j : Nat) : Int) from rfl,if_pos (by rw [hbw]; omega)] at ev
     simp only [hq2]
     exact pc ev rfl
   | none =>
     rw [hq2,show zn4 none = (-1 : Int) from rfl,if_neg (by decide),z80] at ev
     simp only [zb,zc,ye,xb,xc,y1,yq,zo,yl,ym,yk,zm,zx,yd,yp,xw,zy,zl,yf,yo,zr,z6,zz,yn,yz,yy,xd,xe,yw,yx,yr,yg,yv,yh,yu,yt,vn,za,ya,y9] at ev
     rw [w1,w2,z78,z78,za,za,if_pos (z9k _),han,if_pos ⟨by omega,by rw [k1.pl]; omega⟩,show k.toNat * 512 + 512 - k.toNat * 512 = 512 by omega,← List.map_drop,← List.map_take,z9m v.d v.c vl v.sy k _ false 0 (by omega)] at ev
     simp only [zb,zc,ye,xb,xc,y1,yq,zo,yl,ym,yk,zm,zx,yd,yp,xw,zy,zl,yf,yo,zr,z6,zz,yn,yz,yy,xd,xe,yw,yx,yr,yg,yv,yh,yu,yt,vn,za,ya,y9] at ev
     simp only [hq2]
     exact pc ev rfl
def Rp.val (w : Rp) (k : Int) : By := match wc w.l k with
 | some i => (w.l.getD i (0,⟨[],false,0⟩)).2.b
 | none => []
theorem ya5 (r : Rf) (c : Ck) (l : List (Int × Sh)) (sy : Int) (h : Wok P n m ⟨r,c,l,sy⟩) (hl : l.length ≤ 200) {k : Int} (hk : 0 ≤ k ∧ k < P) {w' : Rp} (hw : Rp.letP ⟨r,c,l,sy⟩ k = w') : jm Cω 49 [.agg [.psl false (r.kept.pg.map cB),.int .i64 r.kept.base,.psl false (r.kept.st.map cB),.psl false (r.now.pg.map cB),.int .i64 r.now.base,.psl false (r.now.st.map cB),.psl false (r.done.map Pt.e),.bool r.gone,.int .i64 r.armed,.psl false (c.l.map Sp.e),.int .i64 c.h,.psl false (l.map shE),.int .i64 sy],.int .i64 k] = some (.agg [.psl false (w'.d.kept.pg.map cB),.int .i64 w'.d.kept.base,.psl false (w'.d.kept.st.map cB),.psl false (w'.d.now.pg.map cB),.int .i64 w'.d.now.base,.psl false (w'.d.now.st.map cB),.psl false (w'.d.done.map Pt.e),.bool w'.d.gone,.int .i64 w'.d.armed,.psl false (w'.c.l.map Sp.e),.int .i64 w'.c.h,.psl false (w'.l.map shE),.int .i64 w'.sy]) := by
 rw [← hw]
 exact z9s (w := ⟨r,c,l,sy⟩) h hl hk
theorem z87 (h : Wok P n m w) (hl : w.l.length ≤ 200) {k : Int} (hk : 0 ≤ k ∧ k < P) (h2 : (w.letP k).l.length ≤ 1000) {j : Nat} (hj : wc (w.letP k).l k = some j) : jm Cω 22 [.agg w.e,.int .i64 k] = some (.tuple [.agg (w.letP k).e,bv ((w.letP k).val k),.int .i64 0]) := by
 have ev := z90 Cω Lω (w.d.kept.pg.map cB) w.d.kept.base (w.d.kept.st.map cB) (w.d.now.pg.map cB) w.d.now.base (w.d.now.st.map cB) (w.d.done.map Pt.e) w.d.gone w.d.armed (w.c.l.map Sp.e) w.c.h (w.l.map shE) w.sy k
 rw [if_neg (by rw [hbw]; omega),z6y w.d w.c w.l w.sy h.r.hP h.r.kl] at ev
 simp only [zb,zc,ye,xb,xc,y1,yq,zo,yl,ym,yk,zm,zx,yd,yp,xw,zy,zl,yf,yo,zr,z6,zz,yn,yz,yy,xd,xe,yw,yx,yr,yg,yv,yh,yu,yt,vn,za,ya,y9] at ev
 rw [if_neg (by rw [hbw]; omega),ya5 w.d w.c w.l w.sy h hl hk rfl] at ev
 have e : Rp.letP ⟨w.d,w.c,w.l,w.sy⟩ k = w.letP k := rfl
 rw [e] at ev
 unfold Rp.val
 generalize w.letP k = v at ev h2 hj ⊢
 simp only [zb,zc,ye,xb,xc,y1,yq,zo,yl,ym,yk,zm,zx,yd,yp,xw,zy,zl,yf,yo,zr,z6,zz,yn,yz,yy,xd,xe,yw,yx,yr,yg,yv,yh,yu,yt,vn,za,ya,y9] at ev
 rw [xAt v.d v.c v.l v.sy k h2] at ev
 simp only [zb,zc,ye,xb,xc,y1,yq,zo,yl,ym,yk,zm,zx,yd,yp,xw,zy,zl,yf,yo,zr,z6,zz,yn,yz,yy,xd,xe,yw,yx,yr,yg,yv,yh,yu,yt,vn,za,ya,y9] at ev
 obtain ⟨hjl,_⟩ := qd hj
 obtain ⟨x,hx⟩ : ∃ x,v.l[j]? = some x := ⟨_,haf hjl⟩
 rw [hj,show zn4 (some j) = ((j : Nat) : Int) from rfl,if_pos (by omega),hax,zw2 hx,za,shX] at ev
 simp only [zb,zc,ye,xb,xc,y1,yq,zo,yl,ym,yk,zm,zx,yd,yp,xw,zy,zl,yf,yo,zr,z6,zz,yn,yz,yy,xd,xe,yw,yx,yr,yg,yv,yh,yu,yt,vn,za,ya,y9] at ev
 rw [hj]
 simp only
 rw [hai,hx]
 exact pc ev rfl
theorem z7j (h : Wok P n m w) {k : Int} (hk : k < 0 ∨ P ≤ k) : jm Cω 22 [.agg w.e,.int .i64 k] = some (.tuple [.agg w.e,bv [],.int .i64 3]) := by
 have ev := z90 Cω Lω (w.d.kept.pg.map cB) w.d.kept.base (w.d.kept.st.map cB) (w.d.now.pg.map cB) w.d.now.base (w.d.now.st.map cB) (w.d.done.map Pt.e) w.d.gone w.d.armed (w.c.l.map Sp.e) w.c.h (w.l.map shE) w.sy k
 by_cases c : k < 0
 ·rw [if_pos (by rw [hbw]; exact c)] at ev
  exact pc ev rfl
 ·rw [if_neg (by rw [hbw]; exact c),z6y w.d w.c w.l w.sy h.r.hP h.r.kl] at ev
  simp only [zb,zc,ye,xb,xc,y1,yq,zo,yl,ym,yk,zm,zx,yd,yp,xw,zy,zl,yf,yo,zr,z6,zz,yn,yz,yy,xd,xe,yw,yx,yr,yg,yv,yh,yu,yt,vn,za,ya,y9] at ev
  rw [if_pos (by rw [hbw]; omega)] at ev
  exact pc ev rfl
def Rp.putP (w : Rp) (k : Int) (b : By) (place : Int) : Rp := { w.letP k with l := z5u (k,⟨b,true,place⟩) (w.letP k).l }
theorem z9p (h : Wok P n m w) (hl : w.l.length ≤ 200) {k : Int} (hk : 0 ≤ k ∧ k < P) (h2 : (w.letP k).l.length ≤ 1000) {b : By} (hb : b.length = 512) (place : Int) : jm Cω 23 [.agg w.e,.int .i64 k,bv b,.int .i64 place] = some (.tuple [.agg (w.putP k b place).e,.int .i64 0]) := by
 have ev := z9z Cω Lω (w.d.kept.pg.map cB) w.d.kept.base (w.d.kept.st.map cB) (w.d.now.pg.map cB) w.d.now.base (w.d.now.st.map cB) (w.d.done.map Pt.e) w.d.gone w.d.armed (w.c.l.map Sp.e) w.c.h (w.l.map shE) w.sy k (b.map cB) place
 rw [if_neg (by rw [hbw]; omega),z6y w.d w.c w.l w.sy h.r.hP h.r.kl] at ev
 simp only [zb,zc,ye,xb,xc,y1,yq,zo,yl,ym,yk,zm,zx,yd,yp,xw,zy,zl,yf,yo,zr,z6,zz,yn,yz,yy,xd,xe,yw,yx,yr,yg,yv,yh,yu,yt,vn,za,ya,y9] at ev
 rw [if_neg (by rw [hbw]; omega),han,hb,if_neg (by decide),ya5 w.d w.c w.l w.sy h hl hk rfl] at ev
 have e : Rp.letP ⟨w.d,w.c,w.l,w.sy⟩ k = w.letP k := rfl
 rw [e] at ev
 unfold Rp.putP
 generalize w.letP k = v at ev h2 ⊢
 simp only [zb,zc,ye,xb,xc,y1,yq,zo,yl,ym,yk,zm,zx,yd,yp,xw,zy,zl,yf,yo,zr,z6,zz,yn,yz,yy,xd,xe,yw,yx,yr,yg,yv,yh,yu,yt,vn,za,ya,y9] at ev
 rw [z9m v.d v.c v.l v.sy k b true place h2] at ev
 simp only [zb,zc,ye,xb,xc,y1,yq,zo,yl,ym,yk,zm,zx,yd,yp,xw,zy,zl,yf,yo,zr,z6,zz,yn,yz,yy,xd,xe,yw,yx,yr,yg,yv,yh,yu,yt,vn,za,ya,y9] at ev
 exact pc ev rfl
theorem z8f (h : Wok P n m w) {k : Int} {b : By} (hk : k < 0 ∨ P ≤ k ∨ b.length ≠ 512) (place : Int) : jm Cω 23 [.agg w.e,.int .i64 k,bv b,.int .i64 place] = some (.tuple [.agg w.e,.int .i64 (if 0 ≤ k ∧ k < P then 1 else 3)]) := by
 have ev := z9z Cω Lω (w.d.kept.pg.map cB) w.d.kept.base (w.d.kept.st.map cB) (w.d.now.pg.map cB) w.d.now.base (w.d.now.st.map cB) (w.d.done.map Pt.e) w.d.gone w.d.armed (w.c.l.map Sp.e) w.c.h (w.l.map shE) w.sy k (b.map cB) place
 by_cases c : k < 0
 ·rw [if_pos (by rw [hbw]; exact c)] at ev
  rw [if_neg (by omega)]
  exact pc ev rfl
 ·rw [if_neg (by rw [hbw]; exact c),z6y w.d w.c w.l w.sy h.r.hP h.r.kl] at ev
  simp only [zb,zc,ye,xb,xc,y1,yq,zo,yl,ym,yk,zm,zx,yd,yp,xw,zy,zl,yf,yo,zr,z6,zz,yn,yz,yy,xd,xe,yw,yx,yr,yg,yv,yh,yu,yt,vn,za,ya,y9] at ev
  by_cases c2 : (P : Int) ≤ k
  ·rw [if_pos (by rw [hbw]; omega)] at ev
   rw [if_neg (by omega)]
   exact pc ev rfl
  ·rw [if_neg (by rw [hbw]; omega),han,if_pos (by rw [bne_iff_ne]; omega)] at ev
   rw [if_pos (by omega)]
   exact pc ev rfl
def Rp.evP (w : Rp) (k : Int) : Rp := match wc w.l k with
 | none => w
 | some i => { w.wr i with l := z6b k (w.wr i).l,c := (w7 w.c k).1 }
theorem z8j (h : Wok P n m w) (hl : w.l.length ≤ 200) {k : Int} : jm Cω 26 [.agg w.e,.int .i64 k] = some (.tuple [.agg (w.evP k).e,.int .i64 (if (wc w.l k).isSome = true then 0 else 3)]) := by
 have ev := yaz Cω Lω (w.d.kept.pg.map cB) w.d.kept.base (w.d.kept.st.map cB) (w.d.now.pg.map cB) w.d.now.base (w.d.now.st.map cB) (w.d.done.map Pt.e) w.d.gone w.d.armed (w.c.l.map Sp.e) w.c.h (w.l.map shE) w.sy k
 rw [xAt w.d w.c w.l w.sy k (by omega)] at ev
 simp only [zb,zc,ye,xb,xc,y1,yq,zo,yl,ym,yk,zm,zx,yd,yp,xw,zy,zl,yf,yo,zr,z6,zz,yn,yz,yy,xd,xe,yw,yx,yr,yg,yv,yh,yu,yt,vn,za,ya,y9] at ev
 unfold Rp.evP
 cases hq : wc w.l k with
 | none =>
   rw [hq,show zn4 none = (-1 : Int) from rfl,if_pos (by decide)] at ev
   exact pc ev rfl
 | some i =>
   obtain ⟨hi,hkey⟩ := qd hq
   have hk0 : 0 ≤ k := by rw [← hkey]; exact (h.g _ (List.getElem_mem hi)).1
   obtain ⟨k1,k2,k3,k4⟩ := h.wr i
   rw [hq,show zn4 (some i) = ((i : Nat) : Int) from rfl,if_neg (by rw [hbw]; omega),xWr w.d w.c w.l w.sy h hi rfl] at ev
   have e : Rp.wr ⟨w.d,w.c,w.l,w.sy⟩ i = w.wr i := rfl
   rw [e] at ev
   obtain ⟨er,hD⟩ := z98 h.c hk0
   rw [← k3] at hD
   simp only
   rw [← k3]
   generalize w.wr i = v at ev k1 k2 hD ⊢
   simp only [zb,zc,ye,xb,xc,y1,yq,zo,yl,ym,yk,zm,zx,yd,yp,xw,zy,zl,yf,yo,zr,z6,zz,yn,yz,yy,xd,xe,yw,yx,yr,yg,yv,yh,yu,yt,vn,za,ya,y9] at ev
   rw [ya4 v.d v.c v.l v.sy k (by omega)] at ev
   simp only [zb,zc,ye,xb,xc,y1,yq,zo,yl,ym,yk,zm,zx,yd,yp,xw,zy,zl,yf,yo,zr,z6,zz,yn,yz,yy,xd,xe,yw,yx,yr,yg,yv,yh,yu,yt,vn,za,ya,y9] at ev
   rw [hD] at ev
   simp only [zb,zc,ye,xb,xc,y1,yq,zo,yl,ym,yk,zm,zx,yd,yp,xw,zy,zl,yf,yo,zr,z6,zz,yn,yz,yy,xd,xe,yw,yx,yr,yg,yv,yh,yu,yt,vn,za,ya,y9] at ev
   exact pc ev rfl
end
end Go.Pvm.S
