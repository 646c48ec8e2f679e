/- Part of the proof: the document's pool over values alone: all written, lists, a new one. -/
import Derived.Test.YtceokplopachgaaPdD
set_option linter.unusedSimpArgs false
set_option linter.unusedVariables false
set_option maxRecDepth 100000
namespace Go.Pvm.S
open Go.Pvm Go.Proofs
section
variable {P n m : Nat} {w : Rp}
def Rp.fl : Nat → Nat → Rp → Rp
 | 0,_,w => w
 | k + 1,i,w => Rp.fl k (i + 1) (w.wr i)
theorem z9x : ∀ (k i n : Nat) (w : Rp),i + k = w.l.length → n + 4 * k + 8 ≤ 1000000 → (∀ (j : Nat) (v : Rp),i ≤ j → j ≤ i + k → v = Rp.fl (j - i) i w → Wok P (n + 4 * (j - i)) m v ∧ v.l.length = i + k) →
  Lω 25 z6g 0 (z55 (i : Nat)) [.box true 66 w.e,.box true 66 [whole 2 1,.int .i64 0,whole 3 1,whole 4 1,.int .i64 0,whole 5 1,whole 6 4,.bool false,.int .i64 0,whole 7 3,.int .i64 0,whole 8 4,.int .i64 0],.made true 1 [],.made true 1 [],.made true 1 [],.made true 1 [],.made true 4 [],.made true 3 [],.made true 4 []] =
   some (.exit 0,mkS 15 [(1,.ref 0 0 0),(2,.ref 1 0 0)],[.box true 66 (Rp.fl k i w).e,.box true 66 [whole 2 1,.int .i64 0,whole 3 1,whole 4 1,.int .i64 0,whole 5 1,whole 6 4,.bool false,.int .i64 0,whole 7 3,.int .i64 0,whole 8 4,.int .i64 0],.made true 1 [],.made true 1 [],.made true 1 [],.made true 1 [],.made true 4 [],.made true 3 [],.made true 4 []])
 | 0,i,n,w,hi,hn,hW => by
   have ev := z7z Cω Lω (i : Nat) (w.d.kept.pg.map cB) w.d.kept.base (w.d.kept.st.map cB) (w.d.now.pg.map cB) w.d.now.base (w.d.now.st.map cB) (w.d.done.map Pt.e) w.d.gone w.d.armed (w.c.l.map Sp.e) w.c.h (w.l.map shE) w.sy 0 0 false 0 0 0 [] [] [] [] [] [] []
   rw [if_neg (by rw [hbw,han]; omega)] at ev
   exact lw ev
 | k + 1,i,n,w,hi,hn,hW => by
   have ev := z7z Cω Lω (i : Nat) (w.d.kept.pg.map cB) w.d.kept.base (w.d.kept.st.map cB) (w.d.now.pg.map cB) w.d.now.base (w.d.now.st.map cB) (w.d.done.map Pt.e) w.d.gone w.d.armed (w.c.l.map Sp.e) w.c.h (w.l.map shE) w.sy 0 0 false 0 0 0 [] [] [] [] [] [] []
   have h0 := (hW i w (hah _) (by omega) (by rw [Nat.sub_self]; rfl)).1
   rw [Nat.sub_self] at h0
   obtain ⟨h1,hl1⟩ := hW (i + 1) (w.wr i) (by omega) (by omega) (by rw [show i + 1 - i = 1 by omega]; rfl)
   rw [if_pos (by rw [hbw,han]; omega),xWr w.d w.c w.l w.sy h0 (by omega) rfl,y6 (show i < 4611686018427387904 by have := h0.l; omega)] at ev
   have e : Rp.wr ⟨w.d,w.c,w.l,w.sy⟩ i = w.wr i := rfl
   rw [e] at ev
   have ih := z9x k (i + 1) (n + 4) (w.wr i) (by omega) (by omega) (fun j v h1 h2 h3 => by
    have := hW j v (by omega) (by omega) (by rw [h3,show j - i = (j - (i + 1)) + 1 by omega]; rfl)
    rw [show n + 4 + 4 * (j - (i + 1)) = n + 4 * (j - i) by omega]
    exact ⟨this.1,by omega⟩)
   unfold Rp.fl
   generalize w.wr i = v at ev ih ⊢
   rw [Rp.ex] at ih
   simp only [zb,zc,ye,xb,xc,y1,yq,zo,yl,ym,yk,zm,zx,yd,yp,xw,zy,zl,yf,yo,zr,z6,zz,yn,yz,yy,xd,xe,yw,yx,yr,yg,yv,yh,yu,yt,vn,za,ya,y9] at ev
   exact lw (ev.trans ih)
theorem z8i (hn : n + 4 * w.l.length + 8 ≤ 1000000) (hW : ∀ (j : Nat),j ≤ w.l.length → Wok P (n + 4 * j) m (Rp.fl j 0 w) ∧ (Rp.fl j 0 w).l.length = w.l.length) : jm Cω 25 [.agg w.e] = some (.agg (Rp.fl w.l.length 0 w).e) := by
 have ev := ya0 Cω Lω (w.d.kept.pg.map cB) w.d.kept.base (w.d.kept.st.map cB) (w.d.now.pg.map cB) w.d.now.base (w.d.now.st.map cB) (w.d.done.map Pt.e) w.d.gone w.d.armed (w.c.l.map Sp.e) w.c.h (w.l.map shE) w.sy
 have lp := z9x (P := P) (m := m) w.l.length 0 n w (by omega) hn (fun j v h1 h2 h3 => by
  rw [Nat.sub_zero] at h3 ⊢
  rw [h3,hb4]
  exact hW j (by omega))
 rw [zp3,Rp.ex] at lp
 rw [lp,za] at ev
 generalize Rp.fl w.l.length 0 w = v at ev ⊢
 have g1 : List.getD (mkS 15 [(1,PV.ref 0 0 0),(2,.ref 1 0 0)]) 1 .undef = .ref 0 0 0 := rfl
 have g2 : List.getD (mkS 15 [(1,PV.ref 0 0 0),(2,.ref 1 0 0)]) 2 .undef = .ref 1 0 0 := rfl
 rw [Rp.ex] at ev
 simp only [zb,zc,ye,xb,xc,y1,yq,zo,yl,ym,yk,zm,zx,yd,yp,xw,zy,zl,yf,yo,zr,z6,zz,yn,yz,yy,xd,xe,yw,yx,yr,yg,yv,yh,yu,yt,vn,za,ya,y9,g1,g2,if_true] at ev
 exact pc ev rfl
def z44 (l : List (Int × Sh)) : List Int := l.map (·.1)
def z7e (l : List (Int × Sh)) : List Int := (l.filter fun e => e.2.dirty).map (·.1)
theorem z9c (w : Rp) (hl : w.l.length ≤ 1000) : ∀ (k i : Nat) (a b : List Int),i + k = w.l.length → a.length ≤ i → b.length ≤ i →
  Lω 24 z5s 0 (z5m (i : Nat)) [.box true 66 w.e,.made true 1 (a.map ie),.made true 1 (b.map ie)] =
   some (.exit 0,mkS 42 [(4,whole 0 1),(5,whole 1 1)],[.made true 1 ((a ++ z44 (w.l.drop i)).map ie),.made true 1 ((b ++ z7e (w.l.drop i)).map ie)])
 | 0,i,a,b,hi,ha,hb => by
   have ev := z70 Cω Lω (i : Nat) (w.d.kept.pg.map cB) w.d.kept.base (w.d.kept.st.map cB) (w.d.now.pg.map cB) w.d.now.base (w.d.now.st.map cB) (w.d.done.map Pt.e) w.d.gone w.d.armed (w.c.l.map Sp.e) w.c.h (w.l.map shE) w.sy (a.map ie) (b.map ie)
   rw [if_neg (by rw [hbw,han]; omega)] at ev
   rw [List.drop_of_length_le (by omega),show z44 [] = [] from rfl,show z7e [] = [] from rfl,hbj,hbj]
   exact lw ev
 | k + 1,i,a,b,hi,ha,hb => by
   obtain ⟨e,hw⟩ : ∃ e,w.l[i]? = some e := ⟨_,haf (show i < w.l.length by omega)⟩
   have hdr : w.l.drop i = e :: w.l.drop (i + 1) := by rw [hbo (by omega),(had.1 hw).2]
   have ev := z70 Cω Lω (i : Nat) (w.d.kept.pg.map cB) w.d.kept.base (w.d.kept.st.map cB) (w.d.now.pg.map cB) w.d.now.base (w.d.now.st.map cB) (w.d.done.map Pt.e) w.d.gone w.d.armed (w.c.l.map Sp.e) w.c.h (w.l.map shE) w.sy (a.map ie) (b.map ie)
   have hi0 : (0 : Int) ≤ ((i : Nat) : Int) := by omega
   have hx : ∀ (a : List Int) (c : Int),a.map ie ++ [[.int .i64 c]] = (a ++ [c]).map ie := fun a c => by rw [List.map_append]; rfl
   rw [if_pos (by rw [hbw,han]; omega),if_pos hi0,hax,zw2 hw,za,shX,yn,xd,yz,yn,yl,if_pos (by rw [han,ha9]; omega),if_pos hi0,za,yn,xd,yz,yn,yl,y6 (show i < 4611686018427387904 by omega),hx] at ev
   rw [hdr]
   have hk : z44 (e :: w.l.drop (i + 1)) = [e.1] ++ z44 (w.l.drop (i + 1)) := rfl
   rw [hk,← hbc]
   cases hd : e.2.dirty with
   | true =>
     rw [hd,if_pos rfl,if_pos hi0,za,yn,xd,yz,yn,yl,if_pos (by rw [han,ha9]; omega),hx] at ev
     have hq : z7e (e :: w.l.drop (i + 1)) = [e.1] ++ z7e (w.l.drop (i + 1)) := by unfold z7e; rw [List.filter_cons_of_pos (p := fun e : Int × Sh => e.2.dirty) hd]; rfl
     rw [hq,← hbc]
     exact lw (ev.trans (z9c w hl k (i + 1) (a ++ [e.1]) (b ++ [e.1]) (by omega) (by rw [hak,ha9]; omega) (by rw [hak,ha9]; omega)))
   | false =>
     rw [hd,if_neg (by decide)] at ev
     have hq : z7e (e :: w.l.drop (i + 1)) = z7e (w.l.drop (i + 1)) := by unfold z7e; rw [List.filter_cons_of_neg (p := fun e : Int × Sh => e.2.dirty) (by rw [hd]; decide)]
     rw [hq]
     exact lw (ev.trans (z9c w hl k (i + 1) (a ++ [e.1]) b (by omega) (by rw [hak,ha9]; omega) (by omega)))
theorem z8h (w : Rp) (hl : w.l.length ≤ 1000) : jm Cω 24 [.agg w.e] = some (.tuple [.psl false ((z44 w.l).map ie),.psl false ((z7e w.l).map ie)]) := by
 have ev := ya1 Cω Lω (w.d.kept.pg.map cB) w.d.kept.base (w.d.kept.st.map cB) (w.d.now.pg.map cB) w.d.now.base (w.d.now.st.map cB) (w.d.done.map Pt.e) w.d.gone w.d.armed (w.c.l.map Sp.e) w.c.h (w.l.map shE) w.sy
 have lp := z9c w hl w.l.length 0 [] [] (by omega) (hah _) (hah _)
 rw [zp3,Rp.ex,ha8,List.nil_append,List.nil_append] at lp
 rw [show ([] : List Int).map ie = [] from rfl] at lp
 rw [lp,za] at ev
 have g1 : List.getD (mkS 42 [(4,whole 0 1),(5,whole 1 1)]) 4 .undef = whole 0 1 := rfl
 have g2 : List.getD (mkS 42 [(4,whole 0 1),(5,whole 1 1)]) 5 .undef = whole 1 1 := rfl
 simp only [zb,zc,ye,xb,xc,y1,yq,zo,yl,ym,yk,zm,zx,yd,yp,xw,zy,zl,yf,yo,zr,z6,zz,yn,yz,yy,xd,xe,yw,yx,yr,yg,yv,yh,yu,yt,vn,za,ya,y9,g1,g2,if_true] at ev
 exact pc ev rfl
def Rp.new (r : Rf) (m : Nat) : Rp := ⟨r,⟨List.replicate m noSp,0⟩,[],r.now.base⟩
theorem z8w (r : Rf) (b : Int) (m : Nat) (hm : m ≤ 64) : ∀ (k i : Nat),i + k = m →
  Lω 20 z6h 0 (z57 (m : Nat) (i : Nat)) [.box true 66 [whole 2 1,.int .i64 0,whole 3 1,whole 4 1,.int .i64 0,whole 5 1,whole 6 4,.bool false,.int .i64 0,whole 7 3,.int .i64 0,whole 8 4,.int .i64 0],.box true 66 ([.psl false (r.kept.pg.map cB),.int .i64 r.kept.base,.psl false (r.kept.st.map cB),.psl false (r.now.pg.map cB),.int .i64 r.now.base,.psl false (r.now.st.map cB),.psl false (r.done.map Pt.e),.bool r.gone,.int .i64 r.armed] ++ [whole 9 3,.int .i64 0,whole 10 4,.int .i64 b]),.made true 1 [],.made true 1 [],.made true 1 [],.made true 1 [],.made true 4 [],.made true 3 [],.made true 4 [],.made true 3 ((List.replicate i noSp).map Sp.e),.made true 4 []] =
   some (.exit 0,mkS 26 [(4,.ref 0 0 0),(5,.ref 1 0 0)],[.box true 66 [whole 2 1,.int .i64 0,whole 3 1,whole 4 1,.int .i64 0,whole 5 1,whole 6 4,.bool false,.int .i64 0,whole 7 3,.int .i64 0,whole 8 4,.int .i64 0],.box true 66 ([.psl false (r.kept.pg.map cB),.int .i64 r.kept.base,.psl false (r.kept.st.map cB),.psl false (r.now.pg.map cB),.int .i64 r.now.base,.psl false (r.now.st.map cB),.psl false (r.done.map Pt.e),.bool r.gone,.int .i64 r.armed] ++ [whole 9 3,.int .i64 0,whole 10 4,.int .i64 b]),.made true 1 [],.made true 1 [],.made true 1 [],.made true 1 [],.made true 4 [],.made true 3 [],.made true 4 [],.made true 3 ((List.replicate m noSp).map Sp.e),.made true 4 []])
 | 0,i,hi => by
   have ev := z71 Cω Lω (m : Nat) (i : Nat) 0 0 false 0 0 0 (r.kept.pg.map cB) r.kept.base (r.kept.st.map cB) (r.now.pg.map cB) r.now.base (r.now.st.map cB) (r.done.map Pt.e) r.gone r.armed 0 b [] [] [] [] [] [] [] ((List.replicate i noSp).map Sp.e) []
   have : i = m := by omega
   subst this
   rw [if_neg (by rw [hbw]; omega)] at ev
   exact lw ev
 | k + 1,i,hi => by
   have ev := z71 Cω Lω (m : Nat) (i : Nat) 0 0 false 0 0 0 (r.kept.pg.map cB) r.kept.base (r.kept.st.map cB) (r.now.pg.map cB) r.now.base (r.now.st.map cB) (r.done.map Pt.e) r.gone r.armed 0 b [] [] [] [] [] [] [] ((List.replicate i noSp).map Sp.e) []
   have hx : (List.replicate i noSp).map Sp.e ++ [[.int .i64 (-1),.bool false,.bool false]] = (List.replicate (i + 1) noSp).map Sp.e := by
    rw [List.replicate_succ',List.map_append]; rfl
   rw [if_pos (by rw [hbw]; omega),if_pos (by rw [han,List.length_replicate,ha9]; omega),hx,y6 (by omega)] at ev
   exact lw (ev.trans (z8w r b m hm k (i + 1) (by omega)))
theorem z88 (r : Rf) {m : Nat} (hm : m ≤ 64) : jm Cω 20 [.agg r.e,.int .i64 (m : Nat)] = some (.agg (Rp.new r m).e) := by
 have ev := ya3 Cω Lω (r.kept.pg.map cB) r.kept.base (r.kept.st.map cB) (r.now.pg.map cB) r.now.base (r.now.st.map cB) (r.done.map Pt.e) r.gone r.armed (m : Nat)
 rw [z80] at ev
 simp only [zb,zc,ye,xb,xc,y1,yq,zo,yl,ym,yk,zm,zx,yd,yp,xw,zy,zl,yf,yo,zr,z6,zz,yn,yz,yy,xd,xe,yw,yx,yr,yg,yv,yh,yu,yt,vn,za,ya,y9] at ev
 have lp := z8w r r.now.base m hm m 0 (by omega)
 rw [zp3] at lp
 simp only [List.cons_append,List.nil_append] at lp
 rw [show (List.replicate 0 noSp).map Sp.e = [] from rfl] at lp
 rw [lp,za] at ev
 have g1 : List.getD (mkS 26 [(4,PV.ref 0 0 0),(5,.ref 1 0 0)]) 4 .undef = .ref 0 0 0 := rfl
 have g2 : List.getD (mkS 26 [(4,PV.ref 0 0 0),(5,.ref 1 0 0)]) 5 .undef = .ref 1 0 0 := rfl
 simp only [zb,zc,ye,xb,xc,y1,yq,zo,yl,ym,yk,zm,zx,yd,yp,xw,zy,zl,yf,yo,zr,z6,zz,yn,yz,yy,xd,xe,yw,yx,yr,yg,yv,yh,yu,yt,vn,za,ya,y9,g1,g2,if_true] at ev
 exact pc ev rfl
end
end Go.Pvm.S
