/- Part of the proof: the document's pool over values alone: where a page is, a page more, a page less. -/
import Derived.Test.YtceokplopachgaaPcX
set_option linter.unusedSimpArgs false
set_option linter.unusedVariables false
set_option maxRecDepth 100000
namespace Go.Pvm.S
open Go.Pvm Go.Proofs
structure Rp where
 d : Rf
 c : Ck
 l : List (Int × Sh)
 sy : Int
def shE (e : Int × Sh) : List PV := [.int .i64 e.1,bv e.2.b,.bool e.2.dirty,.int .i64 e.2.place]
def Rp.e (w : Rp) : List PV := [bv w.d.kept.pg,.int .i64 w.d.kept.base,bv w.d.kept.st,bv w.d.now.pg,.int .i64 w.d.now.base,bv w.d.now.st,.psl false (w.d.done.map Pt.e),.bool w.d.gone,.int .i64 w.d.armed,.psl false (w.c.l.map Sp.e),.int .i64 w.c.h,.psl false (w.l.map shE),.int .i64 w.sy]
theorem Rp.ex (w : Rp) : w.e = [.psl false (w.d.kept.pg.map cB),.int .i64 w.d.kept.base,.psl false (w.d.kept.st.map cB),.psl false (w.d.now.pg.map cB),.int .i64 w.d.now.base,.psl false (w.d.now.st.map cB),.psl false (w.d.done.map Pt.e),.bool w.d.gone,.int .i64 w.d.armed,.psl false (w.c.l.map Sp.e),.int .i64 w.c.h,.psl false (w.l.map shE),.int .i64 w.sy] := rfl
theorem shX (e : Int × Sh) : shE e = [.int .i64 e.1,.psl false (e.2.b.map cB),.bool e.2.dirty,.int .i64 e.2.place] := rfl
theorem yab (w : Rp) (k : Int) (hl : w.l.length ≤ 1000) : jm Cω 50 [.agg w.e,.int .i64 k] = some (.int .i64 (zn4 (wc w.l k))) := by
 have key : ∀ (m i : Nat),i + m = w.l.length → (∀ j < i,∀ s,w.l[j]? = some s → (s.1 == k) = false) → Lω 50 z6f 0 (z52 k (i : Nat)) [.box true 66 w.e] = some (match wc w.l k with | some j => (.ret,mkS 22 [(4,.int .i64 (j : Nat))],[]) | none => (.exit 0,mkS 22 [],[])) := by
  intro m
  induction m with
  | zero =>
    intro i hi hn
    have hq : wc w.l k = none := by
     unfold wc
     rw [List.findIdx?_eq_none_iff]
     intro x hx
     obtain ⟨j,hj⟩ := hau.1 hx
     have hjl := (had.1 hj).1
     exact hn j (by omega) x hj
    rw [hq]
    refine lw ((z7y Cω Lω k (i : Nat) (w.d.kept.pg.map cB) w.d.kept.base (w.d.kept.st.map cB) (w.d.now.pg.map cB) w.d.now.base (w.d.now.st.map cB) (w.d.done.map Pt.e) w.d.gone w.d.armed (w.c.l.map Sp.e) w.c.h (w.l.map shE) w.sy).trans ?_)
    rw [if_neg (by rw [hbw,han]; omega)]
  | succ m ih =>
    intro i hi hn
    obtain ⟨s,hw⟩ : ∃ s,w.l[i]? = some s := ⟨_,haf (show i < w.l.length by omega)⟩
    have ev := z7y Cω Lω k (i : Nat) (w.d.kept.pg.map cB) w.d.kept.base (w.d.kept.st.map cB) (w.d.now.pg.map cB) w.d.now.base (w.d.now.st.map cB) (w.d.done.map Pt.e) w.d.gone w.d.armed (w.c.l.map Sp.e) w.c.h (w.l.map shE) w.sy
    rw [if_pos (by rw [hbw,han]; omega),if_pos (by omega),hax,zw2 hw,za,shX,yn,xd,yz,yn,yl] at ev
    cases hp : s.1 == k with
    | true =>
      rw [hp,if_pos rfl] at ev
      have hq : wc w.l k = some i := by
       unfold wc
       rw [List.findIdx?_eq_some_iff_getElem]
       refine ⟨by omega,?_,fun j hj => ?_⟩
       ·have := (had.1 hw).2
        rw [this]; exact hp
       ·have := hn j hj _ (haf (by omega))
        rw [this]; decide
      rw [hq]
      exact lw ev
    | false =>
      rw [hp,if_neg (by decide),y6 (by omega)] at ev
      exact lw (ev.trans (ih (i + 1) (by omega) fun j hj t hs => by
       by_cases e : j = i
       ·subst e; rw [hw] at hs; cases hs; exact hp
       ·exact hn j (by omega) t hs))
 have ev := yas Cω Lω (w.d.kept.pg.map cB) w.d.kept.base (w.d.kept.st.map cB) (w.d.now.pg.map cB) w.d.now.base (w.d.now.st.map cB) (w.d.done.map Pt.e) w.d.gone w.d.armed (w.c.l.map Sp.e) w.c.h (w.l.map shE) w.sy k
 have lp := key w.l.length 0 (by omega) (fun j hj => absurd hj (Nat.not_lt_zero _))
 rw [zp3,Rp.ex] at lp
 rw [lp,za] at ev
 cases hq : wc w.l k with
 | none =>
   rw [hq] at ev
   simp only [zb,zc,ye,xb,xc,y1,yq,zo,yl,ym,yk,zm,zx,yd,yp,xw,zy,zl,yf,yo,zr,z6,zz,yn,yz,yy,xd,xe,yw,yx,yr,yg,yv,yh,yu,yt,vn,za,ya,y9,if_true] at ev
   exact pc ev rfl
 | some j =>
   rw [hq] at ev
   have g1 : List.getD (mkS 22 [(4,PV.int .i64 (j : Nat))]) 4 .undef = .int .i64 (j : Nat) := rfl
   simp only [zb,zc,ye,xb,xc,y1,yq,zo,yl,ym,yk,zm,zx,yd,yp,xw,zy,zl,yf,yo,zr,z6,zz,yn,yz,yy,xd,xe,yw,yx,yr,yg,yv,yh,yu,yt,vn,za,ya,y9,g1] at ev
   exact pc ev rfl
theorem z8g (w : Rp) {P : Nat} (hP : P ≤ 64) (hl : w.d.kept.pg.length = 512 * P) : jm Cω 48 [.agg w.e] = some (.int .i64 (P : Nat)) := by
 have ev := yau Cω Lω (w.d.kept.pg.map cB) w.d.kept.base (w.d.kept.st.map cB) (w.d.now.pg.map cB) w.d.now.base (w.d.now.st.map cB) (w.d.done.map Pt.e) w.d.gone w.d.armed (w.c.l.map Sp.e) w.c.h (w.l.map shE) w.sy
 have hd : IntKind.wrap .i64 (Int.tdiv ((List.length (w.d.kept.pg.map cB) : Nat) : Int) 512) = ((P : Nat) : Int) := by
  rw [han,hl,Int.tdiv_eq_ediv_of_nonneg (by omega),zap (by omega) (by omega)]
  omega
 rw [hd] at ev
 exact pc ev rfl
def Rp.syn (w : Rp) : Rp := { w with sy := w.d.now.base + (w.d.now.st.length : Nat) }
theorem z6j (w : Rp) (hb : 0 ≤ w.d.now.base ∧ w.d.now.base ≤ 1000000000) (hs : w.d.now.st.length ≤ 65536) : jm Cω 31 [.agg w.e] = some (.agg w.syn.e) := by
 have ev := yaw Cω Lω (w.d.kept.pg.map cB) w.d.kept.base (w.d.kept.st.map cB) (w.d.now.pg.map cB) w.d.now.base (w.d.now.st.map cB) (w.d.done.map Pt.e) w.d.gone w.d.armed (w.c.l.map Sp.e) w.c.h (w.l.map shE) w.sy
 have hS := z7h w.d
 have he : w.d.e = [.psl false (w.d.kept.pg.map cB),.int .i64 w.d.kept.base,.psl false (w.d.kept.st.map cB),.psl false (w.d.now.pg.map cB),.int .i64 w.d.now.base,.psl false (w.d.now.st.map cB),.psl false (w.d.done.map Pt.e),.bool w.d.gone,.int .i64 w.d.armed] := rfl
 have hn : w.d.now.e = [.psl false (w.d.now.pg.map cB),.int .i64 w.d.now.base,.psl false (w.d.now.st.map cB)] := rfl
 rw [he,hn] at hS
 rw [hS,za,y1,xd,yn,xd,yl,han,zap (by omega) (by omega)] at ev
 exact pc ev rfl
def zph (x : Int × Sh) : Bool → List (Int × Sh) → List (Int × Sh) × Bool
 | put,[] => ([],put)
 | put,e :: l => if put = false ∧ x.1 ≤ e.1 then (x :: ((if e.1 = x.1 then [] else [e]) ++ (zph x true l).1),(zph x true l).2) else ((if e.1 = x.1 then [] else [e]) ++ (zph x put l).1,(zph x put l).2)
def z5u (x : Int × Sh) (l : List (Int × Sh)) : List (Int × Sh) := (zph x false l).1 ++ if (zph x false l).2 = true then [] else [x]
def z6b (k : Int) (l : List (Int × Sh)) : List (Int × Sh) := l.filter fun e => e.1 != k
end Go.Pvm.S
set_option linter.unusedSimpArgs false
set_option linter.unusedVariables false
set_option maxRecDepth 100000
namespace Go.Pvm.S
open Go.Pvm Go.Proofs
def zP (a b c d e f g : Nat) : List PV := [whole a 1,.int .i64 0,whole b 1,whole c 1,.int .i64 0,whole d 1,whole e 4,.bool false,.int .i64 0,whole f 3,.int .i64 0,whole g 4,.int .i64 0]
theorem z5h (x : Int × Sh) : ∀ (put : Bool) (l : List (Int × Sh)),(zph x put l).1.length ≤ 2 * l.length
 | _,[] => hah _
 | put,e :: l => by
   have h1 := z5h x true l
   have h2 := z5h x put l
   unfold zph
   split <;> simp only [List.length_cons,hak] <;> split <;> simp only [List.length_nil,ha9] <;> omega
theorem yac (w : Rp) (x : Int × Sh) (hl : w.l.length ≤ 1000) : ∀ (m i : Nat) (put : Bool) (acc : List (Int × Sh)),i + m = w.l.length → acc.length ≤ 2 * i →
  Lω 51 z49 0 (z48 put (i : Nat)) [.box true 66 w.e,.box true 107 (shE x),.box true 66 (zP 4 5 6 7 8 9 10),.made true 4 (acc.map shE),.made true 1 [],.made true 1 [],.made true 1 [],.made true 1 [],.made true 4 [],.made true 3 [],.made true 4 []] =
   some (.exit 0,mkS 59 [(2,.ref 0 0 0),(3,.ref 1 0 0),(4,.ref 2 0 0),(5,whole 3 4),(6,.bool (zph x put (w.l.drop i)).2)],[.box true 66 w.e,.box true 107 (shE x),.box true 66 (zP 4 5 6 7 8 9 10),.made true 4 ((acc ++ (zph x put (w.l.drop i)).1).map shE),.made true 1 [],.made true 1 [],.made true 1 [],.made true 1 [],.made true 4 [],.made true 3 [],.made true 4 []]) := by
 intro m
 induction m with
 | zero =>
   intro i put acc hi ha
   have ev := z7x Cω Lω put (i : Nat) (w.d.kept.pg.map cB) w.d.kept.base (w.d.kept.st.map cB) (w.d.now.pg.map cB) w.d.now.base (w.d.now.st.map cB) (w.d.done.map Pt.e) w.d.gone w.d.armed (w.c.l.map Sp.e) w.c.h (w.l.map shE) w.sy x.1 (x.2.b.map cB) x.2.dirty x.2.place 0 0 false 0 0 0 (acc.map shE) [] [] [] [] [] [] []
   rw [if_neg (by rw [hbw,han]; omega)] at ev
   rw [List.drop_of_length_le (by omega),show zph x put [] = ([],put) from rfl,hbj]
   exact lw ev
 | succ m ih =>
   intro i put acc hi ha
   obtain ⟨e,hw⟩ : ∃ e,w.l[i]? = some e := ⟨_,haf (show i < w.l.length by omega)⟩
   have hdr : w.l.drop i = e :: w.l.drop (i + 1) := by rw [hbo (by omega),(had.1 hw).2]
   have ev := z7x Cω Lω put (i : Nat) (w.d.kept.pg.map cB) w.d.kept.base (w.d.kept.st.map cB) (w.d.now.pg.map cB) w.d.now.base (w.d.now.st.map cB) (w.d.done.map Pt.e) w.d.gone w.d.armed (w.c.l.map Sp.e) w.c.h (w.l.map shE) w.sy x.1 (x.2.b.map cB) x.2.dirty x.2.place 0 0 false 0 0 0 (acc.map shE) [] [] [] [] [] [] []
   have hi0 : (0 : Int) ≤ ((i : Nat) : Int) := by omega
   have cap1 : ∀ r : List PV,(List.length (acc.map shE) + List.length [r]) * 48 ≤ 140737488355328 := fun r => by rw [han,ha9]; omega
   have cap2 : ∀ r r2 : List PV,(List.length (acc.map shE ++ [r2]) + List.length [r]) * 48 ≤ 140737488355328 := fun r r2 => by rw [hak,han,ha9,ha9]; omega
   have hx : ∀ e : Int × Sh,acc.map shE ++ [[.int .i64 e.1,.psl false (e.2.b.map cB),.bool e.2.dirty,.int .i64 e.2.place]] = (acc ++ [e]).map shE := fun e => by rw [List.map_append]; rfl
   have hx2 : ∀ e f : Int × Sh,(acc ++ [e]).map shE ++ [[.int .i64 f.1,.psl false (f.2.b.map cB),.bool f.2.dirty,.int .i64 f.2.place]] = (acc ++ [e,f]).map shE := fun e f => by rw [List.map_append,List.map_append]; simp [shE,bv]
   rw [if_pos (by rw [hbw,han]; omega),y6 (show i < 4611686018427387904 by omega),hax,zw2 hw] at ev
   rw [hdr]
   unfold zph
   cases put with
   | true =>
     rw [if_neg (fun h => by cases h.1)]
     rw [if_neg (by decide),if_pos hi0,za,shX,yn,xd,yz,yn,yl] at ev
     by_cases c : e.1 = x.1
     ·rw [if_neg (by rw [bne_iff_ne]; exact fun h => h c)] at ev
      rw [if_pos c]
      exact lw (ev.trans (ih (i + 1) true acc (by omega) (by omega)))
     ·rw [if_pos (by rw [bne_iff_ne]; exact c),if_pos hi0,za,yn,xd,yz,yn,yl,if_pos (cap1 _),hx] at ev
      rw [if_neg c]
      have r := ih (i + 1) true (acc ++ [e]) (by omega) (by rw [hak,ha9]; omega)
      rw [hbc] at r
      exact lw (ev.trans r)
   | false =>
     rw [if_pos (show (!false) = true from rfl),if_pos hi0,za,shX,yn,xd,yz,yn,yl] at ev
     by_cases c1 : x.1 ≤ e.1
     ·rw [if_pos ⟨rfl,c1⟩]
      rw [if_pos (by rw [hbw]; omega),if_pos (cap1 _),if_pos hi0,za,yn,xd,yz,yn,yl] at ev
      by_cases c : e.1 = x.1
      ·rw [if_neg (by rw [bne_iff_ne]; exact fun h => h c),hx] at ev
       rw [if_pos c]
       have r := ih (i + 1) true (acc ++ [x]) (by omega) (by rw [hak,ha9]; omega)
       rw [hbc] at r
       exact lw (ev.trans r)
      ·rw [if_pos (by rw [bne_iff_ne]; exact c),if_pos hi0,za,yn,xd,yz,yn,yl,if_pos (cap2 _ _),hx,hx2] at ev
       rw [if_neg c]
       have r := ih (i + 1) true (acc ++ [x,e]) (by omega) (by rw [hak]; show _ + 2 ≤ _; omega)
       rw [hbc] at r
       exact lw (ev.trans r)
     ·rw [if_neg (fun h => c1 h.2),if_neg (show ¬ e.1 = x.1 by omega)]
      rw [if_neg (by rw [hbw]; omega),if_pos hi0,za,yn,xd,yz,yn,yl,if_pos (by rw [bne_iff_ne]; omega),if_pos hi0,za,yn,xd,yz,yn,yl,if_pos (cap1 _),hx] at ev
      have r := ih (i + 1) false (acc ++ [e]) (by omega) (by rw [hak,ha9]; omega)
      rw [hbc] at r
      exact lw (ev.trans r)
theorem z9o (w : Rp) (x : Int × Sh) (hl : w.l.length ≤ 1000) : jm Cω 51 [.agg w.e,.agg (shE x)] = some (.agg { w with l := z5u x w.l }.e) := by
 have ev := yar Cω Lω (w.d.kept.pg.map cB) w.d.kept.base (w.d.kept.st.map cB) (w.d.now.pg.map cB) w.d.now.base (w.d.now.st.map cB) (w.d.done.map Pt.e) w.d.gone w.d.armed (w.c.l.map Sp.e) w.c.h (w.l.map shE) w.sy x.1 (x.2.b.map cB) x.2.dirty x.2.place
 have lp := yac w x hl w.l.length 0 false [] (by omega) (hah _)
 have hlen := z5h x false w.l
 rw [zp3,Rp.ex,shX,ha8,List.nil_append] at lp
 unfold zP at lp
 rw [show ([] : List (Int × Sh)).map shE = [] from rfl] at lp
 rw [lp,za] at ev
 unfold z5u
 generalize zph x false w.l = r at ev hlen ⊢
 obtain ⟨l,put⟩ := r
 have g2 : List.getD (mkS 59 [(2,PV.ref 0 0 0),(3,.ref 1 0 0),(4,.ref 2 0 0),(5,whole 3 4),(6,.bool put)]) 2 .undef = .ref 0 0 0 := rfl
 have g3 : List.getD (mkS 59 [(2,PV.ref 0 0 0),(3,.ref 1 0 0),(4,.ref 2 0 0),(5,whole 3 4),(6,.bool put)]) 3 .undef = .ref 1 0 0 := rfl
 have g4 : List.getD (mkS 59 [(2,PV.ref 0 0 0),(3,.ref 1 0 0),(4,.ref 2 0 0),(5,whole 3 4),(6,.bool put)]) 4 .undef = .ref 2 0 0 := rfl
 have g5 : List.getD (mkS 59 [(2,PV.ref 0 0 0),(3,.ref 1 0 0),(4,.ref 2 0 0),(5,whole 3 4),(6,.bool put)]) 5 .undef = whole 3 4 := rfl
 have g6 : List.getD (mkS 59 [(2,PV.ref 0 0 0),(3,.ref 1 0 0),(4,.ref 2 0 0),(5,whole 3 4),(6,.bool put)]) 6 .undef = .bool put := rfl
 simp only [zb,zc,ye,xb,xc,y1,yq,zo,yl,ym,yk,zm,zx,yd,yp,xw,zy,zl,yf,yo,zr,z6,zz,yn,yz,yy,xd,xe,yw,yx,yr,yg,yv,yh,yu,yt,vn,za,ya,y9,g2,g3,g4,g5,g6,if_true] at ev
 cases put with
 | true =>
   rw [if_neg (by decide)] at ev
   rw [if_pos rfl,hbj]
   exact pc ev rfl
 | false =>
   rw [if_pos (show (!false) = true from rfl),if_pos (by rw [han,ha9]; simp only at hlen; omega)] at ev
   rw [if_neg (show ¬ (l,false).2 = true from fun h => by cases h)]
   have hx : l.map shE ++ [[.int .i64 x.1,.psl false (x.2.b.map cB),.bool x.2.dirty,.int .i64 x.2.place]] = (l ++ [x]).map shE := by rw [List.map_append]; rfl
   rw [hx] at ev
   exact pc ev rfl
theorem yad (w : Rp) (k : Int) (hl : w.l.length ≤ 1000) : ∀ (m i : Nat) (acc : List (Int × Sh)),i + m = w.l.length → acc.length ≤ i →
  Lω 53 z5r 0 (z5l k (i : Nat)) [.box true 66 w.e,.box true 66 (zP 3 4 5 6 7 8 9),.made true 4 (acc.map shE),.made true 1 [],.made true 1 [],.made true 1 [],.made true 1 [],.made true 4 [],.made true 3 [],.made true 4 []] =
   some (.exit 0,mkS 34 [(2,.ref 0 0 0),(4,.ref 1 0 0),(5,whole 2 4)],[.box true 66 w.e,.box true 66 (zP 3 4 5 6 7 8 9),.made true 4 ((acc ++ z6b k (w.l.drop i)).map shE),.made true 1 [],.made true 1 [],.made true 1 [],.made true 1 [],.made true 4 [],.made true 3 [],.made true 4 []]) := by
 intro m
 induction m with
 | zero =>
   intro i acc hi ha
   have ev := z7w Cω Lω k (i : Nat) (w.d.kept.pg.map cB) w.d.kept.base (w.d.kept.st.map cB) (w.d.now.pg.map cB) w.d.now.base (w.d.now.st.map cB) (w.d.done.map Pt.e) w.d.gone w.d.armed (w.c.l.map Sp.e) w.c.h (w.l.map shE) w.sy 0 0 false 0 0 0 (acc.map shE) [] [] [] [] [] [] []
   rw [if_neg (by rw [hbw,han]; omega)] at ev
   rw [List.drop_of_length_le (by omega),show z6b k [] = [] from rfl,hbj]
   exact lw ev
 | succ m ih =>
   intro i acc hi ha
   obtain ⟨e,hw⟩ : ∃ e,w.l[i]? = some e := ⟨_,haf (show i < w.l.length by omega)⟩
   have hdr : w.l.drop i = e :: w.l.drop (i + 1) := by rw [hbo (by omega),(had.1 hw).2]
   have ev := z7w Cω Lω k (i : Nat) (w.d.kept.pg.map cB) w.d.kept.base (w.d.kept.st.map cB) (w.d.now.pg.map cB) w.d.now.base (w.d.now.st.map cB) (w.d.done.map Pt.e) w.d.gone w.d.armed (w.c.l.map Sp.e) w.c.h (w.l.map shE) w.sy 0 0 false 0 0 0 (acc.map shE) [] [] [] [] [] [] []
   have hi0 : (0 : Int) ≤ ((i : Nat) : Int) := by omega
   have hx : ∀ e : Int × Sh,acc.map shE ++ [[.int .i64 e.1,.psl false (e.2.b.map cB),.bool e.2.dirty,.int .i64 e.2.place]] = (acc ++ [e]).map shE := fun e => by rw [List.map_append]; rfl
   rw [if_pos (by rw [hbw,han]; omega),y6 (show i < 4611686018427387904 by omega),hax,zw2 hw,if_pos hi0,za,shX,yn,xd,yz,yn,yl] at ev
   rw [hdr]
   unfold z6b
   by_cases c : e.1 = k
   ·rw [if_neg (by rw [bne_iff_ne]; exact fun h => h c)] at ev
    rw [List.filter_cons_of_neg (by rw [bne_iff_ne]; exact fun h => h c)]
    exact lw (ev.trans (ih (i + 1) acc (by omega) (by omega)))
   ·rw [if_pos (by rw [bne_iff_ne]; exact c),if_pos hi0,za,yn,xd,yz,yn,yl,if_pos (by rw [han,ha9]; omega),hx] at ev
    rw [List.filter_cons_of_pos (by rw [bne_iff_ne]; exact c)]
    have r := ih (i + 1) (acc ++ [e]) (by omega) (by rw [hak,ha9]; omega)
    rw [hbc] at r
    exact lw (ev.trans r)
theorem z9q (w : Rp) (k : Int) (hl : w.l.length ≤ 1000) : jm Cω 53 [.agg w.e,.int .i64 k] = some (.agg { w with l := z6b k w.l }.e) := by
 have ev := yap Cω Lω (w.d.kept.pg.map cB) w.d.kept.base (w.d.kept.st.map cB) (w.d.now.pg.map cB) w.d.now.base (w.d.now.st.map cB) (w.d.done.map Pt.e) w.d.gone w.d.armed (w.c.l.map Sp.e) w.c.h (w.l.map shE) w.sy k
 have lp := yad w k hl w.l.length 0 [] (by omega) (hah _)
 rw [zp3,Rp.ex,ha8,List.nil_append] at lp
 unfold zP at lp
 rw [show ([] : List (Int × Sh)).map shE = [] from rfl] at lp
 rw [lp,za] at ev
 have g2 : List.getD (mkS 34 [(2,PV.ref 0 0 0),(4,.ref 1 0 0),(5,whole 2 4)]) 2 .undef = .ref 0 0 0 := rfl
 have g4 : List.getD (mkS 34 [(2,PV.ref 0 0 0),(4,.ref 1 0 0),(5,whole 2 4)]) 4 .undef = .ref 1 0 0 := rfl
 have g5 : List.getD (mkS 34 [(2,PV.ref 0 0 0),(4,.ref 1 0 0),(5,whole 2 4)]) 5 .undef = whole 2 4 := rfl
 simp only [zb,zc,ye,xb,xc,y1,yq,zo,yl,ym,yk,zm,zx,yd,yp,xw,zy,zl,yf,yo,zr,z6,zz,yn,yz,yy,xd,xe,yw,yx,yr,yg,yv,yh,yu,yt,vn,za,ya,y9,g2,g4,g5,if_true] at ev
 exact pc ev rfl
end Go.Pvm.S
set_option linter.unusedSimpArgs false
set_option linter.unusedVariables false
set_option maxRecDepth 100000
namespace Go.Pvm.S
open Go.Pvm Go.Proofs
structure Wok (P n m : Nat) (w : Rp) : Prop where
 r : Rok P n w.d
 nb : n + 8 ≤ 1000000
 c : CkOk m w.c
 l : w.l.length ≤ 500
 g : ∀ e ∈ w.l,0 ≤ e.1 ∧ e.1 < P ∧ e.2.b.length = 512
theorem Rok.sync {P n : Nat} {r : Rf} (h : Rok P n r) : Rok P n r.sync := by
 unfold Rf.sync
 split
 ·exact h
 ·exact ⟨h.hP,h.pl,h.bs,h.st,hbe _,h.ar,h.pl⟩
theorem z59 {x : Int × Sh} : ∀ {put : Bool} {l : List (Int × Sh)} {e : Int × Sh},e ∈ (zph x put l).1 → e = x ∨ e ∈ l
 | _,[],e,h => by cases h
 | put,f :: l,e,h => by
   have k1 := fun h => z59 (x := x) (put := true) (l := l) (e := e) h
   have k2 := fun h => z59 (x := x) (put := put) (l := l) (e := e) h
   have kf : e ∈ (if f.1 = x.1 then ([] : List (Int × Sh)) else [f]) → e ∈ f :: l := fun h => by
    split at h
    ·cases h
    ·rw [ham.1 h]; exact .head _
   unfold zph at h
   split at h
   ·simp only at h
    rcases ha6.1 h with h | h
    ·exact .inl h
    ·rcases hbn.1 h with h | h
     ·exact .inr (kf h)
     ·rcases k1 h with h | h
      ·exact .inl h
      ·exact .inr (.tail _ h)
   ·simp only at h
    rcases hbn.1 h with h | h
    ·exact .inr (kf h)
    ·rcases k2 h with h | h
     ·exact .inl h
     ·exact .inr (.tail _ h)
theorem z8k {x : Int × Sh} {l : List (Int × Sh)} {e : Int × Sh} (h : e ∈ z5u x l) : e = x ∨ e ∈ l := by
 unfold z5u at h
 rcases hbn.1 h with h | h
 ·exact z59 h
 ·split at h
  ·cases h
  ·exact .inl (ham.1 h)
def Rp.rs (w : Rp) (x : Sh) : Rp := if x.place > w.sy then ({ w with d := w.d.sync } : Rp).syn else w
def Rp.wr (w : Rp) (i : Nat) : Rp := match w.l[i]? with
 | none => w
 | some (k,x) => if x.dirty = false then w else { w.rs x with d := rwF k.toNat x.b 4 0 (w.rs x).d,l := z5u (k,{ x with dirty := false }) w.l }
theorem z97 (r : Rf) : jm Cω 30 [.agg [.psl false (r.kept.pg.map cB),.int .i64 r.kept.base,.psl false (r.kept.st.map cB),.psl false (r.now.pg.map cB),.int .i64 r.now.base,.psl false (r.now.st.map cB),.psl false (r.done.map Pt.e),.bool r.gone,.int .i64 r.armed]] = some (.agg [.psl false (r.sync.kept.pg.map cB),.int .i64 r.sync.kept.base,.psl false (r.sync.kept.st.map cB),.psl false (r.sync.now.pg.map cB),.int .i64 r.sync.now.base,.psl false (r.sync.now.st.map cB),.psl false (r.sync.done.map Pt.e),.bool r.sync.gone,.int .i64 r.sync.armed]) := z7i r
theorem z80 (r : Rf) : jm Cω 47 [.agg [.psl false (r.kept.pg.map cB),.int .i64 r.kept.base,.psl false (r.kept.st.map cB),.psl false (r.now.pg.map cB),.int .i64 r.now.base,.psl false (r.now.st.map cB),.psl false (r.done.map Pt.e),.bool r.gone,.int .i64 r.armed]] = some (.agg [.psl false (r.now.pg.map cB),.int .i64 r.now.base,.psl false (r.now.st.map cB)]) := z7h r
theorem z8z (r : Rf) (c : Ck) (l : List (Int × Sh)) (sy : Int) (hb : 0 ≤ r.now.base ∧ r.now.base ≤ 1000000000) (hs : r.now.st.length ≤ 65536) : jm Cω 31 [.agg [.psl false (r.kept.pg.map cB),.int .i64 r.kept.base,.psl false (r.kept.st.map cB),.psl false (r.now.pg.map cB),.int .i64 r.now.base,.psl false (r.now.st.map cB),.psl false (r.done.map Pt.e),.bool r.gone,.int .i64 r.armed,.psl false (c.l.map Sp.e),.int .i64 c.h,.psl false (l.map shE),.int .i64 sy]] = some (.agg [.psl false (r.kept.pg.map cB),.int .i64 r.kept.base,.psl false (r.kept.st.map cB),.psl false (r.now.pg.map cB),.int .i64 r.now.base,.psl false (r.now.st.map cB),.psl false (r.done.map Pt.e),.bool r.gone,.int .i64 r.armed,.psl false (c.l.map Sp.e),.int .i64 c.h,.psl false (l.map shE),.int .i64 (r.now.base + (r.now.st.length : Nat))]) := z6j ⟨r,c,l,sy⟩ hb hs
theorem xAt (r : Rf) (c : Ck) (l : List (Int × Sh)) (sy k : Int) (hl : l.length ≤ 1000) : jm Cω 50 [.agg [.psl false (r.kept.pg.map cB),.int .i64 r.kept.base,.psl false (r.kept.st.map cB),.psl false (r.now.pg.map cB),.int .i64 r.now.base,.psl false (r.now.st.map cB),.psl false (r.done.map Pt.e),.bool r.gone,.int .i64 r.armed,.psl false (c.l.map Sp.e),.int .i64 c.h,.psl false (l.map shE),.int .i64 sy],.int .i64 k] = some (.int .i64 (zn4 (wc l k))) := yab ⟨r,c,l,sy⟩ k hl
theorem z9m (r : Rf) (c : Ck) (l : List (Int × Sh)) (sy k : Int) (b : By) (dy : Bool) (pl : Int) (hl : l.length ≤ 1000) : jm Cω 51 [.agg [.psl false (r.kept.pg.map cB),.int .i64 r.kept.base,.psl false (r.kept.st.map cB),.psl false (r.now.pg.map cB),.int .i64 r.now.base,.psl false (r.now.st.map cB),.psl false (r.done.map Pt.e),.bool r.gone,.int .i64 r.armed,.psl false (c.l.map Sp.e),.int .i64 c.h,.psl false (l.map shE),.int .i64 sy],.agg [.int .i64 k,.psl false (b.map cB),.bool dy,.int .i64 pl]] = some (.agg [.psl false (r.kept.pg.map cB),.int .i64 r.kept.base,.psl false (r.kept.st.map cB),.psl false (r.now.pg.map cB),.int .i64 r.now.base,.psl false (r.now.st.map cB),.psl false (r.done.map Pt.e),.bool r.gone,.int .i64 r.armed,.psl false (c.l.map Sp.e),.int .i64 c.h,.psl false ((z5u (k,⟨b,dy,pl⟩) l).map shE),.int .i64 sy]) := z9o ⟨r,c,l,sy⟩ (k,⟨b,dy,pl⟩) hl
theorem ya4 (r : Rf) (c : Ck) (l : List (Int × Sh)) (sy k : Int) (hl : l.length ≤ 1000) : jm Cω 53 [.agg [.psl false (r.kept.pg.map cB),.int .i64 r.kept.base,.psl false (r.kept.st.map cB),.psl false (r.now.pg.map cB),.int .i64 r.now.base,.psl false (r.now.st.map cB),.psl false (r.done.map Pt.e),.bool r.gone,.int .i64 r.armed,.psl false (c.l.map Sp.e),.int .i64 c.h,.psl false (l.map shE),.int .i64 sy],.int .i64 k] = some (.agg [.psl false (r.kept.pg.map cB),.int .i64 r.kept.base,.psl false (r.kept.st.map cB),.psl false (r.now.pg.map cB),.int .i64 r.now.base,.psl false (r.now.st.map cB),.psl false (r.done.map Pt.e),.bool r.gone,.int .i64 r.armed,.psl false (c.l.map Sp.e),.int .i64 c.h,.psl false ((z6b k l).map shE),.int .i64 sy]) := z9q ⟨r,c,l,sy⟩ k hl
theorem z6y (r : Rf) (c : Ck) (l : List (Int × Sh)) (sy : Int) {P : Nat} (hP : P ≤ 64) (hl : r.kept.pg.length = 512 * P) : jm Cω 48 [.agg [.psl false (r.kept.pg.map cB),.int .i64 r.kept.base,.psl false (r.kept.st.map cB),.psl false (r.now.pg.map cB),.int .i64 r.now.base,.psl false (r.now.st.map cB),.psl false (r.done.map Pt.e),.bool r.gone,.int .i64 r.armed,.psl false (c.l.map Sp.e),.int .i64 c.h,.psl false (l.map shE),.int .i64 sy]] = some (.int .i64 (P : Nat)) := z8g ⟨r,c,l,sy⟩ hP hl
theorem z8t {P n : Nat} {r : Rf} (hr : Rok P n r) (hn : n + 4 ≤ 1000000) {k : Int} (hk : 0 ≤ k ∧ k < P) {b : By} (hb : b.length = 512) : jm Cω 74 [.agg [.psl false (r.kept.pg.map cB),.int .i64 r.kept.base,.psl false (r.kept.st.map cB),.psl false (r.now.pg.map cB),.int .i64 r.now.base,.psl false (r.now.st.map cB),.psl false (r.done.map Pt.e),.bool r.gone,.int .i64 r.armed],.int .i64 k,.psl false (b.map cB)] = some (.tuple [.agg [.psl false ((rwF k.toNat b 4 0 r).kept.pg.map cB),.int .i64 (rwF k.toNat b 4 0 r).kept.base,.psl false ((rwF k.toNat b 4 0 r).kept.st.map cB),.psl false ((rwF k.toNat b 4 0 r).now.pg.map cB),.int .i64 (rwF k.toNat b 4 0 r).now.base,.psl false ((rwF k.toNat b 4 0 r).now.st.map cB),.psl false ((rwF k.toNat b 4 0 r).done.map Pt.e),.bool (rwF k.toNat b 4 0 r).gone,.int .i64 (rwF k.toNat b 4 0 r).armed],.int .i64 0]) := by
 have h := z8e hr hn k (b := b) (by omega)
 rw [if_pos ⟨hk.1,hk.2,hb⟩,if_pos hk,if_pos hb] at h
 exact h
theorem z9l {m : Nat} {c : Ck} (h : CkOk m c) {k : Int} (hk : 0 ≤ k ∧ k < 64) : jm Cω 73 [.agg [.psl false (c.l.map Sp.e),.int .i64 c.h],.int .i64 k] = some (.tuple [.agg [.psl false ((j8 c k).1.l.map Sp.e),.int .i64 (j8 c k).1.h],.int .i64 (j8 c k).2.1,.int .i64 (j8 c k).2.2.1,.int .i64 0]) := z8d h hk
theorem z98 {m : Nat} {c : Ck} (h : CkOk m c) {k : Int} (hk : 0 ≤ k) : ∃ e,jm Cω 54 [.agg [.psl false (c.l.map Sp.e),.int .i64 c.h],.int .i64 k] = some (.tuple [.agg [.psl false ((w7 c k).1.l.map Sp.e),.int .i64 (w7 c k).1.h],.int .i64 e]) := z84 h hk
section
variable {P n m : Nat} {w : Rp}
theorem yaa (h : Wok P n m w) {i : Nat} (hi : i < w.l.length) : jm Cω 52 [.agg w.e,.int .i64 (i : Nat)] = some (.agg (w.wr i).e) := by
 obtain ⟨⟨k,x⟩,hw⟩ : ∃ e,w.l[i]? = some e := ⟨_,haf hi⟩
 obtain ⟨g1,g2,g3⟩ := h.g _ (haj hw)
 have g1 : 0 ≤ k := g1
 have g2 : k < P := g2
 have g3 : x.b.length = 512 := g3
 have hl := h.l
 have hn := h.nb
 have ev := yaq Cω Lω (w.d.kept.pg.map cB) w.d.kept.base (w.d.kept.st.map cB) (w.d.now.pg.map cB) w.d.now.base (w.d.now.st.map cB) (w.d.done.map Pt.e) w.d.gone w.d.armed (w.c.l.map Sp.e) w.c.h (w.l.map shE) w.sy (i : Nat)
 rw [if_pos (by omega),hax,zw2 hw,za,shX,yn,xd,yz,yn,yl] at ev
 unfold Rp.wr
 rw [hw]
 simp only at ev ⊢
 cases hd : x.dirty with
 | false =>
   rw [hd,if_pos (show (!false) = true from rfl)] at ev
   rw [if_pos rfl]
   exact pc ev rfl
 | true =>
   rw [hd,if_neg (show ¬ (!true) = true by decide)] at ev
   rw [if_neg (by decide)]
   unfold Rp.rs
   by_cases c : x.place > w.sy
   ·have hr := h.r.sync
    rw [if_pos (by rw [hbw]; exact c),z97] at ev
    rw [if_pos c]
    show _ = some (PV.agg (Rp.e ⟨rwF k.toNat x.b 4 0 w.d.sync,w.c,z5u (k,⟨x.b,false,x.place⟩) w.l,w.d.sync.now.base + (w.d.sync.now.st.length : Nat)⟩))
    generalize w.d.sync = r1 at hr ev ⊢
    simp only [zb,zc,ye,xb,xc,y1,yq,zo,yl,ym,yk,zm,zx,yd,yp,xw,zy,zl,yf,yo,zr,z6,zz,yn,yz,yy,xd,xe,yw,yx,yr,yg,yv,yh,yu,yt,vn,za,ya,y9] at ev
    rw [z8z r1 w.c w.l w.sy hr.bs hr.st] at ev
    simp only [zb,zc,ye,xb,xc,y1,yq,zo,yl,ym,yk,zm,zx,yd,yp,xw,zy,zl,yf,yo,zr,z6,zz,yn,yz,yy,xd,xe,yw,yx,yr,yg,yv,yh,yu,yt,vn,za,ya,y9] at ev
    rw [z8t hr (by omega) ⟨g1,g2⟩ g3] at ev
    generalize rwF k.toNat x.b 4 0 r1 = r2 at ev ⊢
    simp only [zb,zc,ye,xb,xc,y1,yq,zo,yl,ym,yk,zm,zx,yd,yp,xw,zy,zl,yf,yo,zr,z6,zz,yn,yz,yy,xd,xe,yw,yx,yr,yg,yv,yh,yu,yt,vn,za,ya,y9] at ev
    rw [z9m r2 w.c w.l _ k x.b false x.place (by omega)] at ev
    simp only [zb,zc,ye,xb,xc,y1,yq,zo,yl,ym,yk,zm,zx,yd,yp,xw,zy,zl,yf,yo,zr,z6,zz,yn,yz,yy,xd,xe,yw,yx,yr,yg,yv,yh,yu,yt,vn,za,ya,y9] at ev
    exact pc ev rfl
   ·have hr := h.r
    rw [if_neg (by rw [hbw]; exact c),z8t hr (by omega) ⟨g1,g2⟩ g3] at ev
    rw [if_neg c]
    show _ = some (PV.agg (Rp.e ⟨rwF k.toNat x.b 4 0 w.d,w.c,z5u (k,⟨x.b,false,x.place⟩) w.l,w.sy⟩))
    generalize rwF k.toNat x.b 4 0 w.d = r2 at ev ⊢
    simp only [zb,zc,ye,xb,xc,y1,yq,zo,yl,ym,yk,zm,zx,yd,yp,xw,zy,zl,yf,yo,zr,z6,zz,yn,yz,yy,xd,xe,yw,yx,yr,yg,yv,yh,yu,yt,vn,za,ya,y9] at ev
    rw [z9m r2 w.c w.l _ k x.b false x.place (by omega)] at ev
    simp only [zb,zc,ye,xb,xc,y1,yq,zo,yl,ym,yk,zm,zx,yd,yp,xw,zy,zl,yf,yo,zr,z6,zz,yn,yz,yy,xd,xe,yw,yx,yr,yg,yv,yh,yu,yt,vn,za,ya,y9] at ev
    exact pc ev rfl
theorem xWr (r : Rf) (c : Ck) (l : List (Int × Sh)) (sy : Int) (h : Wok P n m ⟨r,c,l,sy⟩) {i : Nat} (hi : i < l.length) {w' : Rp} (hw : Rp.wr ⟨r,c,l,sy⟩ i = w') : jm Cω 52 [.agg [.psl false (r.kept.pg.map cB),.int .i64 r.kept.base,.psl false (r.kept.st.map cB),.psl false (r.now.pg.map cB),.int .i64 r.now.base,.psl false (r.now.st.map cB),.psl false (r.done.map Pt.e),.bool r.gone,.int .i64 r.armed,.psl false (c.l.map Sp.e),.int .i64 c.h,.psl false (l.map shE),.int .i64 sy],.int .i64 (i : Nat)] = some (.agg [.psl false (w'.d.kept.pg.map cB),.int .i64 w'.d.kept.base,.psl false (w'.d.kept.st.map cB),.psl false (w'.d.now.pg.map cB),.int .i64 w'.d.now.base,.psl false (w'.d.now.st.map cB),.psl false (w'.d.done.map Pt.e),.bool w'.d.gone,.int .i64 w'.d.armed,.psl false (w'.c.l.map Sp.e),.int .i64 w'.c.h,.psl false (w'.l.map shE),.int .i64 w'.sy]) := by
 rw [← hw]
 exact yaa (w := ⟨r,c,l,sy⟩) h hi
end
end Go.Pvm.S
