/- Part of the proof: clocks: whether one may be; a frame that is found; a page that is used. -/
import Derived.Test.YtceokplopachgaaPcB
set_option linter.unusedSimpArgs false
set_option linter.unusedVariables false
set_option maxRecDepth 100000
namespace Go.Pvm.S
open Go.Pvm Go.Proofs
theorem zxt (s t : Sp) : j9 Try.prog .eql 103 (.agg s.e) (.agg t.e) = some (.bool (decide (s = t))) := by
 have h : j9 Try.prog .eql 103 (.agg s.e) (.agg t.e) = Option.map PV.bool (if (s.p == t.p) = true then (if (s.u == t.u) = true then (if (s.n == t.n) = true then some true else some false) else some false) else some false) := by kernel_rfl
 rw [h]
 obtain ⟨a,b,c⟩ := s
 obtain ⟨a',b',c'⟩ := t
 simp only [Sp.mk.injEq]
 by_cases h1 : a = a' <;> by_cases h2 : b = b' <;> by_cases h3 : c = c' <;> simp [h1,h2,h3]
def noSp : Sp := ⟨-1,false,false⟩
def zwv (l : List Sp) (i : Nat) (s : Sp) : Bool := decide (s = noSp) || (decide (0 ≤ s.p) && decide (s.p < 64) && zn4 (atS l s.p) == (i : Nat))
def zhf (l : List Sp) : List Sp → Nat → Bool
 | [],_ => true
 | s :: r,i => zwv l i s && zhf l r (i + 1)
def Ck.ok (c : Ck) : Bool := decide (1 ≤ c.l.length) && decide (c.l.length ≤ 64) && decide (0 ≤ c.h) && decide (c.h < c.l.length) && zhf c.l c.l 0
theorem zqh (c : Ck) (hl : c.l.length < 4611686018427387904) : ∀ (k i : Nat),i + k = c.l.length → Lω 66 ze2 0 (zei (c.l.map Sp.e) (c.l.length : Nat) (i : Nat)) [.box true 46 [.psl false (c.l.map Sp.e),.int .i64 c.h]] =
  some (if zhf c.l (c.l.drop i) i = true then (.exit 0,mkS 59 [],[]) else (.ret,mkS 59 [(2,.int .i64 1)],[]))
 | 0,i,h => by
   refine lw ?_
   rw [zp8,if_neg (by simp; omega),List.drop_of_length_le (by omega)]
   rfl
 | k + 1,i,h => by
   have hi : i < c.l.length := by omega
   have hg := haf hi
   refine lw ?_
   rw [zp8,if_pos (by simp; omega),if_pos (by omega),hax,zdf hg]
   have hat := zx8 c c.l[i].p hl
   have ih := zqh c hl k (i + 1) (by omega)
   rw [hbo hi]
   unfold zhf zwv
   have he := zxt c.l[i] noSp
   generalize c.l[i] = s at hat he
   obtain ⟨p,u,n⟩ := s
   simp only [Sp.e,noSp] at he
   simp only [Ck.v,sps] at hat
   simp only [Sp.e,zb,zc,ye,xb,xc,y1,yq,zo,yl,ym,yk,zm,zx,yd,yp,xw,zy,zl,yf,yo,zr,z6,zz,yn,yz,yy,xd,xe,yw,yx,yr,yg,yv,yh,yu,yt,vn,za,ya,y9,he]
   by_cases c1 : (⟨p,u,n⟩ : Sp) = ⟨-1,false,false⟩
   ·rw [if_neg (by simp [c1]),y6 (by omega),ih]
    simp [c1,noSp]
   ·rw [if_pos (by simp [c1])]
    by_cases c2 : p < 0
    ·rw [if_pos (by simpa using c2),if_neg]
     simp [noSp,c1]; omega
    rw [if_neg (by simpa using c2)]
    by_cases c3 : p ≥ 64
    ·rw [if_pos (by simpa using c3),if_neg]
     simp [noSp,c1]; omega
    rw [if_neg (by simpa using c3)]
    have hat' : jm Cω 68 [.agg [.psl false (c.l.map Sp.e),.int .i64 c.h],.int .i64 p] = some (.int .i64 (zn4 (atS c.l p))) := hat
    simp only [hat',zb,zc,ye,xb,xc,y1,yq,zo,yl,ym,yk,zm,zx,yd,yp,xw,zy,zl,yf,yo,zr,z6,zz,yn,yz,yy,xd,xe,yw,yx,yr,yg,yv,yh,yu,yt,vn,za,ya,y9]
    by_cases c4 : zn4 (atS c.l p) = (i : Nat)
    ·rw [if_neg (by simp [c4]),y6 (by omega)]
     rw [ih]
     simp [noSp,c1,c4]
     have : 0 ≤ p ∧ p < 64 := by omega
     simp [this]
    ·rw [if_pos (by simpa using c4),if_neg]
     simp [noSp,c1,c4]
theorem zpe (c : Ck) (hl : c.l.length < 4611686018427387904) : jm Cω 66 [c.v] = some (.int .i64 (if c.ok = true then 0 else 1)) := by
 have ev := zze Cω Lω (c.l.map Sp.e) c.h
 rw [han] at ev
 unfold Ck.ok
 by_cases c1 : c.l.length < 1
 ·rw [if_pos (by rw [hbw]; omega)] at ev
  rw [if_neg (by simp; omega)]
  exact pc ev rfl
 rw [if_neg (by rw [hbw]; omega)] at ev
 by_cases c2 : c.l.length > 64
 ·rw [if_pos (by simp; omega)] at ev
  rw [if_neg (by simp; omega)]
  exact pc ev rfl
 rw [if_neg (by simp; omega)] at ev
 by_cases c3 : c.h < 0
 ·rw [if_pos (by simpa using c3)] at ev
  rw [if_neg (by simp; omega)]
  exact pc ev rfl
 rw [if_neg (by simpa using c3)] at ev
 by_cases c4 : c.h ≥ c.l.length
 ·rw [if_pos (by simpa using c4)] at ev
  rw [if_neg (by simp; omega)]
  exact pc ev rfl
 rw [if_neg (by simpa using c4)] at ev
 have lp := zqh c hl c.l.length 0 (by omega)
 rw [ha8,zp3] at lp
 rw [lp] at ev
 by_cases c5 : zhf c.l c.l 0 = true
 ·rw [if_pos c5] at ev
  rw [if_pos (by simp [c5]; omega)]
  exact pc ev rfl
 ·rw [if_neg c5] at ev
  rw [if_neg (by simp [c5])]
  simp only [zb,zc,ye,xb,xc,y1,yq,zo,yl,ym,yk,zm,zx,yd,yp,xw,zy,zl,yf,yo,zr,z6,zz,yn,yz,yy,xd,xe,yw,yx,yr,yg,yv,yh,yu,yt,vn,za,ya,y9,zcm (show 2 < 59 by decide)] at ev
  exact pc ev rfl
theorem zwe (c : Ck) (hl : c.l.length ≤ 100) : Cω 67 [c.v] [] = some (.agg [whole 0 3,.int .i64 c.h],[.made true 3 (c.l.map Sp.e)]) := by
 have ev := zzd Cω Lω (c.l.map Sp.e) c.h
 rw [zol c.l Sp.e_ok (by omega)] at ev
 exact cw ev
def uy : Nat → List Sp → Nat → Option Nat × List Sp × Nat
 | 0,l,h => (none,l,h)
 | k + 1,l,h => match l[h]? with
   | none => (none,l,h)
   | some s => if s.n = true then uy k l ((h + 1) % l.length) else if s.u = true then uy k (l.set h { s with u := false }) ((h + 1) % l.length) else (some h,l,(h + 1) % l.length)
def zkq (r : Option Nat × List Sp × Nat) : Ex × List PV × List KO := match r.1 with
 | some i => (.ret,mkS 56 [(2,.int .i64 (i : Nat)),(3,.bool true)],[.box true 46 [whole 1 3,.int .i64 (r.2.2 : Nat)],.made true 3 (r.2.1.map Sp.e)])
 | none => (.exit 0,mkS 56 [],[.box true 46 [whole 1 3,.int .i64 (r.2.2 : Nat)],.made true 3 (r.2.1.map Sp.e)])
theorem zqf (n m : Nat) (hn : 0 < n) (hm : m < 4611686018427387904) (hn2 : n < 4611686018427387904) : ∀ (k i : Nat) (l : List Sp) (h : Nat),i + k = m → l.length = n → h < n → Lω 82 ze1 2 (zeh (n : Nat) (m : Nat) (i : Nat)) [.box true 46 [whole 1 3,.int .i64 (h : Nat)],.made true 3 (l.map Sp.e)] = some (zkq (uy k l h))
 | 0,i,l,h,e,hl,hh => by
   refine lw ?_
   rw [zp7,if_neg (by simp; omega)]
   rfl
 | k + 1,i,l,h,e,hl,hh => by
   have hg := haf (l := l) (i := h) (by omega)
   have hlt : h < l.length := by omega
   refine lw ?_
   rw [zp7,if_pos (by simp; omega),y6 (by omega),zz8 _ (by omega),za,zb,show (((h + 1 : Nat) : Int)).tmod (n : Int) = (((h + 1) % n : Nat) : Int) from rfl,han,if_pos ⟨by omega,by omega⟩,hax,zdf hg,zp6 hg]
   have hnext : (h + 1) % n < n := Nat.mod_lt _ hn
   have p1 : ∀ s : Sp,xl Try.prog 4 s.e 1 = some (.bool s.u) := fun s => oBool.part _
   have p2 : ∀ s : Sp,xl Try.prog 4 s.e 2 = some (.bool s.n) := fun s => oBool.part _
   unfold uy
   rw [hg]
   simp only [za,p1,p2,zc,hl]
   by_cases c1 : l[h].n = true
   ·rw [if_pos c1,if_pos c1,y6 (by omega)]
    exact zqf n m hn hm hn2 k (i + 1) l _ (by omega) hl hnext
   ·rw [if_neg c1,if_neg c1]
    by_cases c2 : l[h].u = true
    ·rw [if_pos c2,if_pos c2,if_pos (by omega),y6 (by omega)]
     have hov : over l[h].e 1 [.bool false] = Sp.e { l[h] with u := false } := rfl
     rw [hov,← List.map_set]
     exact zqf n m hn hm hn2 k (i + 1) _ _ (by omega) (by simpa using hl) hnext
    ·rw [if_neg c2,if_neg c2]
     rfl
def w6 (l : List Sp) (h : Nat) : Option Nat × List Sp × Nat := match atS l (-1) with
 | some i => (some i,l,h)
 | none => uy (2 * l.length) l h
theorem ze9 : ∀ (k : Nat) (l : List Sp) (h : Nat),(uy k l h).2.1.length = l.length
 | 0,_,_ => rfl
 | k + 1,l,h => by
   unfold uy
   split
   ·rfl
   ·split
    ·exact ze9 k _ _
    ·split
     ·rw [ze9 k]; simp
     ·rfl
theorem zjf (l : List Sp) (h : Nat) : (w6 l h).2.1.length = l.length := by
 unfold w6
 split
 ·rfl
 ·exact ze9 _ _ _
theorem zwg (l : List Sp) (h : Nat) (hh : h < l.length) (hl : l.length ≤ 100) : Cω 82 [.ref 0 0 0] [.box true 46 [whole 1 3,.int .i64 (h : Nat)],.made true 3 (l.map Sp.e)] =
  some (.tuple [.int .i64 (zn4 (w6 l h).1),.bool (w6 l h).1.isSome],[.box true 46 [whole 1 3,.int .i64 ((w6 l h).2.2 : Nat)],.made true 3 ((w6 l h).2.1.map Sp.e)]) := by
 have ev := zza Cω Lω (h : Nat) (l.map Sp.e)
 have ha := zx8 ⟨l,(h : Nat)⟩ (-1) (by show l.length < _; omega)
 simp only [Ck.v,sps] at ha
 simp only [ha,zb,zc,ye,xb,xc,y1,yq,zo,yl,ym,yk,zm,zx,yd,yp,xw,zy,zl,yf,yo,zr,z6,zz,yn,yz,yy,xd,xe,yw,yx,yr,yg,yv,yh,yu,yt,vn,za,ya,y9] at ev
 unfold w6
 cases hq : atS l (-1) with
 | some i =>
   rw [hq,if_pos (by simp [zn4])] at ev
   exact cw ev
 | none =>
   rw [hq,if_neg (by simp [zn4]),han,show IntKind.wrap .i64 (2 * ((l.length : Nat) : Int)) = ((2 * l.length : Nat) : Int) by rw [zap (by omega) (by omega)]; omega] at ev
   have lp := zqf l.length (2 * l.length) (by omega) (by omega) (by omega) (2 * l.length) 0 l h (by omega) rfl hh
   rw [zp3] at lp
   rw [lp] at ev
   refine cw (ev.trans ?_)
   simp only
   generalize uy (2 * l.length) l h = r
   obtain ⟨o,l',h'⟩ := r
   cases o with
   | none =>
     simp only [zkq,zb,zc,ye,xb,xc,y1,yq,zo,yl,ym,yk,zm,zx,yd,yp,xw,zy,zl,yf,yo,zr,z6,zz,yn,yz,yy,xd,xe,yw,yx,yr,yg,yv,yh,yu,yt,vn,za,ya,y9]
     rfl
   | some i =>
     simp only [zkq,zb,zc,ye,xb,xc,y1,yq,zo,yl,ym,yk,zm,zx,yd,yp,xw,zy,zl,yf,yo,zr,z6,zz,yn,yz,yy,xd,xe,yw,yx,yr,yg,yv,yh,yu,yt,vn,za,ya,y9,zcm (show 2 < 56 by decide),zcm (show 3 < 56 by decide)]
     rfl
def j8 (c : Ck) (page : Int) : Ck × Int × Int × Int :=
 if c.ok = false then (⟨[],0⟩,-1,-1,1) else if page < 0 ∨ page ≥ 64 then (c,-1,-1,1) else
 match atS c.l page with
 | some i => (⟨c.l.set i { c.l.getD i noSp with u := true },c.h⟩,(i : Nat),-1,0)
 | none => match w6 c.l c.h.toNat with
   | (some i,l,h) => (⟨l.set i ⟨page,true,false⟩,(h : Nat)⟩,(i : Nat),(l.getD i noSp).p,0)
   | (none,_,_) => (c,-1,-1,11)
theorem zwu {c : Ck} (h : c.ok = true) : 1 ≤ c.l.length ∧ c.l.length ≤ 64 ∧ 0 ≤ c.h ∧ c.h < c.l.length := by
 unfold Ck.ok at h
 simp only [haq,hbw] at h
 exact ⟨h.1.1.1.1,h.1.1.1.2,h.1.1.2,h.1.2⟩
theorem zrg {l : List Sp} {p : Int} {i : Nat} (h : atS l p = some i) : i < l.length := by
 unfold atS at h
 exact (List.findIdx?_eq_some_iff_getElem.1 h).1
theorem zhu : ∀ (k : Nat) (l : List Sp) (h i : Nat),h < l.length → (uy k l h).1 = some i → i < l.length ∧ (uy k l h).2.2 < l.length
 | 0,_,_,_,_,e => by cases e
 | k + 1,l,h,i,hh,e => by
   unfold uy at e ⊢
   rw [haf hh] at e ⊢
   simp only at e ⊢
   have hm : (h + 1) % l.length < l.length := Nat.mod_lt _ (by omega)
   split at e
   ·rename_i c
    rw [if_pos c]
    exact zhu k l _ i hm e
   ·rename_i c
    rw [if_neg c]
    split at e
    ·rename_i c2
     rw [if_pos c2]
     have := zhu k (l.set h { l[h] with u := false }) ((h + 1) % l.length) i (by simpa using hm) e
     simpa using this
    ·rename_i c2
     rw [if_neg c2]
     cases e
     exact ⟨hh,hm⟩
theorem zms {l : List Sp} {h i : Nat} (hh : h < l.length) (e : (w6 l h).1 = some i) : i < l.length ∧ (w6 l h).2.2 < l.length := by
 unfold w6 at e ⊢
 split at e
 ·rename_i j hj
  cases e
  exact ⟨zrg hj,hh⟩
 ·exact zhu _ _ _ _ hh e
theorem zt8 (c : Ck) (page : Int) (hl : c.l.length ≤ 100) : jm Cω 64 [c.v,.int .i64 page] = some (.tuple [(j8 c page).1.v,.int .i64 (j8 c page).2.1,.int .i64 (j8 c page).2.2.1,.int .i64 (j8 c page).2.2.2]) := by
 have ev := zzf Cω Lω (c.l.map Sp.e) c.h page
 have hc := zpe c (by omega)
 simp only [Ck.v,sps] at hc
 simp only [hc,zb,zc,ye,xb,xc,y1,yq,zo,yl,ym,yk,zm,zx,yd,yp,xw,zy,zl,yf,yo,zr,z6,zz,yn,yz,yy,xd,xe,yw,yx,yr,yg,yv,yh,yu,yt,vn,za,ya,y9] at ev
 unfold j8
 by_cases c1 : c.ok = true
 ·rw [if_pos c1,if_neg (by decide)] at ev
  rw [if_neg (by rw [c1]; decide)]
  obtain ⟨k1,k2,k3,k4⟩ := zwu c1
  have ho := zwe c hl
  simp only [Ck.v,sps] at ho
  simp only [ho,zb,zc,ye,xb,xc,y1,yq,zo,yl,ym,yk,zm,zx,yd,yp,xw,zy,zl,yf,yo,zr,z6,zz,yn,yz,yy,xd,xe,yw,yx,yr,yg,yv,yh,yu,yt,vn,za,ya,y9] at ev
  have fin0 : ∀ (a b e : Int),(fzK zp [KO.made true 3 (c.l.map Sp.e)] (.tuple [.agg [whole 0 3,.int .i64 c.h],.int .i64 a,.int .i64 b,.int .i64 e])) = .tuple [c.v,.int .i64 a,.int .i64 b,.int .i64 e] := fun _ _ _ => rfl
  by_cases c2 : page < 0
  ·rw [if_pos (by simpa using c2)] at ev
   rw [if_pos (.inl c2)]
   exact pc ev (fin0 _ _ _)
  rw [if_neg (by simpa using c2)] at ev
  by_cases c3 : page ≥ 64
  ·rw [if_pos (by simpa using c3)] at ev
   rw [if_pos (.inr c3)]
   exact pc ev (fin0 _ _ _)
  rw [if_neg (by simpa using c3)] at ev
  rw [if_neg (by omega)]
  have ha := zx8 c page (by omega)
  simp only [Ck.v,sps] at ha
  simp only [ha,zb,zc,ye,xb,xc,y1,yq,zo,yl,ym,yk,zm,zx,yd,yp,xw,zy,zl,yf,yo,zr,z6,zz,yn,yz,yy,xd,xe,yw,yx,yr,yg,yv,yh,yu,yt,vn,za,ya,y9] at ev
  cases hq : atS c.l page with
  | some i =>
    have hi := zrg hq
    have hg := haf hi
    simp only [hq,zn4] at ev
    rw [if_pos (by simp),han,if_pos ⟨by omega,by omega⟩,hax,if_pos hi,zp6 hg] at ev
    have hov : over c.l[i].e 1 [.bool true] = Sp.e { c.l[i] with u := true } := rfl
    have hgd : c.l.getD i noSp = c.l[i] := by rw [hai,hg]; rfl
    rw [hov,← List.map_set] at ev
    simp only [hgd]
    exact pc ev rfl
  | none =>
    simp only [hq,zn4] at ev
    rw [if_neg (by decide)] at ev
    have hf := zwg c.l c.h.toNat (by omega) hl
    rw [show ((c.h.toNat : Nat) : Int) = c.h by omega] at hf
    simp only [hf,zb,zc,ye,xb,xc,y1,yq,zo,yl,ym,yk,zm,zx,yd,yp,xw,zy,zl,yf,yo,zr,z6,zz,yn,yz,yy,xd,xe,yw,yx,yr,yg,yv,yh,yu,yt,vn,za,ya,y9] at ev
    have hlt := fun i => zms (l := c.l) (h := c.h.toNat) (i := i) (by omega)
    have hln := zjf c.l c.h.toNat
    generalize w6 c.l c.h.toNat = r at ev hlt hln
    obtain ⟨o,l,h⟩ := r
    cases o with
    | none =>
      simp only [Option.isSome_none,Bool.not_false,if_true] at ev
      exact pc ev (fin0 _ _ _)
    | some i =>
      have hi : i < l.length := by rw [hln]; exact (hlt i rfl).1
      have hg := haf hi
      have hgd : l.getD i noSp = l[i] := by rw [hai,hg]; rfl
      have p0 : ∀ s : Sp,xl Try.prog 3 s.e 0 = some (.int .i64 s.p) := fun s => oInt.part _
      simp only [Option.isSome_some,Bool.not_true,Bool.false_eq_true,if_false,zn4] at ev
      have hb : (0 : Int) ≤ (i : Nat) ∧ ((i : Nat) : Int) < (l.length : Nat) := ⟨by omega,by omega⟩
      simp only [han,hax,zdf hg,za,p0,zb,if_pos hb,if_pos hi] at ev
      have he : ([(.int .i64 page),(.bool true),(.bool false)] : List PV) = Sp.e ⟨page,true,false⟩ := rfl
      rw [he,← List.map_set] at ev
      simp only [hgd]
      exact pc ev rfl
 ·rw [if_neg c1,if_pos (by decide)] at ev
  rw [if_pos (by simpa using c1)]
  exact pc ev rfl
def zdx (n : Int) : Ck × Int := if n < 1 ∨ n > 64 then (⟨[],0⟩,1) else (⟨List.replicate n.toNat noSp,0⟩,0)
theorem zwj (n : Int) : jm Cω 36 [.int .i64 n] = some (.tuple [(zdx n).1.v,.int .i64 (zdx n).2]) := by
 have ev := zzh Cω Lω n
 unfold zdx
 by_cases c1 : n < 1
 ·rw [if_pos (by simpa using c1)] at ev
  rw [if_pos (.inl c1)]
  exact pc ev rfl
 rw [if_neg (by simpa using c1)] at ev
 by_cases c2 : n > 64
 ·rw [if_pos (by simpa using c2)] at ev
  rw [if_pos (.inr c2)]
  exact pc ev rfl
 rw [if_neg (by simpa using c2)] at ev
 rw [if_neg (by omega)]
 have hr := zyi (e := noSp.e) ⟨rfl,rfl⟩ (n := n.toNat) (by omega) (by omega)
 rw [show ((n.toNat : Nat) : Int) = n by omega] at hr
 have hr' : jm Cω 63 [.psl false [[.int .i64 (-1),.bool false,.bool false]],.int .i64 n] = some (.psl false (List.replicate n.toNat noSp.e)) := hr
 simp only [hr',zb,zc,ye,xb,xc,y1,yq,zo,yl,ym,yk,zm,zx,yd,yp,xw,zy,zl,yf,yo,zr,z6,zz,yn,yz,yy,xd,xe,yw,yx,yr,yg,yv,yh,yu,yt,vn,za,ya,y9] at ev
 refine pc ev ?_
 show PV.tuple [.agg [.psl false (List.replicate n.toNat noSp.e),.int .i64 0],.int .i64 0] = .tuple [.agg [.psl false ((List.replicate n.toNat noSp).map Sp.e),.int .i64 0],.int .i64 0]
 rw [List.map_replicate]
end Go.Pvm.S
