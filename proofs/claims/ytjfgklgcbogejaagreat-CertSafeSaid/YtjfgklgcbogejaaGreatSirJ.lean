/- Part of the proof: locks: a key more, and a range: the program's and the document's. -/
import Derived.Test.YtjfgklgcbogejaaGreatSirI
import Derived.Test.YtjfgklgcbogejaaGreatInn
set_option linter.unusedSimpArgs false
set_option linter.unusedVariables false
set_option maxRecDepth 100000
namespace Go.Pvm.S
open Go.Pvm Go.Proofs
def beg (l : List Lk) (t : Int) : List Lk × Int := if (zfb l && inn t) = true then (l,if oth l t ≥ 64 then 12 else 0) else ([],1)
theorem zuq (l : List Lk) (t : Int) (hl : l.length < 1000000) : Cω 99 [.psl false (l.map Lk.e),.int .i64 t] [] = some (.tuple [whole 0 4,.int .i64 (beg l t).2],[.made true 4 ((beg l t).1.map Lk.e)]) := by
 have ev := z80 Cω Lω (l.map Lk.e) t
 have ha := z32 l t (by omega)
 have ho := zwl l t
 have hf : (l.filter fun a => a.t == t && true) = l.filter fun a => a.t == t := List.filter_congr fun a _ => by simp
 rw [hf] at ha
 rw [zkv l (by omega),ha,q9 l Lk.e_ok (by omega)] at ev
 simp only [zw,ze,ya,yk,yl,zu,zt,zf,zq,zx,zy,za,zh,zl,z8,yn,zi,zd,zm,z6,zg,zk,zj,zp,yh,zr,yi,ym,yf,yg,yb,zn,ye,zo,yd,yc,yp,zb,z7,yj,List.length_map] at ev
 have hw : IntKind.wrap .i64 (((l.length : Nat) : Int) - (((l.filter fun a => a.t == t).length : Nat) : Int)) = ((oth l t : Nat) : Int) := by
  rw [qz (by omega) (by omega)]; omega
 rw [hw] at ev
 unfold beg
 by_cases h1 : zfb l = true
 case neg =>
  have h1' : zfb l = false := by simpa using h1
  simp only [h1',Bool.false_and,Bool.false_eq_true,if_false] at ev ⊢
  rw [if_pos (by decide)] at ev
  exact cw ev
 simp only [h1,Bool.true_and,if_true] at ev ⊢
 rw [if_neg (by decide)] at ev
 by_cases h2 : inn t = true
 case neg =>
  rw [if_neg h2]
  rw [inn_iff] at h2
  by_cases h3 : t < 1
  ·rw [if_pos (decide_eq_true h3)] at ev
   exact cw ev
  ·rw [if_neg (by rw [decide_eq_true_eq]; exact h3),if_pos (by rw [decide_eq_true_eq]; omega)] at ev
   exact cw ev
 rw [if_pos h2]
 rw [inn_iff] at h2
 rw [if_neg (by rw [decide_eq_true_eq]; omega),if_neg (by rw [decide_eq_true_eq]; omega)] at ev
 by_cases h3 : oth l t ≥ 64
 ·rw [if_pos (by rw [decide_eq_true_eq]; omega)] at ev
  simp only [if_pos h3]
  exact cw ev
 ·rw [if_neg (by rw [decide_eq_true_eq]; omega)] at ev
  simp only [if_neg h3]
  exact cw ev
def kyL (t : Int) (q : Wd) : Lk := ⟨t,1,0,zrl q⟩
theorem zzs (q : Wd) : zrl (zrl q) = zrl q := by
 apply BitVec.eq_of_toNat_eq
 rw [zg3,zg3,zzr]
theorem zvi {t : Int} {q : Wd} (ht : 1 ≤ t ∧ t ≤ 2147483647) : okL (kyL t q) = true := by
 unfold okL kyL
 simp only [decide_eq_true (show 1 ≤ t from ht.1),decide_eq_true (show t ≤ 2147483647 from ht.2),Bool.true_and]
 rw [if_pos (by rfl),zzs]
 simp
theorem zr5 {l : List Lk} {t : Int} (h : (beg l t).2 = 0) : (beg l t).1 = l ∧ zfb l = true ∧ (1 ≤ t ∧ t ≤ 2147483647) ∧ oth l t < 64 := by
 unfold beg at h ⊢
 by_cases hb : (zfb l && inn t) = true
 ·rw [if_pos hb] at h ⊢
  rw [Bool.and_eq_true,inn_iff] at hb
  refine ⟨rfl,hb.1,hb.2,?_⟩
  by_cases h3 : oth l t ≥ 64
  ·simp only [if_pos h3] at h
   exact absurd h (by decide)
  ·omega
 ·rw [if_neg hb] at h
  exact absurd h (by decide)
def zg4 (l : List Lk) (t : Int) (q : Wd) : List Lk × Int := if (beg l t).2 = 0 then (lockL l (kyL t q),0) else beg l t
theorem z47 (l : List Lk) (t : Int) (q : Wd) (hl : l.length < 1000000) : yo Cω 38 [.psl false (l.map Lk.e),.int .i64 t,.float .f64 q.toNat] = some (.tuple [.psl false ((zg4 l t q).1.map Lk.e),.int .i64 (zg4 l t q).2]) := by
 have ev := z9s Cω Lω (l.map Lk.e) t q.toNat
 rw [zuq l t hl] at ev
 simp only [zw,ze,ya,yk,yl,zu,zt,zf,zq,zx,zy,za,zh,zl,z8,yn,zi,zd,zm,z6,zg,zk,zj,zp,yh,zr,yi,ym,yf,yg,yb,zn,ye,zo,yd,yc,yp,zb,z7,yj,zyj] at ev
 unfold zg4
 by_cases h : (beg l t).2 = 0
 ·obtain ⟨h1,h2,h3,h4⟩ := zr5 h
  rw [if_neg (by rw [bne_iff_ne]; exact fun e => e h),h1] at ev
  obtain ⟨m1,m2⟩ := (wy l).1 h2
  have lk : Cω 100 [whole 0 4,.agg [.int .i64 t,.int .i64 1,.float .f64 (zrl q).toNat,.int .i64 0]] [.made true 4 (l.map Lk.e)] = _ := zum l (kyL t q) (by omega) m2 (zvi h3) h3
  rw [lk] at ev
  simp only [zw,ze,ya,yk,yl,zu,zt,zf,zq,zx,zy,za,zh,zl,z8,yn,zi,zd,zm,z6,zg,zk,zj,zp,yh,zr,yi,ym,yf,yg,yb,zn,ye,zo,yd,yc,yp,zb,z7,yj] at ev
  rw [if_pos h]
  exact pc ev rfl
 ·rw [if_pos (by rw [bne_iff_ne]; exact h)] at ev
  rw [if_neg h]
  exact pc ev rfl
def z4g : Nat → Nat → List Lk → Int → List Lk
 | 0,_,l,_ => l
 | n + 1,p,l,t => z4g n (p + 1) (lockL l (pgL t p)) t
theorem zu4 {t : Int} (ht : 1 ≤ t ∧ t ≤ 2147483647) : ∀ (n p : Nat) (l : List Lk),p + n ≤ 8 → l.length ≤ 64 → Good l → oth l t < 64 → (z4g n p l t).length ≤ 64 ∧ Good (z4g n p l t)
 | 0,p,l,_,h1,h2,_ => ⟨h1,h2⟩
 | n + 1,p,l,hp,h1,h2,h3 => by
   have hx := zj3 ht (show p < 8 by omega)
   have e := zna l (pgL t p)
   exact zu4 ht n (p + 1) _ (by omega) (zie hx ht h2 h3) (h2.lockL hx ht) (by have e' : oth (lockL l (pgL t p)) t = oth l t := e; omega)
theorem zwe (t : Int) (ht : 1 ≤ t ∧ t ≤ 2147483647) (hi : Wd) : ∀ (n p : Nat) (l : List Lk),p + n = wx hi + 1 → l.length ≤ 64 → Good l → oth l t < 64 →
  Lω 40 zlh 0 (zkp t hi.toNat (p : Nat)) [.made true 4 (l.map Lk.e)] = some (.exit 0,mkS 42 [(0,whole 0 4)],[.made true 4 ((z4g n p l t).map Lk.e)])
 | 0,p,l,hp,_,_,_ => by
   refine lw ?_
   rw [zv4,zmr]
   simp only [zw,ze,ya,yk,yl,zu,zt,zf,zq,zx,zy,za,zh,zl,z8,yn,zi,zd,zm,z6,zg,zk,zj,zp,yh,zr,yi,ym,yf,yg,yb,zn,ye,zo,yd,yc,yp,zb,z7,yj]
   rw [if_neg (by rw [decide_eq_true_eq]; omega)]; rfl
 | n + 1,p,l,hp,h1,h2,h3 => by
   have hp8 := zq7 hi
   have hx := zj3 ht (show p < 8 by omega)
   have e : oth (lockL l (pgL t p)) t = oth l t := zna l (pgL t p)
   have hd : decide (((p : Nat) : Int) ≤ ((wx hi : Nat) : Int)) = true := by rw [decide_eq_true_eq]; omega
   have hw : IntKind.wrap .i64 (((p : Nat) : Int) + 1) = ((p + 1 : Nat) : Int) := yr (by omega)
   have lk : Cω 100 [whole 0 4,.agg [.int .i64 t,.int .i64 2,.float .f64 0,.int .i64 (p : Nat)]] [.made true 4 (l.map Lk.e)] = _ := zum l (pgL t p) (by omega) h2 hx ht
   have ih := zwe t ht hi n (p + 1) (lockL l (pgL t p)) (by omega) (zie hx ht h2 h3) (h2.lockL hx ht) (by omega)
   refine lw ?_
   rw [zv4,zmr]
   simp only [zw,ze,ya,yk,yl,zu,zt,zf,zq,zx,zy,za,zh,zl,z8,yn,zi,zd,zm,z6,zg,zk,zj,zp,yh,zr,yi,ym,yf,yg,yb,zn,ye,zo,yd,yc,yp,zb,z7,yj,hd,if_true,lk,hw]
   exact ih
def zi8 (l : List Lk) (t : Int) (lo hi : Wd) : List Lk × Int := if (beg l t).2 = 0 ∧ jl lo < jl hi then (z4g (wx hi + 1 - wx lo) (wx lo) l t,0) else beg l t
theorem zve {a b : Wd} (h : jl a < jl b) : wx a ≤ wx b := by
 unfold wx
 exact Nat.div_le_div_right (Nat.le_of_lt h)
theorem zyh (l : List Lk) (t : Int) (lo hi : Wd) (hl : l.length < 1000000) : yo Cω 40 [.psl false (l.map Lk.e),.int .i64 t,.float .f64 lo.toNat,.float .f64 hi.toNat] = some (.tuple [.psl false ((zi8 l t lo hi).1.map Lk.e),.int .i64 (zi8 l t lo hi).2]) := by
 have ev := z9q Cω Lω (l.map Lk.e) t lo.toNat hi.toNat
 rw [zuq l t hl] at ev
 simp only [zw,ze,ya,yk,yl,zu,zt,zf,zq,zx,zy,za,zh,zl,z8,yn,zi,zd,zm,z6,zg,zk,zj,zp,yh,zr,yi,ym,yf,yg,yb,zn,ye,zo,yd,yc,yp,zb,z7,yj,zms,zmr] at ev
 unfold zi8
 by_cases h : (beg l t).2 = 0
 ·obtain ⟨h1,h2,h3,h4⟩ := zr5 h
  rw [if_neg (by rw [bne_iff_ne]; exact fun e => e h)] at ev
  by_cases hr : jl lo < jl hi
  ·have hc : zol (jl lo) (jl hi) = -1 := by unfold zol; rw [if_pos hr]
   rw [hc,if_neg (by decide),h1] at ev
   obtain ⟨m1,m2⟩ := (wy l).1 h2
   have hpl := zve hr
   rw [zwe t h3 hi (wx hi + 1 - wx lo) (wx lo) l (by omega) m1 m2 h4] at ev
   simp only [zw,ze,ya,yk,yl,zu,zt,zf,zq,zx,zy,za,zh,zl,z8,yn,zi,zd,zm,z6,zg,zk,zj,zp,yh,zr,yi,ym,yf,yg,yb,zn,ye,zo,yd,yc,yp,zb,z7,yj,y4,y2,ne_eq,not_false_eq_true,Nat.reduceLT,Nat.reduceEqDiff,if_true] at ev
   rw [if_pos ⟨h,hr⟩]
   exact pc ev rfl
  ·have hc : zol (jl lo) (jl hi) ≥ 0 := by
    rcases zkf (jl lo) (jl hi) with ⟨h,e⟩ | ⟨h,e⟩ | ⟨h,e⟩
    ·exact absurd h hr
    ·rw [e]; decide
    ·rw [e]; decide
   rw [if_pos (decide_eq_true hc)] at ev
   rw [if_neg (fun h => hr h.2)]
   exact pc ev rfl
 ·rw [if_pos (by rw [bne_iff_ne]; exact h)] at ev
  rw [if_neg (fun h' => h h'.1)]
  exact pc ev rfl
end Go.Pvm.S
