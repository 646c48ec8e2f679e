/- Part of the proof: locks: counted; the page that is crowded; the table when there are many. -/
import Derived.Test.YtjfgklgcbogejaaGreatSirE
set_option linter.unusedSimpArgs false
set_option linter.unusedVariables false
set_option maxRecDepth 100000
namespace Go.Pvm.S
open Go.Pvm Go.Proofs
theorem zbl {α : Type} {p : α → Bool} : ∀ (l : List α) (i n : Nat),y5 (fun _ a n => if p a = true then n + 1 else n) l i n = n + (l.filter p).length
 | [],i,n => rfl
 | a :: l,i,n => by
   rw [jb,zbl l]
   by_cases h : p a = true
   ·rw [if_pos h,List.filter_cons_of_pos h,List.length_cons]; omega
   ·rw [if_neg h,List.filter_cons_of_neg h]
theorem z5a (a : Lk) : yo Cω 147 [.agg a.e] = some (.bool true) := pc (z6y Cω Lω a.t a.k a.q.toNat a.p) rfl
theorem z2o (a : Lk) : yo Cω 150 [.agg a.e] = some (.bool (a.k == 2)) := pc (z6v Cω Lω a.t a.k a.q.toNat a.p) rfl
theorem z49 (a : Lk) (j : Int) : yo Cω 179 [.agg a.e,.pref [.int .i64 j]] = some (.bool (a.k == 1 && ((wx a.q : Nat) : Int) == j)) := by
 have ev := z6j Cω Lω a.t a.k a.q.toNat a.p j
 simp only [zmr,zw,ze,ya,yk,yl,zu,zt,zf,zq,zx,zy,za,zh,zl,z8,yn,zi,zd,zm,z6,zg,zk,zj,zp,yh,zr,yi,ym,yf,yg,yb,zn,ye,zo,yd,yc,yp,zb,z7,yj] at ev
 refine pc (v := .bool _) (A := []) (ev.trans ?_) rfl
 cases (a.k == 1) <;> rfl
theorem z32 (l : List Lk) (t : Int)  (hl : l.length < 1073741824) : yo Cω 146 [.psl false (l.map Lk.e),.int .i64 t,.func 147 []] = some (.int .i64 ((l.filter fun a => a.t == t && true).length : Nat)) := by
 have ev := ztg Cω Lω (l.map Lk.e) t
 have lp : Lω 146 k7 0 (qv t  ((0 : Nat) : Int) (l.map Lk.e) (l.length : Nat) (0 : Nat)) [] = _ :=
  ji (fun i (n : Nat) => qv t  ((n : Nat) : Int) (l.map Lk.e) (l.length : Nat) (i : Nat)) (fun _ _ => []) l (fun _ a n => if (a.t == t && true) = true then n + 1 else n)
   (fun n => (.exit 0,mkS 29 [(7,.int .i64 (n : Nat))],[])) (fun i n => n ≤ i) (fun i a n hg hi hn => by
    refine ⟨by split <;> omega,?_⟩
    have hdi : decide (((i : Nat) : Int) < ((l.length : Nat) : Int)) = true := by rw [decide_eq_true_eq]; omega
    have hs := z5a a
    simp only [Lk.e] at hs
    rw [zf1]
    simp only [hdi,nn,Int.toNat_natCast,zb,y7 hg,Lk.e,zw,ze,ya,yk,yl,zu,zt,zf,zq,zx,zy,za,zh,zl,z8,yn,zi,zd,zm,z6,zg,zk,zj,zp,yh,zr,yi,ym,yf,yg,yb,zn,ye,zo,yd,yc,yp,zb,z7,yj,yr (show i < 4611686018427387904 by omega),yr (show n < 4611686018427387904 by omega),hs,if_true]
    cases (a.t == t) <;> simp only [Bool.false_and,Bool.true_and,Bool.false_eq_true,if_false,if_true] <;> (try rfl) <;> (split <;> rfl)) (fun n hn => by
    rw [zf1]; simp only [Int.lt_irrefl,decide_false,Bool.false_eq_true,if_false]) 0 (Nat.le_refl _)
 rw [List.length_map,show (0 : Int) = ((0 : Nat) : Int) from rfl,lp,zbl] at ev
 simp only [zw,ze,ya,yk,yl,zu,zt,zf,zq,zx,zy,za,zh,zl,z8,yn,zi,zd,zm,z6,zg,zk,zj,zp,yh,zr,yi,ym,yf,yg,yb,zn,ye,zo,yd,yc,yp,zb,z7,yj,y4,y2,ne_eq,not_false_eq_true,Nat.reduceLT,Nat.reduceEqDiff,if_true,Nat.zero_add] at ev
 exact pc ev rfl
theorem z31 (l : List Lk) (t : Int)  (hl : l.length < 1073741824) : yo Cω 146 [.psl false (l.map Lk.e),.int .i64 t,.func 150 []] = some (.int .i64 ((l.filter fun a => a.t == t && (a.k == 2)).length : Nat)) := by
 have ev := ztf Cω Lω (l.map Lk.e) t
 have lp : Lω 146 kz 0 (qu t  ((0 : Nat) : Int) (l.map Lk.e) (l.length : Nat) (0 : Nat)) [] = _ :=
  ji (fun i (n : Nat) => qu t  ((n : Nat) : Int) (l.map Lk.e) (l.length : Nat) (i : Nat)) (fun _ _ => []) l (fun _ a n => if (a.t == t && (a.k == 2)) = true then n + 1 else n)
   (fun n => (.exit 0,mkS 29 [(7,.int .i64 (n : Nat))],[])) (fun i n => n ≤ i) (fun i a n hg hi hn => by
    refine ⟨by split <;> omega,?_⟩
    have hdi : decide (((i : Nat) : Int) < ((l.length : Nat) : Int)) = true := by rw [decide_eq_true_eq]; omega
    have hs := z2o a
    simp only [Lk.e] at hs
    rw [zf0]
    simp only [hdi,nn,Int.toNat_natCast,zb,y7 hg,Lk.e,zw,ze,ya,yk,yl,zu,zt,zf,zq,zx,zy,za,zh,zl,z8,yn,zi,zd,zm,z6,zg,zk,zj,zp,yh,zr,yi,ym,yf,yg,yb,zn,ye,zo,yd,yc,yp,zb,z7,yj,yr (show i < 4611686018427387904 by omega),yr (show n < 4611686018427387904 by omega),hs,if_true]
    cases (a.t == t) <;> simp only [Bool.false_and,Bool.true_and,Bool.false_eq_true,if_false,if_true] <;> (try rfl) <;> (split <;> rfl)) (fun n hn => by
    rw [zf0]; simp only [Int.lt_irrefl,decide_false,Bool.false_eq_true,if_false]) 0 (Nat.le_refl _)
 rw [List.length_map,show (0 : Int) = ((0 : Nat) : Int) from rfl,lp,zbl] at ev
 simp only [zw,ze,ya,yk,yl,zu,zt,zf,zq,zx,zy,za,zh,zl,z8,yn,zi,zd,zm,z6,zg,zk,zj,zp,yh,zr,yi,ym,yf,yg,yb,zn,ye,zo,yd,yc,yp,zb,z7,yj,y4,y2,ne_eq,not_false_eq_true,Nat.reduceLT,Nat.reduceEqDiff,if_true,Nat.zero_add] at ev
 exact pc ev rfl
theorem z30 (l : List Lk) (t : Int) (j : Int) (hl : l.length < 1073741824) : yo Cω 146 [.psl false (l.map Lk.e),.int .i64 t,.func 179 [.pref [.int .i64 j]]] = some (.int .i64 ((l.filter fun a => a.t == t && (a.k == 1 && ((wx a.q : Nat) : Int) == j)).length : Nat)) := by
 have ev := zte Cω Lω (l.map Lk.e) t j
 have lp : Lω 146 ky 0 (qt t j ((0 : Nat) : Int) (l.map Lk.e) (l.length : Nat) (0 : Nat)) [] = _ :=
  ji (fun i (n : Nat) => qt t j ((n : Nat) : Int) (l.map Lk.e) (l.length : Nat) (i : Nat)) (fun _ _ => []) l (fun _ a n => if (a.t == t && (a.k == 1 && ((wx a.q : Nat) : Int) == j)) = true then n + 1 else n)
   (fun n => (.exit 0,mkS 29 [(7,.int .i64 (n : Nat))],[])) (fun i n => n ≤ i) (fun i a n hg hi hn => by
    refine ⟨by split <;> omega,?_⟩
    have hdi : decide (((i : Nat) : Int) < ((l.length : Nat) : Int)) = true := by rw [decide_eq_true_eq]; omega
    have hs := z49 a j
    simp only [Lk.e] at hs
    rw [zfz]
    simp only [hdi,nn,Int.toNat_natCast,zb,y7 hg,Lk.e,zw,ze,ya,yk,yl,zu,zt,zf,zq,zx,zy,za,zh,zl,z8,yn,zi,zd,zm,z6,zg,zk,zj,zp,yh,zr,yi,ym,yf,yg,yb,zn,ye,zo,yd,yc,yp,zb,z7,yj,yr (show i < 4611686018427387904 by omega),yr (show n < 4611686018427387904 by omega),hs,if_true]
    cases (a.t == t) <;> simp only [Bool.false_and,Bool.true_and,Bool.false_eq_true,if_false,if_true] <;> (try rfl) <;> (split <;> rfl)) (fun n hn => by
    rw [zfz]; simp only [Int.lt_irrefl,decide_false,Bool.false_eq_true,if_false]) 0 (Nat.le_refl _)
 rw [List.length_map,show (0 : Int) = ((0 : Nat) : Int) from rfl,lp,zbl] at ev
 simp only [zw,ze,ya,yk,yl,zu,zt,zf,zq,zx,zy,za,zh,zl,z8,yn,zi,zd,zm,z6,zg,zk,zj,zp,yh,zr,yi,ym,yf,yg,yb,zn,ye,zo,yd,yc,yp,zb,z7,yj,y4,y2,ne_eq,not_false_eq_true,Nat.reduceLT,Nat.reduceEqDiff,if_true,Nat.zero_add] at ev
 exact pc ev rfl
def zmh (l : List Lk) (t : Int) (j : Nat) : Nat := (l.filter fun a => a.t == t && (a.k == 1 && ((wx a.q : Nat) : Int) == (j : Nat))).length
def zph (l : List Lk) (t : Int) : Nat := (l.filter fun a => a.t == t && a.k == 2).length
def crw (l : List Lk) (t : Int) : Option Nat := (ja (fun j => decide (zmh l t j > 3)) (List.range 8) 0).map (·.1)
theorem z7n (l : List Lk) (t : Int) (hl : l.length < 1073741824) : Lω 149 zg0 0 (zd0 (l.map Lk.e) t 0) [] =
  some (zgj (ja (fun j => decide (zmh l t j > 3)) (List.range 8) 0) (fun i _ => (.ret,mkS 16 [(4,.int .i64 (i : Nat))],[])) (.exit 0,mkS 16 [],[])) :=
 q8 (fun i => zd0 (l.map Lk.e) t (i : Nat)) [] (List.range 8) (fun j => decide (zmh l t j > 3)) (fun i _ => (.ret,mkS 16 [(4,.int .i64 (i : Nat))],[])) (.exit 0,mkS 16 [],[]) (fun i a hg hi => by
  rw [List.length_range] at hi
  have hai : a = i := by
   rw [List.getElem?_range hi] at hg
   exact (Option.some.inj hg).symm
  subst hai
  have hc := z30 l t (a : Nat) hl
  rw [zre,if_pos (by rw [decide_eq_true_eq]; omega),hc]
  simp only [zw,ze,ya,yk,yl,zu,zt,zf,zq,zx,zy,za,zh,zl,z8,yn,zi,zd,zm,z6,zg,zk,zj,zp,yh,zr,yi,ym,yf,yg,yb,zn,ye,zo,yd,yc,yp,zb,z7,yj,yr (show a < 4611686018427387904 by omega)]
  unfold zmh
  have hd : decide ((((l.filter fun x => x.t == t && (x.k == 1 && ((wx x.q : Nat) : Int) == (a : Nat))).length : Nat) : Int) > 3) = decide ((l.filter fun x => x.t == t && (x.k == 1 && ((wx x.q : Nat) : Int) == (a : Nat))).length > 3) := by rw [decide_eq_decide]; omega
  rw [hd]) (by rw [zre]; rfl)
theorem zup (l : List Lk) (t : Int) (hl : l.length < 1073741824) : yo Cω 149 [.psl false (l.map Lk.e),.int .i64 t] = some (.int .i64 (match crw l t with | some j => ((j : Nat) : Int) | none => -1)) := by
 have ev := z6w Cω Lω (l.map Lk.e) t
 have lp := z7n l t hl
 rw [lp] at ev
 unfold crw
 cases hq : ja (fun j => decide (zmh l t j > 3)) (List.range 8) 0 with
 | none =>
   rw [hq] at ev
   simp only [xv,zw,ze,ya,yk,yl,zu,zt,zf,zq,zx,zy,za,zh,zl,z8,yn,zi,zd,zm,z6,zg,zk,zj,zp,yh,zr,yi,ym,yf,yg,yb,zn,ye,zo,yd,yc,yp,zb,z7,yj,if_true] at ev
   exact pc ev rfl
 | some y =>
   rw [hq] at ev
   simp only [xg,zw,ze,ya,yk,yl,zu,zt,zf,zq,zx,zy,za,zh,zl,z8,yn,zi,zd,zm,z6,zg,zk,zj,zp,yh,zr,yi,ym,yf,yg,yb,zn,ye,zo,yd,yc,yp,zb,z7,yj,y4,y2,ne_eq,not_false_eq_true,Nat.reduceLT,Nat.reduceEqDiff] at ev
   exact pc ev rfl
def pgL (t : Int) (j : Nat) : Lk := ⟨t,2,(j : Nat),0⟩
def tbL (t : Int) : Lk := ⟨t,3,0,0⟩
def lockR : Nat → List Lk → Int → List Lk
 | 0,l,_ => l
 | n + 1,l,t => match crw l t with
   | some j => lockR n (zfr l (pgL t j)) t
   | none => if zph l t > 4 ∨ l.length > 64 then zfr l (tbL t) else l
def z4h (l : List Lk) (t : Int) : Nat := ((List.range 8).filter fun j => decide (zmh l t j > 3)).length
theorem zl4 {l : List Lk} {t : Int} {j : Nat} (h : crw l t = some j) : j < 8 ∧ zmh l t j > 3 := by
 unfold crw at h
 rw [Option.map_eq_some_iff] at h
 obtain ⟨y,hy,rfl⟩ := h
 obtain ⟨_,h2,h3,h4,_⟩ := vl hy
 rw [List.length_range] at h2
 rw [Nat.sub_zero,List.getElem?_range (by omega)] at h3
 rw [decide_eq_true_eq] at h4
 rw [← Option.some.inj h3] at h4
 exact ⟨by omega,h4⟩
theorem zbj {bf : Lk → Bool} {x : Lk} {p : Lk → Bool} (hp : p x = false) : ∀ l : List Lk,(zdw bf x l).filter p = l.filter p
 | [] => by unfold zdw; rw [List.filter_cons_of_neg (by simp [hp])]
 | a :: l => by
   unfold zdw
   split
   ·rw [List.filter_cons_of_neg (by simp [hp])]
   ·by_cases ha : p a = true
    ·rw [List.filter_cons_of_pos ha,List.filter_cons_of_pos ha,zbj hp l]
    ·rw [List.filter_cons_of_neg ha,List.filter_cons_of_neg ha,zbj hp l]
theorem zy9 {l : List Lk} {x : Lk} (hx : x.k ≠ 1) (t : Int) (j : Nat) : zmh (zfr l x) t j ≤ zmh l t j := by
 unfold zmh zfr
 split
 ·exact Nat.le_refl _
 ·rw [zbj (by
   have : (x.k == 1) = false := beq_eq_false_iff_ne.2 hx
   rw [this]; simp)]
  exact ((List.filter_sublist (p := fun a => !covL x a) (l := l)).filter _).length_le
theorem z18 {t : Int} {j : Nat} {a : Lk} (ht : a.t = t) (hk : a.k = 1) (hp : ((wx a.q : Nat) : Int) = (j : Nat)) : covL (pgL t j) a = true := by
 unfold covL pgL
 rw [if_neg (by rw [bne_iff_ne]; exact fun e => e ht.symm),if_neg (show ¬ (((2 : Int) == 3) = true) by decide),if_pos (show ((2 : Int) == 2) = true by decide),hk,hp]
 simp
theorem zra {l : List Lk} {t : Int} {j : Nat} (h : 0 < zmh l t j) : ∃ a ∈ l,a.t = t ∧ a.k = 1 ∧ ((wx a.q : Nat) : Int) = (j : Nat) := by
 unfold zmh at h
 obtain ⟨a,ha⟩ := List.exists_mem_of_length_pos h
 rw [List.mem_filter,Bool.and_eq_true,Bool.and_eq_true,beq_iff_eq,beq_iff_eq,beq_iff_eq] at ha
 exact ⟨a,ha.1,ha.2.1,ha.2.2.1,ha.2.2.2⟩
theorem zvk {l : List Lk} {t : Int} {j : Nat} (h : ∀ a ∈ l,a.t = t → a.k = 1 → ((wx a.q : Nat) : Int) ≠ (j : Nat)) : zmh l t j = 0 := by
 rcases Nat.eq_zero_or_pos (zmh l t j) with h0 | h0
 ·exact h0
 ·obtain ⟨a,h1,h2,h3,h4⟩ := zra h0
  exact absurd h4 (h a h1 h2 h3)
theorem z5l {l : List Lk} (hg : Good l) {t : Int} {j : Nat} (h : 0 < zmh l t j) : zmh (zfr l (pgL t j)) t j = 0 := by
 obtain ⟨a,ha,h1,h2,h3⟩ := zra h
 have hca := z18 h1 h2 h3
 have hn : ¬ (l.any fun b => covL b (pgL t j)) = true := fun hh => by
  obtain ⟨b,hb,hc⟩ := List.any_eq_true.1 hh
  -- b covers the page,so it covers the key
  have hbt : b.t = t := zxf hc
  have hba : covL b a = true := by
   unfold covL at hc ⊢
   rw [if_neg (by rw [bne_iff_ne]; exact fun e => e hbt)] at hc
   rw [if_neg (by rw [bne_iff_ne]; exact fun e => e (hbt.trans h1.symm))]
   by_cases k3 : (b.k == 3) = true
   ·rw [if_pos k3]
   ·rw [if_neg k3] at hc ⊢
    by_cases k2 : (b.k == 2) = true
    ·rw [if_pos k2] at hc ⊢
     have e1 : (pgL t j).k = 2 := rfl
     have e2 : (pgL t j).p = (j : Nat) := rfl
     rw [e1,e2] at hc
     simp at hc
     rw [h2,h3]
     simp [hc]
    ·rw [if_neg k2] at hc
     rw [decide_eq_true_eq] at hc
     rw [hc] at k2
     exact absurd rfl k2
  have e := hg.nc b hb a ha hba
  subst e
  unfold covL at hc
  rw [if_neg (by rw [bne_iff_ne]; exact fun e => e hbt),h2,if_neg (by decide),if_neg (by decide),decide_eq_true_eq] at hc
  rw [hc] at h2
  exact absurd h2 (by show ¬ (2 : Int) = 1; decide)
 refine zvk fun b hb hb1 hb2 hb3 => ?_
 unfold zfr at hb
 rw [if_neg hn,insB_mem] at hb
 rcases hb with e | e
 ·rw [e] at hb2
  exact absurd hb2 (by show ¬ (2 : Int) = 1; decide)
 ·rw [List.mem_filter,z18 hb1 hb2 hb3] at e
  exact absurd e.2 (by decide)
theorem znw {α : Type} {p q : α → Bool} : ∀ (l : List α),(∀ a ∈ l,p a = true → q a = true) → (∃ a ∈ l,q a = true ∧ p a = false) → (l.filter p).length < (l.filter q).length
 | [],_,h => by obtain ⟨a,ha,_⟩ := h; cases ha
 | a :: l,h1,h2 => by
   have hle : (l.filter p).length ≤ (l.filter q).length := by
    clear h2
    induction l with
    | nil => exact Nat.le_refl _
    | cons b l ih =>
      have ih := ih fun c hc => h1 c (by rcases List.mem_cons.1 hc with e | e <;> simp [e])
      have hb := h1 b (by simp)
      by_cases hp : p b = true
      ·rw [List.filter_cons_of_pos hp,List.filter_cons_of_pos (hb hp),List.length_cons,List.length_cons]; omega
      ·rw [List.filter_cons_of_neg hp]
       by_cases hq : q b = true
       ·rw [List.filter_cons_of_pos hq,List.length_cons]; omega
       ·rw [List.filter_cons_of_neg hq]; exact ih
   obtain ⟨b,hb,hq,hp⟩ := h2
   rcases List.mem_cons.1 hb with e | e
   ·subst e
    rw [List.filter_cons_of_neg (by simp [hp]),List.filter_cons_of_pos hq,List.length_cons]
    omega
   ·have ih := znw l (fun c hc => h1 c (List.mem_cons_of_mem _ hc)) ⟨b,e,hq,hp⟩
    have ha := h1 a (List.mem_cons_self ..)
    by_cases hpa : p a = true
    ·rw [List.filter_cons_of_pos hpa,List.filter_cons_of_pos (ha hpa),List.length_cons,List.length_cons]; omega
    ·rw [List.filter_cons_of_neg hpa]
     by_cases hqa : q a = true
     ·rw [List.filter_cons_of_pos hqa,List.length_cons]; omega
     ·rw [List.filter_cons_of_neg hqa]; exact ih
theorem zrb {l : List Lk} (hg : Good l) {t : Int} {j : Nat} (hj : j < 8) (h : zmh l t j > 3) : z4h (zfr l (pgL t j)) t < z4h l t := by
 unfold z4h
 refine znw _ (fun i hi hp => ?_) ⟨j,List.mem_range.2 hj,by rw [decide_eq_true_eq]; exact h,?_⟩
 ·rw [decide_eq_true_eq] at hp ⊢
  have := zy9 (l := l) (x := pgL t j) (by show ¬ (2 : Int) = 1; decide) t i
  omega
 ·rw [z5l hg (by omega)]; rfl
theorem zj3 {t : Int} {j : Nat} (ht : 1 ≤ t ∧ t ≤ 2147483647) (hj : j < 8) : okL (pgL t j) = true := by
 unfold okL pgL
 simp only [decide_eq_true (show 1 ≤ t from ht.1),decide_eq_true (show t ≤ 2147483647 from ht.2),Bool.true_and]
 rw [if_neg (by decide),if_pos (by decide),decide_eq_true (by omega),decide_eq_true (by omega)]
 rfl
theorem zvh {t : Int} (ht : 1 ≤ t ∧ t ≤ 2147483647) : okL (tbL t) = true := by
 unfold okL tbL
 simp only [decide_eq_true (show 1 ≤ t from ht.1),decide_eq_true (show t ≤ 2147483647 from ht.2),Bool.true_and]
 rw [if_neg (by decide),if_neg (by decide),if_pos (by decide)]
 rfl
end Go.Pvm.S
