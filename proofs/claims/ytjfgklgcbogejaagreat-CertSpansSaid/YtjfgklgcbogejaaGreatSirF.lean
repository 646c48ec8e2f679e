/- Part of the proof: locks: counted; the page that is crowded; the table when there are many. -/
import Derived.Test.YtjfgklgcbogejaaGreatSirE
set_option linter.unusedSimpArgs false
set_option linter.unusedVariables false
set_option maxRecDepth 100000
namespace Go.Pvm.S
open Go.Pvm Go.Proofs
theorem za7 {α : Type} {p : α → Bool} : ∀ (l : List α) (i n : Nat),xb (fun _ a n => if p a = true then n + 1 else n) l i n = n + (l.filter p).length
 | [],i,n => rfl
 | a :: l,i,n => by
   rw [jf,za7 l]
   by_cases h : p a = true
   ·rw [if_pos h,List.filter_cons_of_pos h,List.length_cons]; omega
   ·rw [if_neg h,List.filter_cons_of_neg h]
theorem z2t (a : Lk) : yn Cω 147 [.agg a.e] = some (.bool true) := pc (z39 Cω Lω a.t a.k a.q.toNat a.p) rfl
theorem z0k (a : Lk) : yn Cω 150 [.agg a.e] = some (.bool (a.k == 2)) := pc (z36 Cω Lω a.t a.k a.q.toNat a.p) rfl
theorem z2s (a : Lk) (j : Int) : yn Cω 179 [.agg a.e,.pref [.int .i64 j]] = some (.bool (a.k == 1 && ((zhc a.q : Nat) : Int) == j)) := by
 have ev := z3u Cω Lω a.t a.k a.q.toNat a.p j
 simp only [zzo,zw,ze,z8,yj,yk,zu,zt,zf,zq,zx,zy,za,zh,zl,z7,ym,zi,zd,zm,zz,zg,zk,zj,zp,yg,zr,yh,yl,ye,yf,ya,zn,yd,zo,yc,yb,yp,zb,z6,yi] at ev
 refine pc (v := .bool _) (A := []) (ev.trans ?_) rfl
 cases (a.k == 1) <;> rfl
theorem z1v (l : List Lk) (t : Int)  (hl : l.length < 1073741824) : yn Cω 146 [.psl false (l.map Lk.e),.int .i64 t,.func 147 []] = some (.int .i64 ((l.filter fun a => a.t == t && true).length : Nat)) := by
 have ev := zry Cω Lω (l.map Lk.e) t
 have lp : Lω 146 ku 0 (qk t  ((0 : Nat) : Int) (l.map Lk.e) (l.length : Nat) (0 : Nat)) [] = _ :=
  jv (fun i (n : Nat) => qk t  ((n : Nat) : Int) (l.map Lk.e) (l.length : Nat) (i : Nat)) (fun _ _ => []) l (fun _ a n => if (a.t == t && true) = true then n + 1 else n)
   (fun n => (.exit 0,mkS 29 [(7,.int .i64 (n : Nat))],[])) (fun i n => n ≤ i) (fun i a n hg hi hn => by
    refine ⟨by split <;> omega,?_⟩
    have hdi : decide (((i : Nat) : Int) < ((l.length : Nat) : Int)) = true := by rw [decide_eq_true_eq]; omega
    have hs := z2t a
    simp only [Lk.e] at hs
    rw [zfk]
    simp only [hdi,nn,Int.toNat_natCast,zb,y9 hg,Lk.e,zw,ze,z8,yj,yk,zu,zt,zf,zq,zx,zy,za,zh,zl,z7,ym,zi,zd,zm,zz,zg,zk,zj,zp,yg,zr,yh,yl,ye,yf,ya,zn,yd,zo,yc,yb,yp,zb,z6,yi,yr (show i < 4611686018427387904 by omega),yr (show n < 4611686018427387904 by omega),hs,if_true]
    cases (a.t == t) <;> simp only [Bool.false_and,Bool.true_and,Bool.false_eq_true,if_false,if_true] <;> (try rfl) <;> (split <;> rfl)) (fun n hn => by
    rw [zfk]; simp only [Int.lt_irrefl,decide_false,Bool.false_eq_true,if_false]) 0 (Nat.le_refl _)
 rw [List.length_map,show (0 : Int) = ((0 : Nat) : Int) from rfl,lp,za7] at ev
 simp only [zw,ze,z8,yj,yk,zu,zt,zf,zq,zx,zy,za,zh,zl,z7,ym,zi,zd,zm,zz,zg,zk,zj,zp,yg,zr,yh,yl,ye,yf,ya,zn,yd,zo,yc,yb,yp,zb,z6,yi,y3,yz,ne_eq,not_false_eq_true,Nat.reduceLT,Nat.reduceEqDiff,if_true,Nat.zero_add] at ev
 exact pc ev rfl
theorem z1u (l : List Lk) (t : Int)  (hl : l.length < 1073741824) : yn Cω 146 [.psl false (l.map Lk.e),.int .i64 t,.func 150 []] = some (.int .i64 ((l.filter fun a => a.t == t && (a.k == 2)).length : Nat)) := by
 have ev := zrx Cω Lω (l.map Lk.e) t
 have lp : Lω 146 kt 0 (qj t  ((0 : Nat) : Int) (l.map Lk.e) (l.length : Nat) (0 : Nat)) [] = _ :=
  jv (fun i (n : Nat) => qj t  ((n : Nat) : Int) (l.map Lk.e) (l.length : Nat) (i : Nat)) (fun _ _ => []) l (fun _ a n => if (a.t == t && (a.k == 2)) = true then n + 1 else n)
   (fun n => (.exit 0,mkS 29 [(7,.int .i64 (n : Nat))],[])) (fun i n => n ≤ i) (fun i a n hg hi hn => by
    refine ⟨by split <;> omega,?_⟩
    have hdi : decide (((i : Nat) : Int) < ((l.length : Nat) : Int)) = true := by rw [decide_eq_true_eq]; omega
    have hs := z0k a
    simp only [Lk.e] at hs
    rw [zfj]
    simp only [hdi,nn,Int.toNat_natCast,zb,y9 hg,Lk.e,zw,ze,z8,yj,yk,zu,zt,zf,zq,zx,zy,za,zh,zl,z7,ym,zi,zd,zm,zz,zg,zk,zj,zp,yg,zr,yh,yl,ye,yf,ya,zn,yd,zo,yc,yb,yp,zb,z6,yi,yr (show i < 4611686018427387904 by omega),yr (show n < 4611686018427387904 by omega),hs,if_true]
    cases (a.t == t) <;> simp only [Bool.false_and,Bool.true_and,Bool.false_eq_true,if_false,if_true] <;> (try rfl) <;> (split <;> rfl)) (fun n hn => by
    rw [zfj]; simp only [Int.lt_irrefl,decide_false,Bool.false_eq_true,if_false]) 0 (Nat.le_refl _)
 rw [List.length_map,show (0 : Int) = ((0 : Nat) : Int) from rfl,lp,za7] at ev
 simp only [zw,ze,z8,yj,yk,zu,zt,zf,zq,zx,zy,za,zh,zl,z7,ym,zi,zd,zm,zz,zg,zk,zj,zp,yg,zr,yh,yl,ye,yf,ya,zn,yd,zo,yc,yb,yp,zb,z6,yi,y3,yz,ne_eq,not_false_eq_true,Nat.reduceLT,Nat.reduceEqDiff,if_true,Nat.zero_add] at ev
 exact pc ev rfl
theorem z1t (l : List Lk) (t : Int) (j : Int) (hl : l.length < 1073741824) : yn Cω 146 [.psl false (l.map Lk.e),.int .i64 t,.func 179 [.pref [.int .i64 j]]] = some (.int .i64 ((l.filter fun a => a.t == t && (a.k == 1 && ((zhc a.q : Nat) : Int) == j)).length : Nat)) := by
 have ev := zrw Cω Lω (l.map Lk.e) t j
 have lp : Lω 146 kr 0 (qi t j ((0 : Nat) : Int) (l.map Lk.e) (l.length : Nat) (0 : Nat)) [] = _ :=
  jv (fun i (n : Nat) => qi t j ((n : Nat) : Int) (l.map Lk.e) (l.length : Nat) (i : Nat)) (fun _ _ => []) l (fun _ a n => if (a.t == t && (a.k == 1 && ((zhc a.q : Nat) : Int) == j)) = true then n + 1 else n)
   (fun n => (.exit 0,mkS 29 [(7,.int .i64 (n : Nat))],[])) (fun i n => n ≤ i) (fun i a n hg hi hn => by
    refine ⟨by split <;> omega,?_⟩
    have hdi : decide (((i : Nat) : Int) < ((l.length : Nat) : Int)) = true := by rw [decide_eq_true_eq]; omega
    have hs := z2s a j
    simp only [Lk.e] at hs
    rw [zfi]
    simp only [hdi,nn,Int.toNat_natCast,zb,y9 hg,Lk.e,zw,ze,z8,yj,yk,zu,zt,zf,zq,zx,zy,za,zh,zl,z7,ym,zi,zd,zm,zz,zg,zk,zj,zp,yg,zr,yh,yl,ye,yf,ya,zn,yd,zo,yc,yb,yp,zb,z6,yi,yr (show i < 4611686018427387904 by omega),yr (show n < 4611686018427387904 by omega),hs,if_true]
    cases (a.t == t) <;> simp only [Bool.false_and,Bool.true_and,Bool.false_eq_true,if_false,if_true] <;> (try rfl) <;> (split <;> rfl)) (fun n hn => by
    rw [zfi]; simp only [Int.lt_irrefl,decide_false,Bool.false_eq_true,if_false]) 0 (Nat.le_refl _)
 rw [List.length_map,show (0 : Int) = ((0 : Nat) : Int) from rfl,lp,za7] at ev
 simp only [zw,ze,z8,yj,yk,zu,zt,zf,zq,zx,zy,za,zh,zl,z7,ym,zi,zd,zm,zz,zg,zk,zj,zp,yg,zr,yh,yl,ye,yf,ya,zn,yd,zo,yc,yb,yp,zb,z6,yi,y3,yz,ne_eq,not_false_eq_true,Nat.reduceLT,Nat.reduceEqDiff,if_true,Nat.zero_add] at ev
 exact pc ev rfl
def zln (l : List Lk) (t : Int) (j : Nat) : Nat := (l.filter fun a => a.t == t && (a.k == 1 && ((zhc a.q : Nat) : Int) == (j : Nat))).length
def zof (l : List Lk) (t : Int) : Nat := (l.filter fun a => a.t == t && a.k == 2).length
def crw (l : List Lk) (t : Int) : Option Nat := (x7 (fun j => decide (zln l t j > 3)) (List.range 8) 0).map (·.1)
theorem z4s (l : List Lk) (t : Int) (hl : l.length < 1073741824) : Lω 149 zgn 0 (zdj (l.map Lk.e) t 0) [] =
  some (zf2 (x7 (fun j => decide (zln l t j > 3)) (List.range 8) 0) (fun i _ => (.ret,mkS 16 [(4,.int .i64 (i : Nat))],[])) (.exit 0,mkS 16 [],[])) :=
 qr (fun i => zdj (l.map Lk.e) t (i : Nat)) [] (List.range 8) (fun j => decide (zln l t j > 3)) (fun i _ => (.ret,mkS 16 [(4,.int .i64 (i : Nat))],[])) (.exit 0,mkS 16 [],[]) (fun i a hg hi => by
  rw [List.length_range] at hi
  have hai : a = i := by
   rw [List.getElem?_range hi] at hg
   exact (Option.some.inj hg).symm
  subst hai
  have hc := z1t l t (a : Nat) hl
  rw [zp2,if_pos (by rw [decide_eq_true_eq]; omega),hc]
  simp only [zw,ze,z8,yj,yk,zu,zt,zf,zq,zx,zy,za,zh,zl,z7,ym,zi,zd,zm,zz,zg,zk,zj,zp,yg,zr,yh,yl,ye,yf,ya,zn,yd,zo,yc,yb,yp,zb,z6,yi,yr (show a < 4611686018427387904 by omega)]
  unfold zln
  have hd : decide ((((l.filter fun x => x.t == t && (x.k == 1 && ((zhc x.q : Nat) : Int) == (a : Nat))).length : Nat) : Int) > 3) = decide ((l.filter fun x => x.t == t && (x.k == 1 && ((zhc x.q : Nat) : Int) == (a : Nat))).length > 3) := by rw [decide_eq_decide]; omega
  rw [hd]) (by rw [zp2]; rfl)
theorem zta (l : List Lk) (t : Int) (hl : l.length < 1073741824) : yn Cω 149 [.psl false (l.map Lk.e),.int .i64 t] = some (.int .i64 (match crw l t with | some j => ((j : Nat) : Int) | none => -1)) := by
 have ev := z37 Cω Lω (l.map Lk.e) t
 have lp := z4s l t hl
 rw [lp] at ev
 unfold crw
 cases hq : x7 (fun j => decide (zln l t j > 3)) (List.range 8) 0 with
 | none =>
   rw [hq] at ev
   simp only [xq,zw,ze,z8,yj,yk,zu,zt,zf,zq,zx,zy,za,zh,zl,z7,ym,zi,zd,zm,zz,zg,zk,zj,zp,yg,zr,yh,yl,ye,yf,ya,zn,yd,zo,yc,yb,yp,zb,z6,yi,if_true] at ev
   exact pc ev rfl
 | some y =>
   rw [hq] at ev
   simp only [xc,zw,ze,z8,yj,yk,zu,zt,zf,zq,zx,zy,za,zh,zl,z7,ym,zi,zd,zm,zz,zg,zk,zj,zp,yg,zr,yh,yl,ye,yf,ya,zn,yd,zo,yc,yb,yp,zb,z6,yi,y3,yz,ne_eq,not_false_eq_true,Nat.reduceLT,Nat.reduceEqDiff] at ev
   exact pc ev rfl
def pgL (t : Int) (j : Nat) : Lk := ⟨t,2,(j : Nat),0⟩
def tbL (t : Int) : Lk := ⟨t,3,0,0⟩
def lockR : Nat → List Lk → Int → List Lk
 | 0,l,_ => l
 | n + 1,l,t => match crw l t with
   | some j => lockR n (zfa l (pgL t j)) t
   | none => if zof l t > 4 ∨ l.length > 64 then zfa l (tbL t) else l
def z19 (l : List Lk) (t : Int) : Nat := ((List.range 8).filter fun j => decide (zln l t j > 3)).length
theorem zk8 {l : List Lk} {t : Int} {j : Nat} (h : crw l t = some j) : j < 8 ∧ zln l t j > 3 := by
 unfold crw at h
 rw [Option.map_eq_some_iff] at h
 obtain ⟨y,hy,rfl⟩ := h
 obtain ⟨_,h2,h3,h4,_⟩ := vd hy
 rw [List.length_range] at h2
 rw [Nat.sub_zero,List.getElem?_range (by omega)] at h3
 rw [decide_eq_true_eq] at h4
 rw [← Option.some.inj h3] at h4
 exact ⟨by omega,h4⟩
theorem za5 {bf : Lk → Bool} {x : Lk} {p : Lk → Bool} (hp : p x = false) : ∀ l : List Lk,(zdf bf x l).filter p = l.filter p
 | [] => by unfold zdf; rw [List.filter_cons_of_neg (by simp [hp])]
 | a :: l => by
   unfold zdf
   split
   ·rw [List.filter_cons_of_neg (by simp [hp])]
   ·by_cases ha : p a = true
    ·rw [List.filter_cons_of_pos ha,List.filter_cons_of_pos ha,za5 hp l]
    ·rw [List.filter_cons_of_neg ha,List.filter_cons_of_neg ha,za5 hp l]
theorem zxd {l : List Lk} {x : Lk} (hx : x.k ≠ 1) (t : Int) (j : Nat) : zln (zfa l x) t j ≤ zln l t j := by
 unfold zln zfa
 split
 ·exact Nat.le_refl _
 ·rw [za5 (by
   have : (x.k == 1) = false := beq_eq_false_iff_ne.2 hx
   rw [this]; simp)]
  exact ((List.filter_sublist (p := fun a => !covL x a) (l := l)).filter _).length_le
theorem zz7 {t : Int} {j : Nat} {a : Lk} (ht : a.t = t) (hk : a.k = 1) (hp : ((zhc a.q : Nat) : Int) = (j : Nat)) : covL (pgL t j) a = true := by
 unfold covL pgL
 rw [if_neg (by rw [bne_iff_ne]; exact fun e => e ht.symm),if_neg (show ¬ (((2 : Int) == 3) = true) by decide),if_pos (show ((2 : Int) == 2) = true by decide),hk,hp]
 simp
theorem zpy {l : List Lk} {t : Int} {j : Nat} (h : 0 < zln l t j) : ∃ a ∈ l,a.t = t ∧ a.k = 1 ∧ ((zhc a.q : Nat) : Int) = (j : Nat) := by
 unfold zln at h
 obtain ⟨a,ha⟩ := List.exists_mem_of_length_pos h
 rw [List.mem_filter,Bool.and_eq_true,Bool.and_eq_true,beq_iff_eq,beq_iff_eq,beq_iff_eq] at ha
 exact ⟨a,ha.1,ha.2.1,ha.2.2.1,ha.2.2.2⟩
theorem zt2 {l : List Lk} {t : Int} {j : Nat} (h : ∀ a ∈ l,a.t = t → a.k = 1 → ((zhc a.q : Nat) : Int) ≠ (j : Nat)) : zln l t j = 0 := by
 rcases Nat.eq_zero_or_pos (zln l t j) with h0 | h0
 ·exact h0
 ·obtain ⟨a,h1,h2,h3,h4⟩ := zpy h0
  exact absurd h4 (h a h1 h2 h3)
theorem z22 {l : List Lk} (hg : Good l) {t : Int} {j : Nat} (h : 0 < zln l t j) : zln (zfa l (pgL t j)) t j = 0 := by
 obtain ⟨a,ha,h1,h2,h3⟩ := zpy h
 have hca := zz7 h1 h2 h3
 have hn : ¬ (l.any fun b => covL b (pgL t j)) = true := fun hh => by
  obtain ⟨b,hb,hc⟩ := List.any_eq_true.1 hh
  -- b covers the page,so it covers the key
  have hbt : b.t = t := zvo hc
  have hba : covL b a = true := by
   unfold covL at hc ⊢
   rw [if_neg (by rw [bne_iff_ne]; exact fun e => e hbt)] at hc
   rw [if_neg (by rw [bne_iff_ne]; exact fun e => e (hbt.trans h1.symm))]
   by_cases k3 : (b.k == 3) = true
   ·rw [if_pos k3]
   ·rw [if_neg k3] at hc ⊢
    by_cases k2 : (b.k == 2) = true
    ·rw [if_pos k2] at hc ⊢
     have e1 : (pgL t j).k = 2 := rfl
     have e2 : (pgL t j).p = (j : Nat) := rfl
     rw [e1,e2] at hc
     simp at hc
     rw [h2,h3]
     simp [hc]
    ·rw [if_neg k2] at hc
     rw [decide_eq_true_eq] at hc
     rw [hc] at k2
     exact absurd rfl k2
  have e := hg.nc b hb a ha hba
  subst e
  unfold covL at hc
  rw [if_neg (by rw [bne_iff_ne]; exact fun e => e hbt),h2,if_neg (by decide),if_neg (by decide),decide_eq_true_eq] at hc
  rw [hc] at h2
  exact absurd h2 (by show ¬ (2 : Int) = 1; decide)
 refine zt2 fun b hb hb1 hb2 hb3 => ?_
 unfold zfa at hb
 rw [if_neg hn,insB_mem] at hb
 rcases hb with e | e
 ·rw [e] at hb2
  exact absurd hb2 (by show ¬ (2 : Int) = 1; decide)
 ·rw [List.mem_filter,zz7 hb1 hb2 hb3] at e
  exact absurd e.2 (by decide)
theorem zmw {α : Type} {p q : α → Bool} : ∀ (l : List α),(∀ a ∈ l,p a = true → q a = true) → (∃ a ∈ l,q a = true ∧ p a = false) → (l.filter p).length < (l.filter q).length
 | [],_,h => by obtain ⟨a,ha,_⟩ := h; cases ha
 | a :: l,h1,h2 => by
   have hle : (l.filter p).length ≤ (l.filter q).length := by
    clear h2
    induction l with
    | nil => exact Nat.le_refl _
    | cons b l ih =>
      have ih := ih fun c hc => h1 c (by rcases List.mem_cons.1 hc with e | e <;> simp [e])
      have hb := h1 b (by simp)
      by_cases hp : p b = true
      ·rw [List.filter_cons_of_pos hp,List.filter_cons_of_pos (hb hp),List.length_cons,List.length_cons]; omega
      ·rw [List.filter_cons_of_neg hp]
       by_cases hq : q b = true
       ·rw [List.filter_cons_of_pos hq,List.length_cons]; omega
       ·rw [List.filter_cons_of_neg hq]; exact ih
   obtain ⟨b,hb,hq,hp⟩ := h2
   rcases List.mem_cons.1 hb with e | e
   ·subst e
    rw [List.filter_cons_of_neg (by simp [hp]),List.filter_cons_of_pos hq,List.length_cons]
    omega
   ·have ih := zmw l (fun c hc => h1 c (List.mem_cons_of_mem _ hc)) ⟨b,e,hq,hp⟩
    have ha := h1 a (List.mem_cons_self ..)
    by_cases hpa : p a = true
    ·rw [List.filter_cons_of_pos hpa,List.filter_cons_of_pos (ha hpa),List.length_cons,List.length_cons]; omega
    ·rw [List.filter_cons_of_neg hpa]
     by_cases hqa : q a = true
     ·rw [List.filter_cons_of_pos hqa,List.length_cons]; omega
     ·rw [List.filter_cons_of_neg hqa]; exact ih
theorem zpz {l : List Lk} (hg : Good l) {t : Int} {j : Nat} (hj : j < 8) (h : zln l t j > 3) : z19 (zfa l (pgL t j)) t < z19 l t := by
 unfold z19
 refine zmw _ (fun i hi hp => ?_) ⟨j,List.mem_range.2 hj,by rw [decide_eq_true_eq]; exact h,?_⟩
 ·rw [decide_eq_true_eq] at hp ⊢
  have := zxd (l := l) (x := pgL t j) (by show ¬ (2 : Int) = 1; decide) t i
  omega
 ·rw [z22 hg (by omega)]; rfl
theorem zpx {t : Int} {j : Nat} (ht : 1 ≤ t ∧ t ≤ 2147483647) (hj : j < 8) : okL (pgL t j) = true := by
 unfold okL pgL
 simp only [decide_eq_true (show 1 ≤ t from ht.1),decide_eq_true (show t ≤ 2147483647 from ht.2),Bool.true_and]
 rw [if_neg (by decide),if_pos (by decide),decide_eq_true (by omega),decide_eq_true (by omega)]
 rfl
theorem ztz {t : Int} (ht : 1 ≤ t ∧ t ≤ 2147483647) : okL (tbL t) = true := by
 unfold okL tbL
 simp only [decide_eq_true (show 1 ≤ t from ht.1),decide_eq_true (show t ≤ 2147483647 from ht.2),Bool.true_and]
 rw [if_neg (by decide),if_neg (by decide),if_pos (by decide)]
 rfl
end Go.Pvm.S
