/- Part of the proof: certifiers: victims given up; who is of no account forgotten. -/
import Derived.Test.YtjfgklgcbogejaaGreatCrtB
set_option linter.unusedSimpArgs false
set_option linter.unusedVariables false
set_option maxRecDepth 100000
namespace Go.Pvm.S
open Go.Pvm Go.Proofs
theorem z0i (a b : Int) : yn Cω 142 [.int .i64 a,.int .i64 b] = some (.bool (decide (a < b))) := by
 have h : ∀ z,yn Cω 132 [.int .i64 z] = some (.bool false) := fun z => pc (zz5 Cω Lω z) (by show PV.bool (z != z) = _; rw [bne_self_eq_false])
 have ev := z4b Cω Lω a b
 rw [h] at ev
 simp only [zw,ze,z8,yj,yk,zu,zt,zf,zq,zx,zy,za,zh,zl,z7,ym,zi,zd,zm,zz,zg,zk,zj,zp,yg,zr,yh,yl,ye,yf,ya,zn,yd,zo,yc,yb,yp,zb,z6,yi,Bool.false_eq_true,if_false] at ev
 exact pc ev rfl
theorem zzp (z : Int) : yn Cω 143 [.int .i64 z] = some (.bool false) := pc (z4a Cω Lω z) (by show PV.bool (z != z) = _; rw [bne_self_eq_false])
theorem z7e (l : List Int) (x : Int) (hl : l.length < 1073741824) (p : Nat) (hp : p ≤ l.length) (hk : ∀ k a,l[k]? = some a → (a < x ↔ k < p)) : ∀ m lo hi : Nat,hi - lo ≤ m → lo ≤ p → p ≤ hi → hi ≤ l.length →
  Lω 97 zhw 0 (zgz (l.map ie) x (l.length : Nat) (lo : Nat) (hi : Nat)) [] = some (.exit 0,mkS 54 [(0,.psl false (l.map ie)),(1,.int .i64 x),(6,.int .i64 (l.length : Nat)),(7,.int .i64 (p : Nat))],[]) := by
 intro m
 induction m with
 | zero =>
   intro lo hi hm h1 h2 h3
   have : lo = hi := by omega
   subst this
   have : p = lo := by omega
   subst this
   refine lw ?_
   rw [zt6,if_neg (by simp)]
 | succ m ih =>
   intro lo hi hm h1 h2 h3
   by_cases hlt : lo < hi
   ·have hh : (lo + hi) / 2 < l.length := by omega
    have hg := List.getElem?_eq_getElem hh
    have hc := hk _ _ hg
    refine lw ?_
    rw [zt6,if_pos (by simp; omega),z3m (by omega),if_pos (nn _),Int.toNat_natCast,y9 hg]
    simp only [ie,zw,ze,z8,yj,yk,zu,zt,zf,zq,zx,zy,za,zh,zl,z7,ym,zi,zd,zm,zz,zg,zk,zj,zp,yg,zr,yh,yl,ye,yf,ya,zn,yd,zo,yc,yb,yp,zb,z6,yi,z0i]
    by_cases hq : l[(lo + hi) / 2] < x
    ·rw [if_pos (by rw [decide_eq_true_eq]; exact hq),yr (by omega)]
     exact ih _ hi (by omega) (by have := hc.1 hq; omega) h2 h3
    ·rw [if_neg (by rw [decide_eq_true_eq]; exact hq)]
     exact ih lo _ (by omega) h1 (by have : ¬ _ := fun h => hq (hc.2 h); omega) (by omega)
   ·exact ih lo hi (by omega) h1 h2 h3
theorem z7d (l : List Int) (x : Int) (hl : l.length < 1073741824) (p : Nat) (hp : p ≤ l.length) (hk : ∀ k a,l[k]? = some a → (a < x ↔ k < p)) :
  yn Cω 97 [.psl false (l.map ie),.int .i64 x] = some (.tuple [.int .i64 (p : Nat),.bool (match l[p]? with | some a => a == x | none => false)]) := by
 have ev := z6c Cω Lω (l.map ie) x
 have lp := z7e l x hl p hp hk l.length 0 l.length (by omega) (by omega) hp (Nat.le_refl _)
 rw [zwf] at lp
 rw [List.length_map,lp] at ev
 simp only [zw,ze,z8,yj,yk,zu,zt,zf,zq,zx,zy,za,zh,zl,z7,ym,zi,zd,zm,zz,zg,zk,zj,zp,yg,zr,yh,yl,ye,yf,ya,zn,yd,zo,yc,yb,yp,zb,z6,yi,y3,yz,ne_eq,not_false_eq_true,Nat.reduceLT,Nat.reduceEqDiff,if_true] at ev
 by_cases h : p < l.length
 ·have hg := List.getElem?_eq_getElem h
  rw [if_pos (by rw [decide_eq_true_eq]; omega),if_pos (nn _),Int.toNat_natCast,y9 hg] at ev
  simp only [ie,zw,ze,z8,yj,yk,zu,zt,zf,zq,zx,zy,za,zh,zl,z7,ym,zi,zd,zm,zz,zg,zk,zj,zp,yg,zr,yh,yl,ye,yf,ya,zn,yd,zo,yc,yb,yp,zb,z6,yi,zzp] at ev
  rw [hg]
  show _ = some (PV.tuple [_,PV.bool (l[p] == x)])
  cases hq : (l[p] == x) with
  | true => rw [hq] at ev; exact pc ev rfl
  | false =>
    rw [hq] at ev
    simp only [Bool.false_eq_true,if_false,nn,if_true,zzp,zw,ze,z8,yj,yk,zu,zt,zf,zq,zx,zy,za,zh,zl,z7,ym,zi,zd,zm,zz,zg,zk,zj,zp,yg,zr,yh,yl,ye,yf,ya,zn,yd,zo,yc,yb,yp,zb,z6,yi] at ev
    exact pc ev rfl
 ·rw [if_neg (by rw [decide_eq_true_eq]; omega)] at ev
  rw [List.getElem?_eq_none (by omega)]
  exact pc ev rfl
def zom (d : List Int) (x : Int) : List Int := if (d.any fun a => x == a) = true then d else zdf (fun a => decide (a > x)) x d
def znl (d : List Int) (x : Int) : Nat := (d.takeWhile fun a => decide (a < x)).length
theorem zz9 {d : List Int} (h : d.Pairwise (· < ·)) {i j : Nat} {a b : Int} (hij : i < j) (ha : d[i]? = some a) (hb : d[j]? = some b) : a < b := by
 obtain ⟨h1,rfl⟩ := List.getElem?_eq_some_iff.1 ha
 obtain ⟨h2,rfl⟩ := List.getElem?_eq_some_iff.1 hb
 exact List.pairwise_iff_getElem.1 h i j h1 h2 hij
theorem zha {d : List Int} (h : d.Pairwise (· < ·)) (x : Int) : znl d x ≤ d.length ∧ ∀ k a,d[k]? = some a → (a < x ↔ k < znl d x) := by
 obtain ⟨h1,h2⟩ := zam (q := fun a : Int => decide (a < x)) (l := d) fun i j a b hij ha hb hq => by
  have := zz9 h hij ha hb
  rw [decide_eq_true_eq] at hq ⊢
  omega
 exact ⟨h1,fun k a hk => by have := h2 k a hk; rwa [decide_eq_true_eq] at this⟩
theorem z0t {d : List Int} (h : d.Pairwise (· < ·)) (x : Int) : (match d[znl d x]? with | some a => a == x | none => false) = d.any fun a => x == a := by
 obtain ⟨p1,p2⟩ := zha h x
 cases hq : (d.any fun a => x == a) with
 | true =>
   obtain ⟨a,ha,hax⟩ := List.any_eq_true.1 hq
   rw [beq_iff_eq] at hax
   subst hax
   obtain ⟨k,hk⟩ := List.mem_iff_getElem?.1 ha
   have hkp : k = znl d x := by
    have n1 : ¬ k < znl d x := fun h => by have := (p2 k _ hk).2 h; omega
    by_cases hlt : znl d x < k
    ·have hkl := (List.getElem?_eq_some_iff.1 hk).1
     have hg := List.getElem?_eq_getElem (show znl d x < d.length by omega)
     have := zz9 h hlt hg hk
     have h3 : znl d x < znl d x := (p2 _ _ hg).1 (by omega)
     omega
    ·omega
   rw [← hkp,hk]
   simp
 | false =>
   cases hg : d[znl d x]? with
   | none => rfl
   | some a =>
     rw [List.any_eq_false] at hq
     have := hq a (List.mem_iff_getElem?.2 ⟨_,hg⟩)
     rw [beq_iff_eq] at this
     show (a == x) = false
     rw [beq_eq_false_iff_ne]
     exact fun e => this e.symm
theorem z08 {d : List Int} (h : d.Pairwise (· < ·)) {x : Int} (hx : (d.any fun a => x == a) = false) : d.take (znl d x) ++ [x] ++ d.drop (znl d x) = zom d x := by
 obtain ⟨p1,p2⟩ := zha h x
 unfold zom
 rw [hx,if_neg (by decide),zks p1 (fun k a hk hlt => by have := (p2 k a hk).2 hlt; rw [decide_eq_false_iff_not]; omega) (fun a ha => by
  have h1 : ¬ a < x := fun hlt => by have := (p2 _ a ha).1 hlt; omega
  rw [List.any_eq_false] at hx
  have h2 := hx a (List.mem_iff_getElem?.2 ⟨_,ha⟩)
  rw [beq_iff_eq] at h2
  rw [decide_eq_true_eq]; omega)]
 rw [List.append_assoc]; rfl
theorem mem_insB {α : Type} {bf : α → Bool} {x y : α} : ∀ {l : List α},y ∈ zdf bf x l ↔ y = x ∨ y ∈ l
 | [] => by unfold zdf; simp
 | a :: l => by
   unfold zdf
   split
   ·simp
   ·rw [List.mem_cons,mem_insB (l := l),List.mem_cons]
    constructor
    ·rintro (h | h | h)
     ·exact .inr (.inl h)
     ·exact .inl h
     ·exact .inr (.inr h)
    ·rintro (h | h | h)
     ·exact .inr (.inl h)
     ·exact .inl h
     ·exact .inr (.inr h)
theorem zxh {d : List Int} {x y : Int} : y ∈ zom d x ↔ y = x ∨ y ∈ d := by
 unfold zom
 split
 ·rename_i h
  obtain ⟨a,ha,hax⟩ := List.any_eq_true.1 h
  rw [beq_iff_eq] at hax
  subst hax
  constructor
  ·exact .inr
  ·rintro (rfl | h)
   ·exact ha
   ·exact h
 ·exact mem_insB
theorem zqs {d : List Int} (h : d.Pairwise (· < ·)) (x : Int) : (zom d x).Pairwise (· < ·) := by
 unfold zom
 split
 ·exact h
 ·rename_i hx
  have key : ∀ d : List Int,d.Pairwise (· < ·) → (∀ a ∈ d,x ≠ a) → (zdf (fun a => decide (a > x)) x d).Pairwise (· < ·) := fun d => by
   induction d with
   | nil => intro _ _; unfold zdf; exact List.pairwise_singleton ..
   | cons a d ih =>
     intro h hx
     have h' := List.pairwise_cons.1 h
     unfold zdf
     split
     ·rename_i hax
      rw [decide_eq_true_eq] at hax
      refine List.pairwise_cons.2 ⟨fun b hb => ?_,h⟩
      rcases List.mem_cons.1 hb with rfl | hb
      ·exact hax
      ·have := h'.1 b hb; omega
     ·rename_i hax
      rw [decide_eq_true_eq] at hax
      have hne := hx a (List.mem_cons_self ..)
      refine List.pairwise_cons.2 ⟨fun b hb => ?_,ih h'.2 fun b hb => hx b (List.mem_cons_of_mem _ hb)⟩
      rcases mem_insB.1 hb with rfl | hb
      ·omega
      ·exact h'.1 b hb
  exact key d h fun a ha e => hx (List.any_eq_true.2 ⟨a,ha,by rw [beq_iff_eq]; exact e⟩)
theorem zqf (d : List Int) (x : Int) : (zom d x).length ≤ d.length + 1 := by
 unfold zom
 split
 ·omega
 ·have key : ∀ d : List Int,(zdf (fun a => decide (a > x)) x d).length ≤ d.length + 1 := fun d => by
   induction d with
   | nil => unfold zdf; simp
   | cons a d ih => unfold zdf; split <;> simp_all
  exact key d
def gvG : Nat → Int → Ct → Ct := fun _ t c => drC { c with d := zom c.d t } t
noncomputable def gvC (c : Ct) : Ct := xb gvG (kw c.e c.s) 0 c
theorem z2a : ∀ (v : List Int) (i : Nat) (c : Ct),(xb gvG v i c).s = c.s ∧ (xb gvG v i c).k = c.k ∧ (xb gvG v i c).e = xb zvk v i c.e
 | [],i,c => ⟨rfl,rfl,rfl⟩
 | a :: v,i,c => by
   obtain ⟨h1,h2,h3⟩ := z2a v (i + 1) (gvG i a c)
   exact ⟨h1,h2,h3⟩
theorem zzs (c : Ct) (t : Int) (hl : c.l.length < 100000) (he : c.e.length < 100000) : Cω 91 [c.w 0 1,.int .i64 t] c.o = some ((drC c t).w 0 1,(drC c t).o) := by
 have ev := z3p Cω Lω c.k (c.l.map Lk.e) (c.e.map Ed.e) t (c.s.map Spn.e) (c.d.map ie)
 simp only [zs4 c.l t (show c.l.length < 1000000 by omega),zzr c.e t (show c.e.length < 1073741824 by omega),zw,ze,z8,yj,yk,zu,zt,zf,zq,zx,zy,za,zh,zl,z7,ym,zi,zd,zm,zz,zg,zk,zj,zp,yg,zr,yh,yl,ye,yf,ya,zn,yd,zo,yc,yb,yp,zb,z6,yi] at ev
 exact cw ev
def zsk : List KO := [.made true 3 [],.made true 1 [],.made true 4 [],.made true 2 []]
theorem z71 (c : Ct) (v : List Int) (hv : v.length ≤ 1000000) (hd : c.d.length < 100000) (hl : c.l.length < 100000) (he : c.e.length < 100000) (ha : c.d.Pairwise (· < ·)) :
  Lω 35 zhz 2 (zeq (v.length : Nat) 0) ([.made true 3 (c.s.map Spn.e),.dead,.box true 28 [.int .i64 c.k,whole 0 3,whole 5 1,.psl false (c.l.map Lk.e),.psl false (c.e.map Ed.e)],.box true 28 [.int .i64 0,whole 6 3,whole 7 1,whole 8 4,whole 9 2],.made true 1 (v.map ie),.made true 1 (c.d.map ie)] ++ zsk) =
  some (.exit 2,mkS 43 [(1,.ref 2 0 0),(2,.ref 3 0 0)],[.made true 3 ((xb gvG v 0 c).s.map Spn.e),.dead,.box true 28 [.int .i64 (xb gvG v 0 c).k,whole 0 3,whole 4 1,.psl false ((xb gvG v 0 c).l.map Lk.e),.psl false ((xb gvG v 0 c).e.map Ed.e)],.box true 28 [.int .i64 0,whole 5 3,whole 6 1,whole 7 4,whole 8 2],.made true 1 ((xb gvG v 0 c).d.map ie)] ++ zsk) :=
 jv (fun i (_ : Ct) => zeq (v.length : Nat) (i : Nat)) (fun _ c => [.made true 3 (c.s.map Spn.e),.dead,.box true 28 [.int .i64 c.k,whole 0 3,whole 5 1,.psl false (c.l.map Lk.e),.psl false (c.e.map Ed.e)],.box true 28 [.int .i64 0,whole 6 3,whole 7 1,whole 8 4,whole 9 2],.made true 1 (v.map ie),.made true 1 (c.d.map ie)] ++ zsk) v gvG
  (fun c => (.exit 2,mkS 43 [(1,.ref 2 0 0),(2,.ref 3 0 0)],[.made true 3 (c.s.map Spn.e),.dead,.box true 28 [.int .i64 c.k,whole 0 3,whole 4 1,.psl false (c.l.map Lk.e),.psl false (c.e.map Ed.e)],.box true 28 [.int .i64 0,whole 5 3,whole 6 1,whole 7 4,whole 8 2],.made true 1 (c.d.map ie)] ++ zsk)) (fun i c => c.d.length ≤ 100000 + i ∧ c.l.length < 100000 ∧ c.e.length < 100000 ∧ c.d.Pairwise (· < ·)) (fun i t c hg hi hc => by
   obtain ⟨c1,c2,c3,c4⟩ := hc
   refine ⟨⟨by have := zqf c.d t; show (zom c.d t).length ≤ _; omega,Nat.lt_of_le_of_lt (List.length_filter_le _ _) c2,Nat.lt_of_le_of_lt (List.length_filter_le _ _) c3,zqs c4 t⟩,?_⟩
   have hdi : decide (((i : Nat) : Int) < ((v.length : Nat) : Int)) = true := by rw [decide_eq_true_eq]; omega
   have hdi2 : ((i : Nat) : Int) < ((v.length : Nat) : Int) := by omega
   obtain ⟨p1,p2⟩ := zha c4 t
   have hb := z7d c.d t (by omega) (znl c.d t) p1 p2
   rw [z0t c4 t] at hb
   show yx _ _ _ _ _ _ _ _ ([.made true 3 (c.s.map Spn.e),.dead,.box true 28 [.int .i64 c.k,whole 0 3,whole 5 1,.psl false (c.l.map Lk.e),.psl false (c.e.map Ed.e)],.box true 28 [.int .i64 0,whole 6 3,whole 7 1,whole 8 4,whole 9 2],.made true 1 (v.map ie),.made true 1 (c.d.map ie),.made true 3 [],.made true 1 [],.made true 4 [],.made true 2 []]) = _
   rw [zuh]
   have hpt := ztt t
   simp only [ie] at hpt
   simp only [hdi,hdi2,List.length_map,nn,and_true,Int.toNat_natCast,zb,y9 hg,ie,hpt,zw,ze,z8,yj,yk,zu,zt,zf,zq,zx,zy,za,zh,zl,z7,ym,zi,zd,zm,zz,zg,zk,zj,zp,yg,zr,yh,yl,ye,yf,ya,zn,yd,zo,yc,yb,yp,zb,z6,yi,if_true,yr (show i < 4611686018427387904 by omega)]
   have hb' : yn Cω 97 [.psl false (c.d.map ie),.int .i64 t] = some (.tuple [.int .i64 (znl c.d t : Nat),.bool (c.d.any fun a => t == a)]) := hb
   cases hq : (c.d.any fun a => t == a) with
   | true =>
     rw [hq] at hb'
     have e1 : zom c.d t = c.d := by unfold zom; rw [if_pos hq]
     have i1 := zzs c t c2 c3
     unfold Ct.w Ct.o at i1
     have i1' : Cω 91 [.agg [.int .i64 c.k,whole 0 3,whole 1 1,.psl false (c.l.map Lk.e),.psl false (c.e.map Ed.e)],.int .i64 t] [.made true 3 (c.s.map Spn.e),.made true 1 (c.d.map ie)] = _ := i1
     simp only [hb',zw,ze,z8,yj,yk,zu,zt,zf,zq,zx,zy,za,zh,zl,z7,ym,zi,zd,zm,zz,zg,zk,zj,zp,yg,zr,yh,yl,ye,yf,ya,zn,yd,zo,yc,yb,yp,zb,z6,yi,Bool.not_true,Bool.false_eq_true,if_false,i1']
     unfold gvG
     rw [e1]
     rfl
   | false =>
     rw [hq] at hb'
     have e1 := z08 c4 hq
     have hb1 : ((c.d.map ie).length + ([[PV.int .i64 t]] : List (List PV)).length) * 8 ≤ 140737488355328 := by rw [List.length_map]; exact rm8 (by omega)
     have m1 : List.take (znl c.d t) (c.d.map ie) ++ ([[PV.int .i64 t]] : List (List PV)) ++ List.drop (znl c.d t) (c.d.map ie) = (zom c.d t).map ie := by
      rw [← e1,List.map_append,List.map_append,← List.map_take,← List.map_drop]; rfl
     have i1 := zzs { c with d := zom c.d t } t c2 c3
     unfold Ct.w Ct.o at i1
     rw [List.length_map] at hb1
     simp only [hb',zw,ze,z8,yj,yk,zu,zt,zf,zq,zx,zy,za,zh,zl,z7,ym,zi,zd,zm,zz,zg,zk,zj,zp,yg,zr,yh,yl,ye,yf,ya,zn,yd,zo,yc,yb,yp,zb,z6,yi,Bool.not_false,if_true,nn,Int.toNat_natCast,List.length_map,p1,and_self,decide_true,hb1,m1,i1]
     rfl) (fun c hc => by
   show yx _ _ _ _ _ _ _ _ ([.made true 3 (c.s.map Spn.e),.dead,.box true 28 [.int .i64 c.k,whole 0 3,whole 5 1,.psl false (c.l.map Lk.e),.psl false (c.e.map Ed.e)],.box true 28 [.int .i64 0,whole 6 3,whole 7 1,whole 8 4,whole 9 2],.made true 1 (v.map ie),.made true 1 (c.d.map ie),.made true 3 [],.made true 1 [],.made true 4 [],.made true 2 []]) = _
   rw [zuh]; simp only [Int.lt_irrefl,decide_false,Bool.false_eq_true,if_false]; rfl) c ⟨by omega,hl,he,ha⟩
end Go.Pvm.S
