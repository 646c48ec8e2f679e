/- Part of the proof: edges: one more, without somebody's: the program's and the document's. -/
import Derived.Test.YtjfgklgcbogejaaGreatEdgeC
set_option linter.unusedSimpArgs false
set_option linter.unusedVariables false
set_option maxRecDepth 100000
namespace Go.Pvm.S
open Go.Pvm Go.Proofs
def zx6 (l : List Ed) (x : Ed) : Bool := l.any fun a => a.f == x.f && a.t == x.t
def bfE (x a : Ed) : Bool := decide (a.f > x.f) || (a.f == x.f && decide (a.t > x.t))
def z5g (l : List Ed) (x : Ed) : List Ed × Int := if zx6 l x = true then (l,0) else if l.length = 600 then (l,12) else (zdf (bfE x) x l,0)
def ziq (l : List Ed) (x : Int) : List Ed := l.filter fun a => !(a.f == x || a.t == x)
theorem zzr (l : List Ed) (x : Int) (hl : l.length < 1073741824) : yn Cω 137 [.psl false (l.map Ed.e),.int .i64 x] = some (.psl false ((ziq l x).map Ed.e)) := by
 have ev := z4e Cω Lω (l.map Ed.e) x
 rw [qt l Ed.e_ok (by omega)] at ev
 simp only [zb,z1p l x hl] at ev
 unfold zk7 at ev
 unfold ziq
 by_cases h : l.any (fun a => a.f == x || a.t == x) = true
 ·rw [if_pos h] at ev
  simp only [zw,ze,z8,yj,yk,zu,zt,zf,zq,zx,zy,za,zh,zl,z7,ym,zi,zd,zm,zz,zg,zk,zj,zp,yg,zr,yh,yl,ye,yf,ya,zn,yd,zo,yc,yb,yp,zb,z6,yi] at ev
  refine pc ev ?_
  simp only [wb,fzK]
  show PV.psl false _ = _
  simp only [List.drop_zero]
  rw [List.take_append_of_le_length (by rw [List.length_map]; exact Nat.le_refl _),List.take_of_length_le (by rw [List.length_map]; exact Nat.le_refl _)]
 ·rw [if_neg h] at ev
  simp only [zw,ze,z8,yj,yk,zu,zt,zf,zq,zx,zy,za,zh,zl,z7,ym,zi,zd,zm,zz,zg,zk,zj,zp,yg,zr,yh,yl,ye,yf,ya,zn,yd,zo,yc,yb,yp,zb,z6,yi] at ev
  have hf : l.filter (fun a => !(a.f == x || a.t == x)) = l := List.filter_eq_self.2 fun a ha => by
   have h' : l.any (fun a => a.f == x || a.t == x) = false := by simpa using h
   have := List.any_eq_false.1 h' a ha
   simpa using this
  rw [hf]
  exact pc ev rfl
theorem zce {l : List Ed} (h : ur l = true) : ∀ i a b,l[i]? = some a → l[i + 1]? = some b → zc3 a b < 0 := by
 unfold ur at h
 rw [Bool.and_eq_true,qu] at h
 intro i a b ha hb
 have h2 := h.2 (i + 1) b hb
 unfold okE at h2
 rw [Nat.zero_add] at h2
 simp only [Bool.and_eq_true,Bool.or_eq_true,Bool.not_eq_true',Bool.not_eq_true,Bool.false_eq_true,Bool.true_eq_false,decide_eq_true_eq,decide_eq_false_iff_not,beq_iff_eq,beq_eq_false_iff_ne,bne_iff_ne,ne_eq,ge_iff_le,gt_iff_lt,if_true,if_false,false_and,true_and,and_true,and_false,false_or,true_or,or_true,or_false,Bool.not_true,Bool.not_false,decide_true,decide_false,Bool.and_true,Bool.true_and,Bool.false_and,Bool.and_false,Bool.or_true,Bool.true_or,Bool.false_or,Bool.or_false,not_true,not_false_eq_true,Int.not_lt,Int.not_le,Decidable.not_not] at h2
 have h3 := h2.2.2.2
 rcases h3 with h3 | h3
 ·omega
 ·rw [Nat.add_sub_cancel,List.getD_eq_getElem?_getD,ha] at h3
  exact h3
theorem zet (a b c : Ed) (h1 : zc3 a b < 0) (h2 : zc3 b c < 0) : zc3 a c < 0 := by
 rw [zkk] at *
 omega
def znn (l : List Ed) (x : Ed) : Nat := (l.takeWhile fun a => decide (zc3 a x < 0)).length
theorem zek {l : List Ed} (h : ur l = true) (x : Ed) : znn l x ≤ l.length ∧ ∀ k a,l[k]? = some a → (zc3 a x < 0 ↔ k < znn l x) := by
 obtain ⟨h1,h2⟩ := zam (q := fun a => decide (zc3 a x < 0)) (l := l) fun i j a b hij ha hb hq => by
  have := u6 (lt := fun a b => zc3 a b < 0) zet (zce h) hij ha hb
  rw [decide_eq_true_eq] at hq ⊢
  exact zet _ _ _ this hq
 refine ⟨h1,fun k a hk => ?_⟩
 have h3 := h2 k a hk
 rw [decide_eq_true_eq] at h3
 exact h3
def zwd (l : List Ed) (x : Ed) : List Ed × Int := if (ur l && inn x.f && inn x.t && !(x.f == x.t)) = true then z5g l x else ([],1)
theorem hasE_mem {l : List Ed} {x : Ed} : zx6 l x = true ↔ x ∈ l := by
 unfold zx6
 rw [List.any_eq_true]
 constructor
 ·rintro ⟨a,ha,h⟩
  rw [Bool.and_eq_true,beq_iff_eq,beq_iff_eq] at h
  obtain ⟨f,t⟩ := a
  obtain ⟨g,u⟩ := x
  simp only at h
  rw [← h.1,← h.2]; exact ha
 ·intro h
  exact ⟨x,h,by simp⟩
theorem zsx {l : List Ed} (h : ur l = true) (x : Ed) : (match l[znn l x]? with | some a => zc3 a x == 0 | none => false) = zx6 l x := by
 obtain ⟨h1,h2⟩ := zek h x
 have key : (match l[znn l x]? with | some a => zc3 a x == 0 | none => false) = true ↔ zx6 l x = true := by
  rw [hasE_mem]
  constructor
  ·intro hq
   cases hg : l[znn l x]? with
   | none => rw [hg] at hq; cases hq
   | some a =>
     rw [hg] at hq
     simp only [beq_iff_eq] at hq
     rw [ordE_eq] at hq
     subst hq
     exact List.mem_iff_getElem?.2 ⟨_,hg⟩
  ·intro hm
   obtain ⟨k,hk⟩ := List.mem_iff_getElem?.1 hm
   have e0 : zc3 x x = 0 := ordE_eq.2 rfl
   have hk1 : ¬ k < znn l x := fun hlt => by have := (h2 k x hk).2 hlt; omega
   have hk2 : k = znn l x := by
    by_cases hlt : znn l x < k
    ·have hkl := (List.getElem?_eq_some_iff.1 hk).1
     have hg := List.getElem?_eq_getElem (show znn l x < l.length by omega)
     have := u6 (lt := fun a b => zc3 a b < 0) zet (zce h) hlt hg hk
     have := (h2 _ _ hg).1 this
     omega
    ·omega
   rw [← hk2,hk]
   simp [e0]
 exact Bool.eq_iff_iff.2 key
theorem zuz {l : List Ed} (h : ur l = true) (x : Ed) (hx : ¬ zx6 l x = true) : l.take (znn l x) ++ x :: l.drop (znn l x) = zdf (bfE x) x l := by
 obtain ⟨h1,h2⟩ := zek h x
 refine (zks h1 (fun k a hk hlt => ?_) (fun a ha => ?_)).symm
 ·have := (h2 k a hk).2 hlt
  rw [zkk] at this
  unfold bfE
  simp only [Bool.and_eq_true,Bool.or_eq_true,Bool.not_eq_true',Bool.not_eq_true,Bool.false_eq_true,Bool.true_eq_false,decide_eq_true_eq,decide_eq_false_iff_not,beq_iff_eq,beq_eq_false_iff_ne,bne_iff_ne,ne_eq,ge_iff_le,gt_iff_lt,if_true,if_false,false_and,true_and,and_true,and_false,false_or,true_or,or_true,or_false,Bool.not_true,Bool.not_false,decide_true,decide_false,Bool.and_true,Bool.true_and,Bool.false_and,Bool.and_false,Bool.or_true,Bool.true_or,Bool.false_or,Bool.or_false,not_true,not_false_eq_true,Int.not_lt,Int.not_le,Decidable.not_not]
  rcases this with h | ⟨h,h'⟩
  ·have : ¬ a.f = x.f := by omega
   simp [this]; omega
  ·simp [h]; omega
 ·have h3 : ¬ zc3 a x < 0 := fun hq => Nat.lt_irrefl _ ((h2 _ a ha).1 hq)
  have h4 : ¬ a = x := fun he => hx (hasE_mem.2 (by rw [← he]; exact List.mem_iff_getElem?.2 ⟨_,ha⟩))
  have h5 : ¬ (a.f = x.f ∧ a.t = x.t) := fun hh => h4 (by obtain ⟨f,t⟩ := a; obtain ⟨g,u⟩ := x; simp only at hh; rw [hh.1,hh.2])
  rw [zkk] at h3
  unfold bfE
  simp only [Bool.and_eq_true,Bool.or_eq_true,Bool.not_eq_true',Bool.not_eq_true,Bool.false_eq_true,Bool.true_eq_false,decide_eq_true_eq,decide_eq_false_iff_not,beq_iff_eq,beq_eq_false_iff_ne,bne_iff_ne,ne_eq,ge_iff_le,gt_iff_lt,if_true,if_false,false_and,true_and,and_true,and_false,false_or,true_or,or_true,or_false,Bool.not_true,Bool.not_false,decide_true,decide_false,Bool.and_true,Bool.true_and,Bool.false_and,Bool.and_false,Bool.or_true,Bool.true_or,Bool.false_or,Bool.or_false,not_true,not_false_eq_true,Int.not_lt,Int.not_le,Decidable.not_not]
  omega
theorem z2v (l : List Ed) (x : Ed) (hl : l.length < 1073741824) : yn Cω 42 [.psl false (l.map Ed.e),.int .i64 x.f,.int .i64 x.t] = some (.tuple [.psl false ((zwd l x).1.map Ed.e),.int .i64 (zwd l x).2]) := by
 have ev := z6u Cω Lω (l.map Ed.e) x.f x.t
 rw [znz l (by omega)] at ev
 simp only [zw,ze,z8,yj,yk,zu,zt,zf,zq,zx,zy,za,zh,zl,z7,ym,zi,zd,zm,zz,zg,zk,zj,zp,yg,zr,yh,yl,ye,yf,ya,zn,yd,zo,yc,yb,yp,zb,z6,yi,z0j] at ev
 unfold zwd
 by_cases hm : ur l = true
 case neg =>
  have hm' : ur l = false := by simpa using hm
  simp only [hm',Bool.false_and,Bool.false_eq_true,if_false] at ev ⊢
  rw [if_pos (by decide)] at ev
  exact pc ev rfl
 simp only [hm,if_true,Bool.true_and] at ev ⊢
 rw [if_neg (by decide)] at ev
 by_cases h1 : inn x.f = true
 case neg =>
  have h1' : inn x.f = false := by simpa using h1
  simp only [h1',Bool.false_and,Bool.false_eq_true,if_false,if_true,Bool.not_false] at ev ⊢
  exact pc ev rfl
 by_cases h2 : inn x.t = true
 case neg =>
  have h2' : inn x.t = false := by simpa using h2
  simp only [h1,h2',Bool.false_and,Bool.and_false,Bool.true_and,Bool.false_eq_true,if_false,if_true,Bool.not_false,Bool.not_true] at ev ⊢
  exact pc ev rfl
 by_cases h3 : (x.f == x.t) = true
 ·simp only [h1,h2,h3,Bool.false_and,Bool.and_false,Bool.true_and,Bool.false_eq_true,if_false,if_true,Bool.not_false,Bool.not_true] at ev ⊢
  exact pc ev rfl
 have h3' : (x.f == x.t) = false := by simpa using h3
 simp only [h1,h2,h3',Bool.false_and,Bool.and_false,Bool.true_and,Bool.false_eq_true,if_false,if_true,Bool.not_false,Bool.not_true] at ev ⊢
 obtain ⟨p1,p2⟩ := zek hm x
 have hb : yn Cω 106 [.psl false (l.map Ed.e),.agg [.int .i64 x.f,.int .i64 x.t],.func 107 []] = some (.tuple [.int .i64 (znn l x : Nat),.bool (zx6 l x)]) := by
  rw [← zsx hm x]
  exact z40 l x hl (znn l x) p1 p2
 rw [qt l Ed.e_ok (by omega)] at ev
 simp only [zb] at ev
 rw [hb] at ev
 simp only [zw,ze,z8,yj,yk,zu,zt,zf,zq,zx,zy,za,zh,zl,z7,ym,zi,zd,zm,zz,zg,zk,zj,zp,yg,zr,yh,yl,ye,yf,ya,zn,yd,zo,yc,yb,yp,zb,z6,yi,List.length_map] at ev
 unfold z5g
 by_cases hh : zx6 l x = true
 ·simp only [hh,if_true] at ev ⊢
  exact pc ev rfl
 have hh' : zx6 l x = false := by simpa using hh
 simp only [hh',Bool.false_eq_true,if_false] at ev ⊢
 by_cases h6 : l.length = 600
 ·rw [if_pos (by rw [beq_iff_eq]; omega)] at ev
  rw [if_pos h6]
  exact pc ev rfl
 ·rw [if_neg (by rw [beq_iff_eq]; omega),if_pos ⟨nn _,by rw [Int.toNat_natCast]; exact p1⟩,if_pos (by simp only [List.length_cons,List.length_nil]; omega)] at ev
  rw [if_neg h6]
  rw [← zuz hm x hh,List.map_append,List.map_cons,List.map_take,List.map_drop]
  refine pc ev ?_
  rw [Int.toNat_natCast]
  simp only [List.append_assoc]
  rfl
end Go.Pvm.S
