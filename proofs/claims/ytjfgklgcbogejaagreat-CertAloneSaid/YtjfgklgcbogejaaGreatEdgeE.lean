/- Part of the proof: edges: one more, without somebody's: the program's and the document's. -/
import Derived.Test.YtjfgklgcbogejaaGreatEdgeC
set_option linter.unusedSimpArgs false
set_option linter.unusedVariables false
set_option maxRecDepth 100000
namespace Go.Pvm.S
open Go.Pvm Go.Proofs
def zyj (l : List Ed) (x : Ed) : Bool := l.any fun a => a.f == x.f && a.t == x.t
def bfE (x a : Ed) : Bool := decide (a.f > x.f) || (a.f == x.f && decide (a.t > x.t))
def z5x (l : List Ed) (x : Ed) : List Ed × Int := if zyj l x = true then (l,0) else if l.length = 600 then (l,12) else (zdf (bfE x) x l,0)
def zif (l : List Ed) (x : Int) : List Ed := l.filter fun a => !(a.f == x || a.t == x)
theorem zz7 (l : List Ed) (x : Int) (hl : l.length < 1073741824) : yn Cω 137 [.psl false (l.map Ed.e),.int .i64 x] = some (.psl false ((zif l x).map Ed.e)) := by
 have ev := z4v Cω Lω (l.map Ed.e) x
 rw [qi l Ed.e_ok (by omega)] at ev
 simp only [zd,z13 l x hl] at ev
 unfold zle at ev
 unfold zif
 by_cases h : l.any (fun a => a.f == x || a.t == x) = true
 ·rw [if_pos h] at ev
  simp only [zp,ze,zy,yi,yj,yg,zx,zf,ya,zq,zr,za,zh,zl,zw,ym,zi,zb,zm,zt,zg,zk,zj,yd,yf,ye,yk,yl,yb,yc,zz,zn,z8,zo,z7,z6,yo,zd,zu,yh] at ev
  refine pc ev ?_
  simp only [vy,fzK]
  show PV.psl false _ = _
  simp only [List.drop_zero]
  rw [List.take_append_of_le_length (by rw [List.length_map]; exact Nat.le_refl _),List.take_of_length_le (by rw [List.length_map]; exact Nat.le_refl _)]
 ·rw [if_neg h] at ev
  simp only [zp,ze,zy,yi,yj,yg,zx,zf,ya,zq,zr,za,zh,zl,zw,ym,zi,zb,zm,zt,zg,zk,zj,yd,yf,ye,yk,yl,yb,yc,zz,zn,z8,zo,z7,z6,yo,zd,zu,yh] at ev
  have hf : l.filter (fun a => !(a.f == x || a.t == x)) = l := List.filter_eq_self.2 fun a ha => by
   have h' : l.any (fun a => a.f == x || a.t == x) = false := by simpa using h
   have := List.any_eq_false.1 h' a ha
   simpa using this
  rw [hf]
  exact pc ev rfl
theorem zce {l : List Ed} (h : up l = true) : ∀ i a b,l[i]? = some a → l[i + 1]? = some b → zc4 a b < 0 := by
 unfold up at h
 rw [Bool.and_eq_true,qj] at h
 intro i a b ha hb
 have h2 := h.2 (i + 1) b hb
 unfold okE at h2
 rw [Nat.zero_add] at h2
 simp only [Bool.and_eq_true,Bool.or_eq_true,Bool.not_eq_true',Bool.not_eq_true,Bool.false_eq_true,Bool.true_eq_false,decide_eq_true_eq,decide_eq_false_iff_not,beq_iff_eq,beq_eq_false_iff_ne,bne_iff_ne,ne_eq,ge_iff_le,gt_iff_lt,if_true,if_false,false_and,true_and,and_true,and_false,false_or,true_or,or_true,or_false,Bool.not_true,Bool.not_false,decide_true,decide_false,Bool.and_true,Bool.true_and,Bool.false_and,Bool.and_false,Bool.or_true,Bool.true_or,Bool.false_or,Bool.or_false,not_true,not_false_eq_true,Int.not_lt,Int.not_le,Decidable.not_not] at h2
 have h3 := h2.2.2.2
 rcases h3 with h3 | h3
 ·omega
 ·rw [Nat.add_sub_cancel,List.getD_eq_getElem?_getD,ha] at h3
  exact h3
theorem zew (a b c : Ed) (h1 : zc4 a b < 0) (h2 : zc4 b c < 0) : zc4 a c < 0 := by
 rw [zkp] at *
 omega
def znx (l : List Ed) (x : Ed) : Nat := (l.takeWhile fun a => decide (zc4 a x < 0)).length
theorem zel {l : List Ed} (h : up l = true) (x : Ed) : znx l x ≤ l.length ∧ ∀ k a,l[k]? = some a → (zc4 a x < 0 ↔ k < znx l x) := by
 obtain ⟨h1,h2⟩ := zal (q := fun a => decide (zc4 a x < 0)) (l := l) fun i j a b hij ha hb hq => by
  have := u0 (lt := fun a b => zc4 a b < 0) zew (zce h) hij ha hb
  rw [decide_eq_true_eq] at hq ⊢
  exact zew _ _ _ this hq
 refine ⟨h1,fun k a hk => ?_⟩
 have h3 := h2 k a hk
 rw [decide_eq_true_eq] at h3
 exact h3
def zwq (l : List Ed) (x : Ed) : List Ed × Int := if (up l && inn x.f && inn x.t && !(x.f == x.t)) = true then z5x l x else ([],1)
theorem hasE_mem {l : List Ed} {x : Ed} : zyj l x = true ↔ x ∈ l := by
 unfold zyj
 rw [List.any_eq_true]
 constructor
 ·rintro ⟨a,ha,h⟩
  rw [Bool.and_eq_true,beq_iff_eq,beq_iff_eq] at h
  obtain ⟨f,t⟩ := a
  obtain ⟨g,u⟩ := x
  simp only at h
  rw [← h.1,← h.2]; exact ha
 ·intro h
  exact ⟨x,h,by simp⟩
theorem zs9 {l : List Ed} (h : up l = true) (x : Ed) : (match l[znx l x]? with | some a => zc4 a x == 0 | none => false) = zyj l x := by
 obtain ⟨h1,h2⟩ := zel h x
 have key : (match l[znx l x]? with | some a => zc4 a x == 0 | none => false) = true ↔ zyj l x = true := by
  rw [hasE_mem]
  constructor
  ·intro hq
   cases hg : l[znx l x]? with
   | none => rw [hg] at hq; cases hq
   | some a =>
     rw [hg] at hq
     simp only [beq_iff_eq] at hq
     rw [ordE_eq] at hq
     subst hq
     exact List.mem_iff_getElem?.2 ⟨_,hg⟩
  ·intro hm
   obtain ⟨k,hk⟩ := List.mem_iff_getElem?.1 hm
   have e0 : zc4 x x = 0 := ordE_eq.2 rfl
   have hk1 : ¬ k < znx l x := fun hlt => by have := (h2 k x hk).2 hlt; omega
   have hk2 : k = znx l x := by
    by_cases hlt : znx l x < k
    ·have hkl := (List.getElem?_eq_some_iff.1 hk).1
     have hg := List.getElem?_eq_getElem (show znx l x < l.length by omega)
     have := u0 (lt := fun a b => zc4 a b < 0) zew (zce h) hlt hg hk
     have := (h2 _ _ hg).1 this
     omega
    ·omega
   rw [← hk2,hk]
   simp [e0]
 exact Bool.eq_iff_iff.2 key
theorem zu9 {l : List Ed} (h : up l = true) (x : Ed) (hx : ¬ zyj l x = true) : l.take (znx l x) ++ x :: l.drop (znx l x) = zdf (bfE x) x l := by
 obtain ⟨h1,h2⟩ := zel h x
 refine (zky h1 (fun k a hk hlt => ?_) (fun a ha => ?_)).symm
 ·have := (h2 k a hk).2 hlt
  rw [zkp] at this
  unfold bfE
  simp only [Bool.and_eq_true,Bool.or_eq_true,Bool.not_eq_true',Bool.not_eq_true,Bool.false_eq_true,Bool.true_eq_false,decide_eq_true_eq,decide_eq_false_iff_not,beq_iff_eq,beq_eq_false_iff_ne,bne_iff_ne,ne_eq,ge_iff_le,gt_iff_lt,if_true,if_false,false_and,true_and,and_true,and_false,false_or,true_or,or_true,or_false,Bool.not_true,Bool.not_false,decide_true,decide_false,Bool.and_true,Bool.true_and,Bool.false_and,Bool.and_false,Bool.or_true,Bool.true_or,Bool.false_or,Bool.or_false,not_true,not_false_eq_true,Int.not_lt,Int.not_le,Decidable.not_not]
  rcases this with h | ⟨h,h'⟩
  ·have : ¬ a.f = x.f := by omega
   simp [this]; omega
  ·simp [h]; omega
 ·have h3 : ¬ zc4 a x < 0 := fun hq => Nat.lt_irrefl _ ((h2 _ a ha).1 hq)
  have h4 : ¬ a = x := fun he => hx (hasE_mem.2 (by rw [← he]; exact List.mem_iff_getElem?.2 ⟨_,ha⟩))
  have h5 : ¬ (a.f = x.f ∧ a.t = x.t) := fun hh => h4 (by obtain ⟨f,t⟩ := a; obtain ⟨g,u⟩ := x; simp only at hh; rw [hh.1,hh.2])
  rw [zkp] at h3
  unfold bfE
  simp only [Bool.and_eq_true,Bool.or_eq_true,Bool.not_eq_true',Bool.not_eq_true,Bool.false_eq_true,Bool.true_eq_false,decide_eq_true_eq,decide_eq_false_iff_not,beq_iff_eq,beq_eq_false_iff_ne,bne_iff_ne,ne_eq,ge_iff_le,gt_iff_lt,if_true,if_false,false_and,true_and,and_true,and_false,false_or,true_or,or_true,or_false,Bool.not_true,Bool.not_false,decide_true,decide_false,Bool.and_true,Bool.true_and,Bool.false_and,Bool.and_false,Bool.or_true,Bool.true_or,Bool.false_or,Bool.or_false,not_true,not_false_eq_true,Int.not_lt,Int.not_le,Decidable.not_not]
  omega
theorem z02 (l : List Ed) (x : Ed) (hl : l.length < 1073741824) : yn Cω 42 [.psl false (l.map Ed.e),.int .i64 x.f,.int .i64 x.t] = some (.tuple [.psl false ((zwq l x).1.map Ed.e),.int .i64 (zwq l x).2]) := by
 have ev := z67 Cω Lω (l.map Ed.e) x.f x.t
 rw [zoa l (by omega)] at ev
 simp only [zp,ze,zy,yi,yj,yg,zx,zf,ya,zq,zr,za,zh,zl,zw,ym,zi,zb,zm,zt,zg,zk,zj,yd,yf,ye,yk,yl,yb,yc,zz,zn,z8,zo,z7,z6,yo,zd,zu,yh,z0y] at ev
 unfold zwq
 by_cases hm : up l = true
 case neg =>
  have hm' : up l = false := by simpa using hm
  simp only [hm',Bool.false_and,Bool.false_eq_true,if_false] at ev ⊢
  rw [if_pos (by decide)] at ev
  exact pc ev rfl
 simp only [hm,if_true,Bool.true_and] at ev ⊢
 rw [if_neg (by decide)] at ev
 by_cases h1 : inn x.f = true
 case neg =>
  have h1' : inn x.f = false := by simpa using h1
  simp only [h1',Bool.false_and,Bool.false_eq_true,if_false,if_true,Bool.not_false] at ev ⊢
  exact pc ev rfl
 by_cases h2 : inn x.t = true
 case neg =>
  have h2' : inn x.t = false := by simpa using h2
  simp only [h1,h2',Bool.false_and,Bool.and_false,Bool.true_and,Bool.false_eq_true,if_false,if_true,Bool.not_false,Bool.not_true] at ev ⊢
  exact pc ev rfl
 by_cases h3 : (x.f == x.t) = true
 ·simp only [h1,h2,h3,Bool.false_and,Bool.and_false,Bool.true_and,Bool.false_eq_true,if_false,if_true,Bool.not_false,Bool.not_true] at ev ⊢
  exact pc ev rfl
 have h3' : (x.f == x.t) = false := by simpa using h3
 simp only [h1,h2,h3',Bool.false_and,Bool.and_false,Bool.true_and,Bool.false_eq_true,if_false,if_true,Bool.not_false,Bool.not_true] at ev ⊢
 obtain ⟨p1,p2⟩ := zel hm x
 have hb : yn Cω 106 [.psl false (l.map Ed.e),.agg [.int .i64 x.f,.int .i64 x.t],.func 107 []] = some (.tuple [.int .i64 (znx l x : Nat),.bool (zyj l x)]) := by
  rw [← zs9 hm x]
  exact z5i l x hl (znx l x) p1 p2
 rw [qi l Ed.e_ok (by omega)] at ev
 simp only [zd] at ev
 rw [hb] at ev
 simp only [zp,ze,zy,yi,yj,yg,zx,zf,ya,zq,zr,za,zh,zl,zw,ym,zi,zb,zm,zt,zg,zk,zj,yd,yf,ye,yk,yl,yb,yc,zz,zn,z8,zo,z7,z6,yo,zd,zu,yh,List.length_map] at ev
 unfold z5x
 by_cases hh : zyj l x = true
 ·simp only [hh,if_true] at ev ⊢
  exact pc ev rfl
 have hh' : zyj l x = false := by simpa using hh
 simp only [hh',Bool.false_eq_true,if_false] at ev ⊢
 by_cases h6 : l.length = 600
 ·rw [if_pos (by rw [beq_iff_eq]; omega)] at ev
  rw [if_pos h6]
  exact pc ev rfl
 ·rw [if_neg (by rw [beq_iff_eq]; omega),if_pos ⟨nn _,by rw [Int.toNat_natCast]; exact p1⟩,if_pos (by simp only [List.length_cons,List.length_nil]; omega)] at ev
  rw [if_neg h6]
  rw [← zu9 hm x hh,List.map_append,List.map_cons,List.map_take,List.map_drop]
  refine pc ev ?_
  rw [Int.toNat_natCast]
  simp only [List.append_assoc]
  rfl
end Go.Pvm.S
