/- Part of the proof: certifiers: who lives: plain. -/
import Derived.Test.YtjfgklgcbogejaaGreatCrtI
set_option linter.unusedSimpArgs false
set_option linter.unusedVariables false
namespace Go.Pvm.S
open Go.Pvm Go.Proofs
theorem zxk {c : Ct} (h : CtOk c) (t u : Int) : lv (rmC c t) u = (lv c u && u != t) := by
 by_cases hu : u = t
 ·subst hu
  have h1 : (spn (rmC c u).s u).2 = false := by
   cases hq : (spn (rmC c u).s u).2 with
   | false => rfl
   | true =>
     obtain ⟨h2,h3⟩ := j4 hq
     have h4 := (List.mem_filter.1 h2).2
     rw [h3] at h4
     simp at h4
  unfold lv
  rw [h1,bne_self_eq_false,Bool.and_false,Bool.false_and]
 ·unfold lv
  rw [zn3 h hu,show (u != t) = true from bne_iff_ne.2 hu,Bool.and_true]
theorem zt5 {keep : List Int} (u : Int) : ∀ (s : List Spn) (i : Nat) {c : Ct},CtOk c → (∀ a ∈ s,a.c ≠ 0 → lv c a.t = false) → lv (xb (fgG keep) s i c) u = lv c u
 | [],i,c,h,_ => rfl
 | a :: s,i,c,h,hs => by
   rw [jf]
   by_cases hc : (a.c != 0 && !(keep.any fun b => a.t == b)) = true
   ·have e : fgG keep i a c = rmC c a.t := if_pos hc
    rw [e]
    rw [Bool.and_eq_true,bne_iff_ne] at hc
    have h1 := hs a (List.mem_cons_self ..) hc.1
    rw [zt5 u s (i + 1) (h.rm a.t) fun b hb hbc => by rw [zxk h,hs b (List.mem_cons_of_mem _ hb) hbc,Bool.false_and],zxk h]
    by_cases hu : u = a.t
    ·rw [hu,h1,Bool.false_and]
    ·rw [show (u != a.t) = true from bne_iff_ne.2 hu,Bool.and_true]
   ·have e : fgG keep i a c = c := if_neg hc
    rw [e]
    exact zt5 u s (i + 1) h fun b hb hbc => hs b (List.mem_cons_of_mem _ hb) hbc
theorem z01 {c : Ct} (h : CtOk c) (u : Int) : lv (fgC c) u = lv c u :=
 zt5 u c.s 0 h fun a ha hc => by
  unfold lv
  rw [zbp h.s ha]
  show (true && (a.c == 0)) = false
  rw [Bool.true_and,beq_eq_false_iff_ne]
  exact hc
theorem z3n (c : Ct) : (gvC c).s = c.s := (z2a _ _ _).1
theorem z1d (c : Ct) : (gvC c).k = c.k := (z2a _ _ _).2.1
theorem z5x (c : Ct) (u : Int) : lv (gvC c) u = lv c u := by
 unfold lv
 rw [z3n]
theorem z5y {c : Ct} (h : CtOk c) {t : Int} (ht : lv c t = true) (hk : c.k ≤ 2147483643) (u : Int) : lv (cmC c t) u = (lv c u && u != t) := by
 obtain ⟨h1,h2⟩ := lv_iff.1 ht
 obtain ⟨g1,g2⟩ := j4 h1
 have hb := h.b _ g1
 have h0 := h.k0
 have hsp := zvx h.s h1 (k := c.k + 1) (by omega) (by omega) u
 unfold lv
 show ((spn (cmS c.s t (c.k + 1)) u).2 && ((spn (cmS c.s t (c.k + 1)) u).1.c == 0)) = _
 rw [hsp]
 by_cases hu : u = t
 ·rw [if_pos hu,hu,bne_self_eq_false,Bool.and_false]
  show (true && (c.k + 1 == 0)) = false
  rw [Bool.true_and,beq_eq_false_iff_ne]
  omega
 ·rw [if_neg hu,show (u != t) = true from bne_iff_ne.2 hu,Bool.and_true]
theorem z7q {keep : List Int} : ∀ (s : List Spn) (i : Nat) (c : Ct),(xb (fgG keep) s i c).k = c.k
 | [],i,c => rfl
 | a :: s,i,c => by
   rw [jf,z7q s]
   unfold fgG
   split <;> rfl
theorem zu8 (c : Ct) : (fgC c).k = c.k := z7q _ _ _
theorem zlk {c : Ct} (h : CtOk c) (t u : Int) : (zno c t).1.k = c.k ∧ lv (zno c t).1 u = (lv c u && (u != t || (zno c t).2 == 3)) := by
 unfold zno
 rw [if_pos (mayC_iff.2 h)]
 split
 ·rename_i h1
  refine ⟨by rw [zu8]; rfl,?_⟩
  rw [z01 (h.rm t),zxk h]
  show _ = (lv c u && (u != t || ((0 : Int) == 3)))
  rw [show ((0 : Int) == 3) = false from by decide,Bool.or_false]
 ·refine ⟨rfl,?_⟩
  show _ = (lv c u && (u != t || ((3 : Int) == 3)))
  rw [beq_self_eq_true,Bool.or_true,Bool.and_true]
theorem zk9 {c : Ct} (h : CtOk c) (hk : c.k ≤ 2147483643) (t u : Int) : c.k ≤ (zis c t).1.k ∧ (zis c t).1.k ≤ c.k + 1 ∧ lv (zis c t).1 u = (lv c u && (u != t || (zis c t).2 == 3)) := by
 unfold zis
 rw [if_pos (mayC_iff.2 h)]
 split
 ·rename_i h1
  split
  ·refine ⟨by rw [zu8]; exact Int.le_refl _,by rw [zu8]; show c.k ≤ c.k + 1; omega,?_⟩
   rw [z01 (h.rm t),zxk h]
   show _ = (lv c u && (u != t || ((14 : Int) == 3)))
   rw [show ((14 : Int) == 3) = false from by decide,Bool.or_false]
  ·rename_i h2
   rw [if_neg (by omega)]
   have ok := h.cm h1 (by simpa using h2) hk
   refine ⟨by rw [zu8,z1d]; show c.k ≤ c.k + 1; omega,by rw [zu8,z1d]; exact Int.le_refl _,?_⟩
   rw [z01 ok.gv,z5x,z5y h h1 hk]
   show _ = (lv c u && (u != t || ((0 : Int) == 3)))
   rw [show ((0 : Int) == 3) = false from by decide,Bool.or_false]
 ·refine ⟨Int.le_refl _,by show c.k ≤ c.k + 1; omega,?_⟩
  show _ = (lv c u && (u != t || ((3 : Int) == 3)))
  rw [beq_self_eq_true,Bool.or_true,Bool.and_true]
theorem z7l (t : Int) : ∀ (l : List Int) (i : Nat) (c : Ct),(xb (ovG t) l i c).s = c.s ∧ (xb (ovG t) l i c).k = c.k
 | [],i,c => ⟨rfl,rfl⟩
 | a :: l,i,c => by
   rw [jf]
   obtain ⟨h1,h2⟩ := z7l t l (i + 1) (ovG t i a c)
   have h3 : (ovG t i a c).s = c.s ∧ (ovG t i a c).k = c.k := by unfold ovG; split <;> exact ⟨rfl,rfl⟩
   exact ⟨h1.trans h3.1,h2.trans h3.2⟩
theorem z0s {c : Ct} (h : CtOk c) (t : Int) (newer : List Int) (lk : List Lk → List Lk × Int) : (rdC c t newer lk).1.s = c.s ∧ (rdC c t newer lk).1.k = c.k := by
 unfold rdC
 rw [if_pos (mayC_iff.2 h)]
 split
 ·split
  ·exact ⟨rfl,rfl⟩
  ·split
   ·exact ⟨rfl,rfl⟩
   ·obtain ⟨h1,h2⟩ := z7l t newer 0 { c with l := (lk c.l).1 }
    exact ⟨(z3n _).trans h1,(z1d _).trans h2⟩
 ·exact ⟨rfl,rfl⟩
theorem zee {c : Ct} (h : CtOk c) (t u : Int) : c.k ≤ (zjt c t).1.k ∧ (zjt c t).1.k ≤ c.k + 1 ∧ lv (zjt c t).1 u = (lv c u || (u == t && (zjt c t).2 == 0)) ∧ ((zjt c t).2 = 0 → lv c t = false ∧ inn t = true) := by
 unfold zjt
 rw [if_pos (mayC_iff.2 h)]
 have same : ∀ n : Int,n ≠ 0 → c.k ≤ (c,n).1.k ∧ (c,n).1.k ≤ c.k + 1 ∧ lv (c,n).1 u = (lv c u || (u == t && (c,n).2 == 0)) ∧ ((c,n).2 = 0 → lv c t = false ∧ inn t = true) := fun n hn => by
  refine ⟨Int.le_refl _,by show c.k ≤ c.k + 1; omega,?_,fun h => absurd h hn⟩
  show _ = (lv c u || (u == t && n == 0))
  rw [beq_eq_false_iff_ne.2 hn,Bool.and_false,Bool.or_false]
 split
 ·rename_i ht
  split
  ·exact same 2 (by decide)
  ·rename_i h1
   split
   ·exact same 12 (by decide)
   ·rename_i h2
    have hk : c.k ≤ 2147483643 := by
     have : ¬ c.k > 2147483643 := fun h => h1 (.inr h)
     omega
    have hn : (spn c.s t).2 = false := by
     cases hq : (spn c.s t).2 with
     | true => exact absurd (.inl hq) h1
     | false => rfl
    have hx : OkA ⟨t,c.k + 1,0⟩ := ⟨ht,by show 0 ≤ c.k + 1; have := h.k0; omega,by show c.k + 1 ≤ 2147483647; omega,.inl rfl⟩
    have hl : c.s.length < 24 := by have := (mayS_iff.1 h.s).1; omega
    have hsp := zqd h.s hx hn hl u
    have hlt : lv c t = false := by unfold lv; rw [hn,Bool.false_and]
    refine ⟨by show c.k ≤ c.k + 1; omega,Int.le_refl _,?_,fun _ => ⟨hlt,ht⟩⟩
    show lv { c with k := c.k + 1,s := zlo c.s ⟨t,c.k + 1,0⟩ } u = (lv c u || (u == t && ((0 : Int) == 0)))
    rw [beq_self_eq_true,Bool.and_true]
    unfold lv
    show ((spn (zlo c.s ⟨t,c.k + 1,0⟩) u).2 && ((spn (zlo c.s ⟨t,c.k + 1,0⟩) u).1.c == 0)) = _
    rw [hsp]
    by_cases hu : u = t
    ·rw [if_pos hu,hu]
     simp
    ·rw [if_neg hu,beq_eq_false_iff_ne.2 hu,Bool.or_false]
 ·exact same 1 (by decide)
structure LiveSet (c : Ct) (l : List Int) : Prop where
 nd : l.Nodup
 is : ∀ t,t ∈ l ↔ lv c t = true
def z3d (c : Ct) : Nat := (c.s.filter fun a => a.c == 0).length
theorem LiveSet.len {c : Ct} {l : List Int} (h : LiveSet c l) (ok : CtOk c) : z3d c = l.length := by
 have h1 : ((c.s.filter fun a => a.c == 0).map (·.t)).Nodup := by
  have := zsu (zhi ok.s fun a => a.c == 0)
  exact this.imp fun h => Int.ne_of_lt h
 have h2 : ∀ t,t ∈ (c.s.filter fun a => a.c == 0).map (·.t) ↔ t ∈ l := fun t => by
  rw [h.is,List.mem_map,lv_iff]
  constructor
  ·rintro ⟨a,ha,rfl⟩
   obtain ⟨g1,g2⟩ := List.mem_filter.1 ha
   rw [zbp ok.s g1]
   exact ⟨rfl,by rw [beq_iff_eq] at g2; exact g2⟩
  ·rintro ⟨g1,g2⟩
   obtain ⟨k1,k2⟩ := j4 g1
   exact ⟨_,List.mem_filter.2 ⟨k1,by rw [beq_iff_eq]; exact g2⟩,k2⟩
 have h3 := ((List.perm_ext_iff_of_nodup h1 h.nd).2 h2).length_eq
 rw [List.length_map] at h3
 exact h3
theorem LiveSet.less {c c' : Ct} {l : List Int} (h : LiveSet c l) {t : Int} (h1 : ∀ u,lv c' u = (lv c u && u != t)) : LiveSet c' (l.filter fun a => a != t) :=
 ⟨h.nd.filter _,fun u => by rw [List.mem_filter,h.is,h1,Bool.and_eq_true]⟩
theorem LiveSet.same {c c' : Ct} {l : List Int} (h : LiveSet c l) (h1 : ∀ u,lv c' u = lv c u) : LiveSet c' l :=
 ⟨h.nd,fun u => by rw [h.is,h1]⟩
theorem LiveSet.more {c c' : Ct} {l : List Int} (h : LiveSet c l) {t : Int} (ht : lv c t = false) (h1 : ∀ u,lv c' u = (lv c u || u == t)) : LiveSet c' (l ++ [t]) := by
 refine ⟨List.nodup_append.2 ⟨h.nd,by simp,fun a ha b hb e => ?_⟩,fun u => ?_⟩
 ·rw [List.mem_singleton] at hb
  rw [h.is,e,hb,ht] at ha
  cases ha
 ·rw [List.mem_append,List.mem_singleton,h.is,h1,Bool.or_eq_true,beq_iff_eq]
structure St where
 d : Int
 t : Int
 a : Wd
 b : Wd
def St.e (s : St) : List PV := [.int .i64 s.d,.int .i64 s.t,.float .f64 s.a.toNat,.float .f64 s.b.toNat]
noncomputable def lsG (s : St) (p : Ct × List Int) : Ct × List Int :=
 if s.t < 1 ∨ s.t > 12 then p
 else if s.d = 0 then ((zjt p.1 s.t).1,if (zjt p.1 s.t).2 = 0 then p.2 ++ [s.t] else p.2)
 else if s.d = 4 then ((zis p.1 s.t).1,if (zis p.1 s.t).2 = 3 then p.2 else p.2.filter fun a => a != s.t)
 else if s.d = 5 then ((zno p.1 s.t).1,if (zno p.1 s.t).2 = 3 then p.2 else p.2.filter fun a => a != s.t)
 else ((rdC p.1 s.t [] (fun l => zel l s.t s.a)).1,p.2)
structure LsInv (i : Nat) (p : Ct × List Int) : Prop where
 ok : CtOk p.1
 ls : LiveSet p.1 p.2
 k : p.1.k ≤ i
 n : p.2.length ≤ i
theorem LsInv.step {i : Nat} {p : Ct × List Int} (h : LsInv i p) (hi : i < 80) (s : St) : LsInv (i + 1) (lsG s p) := by
 have hk := h.k
 have hn := h.n
 unfold lsG
 split
 ·exact ⟨h.ok,h.ls,by omega,by omega⟩
 split
 ·refine ⟨z12 s.t,?_,by have := (zee h.ok s.t 0).2.1; show (zjt p.1 s.t).1.k ≤ ((i + 1 : Nat) : Int); omega,?_⟩
  ·show LiveSet (zjt p.1 s.t).1 (if (zjt p.1 s.t).2 = 0 then p.2 ++ [s.t] else p.2)
   split
   ·rename_i h0
    refine h.ls.more ((zee h.ok s.t 0).2.2.2 h0).1 fun u => ?_
    rw [(zee h.ok s.t u).2.2.1,h0,beq_self_eq_true,Bool.and_true]
   ·rename_i h0
    refine h.ls.same fun u => ?_
    rw [(zee h.ok s.t u).2.2.1,beq_eq_false_iff_ne.2 h0,Bool.and_false,Bool.or_false]
  ·show (if (zjt p.1 s.t).2 = 0 then p.2 ++ [s.t] else p.2).length ≤ i + 1
   split <;> (try rw [List.length_append]) <;> (try simp only [List.length_cons,List.length_nil]) <;> omega
 split
 ·refine ⟨z1s s.t,?_,by have := (zk9 h.ok (by omega) s.t 0).2.1; show (zis p.1 s.t).1.k ≤ ((i + 1 : Nat) : Int); omega,?_⟩
  ·show LiveSet (zis p.1 s.t).1 (if (zis p.1 s.t).2 = 3 then p.2 else p.2.filter fun a => a != s.t)
   split
   ·rename_i h0
    refine h.ls.same fun u => ?_
    rw [(zk9 h.ok (by omega) s.t u).2.2,h0,beq_self_eq_true,Bool.or_true,Bool.and_true]
   ·rename_i h0
    refine h.ls.less fun u => ?_
    rw [(zk9 h.ok (by omega) s.t u).2.2,beq_eq_false_iff_ne.2 h0,Bool.or_false]
  ·show (if (zis p.1 s.t).2 = 3 then p.2 else p.2.filter fun a => a != s.t).length ≤ i + 1
   have := List.length_filter_le (fun a => a != s.t) p.2
   split <;> omega
 split
 ·refine ⟨z17 s.t,?_,by have := (zlk h.ok s.t 0).1; show (zno p.1 s.t).1.k ≤ ((i + 1 : Nat) : Int); omega,?_⟩
  ·show LiveSet (zno p.1 s.t).1 (if (zno p.1 s.t).2 = 3 then p.2 else p.2.filter fun a => a != s.t)
   split
   ·rename_i h0
    refine h.ls.same fun u => ?_
    rw [(zlk h.ok s.t u).2,h0,beq_self_eq_true,Bool.or_true,Bool.and_true]
   ·rename_i h0
    refine h.ls.less fun u => ?_
    rw [(zlk h.ok s.t u).2,beq_eq_false_iff_ne.2 h0,Bool.or_false]
  ·show (if (zno p.1 s.t).2 = 3 then p.2 else p.2.filter fun a => a != s.t).length ≤ i + 1
   have := List.length_filter_le (fun a => a != s.t) p.2
   split <;> omega
 ·obtain ⟨h1,h2⟩ := z0s h.ok s.t [] (fun l => zel l s.t s.a)
  refine ⟨z2y,h.ls.same fun u => ?_,by show (rdC p.1 s.t [] fun l => zel l s.t s.a).1.k ≤ _; rw [h2]; omega,by show p.2.length ≤ _; omega⟩
  show lv (rdC p.1 s.t [] fun l => zel l s.t s.a).1 u = _
  unfold lv
  rw [h1]
end Go.Pvm.S
