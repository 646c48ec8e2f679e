/- Part of the proof: certifiers: who lives: plain. -/
import Derived.Test.YtjfgklgcbogejaaGreatCrtI
set_option linter.unusedSimpArgs false
set_option linter.unusedVariables false
namespace Go.Pvm.S
open Go.Pvm Go.Proofs
theorem zzg {c : Ct} (h : CtOk c) (t u : Int) : lv (rmC c t) u = (lv c u && u != t) := by
 by_cases hu : u = t
 ·subst hu
  have h1 : (spn (rmC c u).s u).2 = false := by
   cases hq : (spn (rmC c u).s u).2 with
   | false => rfl
   | true =>
     obtain ⟨h2,h3⟩ := qa hq
     have h4 := (List.mem_filter.1 h2).2
     rw [h3] at h4
     simp at h4
  unfold lv
  rw [h1,bne_self_eq_false,Bool.and_false,Bool.false_and]
 ·unfold lv
  rw [zhr h hu,show (u != t) = true from bne_iff_ne.2 hu,Bool.and_true]
theorem zvo {keep : List Int} (u : Int) : ∀ (s : List Spn) (i : Nat) {c : Ct},CtOk c → (∀ a ∈ s,a.c ≠ 0 → lv c a.t = false) → lv (y5 (fgG keep) s i c) u = lv c u
 | [],i,c,h,_ => rfl
 | a :: s,i,c,h,hs => by
   rw [jb]
   by_cases hc : (a.c != 0 && !(keep.any fun b => a.t == b)) = true
   ·have e : fgG keep i a c = rmC c a.t := if_pos hc
    rw [e]
    rw [Bool.and_eq_true,bne_iff_ne] at hc
    have h1 := hs a (List.mem_cons_self ..) hc.1
    rw [zvo u s (i + 1) (h.rm a.t) fun b hb hbc => by rw [zzg h,hs b (List.mem_cons_of_mem _ hb) hbc,Bool.false_and],zzg h]
    by_cases hu : u = a.t
    ·rw [hu,h1,Bool.false_and]
    ·rw [show (u != a.t) = true from bne_iff_ne.2 hu,Bool.and_true]
   ·have e : fgG keep i a c = c := if_neg hc
    rw [e]
    exact zvo u s (i + 1) h fun b hb hbc => hs b (List.mem_cons_of_mem _ hb) hbc
theorem zzh {c : Ct} (h : CtOk c) (u : Int) : lv (fgC c) u = lv c u :=
 zvo u c.s 0 h fun a ha hc => by
  unfold lv
  rw [zc3 h.s ha]
  show (true && (a.c == 0)) = false
  rw [Bool.true_and,beq_eq_false_iff_ne]
  exact hc
theorem z6a (c : Ct) : (gvC c).s = c.s := (z4i _ _ _).1
theorem z0d (c : Ct) : (gvC c).k = c.k := (z4i _ _ _).2.1
theorem z8o (c : Ct) (u : Int) : lv (gvC c) u = lv c u := by
 unfold lv
 rw [z6a]
theorem z8p {c : Ct} (h : CtOk c) {t : Int} (ht : lv c t = true) (hk : c.k ≤ 2147483643) (u : Int) : lv (cmC c t) u = (lv c u && u != t) := by
 obtain ⟨h1,h2⟩ := lv_iff.1 ht
 obtain ⟨g1,g2⟩ := qa h1
 have hb := h.b _ g1
 have h0 := h.k0
 have hsp := zxo h.s h1 (k := c.k + 1) (by omega) (by omega) u
 unfold lv
 show ((spn (cmS c.s t (c.k + 1)) u).2 && ((spn (cmS c.s t (c.k + 1)) u).1.c == 0)) = _
 rw [hsp]
 by_cases hu : u = t
 ·rw [if_pos hu,hu,bne_self_eq_false,Bool.and_false]
  show (true && (c.k + 1 == 0)) = false
  rw [Bool.true_and,beq_eq_false_iff_ne]
  omega
 ·rw [if_neg hu,show (u != t) = true from bne_iff_ne.2 hu,Bool.and_true]
theorem yan {keep : List Int} : ∀ (s : List Spn) (i : Nat) (c : Ct),(y5 (fgG keep) s i c).k = c.k
 | [],i,c => rfl
 | a :: s,i,c => by
   rw [jb,yan s]
   unfold fgG
   split <;> rfl
theorem zwy (c : Ct) : (fgC c).k = c.k := yan _ _ _
theorem z1f {c : Ct} (h : CtOk c) (t u : Int) : (ztz c t).1.k = c.k ∧ lv (ztz c t).1 u = (lv c u && (u != t || (ztz c t).2 == 3)) := by
 unfold ztz
 rw [if_pos (mayC_iff.2 h)]
 split
 ·rename_i h1
  refine ⟨by rw [zwy]; rfl,?_⟩
  rw [zzh (h.rm t),zzg h]
  show _ = (lv c u && (u != t || ((0 : Int) == 3)))
  rw [show ((0 : Int) == 3) = false from by decide,Bool.or_false]
 ·refine ⟨rfl,?_⟩
  show _ = (lv c u && (u != t || ((3 : Int) == 3)))
  rw [beq_self_eq_true,Bool.or_true,Bool.and_true]
theorem z07 {c : Ct} (h : CtOk c) (hk : c.k ≤ 2147483643) (t u : Int) : c.k ≤ (zmi c t).1.k ∧ (zmi c t).1.k ≤ c.k + 1 ∧ lv (zmi c t).1 u = (lv c u && (u != t || (zmi c t).2 == 3)) := by
 unfold zmi
 rw [if_pos (mayC_iff.2 h)]
 split
 ·rename_i h1
  split
  ·refine ⟨by rw [zwy]; exact Int.le_refl _,by rw [zwy]; show c.k ≤ c.k + 1; omega,?_⟩
   rw [zzh (h.rm t),zzg h]
   show _ = (lv c u && (u != t || ((14 : Int) == 3)))
   rw [show ((14 : Int) == 3) = false from by decide,Bool.or_false]
  ·rename_i h2
   rw [if_neg (by omega)]
   have ok := h.cm h1 (by simpa using h2) hk
   refine ⟨by rw [zwy,z0d]; show c.k ≤ c.k + 1; omega,by rw [zwy,z0d]; exact Int.le_refl _,?_⟩
   rw [zzh ok.gv,z8o,z8p h h1 hk]
   show _ = (lv c u && (u != t || ((0 : Int) == 3)))
   rw [show ((0 : Int) == 3) = false from by decide,Bool.or_false]
 ·refine ⟨Int.le_refl _,by show c.k ≤ c.k + 1; omega,?_⟩
  show _ = (lv c u && (u != t || ((3 : Int) == 3)))
  rw [beq_self_eq_true,Bool.or_true,Bool.and_true]
theorem yai (t : Int) : ∀ (l : List Int) (i : Nat) (c : Ct),(y5 (ovG t) l i c).s = c.s ∧ (y5 (ovG t) l i c).k = c.k
 | [],i,c => ⟨rfl,rfl⟩
 | a :: l,i,c => by
   rw [jb]
   obtain ⟨h1,h2⟩ := yai t l (i + 1) (ovG t i a c)
   have h3 : (ovG t i a c).s = c.s ∧ (ovG t i a c).k = c.k := by unfold ovG; split <;> exact ⟨rfl,rfl⟩
   exact ⟨h1.trans h3.1,h2.trans h3.2⟩
theorem zo5 {c : Ct} (h : CtOk c) (t : Int) (newer : List Int) (lk : List Lk → List Lk × Int) : (rdC c t newer lk).1.s = c.s ∧ (rdC c t newer lk).1.k = c.k := by
 unfold rdC
 rw [if_pos (mayC_iff.2 h)]
 split
 ·split
  ·exact ⟨rfl,rfl⟩
  ·split
   ·exact ⟨rfl,rfl⟩
   ·obtain ⟨h1,h2⟩ := yai t newer 0 { c with l := (lk c.l).1 }
    exact ⟨(z6a _).trans h1,(z0d _).trans h2⟩
 ·exact ⟨rfl,rfl⟩
theorem zr4 {c : Ct} (h : CtOk c) (t u : Int) : c.k ≤ (zmj c t).1.k ∧ (zmj c t).1.k ≤ c.k + 1 ∧ lv (zmj c t).1 u = (lv c u || (u == t && (zmj c t).2 == 0)) ∧ ((zmj c t).2 = 0 → lv c t = false ∧ inn t = true) := by
 unfold zmj
 rw [if_pos (mayC_iff.2 h)]
 have same : ∀ n : Int,n ≠ 0 → c.k ≤ (c,n).1.k ∧ (c,n).1.k ≤ c.k + 1 ∧ lv (c,n).1 u = (lv c u || (u == t && (c,n).2 == 0)) ∧ ((c,n).2 = 0 → lv c t = false ∧ inn t = true) := fun n hn => by
  refine ⟨Int.le_refl _,by show c.k ≤ c.k + 1; omega,?_,fun h => absurd h hn⟩
  show _ = (lv c u || (u == t && n == 0))
  rw [beq_eq_false_iff_ne.2 hn,Bool.and_false,Bool.or_false]
 split
 ·rename_i ht
  split
  ·exact same 2 (by decide)
  ·rename_i h1
   split
   ·exact same 12 (by decide)
   ·rename_i h2
    have hk : c.k ≤ 2147483643 := by
     have : ¬ c.k > 2147483643 := fun h => h1 (.inr h)
     omega
    have hn : (spn c.s t).2 = false := by
     cases hq : (spn c.s t).2 with
     | true => exact absurd (.inl hq) h1
     | false => rfl
    have hx : OkA ⟨t,c.k + 1,0⟩ := ⟨ht,by show 0 ≤ c.k + 1; have := h.k0; omega,by show c.k + 1 ≤ 2147483647; omega,.inl rfl⟩
    have hl : c.s.length < 24 := by have := (mayS_iff.1 h.s).1; omega
    have hsp := zlm h.s hx hn hl u
    have hlt : lv c t = false := by unfold lv; rw [hn,Bool.false_and]
    refine ⟨by show c.k ≤ c.k + 1; omega,Int.le_refl _,?_,fun _ => ⟨hlt,ht⟩⟩
    show lv { c with k := c.k + 1,s := zln c.s ⟨t,c.k + 1,0⟩ } u = (lv c u || (u == t && ((0 : Int) == 0)))
    rw [beq_self_eq_true,Bool.and_true]
    unfold lv
    show ((spn (zln c.s ⟨t,c.k + 1,0⟩) u).2 && ((spn (zln c.s ⟨t,c.k + 1,0⟩) u).1.c == 0)) = _
    rw [hsp]
    by_cases hu : u = t
    ·rw [if_pos hu,hu]
     simp
    ·rw [if_neg hu,beq_eq_false_iff_ne.2 hu,Bool.or_false]
 ·exact same 1 (by decide)
structure St where
 d : Int
 t : Int
 a : Wd
 b : Wd
def St.e (s : St) : List PV := [.int .i64 s.d,.int .i64 s.t,.float .f64 s.a.toNat,.float .f64 s.b.toNat]
end Go.Pvm.S
