/- Part of the proof: locks: how many there are; what stays covered: plain. -/
import Derived.Test.YtjfgklgcbogejaaGreatSirG
set_option linter.unusedSimpArgs false
set_option linter.unusedVariables false
namespace Go.Pvm.S
open Go.Pvm Go.Proofs
def oth (l : List Lk) (t : Int) : Nat := (l.filter fun a => a.t != t).length
theorem zod {l : List Lk} {x : Lk} : oth (zfa l x) x.t = oth l x.t := by
 unfold zfa oth
 split
 ·rfl
 ·rw [za5 (p := fun a : Lk => a.t != x.t) (by simp)]
  rw [List.filter_filter]
  congr 1
  refine List.filter_congr fun a _ => ?_
  cases hc : covL x a with
  | false => simp
  | true =>
    have := zvo hc
    rw [this]; simp
theorem zux (l : List Lk) (t : Int) : l.length = oth l t + (l.filter fun a => a.t == t).length := by
 unfold oth
 induction l with
 | nil => rfl
 | cons a l ih =>
   by_cases h : a.t = t
   ·rw [List.filter_cons_of_neg (p := fun a : Lk => a.t != t) (by simp [h]),List.filter_cons_of_pos (p := fun a : Lk => a.t == t) (by simp [h]),List.length_cons,List.length_cons]; omega
   ·rw [List.filter_cons_of_pos (p := fun a : Lk => a.t != t) (by simp [h]),List.filter_cons_of_neg (p := fun a : Lk => a.t == t) (by simp [h]),List.length_cons,List.length_cons]; omega
theorem z26 : ∀ {l : List Lk} {a : Lk},Srt l → (∀ b ∈ l,b = a) → l.length ≤ 1
 | [],_,_,_ => Nat.zero_le _
 | [_],_,_,_ => Nat.le_refl _
 | b :: c :: l,a,h,ha => by
   have h1 := (List.pairwise_cons.1 h).1 c (List.mem_cons_self ..)
   rw [ha b (List.mem_cons_self ..),ha c (List.mem_cons_of_mem _ (List.mem_cons_self ..))] at h1
   exact absurd h1 (zgf a)
theorem z2j {l : List Lk} (hg : Good l) {t : Int} (h : ∃ a ∈ l,a.t = t ∧ a.k = 3) : l.length ≤ oth l t + 1 := by
 obtain ⟨a,ha,h1,h2⟩ := h
 rw [zux l t]
 have := z26 (l := l.filter fun b => b.t == t) (a := a) (hg.srt.filter _) fun b hb => by
  rw [List.mem_filter,beq_iff_eq] at hb
  refine (hg.nc a ha b hb.1 ?_).symm
  unfold covL
  rw [if_neg (by rw [bne_iff_ne]; exact fun e => e (h1.trans hb.2.symm)),h2]; rfl
 omega
theorem zmd {t : Int} (ht : 1 ≤ t ∧ t ≤ 2147483647) : ∀ (n : Nat) (l : List Lk),z19 l t < n → Good l → oth l t < 64 → (lockR n l t).length ≤ 64
 | 0,l,h,_,_ => absurd h (Nat.not_lt_zero _)
 | n + 1,l,h,hg,ho => by
   unfold lockR
   cases hc : crw l t with
   | some j =>
     obtain ⟨h1,h2⟩ := zk8 hc
     have e : oth (zfa l (pgL t j)) t = oth l t := zod (x := pgL t j)
     exact zmd ht n _ (by have := zpz hg h1 h2; omega) (hg.put (zpx ht h1)) (by omega)
   | none =>
     simp only
     split
     ·have e : oth (zfa l (tbL t)) t = oth l t := zod (x := tbL t)
      have := z2j (hg.put (ztz ht)) (z5i hg (t := t))
      omega
     ·omega
theorem zut {l : List Lk} {x : Lk} (hx : okL x = true) (ht : 1 ≤ x.t ∧ x.t ≤ 2147483647) (hg : Good l) (ho : oth l x.t < 64) : (lockL l x).length ≤ 64 :=
 zmd ht 9 _ (by have := zt3 (zfa l x) x.t; omega) (hg.put hx) (by rw [zod]; exact ho)
end Go.Pvm.S
