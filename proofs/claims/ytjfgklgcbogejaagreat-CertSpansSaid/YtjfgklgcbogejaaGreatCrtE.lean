/- Part of the proof: certifiers: what may be stays so: plain. -/
import Derived.Test.YtjfgklgcbogejaaGreatCrtD
set_option linter.unusedSimpArgs false
set_option linter.unusedVariables false
namespace Go.Pvm.S
open Go.Pvm Go.Proofs
def OkA (a : Spn) : Prop := inn a.t = true ∧ 0 ≤ a.b ∧ a.b ≤ 2147483647 ∧ (a.c = 0 ∨ (a.c > a.b ∧ a.c ≤ 2147483647))
theorem mayS_iff {s : List Spn} : ka s = true ↔ s.length ≤ 24 ∧ (∀ a ∈ s,OkA a) ∧ s.Pairwise (fun a b => a.t < b.t) := by
 constructor
 ·intro h
  have hl := zg3 h
  unfold ka at h
  rw [Bool.and_eq_true,decide_eq_true_eq,qu] at h
  refine ⟨h.1,fun a ha => ?_,List.pairwise_iff_getElem.2 fun i j hi hj hij => hl i j _ _ hij (List.getElem?_eq_getElem hi) (List.getElem?_eq_getElem hj)⟩
  obtain ⟨k,hk⟩ := List.mem_iff_getElem?.1 ha
  have h2 := h.2 k a hk
  unfold okS at h2
  simp only [Bool.and_eq_true,Bool.or_eq_true,decide_eq_true_eq,beq_iff_eq] at h2
  exact ⟨h2.1,h2.2.1,h2.2.2.1,h2.2.2.2.1⟩
 ·rintro ⟨h1,h2,h3⟩
  unfold ka
  rw [Bool.and_eq_true,decide_eq_true_eq,qu]
  refine ⟨h1,fun k a hk => ?_⟩
  obtain ⟨g1,g2,g3,g4⟩ := h2 a (List.mem_iff_getElem?.2 ⟨k,hk⟩)
  unfold okS
  simp only [Bool.and_eq_true,Bool.or_eq_true,decide_eq_true_eq,beq_iff_eq,Nat.zero_add]
  refine ⟨g1,g2,g3,g4,?_⟩
  by_cases h0 : k = 0
  ·exact .inl h0
  ·right
   obtain ⟨hk1,rfl⟩ := List.getElem?_eq_some_iff.1 hk
   have h4 := List.pairwise_iff_getElem.1 h3 (k - 1) k (by omega) hk1 (by omega)
   have h5 : s.getD (k - 1) s[k] = s[k - 1] := by rw [List.getD_eq_getElem?_getD,List.getElem?_eq_getElem (show k - 1 < s.length by omega)]; rfl
   rw [h5]; exact h4
theorem mayE_iff {l : List Ed} : ur l = true ↔ l.length ≤ 600 ∧ (∀ a ∈ l,inn a.f = true ∧ inn a.t = true ∧ (a.f == a.t) = false) ∧ l.Pairwise (fun a b => zc3 a b < 0) := by
 constructor
 ·intro h
  have hc := zce h
  unfold ur at h
  rw [Bool.and_eq_true,decide_eq_true_eq,qu] at h
  refine ⟨h.1,fun a ha => ?_,?_⟩
  ·obtain ⟨k,hk⟩ := List.mem_iff_getElem?.1 ha
   have h2 := h.2 k a hk
   unfold okE at h2
   simp only [Bool.and_eq_true,Bool.not_eq_true'] at h2
   exact ⟨h2.1,h2.2.1,h2.2.2.1⟩
  ·refine List.pairwise_iff_getElem.2 fun i j hi hj hij => ?_
   exact u6 (lt := fun a b : Ed => zc3 a b < 0) zet hc hij (List.getElem?_eq_getElem hi) (List.getElem?_eq_getElem hj)
 ·rintro ⟨h1,h2,h3⟩
  unfold ur
  rw [Bool.and_eq_true,decide_eq_true_eq,qu]
  refine ⟨h1,fun k a hk => ?_⟩
  obtain ⟨g1,g2,g3⟩ := h2 a (List.mem_iff_getElem?.2 ⟨k,hk⟩)
  unfold okE
  rw [g1,g2,g3,Nat.zero_add]
  by_cases h0 : k = 0
  ·subst h0; rfl
  ·obtain ⟨hk1,rfl⟩ := List.getElem?_eq_some_iff.1 hk
   have h4 := List.pairwise_iff_getElem.1 h3 (k - 1) k (by omega) hk1 (by omega)
   have h5 : l.getD (k - 1) l[k] = l[k - 1] := by rw [List.getD_eq_getElem?_getD,List.getElem?_eq_getElem (show k - 1 < l.length by omega)]; rfl
   rw [h5,decide_eq_true h4]
   simp
structure CtOk (c : Ct) : Prop where
 k0 : 0 ≤ c.k
 k1 : c.k ≤ 2147483647
 s : ka c.s = true
 l : zgk c.l = true
 e : ur c.e = true
 b : ∀ a ∈ c.s,a.b ≤ c.k ∧ a.c ≤ c.k
 dl : ∀ t ∈ c.d,lv c t = true
 da : c.d.Pairwise (· < ·)
 ls : ∀ x ∈ c.l,sd c x.t = true
 es : ∀ x ∈ c.e,sd c x.f = true ∧ sd c x.t = true
theorem mayC_iff {c : Ct} : zfc c = true ↔ CtOk c := by
 unfold zfc
 simp only [Bool.and_eq_true,decide_eq_true_eq,Bool.not_eq_true',List.any_eq_false,Bool.or_eq_true,qu]
 constructor
 ·rintro ⟨h0,h1,h2,h3,h4,h5,h6,h7,h8⟩
  refine ⟨h0,h1,h2,h3,h4,fun a ha => ?_,fun t ht => ?_,?_,fun x hx => ?_,fun x hx => ?_⟩
  ·have := h5 a ha
   simp only [not_or,Int.not_lt,gt_iff_lt] at this
   exact this
  ·obtain ⟨k,hk⟩ := List.mem_iff_getElem?.1 ht
   have := h6 k t hk
   unfold okD at this
   rw [Bool.and_eq_true] at this
   exact this.1
  ·refine List.pairwise_iff_getElem.2 fun i j hi hj hij => ?_
   refine u6 (lt := fun a b : Int => a < b) (fun a b c h1 h2 => Int.lt_trans h1 h2) (fun i a b ha hb => ?_) hij (List.getElem?_eq_getElem hi) (List.getElem?_eq_getElem hj)
   have h9 := h6 (i + 1) b hb
   unfold okD at h9
   simp only [Bool.and_eq_true,Bool.or_eq_true,decide_eq_true_eq,Nat.zero_add] at h9
   rcases h9.2 with h9 | h9
   ·omega
   ·rw [Nat.add_sub_cancel,List.getD_eq_getElem?_getD,ha] at h9
    exact h9
  ·have := h7 x hx
   simpa using this
  ·have := h8 x hx
   simpa [not_or] using this
 ·rintro ⟨h0,h1,h2,h3,h4,h5,h6,h7,h8,h9⟩
  refine ⟨h0,h1,h2,h3,h4,fun a ha => ?_,fun k t hk => ?_,fun x hx => ?_,fun x hx => ?_⟩
  ·simp only [not_or,Int.not_lt,gt_iff_lt]
   exact h5 a ha
  ·unfold okD
   simp only [Bool.and_eq_true,Bool.or_eq_true,decide_eq_true_eq,Nat.zero_add]
   refine ⟨h6 t (List.mem_iff_getElem?.2 ⟨k,hk⟩),?_⟩
   by_cases hk0 : k = 0
   ·exact .inl hk0
   ·right
    obtain ⟨hk1,rfl⟩ := List.getElem?_eq_some_iff.1 hk
    have h10 := List.pairwise_iff_getElem.1 h7 (k - 1) k (by omega) hk1 (by omega)
    rw [List.getD_eq_getElem?_getD,List.getElem?_eq_getElem (show k - 1 < c.d.length by omega)]; exact h10
  ·simpa using h8 x hx
  ·simpa [not_or] using h9 x hx
theorem zv3 : ∀ {l m : List Int},l.Pairwise (· < ·) → m.Pairwise (· < ·) → (∀ v ∈ l,v ∈ m) → l.length ≤ m.length
 | [],m,_,_,_ => Nat.zero_le _
 | a :: l,[],_,_,h => by have := h a (List.mem_cons_self ..); cases this
 | a :: l,b :: m,h1,h2,h => by
   have h1' := List.pairwise_cons.1 h1
   have h2' := List.pairwise_cons.1 h2
   rw [List.length_cons,List.length_cons]
   refine Nat.succ_le_succ (zv3 h1'.2 h2'.2 fun v hv => ?_)
   rcases List.mem_cons.1 (h v (List.mem_cons_of_mem _ hv)) with e | e
   ·exfalso
    have h3 := h1'.1 v hv
    rcases List.mem_cons.1 (h a (List.mem_cons_self ..)) with e2 | e2
    ·omega
    ·have := h2'.1 a e2; omega
   ·exact e
theorem zsu {s : List Spn} (h : ka s = true) : (s.map (·.t)).Pairwise (· < ·) := by
 rw [List.pairwise_map]
 exact (mayS_iff.1 h).2.2
theorem z3h {c : Ct} {t : Int} (h : lv c t = true) : t ∈ c.s.map (·.t) := by
 unfold lv at h
 rw [Bool.and_eq_true] at h
 obtain ⟨h1,h2⟩ := j4 h.1
 exact List.mem_map.2 ⟨_,h1,h2⟩
theorem CtOk.Sm {c : Ct} (h : CtOk c) : c.Sm := by
 have h1 := (mayS_iff.1 h.s).1
 have h2 := ((zcd _).1 h.l).1
 have h3 := (mayE_iff.1 h.e).1
 have h4 := zv3 h.da (zsu h.s) fun v hv => z3h (h.dl v hv)
 rw [List.length_map] at h4
 exact ⟨by omega,by omega,by omega,by omega⟩
theorem dm_iff {c : Ct} {t : Int} : dm c t = true ↔ t ∈ c.d := by
 unfold dm
 rw [List.any_eq_true]
 constructor
 ·rintro ⟨a,ha,h⟩; rw [beq_iff_eq] at h; rw [h]; exact ha
 ·intro h; exact ⟨t,h,by simp⟩
theorem sd_iff {c : Ct} {t : Int} : sd c t = true ↔ (spn c.s t).2 = true ∧ t ∉ c.d := by
 unfold sd
 rw [Bool.and_eq_true,Bool.not_eq_true',← Bool.not_eq_true,dm_iff]
theorem lv_iff {c : Ct} {t : Int} : lv c t = true ↔ (spn c.s t).2 = true ∧ (spn c.s t).1.c = 0 := by
 unfold lv
 rw [Bool.and_eq_true,beq_iff_eq]
theorem zq7 {s : List Spn} (hs : ka s = true) {p : Spn → Bool} {t : Int} (hp : ∀ a ∈ s,a.t = t → p a = true) : spn (s.filter p) t = spn s t := by
 have hs' : ka (s.filter p) = true := by
  obtain ⟨h1,h2,h3⟩ := mayS_iff.1 hs
  exact mayS_iff.2 ⟨Nat.le_trans (List.length_filter_le _ _) h1,fun a ha => h2 a (List.mem_filter.1 ha).1,h3.filter _⟩
 cases hq : (spn s t).2 with
 | true =>
   obtain ⟨h1,h2⟩ := j4 hq
   have h3 : (spn s t).1 ∈ s.filter p := List.mem_filter.2 ⟨h1,hp _ h1 h2⟩
   have h4 := zbp hs' h3
   have h5 := zbp hs h1
   rw [h2] at h4 h5
   rw [h4,h5]
 | false =>
   have h1 := zb7 hq
   have h2 : s.find? (fun a => a.t == t) = none := List.find?_eq_none.2 fun a ha => by rw [beq_iff_eq]; exact h1 a ha
   have h3 : (s.filter p).find? (fun a => a.t == t) = none := List.find?_eq_none.2 fun a ha => by rw [beq_iff_eq]; exact h1 a (List.mem_filter.1 ha).1
   unfold spn
   rw [h2,h3]
theorem zhi {s : List Spn} (hs : ka s = true) (p : Spn → Bool) : ka (s.filter p) = true := by
 obtain ⟨h1,h2,h3⟩ := mayS_iff.1 hs
 exact mayS_iff.2 ⟨Nat.le_trans (List.length_filter_le _ _) h1,fun a ha => h2 a (List.mem_filter.1 ha).1,h3.filter _⟩
theorem zoi {l : List Ed} (hl : ur l = true) (p : Ed → Bool) : ur (l.filter p) = true := by
 obtain ⟨h1,h2,h3⟩ := mayE_iff.1 hl
 exact mayE_iff.2 ⟨Nat.le_trans (List.length_filter_le _ _) h1,fun a ha => h2 a (List.mem_filter.1 ha).1,h3.filter _⟩
theorem zhj {l : List Lk} (hl : zgk l = true) (p : Lk → Bool) : zgk (l.filter p) = true := by
 obtain ⟨h1,h2⟩ := (zcd _).1 hl
 exact (zcd _).2 ⟨Nat.le_trans (List.length_filter_le _ _) h1,⟨h2.srt.filter _,fun a ha => h2.ok a (List.mem_filter.1 ha).1,fun a ha b hb => h2.nc a (List.mem_filter.1 ha).1 b (List.mem_filter.1 hb).1⟩⟩
theorem mem_sDrop {l : List Lk} {t : Int} {x : Lk} : x ∈ zn0 l t ↔ x ∈ l ∧ x.t ≠ t := by
 unfold zn0
 rw [List.mem_filter,Bool.not_eq_true',beq_eq_false_iff_ne]
theorem mem_dropE {l : List Ed} {t : Int} {x : Ed} : x ∈ ziq l t ↔ x ∈ l ∧ x.f ≠ t ∧ x.t ≠ t := by
 unfold ziq
 rw [List.mem_filter,Bool.not_eq_true',Bool.or_eq_false_iff,beq_eq_false_iff_ne,beq_eq_false_iff_ne]
theorem zn3 {c : Ct} (h : CtOk c) {t u : Int} (hu : u ≠ t) : spn (rmC c t).s u = spn c.s u :=
 zq7 h.s fun a ha e => by rw [e]; simpa using hu
theorem zto {c : Ct} (h : CtOk c) {t u : Int} (hu : u ≠ t) (hs : sd c u = true) : sd (rmC c t) u = true := by
 rw [sd_iff] at hs ⊢
 rw [zn3 h hu]
 exact ⟨hs.1,fun hm => hs.2 (List.mem_filter.1 hm).1⟩
theorem CtOk.rm {c : Ct} (h : CtOk c) (t : Int) : CtOk (rmC c t) where
 k0 := h.k0
 k1 := h.k1
 s := zhi h.s _
 l := zhj h.l _
 e := zoi h.e _
 b := fun a ha => h.b a (List.mem_filter.1 ha).1
 dl := fun u hu => by
  obtain ⟨h1,h2⟩ := List.mem_filter.1 hu
  have hne : u ≠ t := by simpa using h2
  have h3 := h.dl u h1
  rw [lv_iff] at h3 ⊢
  rw [zn3 h hne]
  exact h3
 da := h.da.filter _
 ls := fun x hx => by
  obtain ⟨h1,h2⟩ := mem_sDrop.1 hx
  exact zto h h2 (h.ls x h1)
 es := fun x hx => by
  obtain ⟨h1,h2,h3⟩ := mem_dropE.1 hx
  exact ⟨zto h h2 (h.es x h1).1,zto h h3 (h.es x h1).2⟩
theorem CtOk.fg {keep : List Int} : ∀ (s : List Spn) (i : Nat) {c : Ct},CtOk c → CtOk (xb (fgG keep) s i c)
 | [],i,c,h => h
 | a :: s,i,c,h => by
   rw [jf]
   refine CtOk.fg s (i + 1) ?_
   unfold fgG
   split
   ·exact h.rm _
   ·exact h
theorem CtOk.fgC {c : Ct} (h : CtOk c) : CtOk (S.fgC c) := CtOk.fg c.s 0 h
theorem zqz {l : List Ed} {s : List Spn} {v : Int} (h : v ∈ kw l s) : (spn s v).2 = true ∧ (spn s v).1.c = 0 := by
 obtain ⟨h1,h2,x,hx,y,hy,_,h3,h4⟩ := zls l s v h
 unfold vic at h3
 split at h3
 ·rename_i hc
  simp only [Bool.and_eq_true] at hc
  split at h3
  ·rename_i hb
   rw [beq_iff_eq] at hb
   rw [← h3]
   exact ⟨hc.1.1.1.1.2,hb⟩
  ·split at h3
   ·rename_i ha
    rw [beq_iff_eq] at ha
    rw [← h3]
    exact ⟨hc.1.1.1.1.1,ha⟩
   ·exact absurd h3.symm h4
 ·exact absurd h3.symm h4
theorem zz1 : ∀ (v : List Int) (i : Nat) (c : Ct),(∀ t,t ∈ (xb gvG v i c).d ↔ t ∈ c.d ∨ t ∈ v) ∧ (∀ x,x ∈ (xb gvG v i c).l ↔ x ∈ c.l ∧ x.t ∉ v) ∧ (∀ x,x ∈ (xb gvG v i c).e ↔ x ∈ c.e ∧ x.f ∉ v ∧ x.t ∉ v)
 | [],i,c => ⟨fun t => by simp [xb],fun x => by simp [xb],fun x => by simp [xb]⟩
 | a :: v,i,c => by
   obtain ⟨h1,h2,h3⟩ := zz1 v (i + 1) (gvG i a c)
   rw [jf]
   refine ⟨fun t => ?_,fun x => ?_,fun x => ?_⟩
   ·rw [h1]
    show t ∈ zom c.d a ∨ t ∈ v ↔ _
    rw [zxh,List.mem_cons]
    constructor
    ·rintro ((h | h) | h)
     ·exact .inr (.inl h)
     ·exact .inl h
     ·exact .inr (.inr h)
    ·rintro (h | h | h)
     ·exact .inl (.inr h)
     ·exact .inl (.inl h)
     ·exact .inr h
   ·rw [h2]
    show x ∈ zn0 c.l a ∧ _ ↔ _
    rw [mem_sDrop,List.mem_cons,not_or,and_assoc]
   ·rw [h3]
    show x ∈ ziq c.e a ∧ _ ↔ _
    rw [mem_dropE,List.mem_cons,List.mem_cons,not_or,not_or]
    constructor
    ·rintro ⟨⟨g1,g2,g3⟩,g4,g5⟩; exact ⟨g1,⟨g2,g4⟩,g3,g5⟩
    ·rintro ⟨g1,⟨g2,g4⟩,g3,g5⟩; exact ⟨⟨g1,g2,g3⟩,g4,g5⟩
theorem zz2 : ∀ (v : List Int) (i : Nat) (c : Ct),zgk c.l = true → c.d.Pairwise (· < ·) → zgk (xb gvG v i c).l = true ∧ (xb gvG v i c).d.Pairwise (· < ·)
 | [],i,c,h1,h2 => ⟨h1,h2⟩
 | a :: v,i,c,h1,h2 => zz2 v (i + 1) (gvG i a c) (zhj h1 _) (zqs h2 a)
theorem CtOk.gv {c : Ct} (h : CtOk c) : CtOk (gvC c) := by
 obtain ⟨g1,g2,g3⟩ := z2a (kw c.e c.s) 0 c
 obtain ⟨m1,m2,m3⟩ := zz1 (kw c.e c.s) 0 c
 obtain ⟨n1,n2⟩ := zz2 (kw c.e c.s) 0 c h.l h.da
 have hsd : ∀ u,sd c u = true → u ∉ kw c.e c.s → sd (gvC c) u = true := fun u h1 h2 => by
  rw [sd_iff] at h1 ⊢
  unfold gvC
  rw [g1,m1]
  exact ⟨h1.1,fun h3 => h3.elim h1.2 h2⟩
 refine ⟨?_,?_,?_,n1,?_,?_,fun t ht => ?_,n2,fun x hx => ?_,fun x hx => ?_⟩
 ·unfold gvC; rw [g2]; exact h.k0
 ·unfold gvC; rw [g2]; exact h.k1
 ·unfold gvC; rw [g1]; exact h.s
 ·unfold gvC; rw [g3]; exact zvj h.e
 ·unfold gvC; rw [g1,g2]; exact h.b
 ·unfold gvC at ht
  rw [lv_iff]
  unfold gvC
  rw [g1]
  rcases (m1 t).1 ht with h1 | h1
  ·exact lv_iff.1 (h.dl t h1)
  ·exact zqz h1
 ·unfold gvC at hx
  obtain ⟨h1,h2⟩ := (m2 x).1 hx
  exact hsd _ (h.ls x h1) h2
 ·unfold gvC at hx
  obtain ⟨h1,h2,h3⟩ := (m3 x).1 hx
  exact ⟨hsd _ (h.es x h1).1 h2,hsd _ (h.es x h1).2 h3⟩
theorem zxi {l : List Ed} (hl : ur l = true) {x y : Ed} (h : y ∈ (zwd l x).1) : y = x ∨ y ∈ l := by
 unfold zwd at h
 split at h
 ·unfold z5g at h
  split at h
  ·exact .inr h
  ·split at h
   ·exact .inr h
   ·exact mem_insB.1 h
 ·cases h
theorem zze {l : List Ed} (hl : ur l = true) (x : Ed) : ur (zwd l x).1 = true := by
 unfold zwd
 split
 ·rename_i hc
  simp only [Bool.and_eq_true,Bool.not_eq_true'] at hc
  unfold z5g
  split
  ·exact hl
  ·rename_i hx
   split
   ·exact hl
   ·rename_i h6
    obtain ⟨h1,h2,h3⟩ := mayE_iff.1 hl
    rw [← zuz hl x hx]
    obtain ⟨p1,p2⟩ := zek hl x
    refine mayE_iff.2 ⟨?_,fun a ha => ?_,?_⟩
    ·simp only [List.length_append,List.length_take,List.length_cons,List.length_drop]; omega
    ·rcases List.mem_append.1 ha with h | h
     ·exact h2 a (List.mem_of_mem_take h)
     ·rcases List.mem_cons.1 h with rfl | h
      ·exact ⟨hc.1.1.2,hc.1.2,hc.2⟩
      ·exact h2 a (List.mem_of_mem_drop h)
    ·have hlt : ∀ a ∈ l.take (znn l x),zc3 a x < 0 := fun a ha => by
      obtain ⟨k,hk⟩ := List.mem_iff_getElem?.1 ha
      have hkl : k < znn l x := by have := (List.getElem?_eq_some_iff.1 hk).1; rw [List.length_take] at this; omega
      rw [List.getElem?_take_of_lt hkl] at hk
      exact (p2 k a hk).2 hkl
     have hgt : ∀ b ∈ l.drop (znn l x),zc3 x b < 0 := fun b hb => by
      obtain ⟨k,hk⟩ := List.mem_iff_getElem?.1 hb
      rw [List.getElem?_drop] at hk
      have h4 : ¬ zc3 b x < 0 := fun h => by have := (p2 _ b hk).1 h; omega
      have h5 : b ≠ x := fun e => hx (hasE_mem.2 (e ▸ List.mem_iff_getElem?.2 ⟨_,hk⟩))
      rw [zkk] at h4 ⊢
      have h6 : ¬ (b.f = x.f ∧ b.t = x.t) := fun e => h5 (by obtain ⟨bf,bt⟩ := b; obtain ⟨xf,xt⟩ := x; obtain ⟨e1,e2⟩ := e; subst e1 e2; rfl)
      omega
     refine List.pairwise_append.2 ⟨h3.sublist (List.take_sublist _ _),List.pairwise_cons.2 ⟨hgt,h3.sublist (List.drop_sublist _ _)⟩,fun a ha b hb => ?_⟩
     rcases List.mem_cons.1 hb with rfl | hb
     ·exact hlt a ha
     ·exact zet _ _ _ (hlt a ha) (hgt b hb)
 ·rfl
theorem CtOk.add {c : Ct} (h : CtOk c) {x : Ed} (h1 : sd c x.f = true) (h2 : sd c x.t = true) : CtOk { c with e := (zwd c.e x).1 } where
 k0 := h.k0
 k1 := h.k1
 s := h.s
 l := h.l
 e := zze h.e x
 b := h.b
 dl := h.dl
 da := h.da
 ls := h.ls
 es := fun y hy => by
  rcases zxi h.e hy with rfl | hy
  ·exact ⟨h1,h2⟩
  ·exact h.es y hy
theorem zmb {t : Int} {v : Lk} : ∀ (n : Nat) (l : List Lk),v ∈ lockR n l t → v.t = t ∨ v ∈ l
 | 0,l,h => .inr h
 | n + 1,l,h => by
   unfold lockR at h
   cases hc : crw l t with
   | some j =>
     rw [hc] at h
     rcases zmb n _ h with h | h
     ·exact .inl h
     ·rcases zkf h with rfl | h
      ·exact .inl rfl
      ·exact .inr h
   | none =>
     rw [hc] at h
     simp only at h
     split at h
     ·rcases zkf h with rfl | h
      ·exact .inl rfl
      ·exact .inr h
     ·exact .inr h
theorem zus {l : List Lk} {x v : Lk} (h : v ∈ lockL l x) : v.t = x.t ∨ v ∈ l := by
 unfold lockL at h
 rcases zmb 9 _ h with h | h
 ·exact .inl h
 ·rcases zkf h with rfl | h
  ·exact .inl rfl
  ·exact .inr h
theorem z13 {l : List Lk} {t : Int} {v : Lk} (h : v ∈ (beg l t).1) : v ∈ l := by
 unfold beg at h
 split at h
 ·exact h
 ·cases h
theorem zqa {l : List Lk} {t : Int} {q : Wd} {v : Lk} (h : v ∈ (zel l t q).1) : v.t = t ∨ v ∈ l := by
 unfold zel at h
 split at h
 ·exact zus h
 ·exact .inr (z13 h)
theorem zqb {l : List Lk} (hm : zgk l = true) {t : Int} (ht : inn t = true) (q : Wd) : zgk (zel l t q).1 = true := by
 have ht := inn_iff.1 ht
 obtain ⟨m1,m2⟩ := (zcd l).1 hm
 unfold zel
 by_cases h : (beg l t).2 = 0
 ·obtain ⟨_,_,_,h4⟩ := zz8 h
  rw [if_pos h]
  exact (zcd _).2 ⟨zut (zt0 ht) ht m2 h4,m2.lockL (zt0 ht) ht⟩
 ·rw [if_neg h]
  unfold beg
  rw [if_pos (by rw [hm,inn_iff.2 ht]; rfl)]
  exact hm
theorem CtOk.lk {c : Ct} (h : CtOk c) {l : List Lk} {t : Int} (hl : zgk l = true) (hm : ∀ v ∈ l,v.t = t ∨ v ∈ c.l) (ht : sd c t = true) : CtOk { c with l := l } where
 k0 := h.k0
 k1 := h.k1
 s := h.s
 l := hl
 e := h.e
 b := h.b
 dl := h.dl
 da := h.da
 ls := fun x hx => by
  rcases hm x hx with e | hx
  ·show sd c x.t = true
   rw [e]; exact ht
  ·exact h.ls x hx
 es := h.es
end Go.Pvm.S
