/- Part of the proof: certifiers: no danger, and nobody is known when nobody lives: plain. -/
import Derived.Test.YtjfgklgcbogejaaGreatCrtJ
set_option linter.unusedSimpArgs false
set_option linter.unusedVariables false
namespace Go.Pvm.S
open Go.Pvm Go.Proofs
theorem zqm {l l' : List Ed} {s s' : List Spn} (h : jk l s = []) (hl : wt l = true) (hs : qq s = true) (sub : ∀ x ∈ l',x ∈ l) (sp : ∀ x ∈ l',spn s' x.f = spn s x.f ∧ spn s' x.t = spn s x.t) : jk l' s' = [] := by
 rw [List.eq_nil_iff_forall_not_mem]
 intro v hv
 obtain ⟨_,_,x,hx,y,hy,hm⟩ := zhb _ _ _ hv
 have hm' : Met s x y v := by
  unfold Met vic at hm ⊢
  rw [(sp x hx).1,(sp x hx).2,(sp y hy).2] at hm
  exact hm
 have := ((zar hl hs).2 v).2 ⟨x,sub x hx,y,sub y hy,hm'⟩
 rw [h] at this
 cases this
theorem z2w {c : Ct} (h : CtOk c) (hv : jk c.e c.s = []) (t : Int) : jk (rmC c t).e (rmC c t).s = [] :=
 zqm hv h.e h.s (fun x hx => (mem_dropE.1 hx).1) fun x hx => ⟨zhr h (mem_dropE.1 hx).2.1,zhr h (mem_dropE.1 hx).2.2⟩
theorem zww {keep : List Int} : ∀ (s : List Spn) (i : Nat) {c : Ct},CtOk c → jk c.e c.s = [] → jk (y5 (fgG keep) s i c).e (y5 (fgG keep) s i c).s = []
 | [],i,c,h,hv => hv
 | a :: s,i,c,h,hv => by
   rw [jb]
   by_cases hc : (a.c != 0 && !(keep.any fun b => a.t == b)) = true
   ·have e : fgG keep i a c = rmC c a.t := if_pos hc
    rw [e]
    exact zww s (i + 1) (h.rm a.t) (z2w h hv a.t)
   ·have e : fgG keep i a c = c := if_neg hc
    rw [e]
    exact zww s (i + 1) h hv
theorem z3i {c : Ct} (h : CtOk c) (hv : jk c.e c.s = []) : jk (fgC c).e (fgC c).s = [] := zww _ _ h hv
theorem zry {a : Spn} : ∀ (s : List Spn) (i : Nat) (c : Ct),a ∈ (y5 (fgG []) s i c).s → a ∈ c.s ∧ ∀ b ∈ s,b.c ≠ 0 → a.t ≠ b.t
 | [],i,c,h => ⟨h,fun b hb => by cases hb⟩
 | b :: s,i,c,h => by
   rw [jb] at h
   obtain ⟨h1,h2⟩ := zry s (i + 1) _ h
   by_cases hc : b.c = 0
   ·have e : fgG [] i b c = c := if_neg (by rw [hc]; simp)
    rw [e] at h1
    refine ⟨h1,fun d hd hdc => ?_⟩
    rcases List.mem_cons.1 hd with rfl | hd
    ·exact absurd hc hdc
    ·exact h2 d hd hdc
   ·have e : fgG [] i b c = rmC c b.t := if_pos (by rw [bne_iff_ne.2 hc]; rfl)
    rw [e] at h1
    have h3 := List.mem_filter.1 h1
    refine ⟨h3.1,fun d hd hdc => ?_⟩
    rcases List.mem_cons.1 hd with rfl | hd
    ·have h4 := h3.2
     intro e
     rw [e] at h4
     simp at h4
    ·exact h2 d hd hdc
def dead (c : Ct) : Prop := (c.s.any fun a => a.c == 0) = false
theorem z3w {c : Ct} (h : dead c) (t : Int) : lv c t = false := by
 cases hq : lv c t with
 | false => rfl
 | true =>
   obtain ⟨h1,h2⟩ := lv_iff.1 hq
   have h3 := (List.any_eq_false.1 h) _ (qa h1).1
   rw [h2] at h3
   simp at h3
theorem z3v {c : Ct} (ok : CtOk c) (h : ∀ t,lv c t = false) : ∀ a ∈ c.s,a.c ≠ 0 := fun a ha hc => by
 have := h a.t
 unfold lv at this
 rw [zc3 ok.s ha] at this
 simp [hc] at this
theorem zwx {c : Ct} (ok : CtOk c) (hd : dead (fgC c)) : (fgC c).s = [] := by
 have dd : ∀ a ∈ c.s,a.c ≠ 0 := z3v ok fun t => by rw [← zzh ok]; exact z3w hd t
 have kp : kpC c = [] := by
  unfold kpC
  refine zcv (fun k : List Int => k = []) _ _ _ rfl fun i a k _ hk => ?_
  unfold kpG
  rw [if_neg]
  ·exact hk
  ·have : nrC c a = false := by
    unfold nrC
    rw [List.any_eq_false]
    intro b hb
    unfold zh3
    rw [beq_eq_false_iff_ne.2 (dd b hb),Bool.false_and]
    simp
   rw [this,Bool.and_false]
   simp
 rw [List.eq_nil_iff_forall_not_mem]
 intro a ha
 unfold fgC at ha
 rw [kp] at ha
 obtain ⟨h1,h2⟩ := zry _ _ _ ha
 exact h2 a h1 (dd a h1) rfl
theorem zpe {c : Ct} (ok : CtOk c) (h : c.s = []) : c.s = [] ∧ c.l = [] ∧ c.e = [] ∧ c.d = [] := by
 have no : ∀ t,(spn c.s t).2 = false := fun t => by rw [h]; rfl
 refine ⟨h,?_,?_,?_⟩
 ·rw [List.eq_nil_iff_forall_not_mem]
  intro x hx
  have := ok.ls x hx
  unfold sd at this
  rw [no] at this
  cases this
 ·rw [List.eq_nil_iff_forall_not_mem]
  intro x hx
  have := (ok.es x hx).1
  unfold sd at this
  rw [no] at this
  cases this
 ·rw [List.eq_nil_iff_forall_not_mem]
  intro x hx
  have := ok.dl x hx
  unfold lv at this
  rw [no] at this
  cases this
structure Res (c : Ct) (d : Int) (r : Ct × Int) : Prop where
 same : r.2 ≠ 0 → r.2 ≠ 14 → r.1 = c
 k0 : c.k ≤ r.1.k
 k1 : r.1.k ≤ c.k + 1
 ok : CtOk r.1
 vi : jk r.1.e r.1.s = []
 out : dead r.1 → d ≥ 4 → r.2 ≠ 3 → r.1.s = [] ∧ r.1.l = [] ∧ r.1.e = [] ∧ r.1.d = []
theorem z39 {c : Ct} (h : CtOk c) (hv : jk c.e c.s = []) (t : Int) {d : Int} (hd : ¬ d ≥ 4) : Res c d (zmj c t) where
 same := by
  unfold zmj
  rw [if_pos (mayC_iff.2 h)]
  split
  ·split
   ·exact fun _ _ => rfl
   ·split
    ·exact fun _ _ => rfl
    ·exact fun h _ => absurd rfl h
  ·exact fun _ _ => rfl
 k0 := (zr4 h t 0).1
 k1 := (zr4 h t 0).2.1
 ok := z4a t
 vi := by
  unfold zmj
  rw [if_pos (mayC_iff.2 h)]
  split
  ·rename_i ht
   split
   ·exact hv
   ·rename_i h1
    split
    ·exact hv
    ·rename_i h2
     have hk : c.k ≤ 2147483643 := by
      have : ¬ c.k > 2147483643 := fun h => h1 (.inr h)
      omega
     have hn : (spn c.s t).2 = false := by
      cases hq : (spn c.s t).2 with
      | true => exact absurd (.inl hq) h1
      | false => rfl
     have hx : OkA ⟨t,c.k + 1,0⟩ := ⟨ht,by show 0 ≤ c.k + 1; have := h.k0; omega,by show c.k + 1 ≤ 2147483647; omega,.inl rfl⟩
     have hl : c.s.length < 24 := by have := (mayS_iff.1 h.s).1; omega
     have key : ∀ u,sd c u = true → spn (zln c.s ⟨t,c.k + 1,0⟩) u = spn c.s u := fun u hu => by
      rw [zlm h.s hx hn hl u,if_neg]
      intro e
      have e : u = t := e
      unfold sd at hu
      rw [e,hn] at hu
      cases hu
     exact zqm hv h.e h.s (fun x hx => hx) fun x hx => ⟨key _ (h.es x hx).1,key _ (h.es x hx).2⟩
  ·exact hv
 out := fun _ h => absurd h hd
theorem z7l {c : Ct} (h : CtOk c) (t : Int) : jk (enC c t).1.e (enC c t).1.s = [] := zpr h.s h.e
theorem yao (c : Ct) (t : Int) : (enC c t).2 = 0 ∨ (enC c t).2 = 14 := by
 unfold enC
 show (if dm (gvC c) t = true then (14 : Int) else 0) = 0 ∨ _ = _
 split
 ·exact .inr rfl
 ·exact .inl rfl
theorem z1u {c : Ct} (h : CtOk c) (hv : jk c.e c.s = []) (t : Int) {newer : List Int} {lk : List Lk → List Lk × Int} (hk : CtOk c → S.inn t = true → zfb (lk c.l).1 = true ∧ ∀ v ∈ (lk c.l).1,v.t = t ∨ v ∈ c.l) {d : Int} (hd : ¬ d ≥ 4) : Res c d (rdC c t newer lk) where
 same := by
  unfold rdC
  rw [if_pos (mayC_iff.2 h)]
  split
  ·split
   ·exact fun _ _ => rfl
   ·split
    ·exact fun _ _ => rfl
    ·intro h0 h1
     rcases yao (y5 (ovG t) newer 0 { c with l := (lk c.l).1 }) t with e | e
     ·exact absurd e h0
     ·exact absurd e h1
  ·exact fun _ _ => rfl
 k0 := by rw [(zo5 h t newer lk).2]; exact Int.le_refl _
 k1 := by rw [(zo5 h t newer lk).2]; omega
 ok := z5f hk
 vi := by
  have h1 := zo5 h t newer lk
  unfold rdC
  rw [if_pos (mayC_iff.2 h)]
  split
  ·rename_i hl
   split
   ·exact hv
   ·rename_i hdm
    split
    ·exact hv
    ·have hi := h.inn hl
     have hs : sd c t = true := by
      unfold sd
      rw [(lv_iff.1 hl).1,Bool.true_and]
      simpa using hdm
     have ok1 := h.lk (hk h hi).1 (hk h hi).2 hs
     exact z7l (zhz t newer 0 ok1 hs).1 t
  ·exact hv
 out := fun _ h => absurd h hd
theorem z4o {c : Ct} (h : CtOk c) (hv : jk c.e c.s = []) (t : Int) (q : Wd) {d : Int} (hd : ¬ d ≥ 4) : Res c d (wrC c t q) := by
 have aux : lv c t = true → dm c t = false → CtOk (y5 (wrG t (spn c.s t).1.b) (hold c.l q) 0 c) ∧ (y5 (wrG t (spn c.s t).1.b) (hold c.l q) 0 c).k = c.k := fun hl hdm => by
  have hs : sd c t = true := by
   unfold sd
   rw [(lv_iff.1 hl).1,hdm]
   rfl
  have := zko t (spn c.s t).1.b (hold c.l q) 0 h hs fun r hr => h.hold hr
  exact ⟨this.1,this.2.2.2.2⟩
 have two : wrC c t q = (c,14) ∨ wrC c t q = (c,3) ∨ (lv c t = true ∧ dm c t = false ∧ wrC c t q = enC (y5 (wrG t (spn c.s t).1.b) (hold c.l q) 0 c) t) := by
  unfold wrC
  rw [if_pos (mayC_iff.2 h)]
  split
  ·rename_i hl
   split
   ·exact .inl rfl
   ·rename_i hdm
    exact .inr (.inr ⟨hl,by simpa using hdm,rfl⟩)
  ·exact .inr (.inl rfl)
 rcases two with e | e | ⟨hl,hdm,e⟩
 ·rw [e]; exact ⟨fun _ _ => rfl,Int.le_refl _,by show c.k ≤ c.k + 1; omega,h,hv,fun _ h => absurd h hd⟩
 ·rw [e]; exact ⟨fun _ _ => rfl,Int.le_refl _,by show c.k ≤ c.k + 1; omega,h,hv,fun _ h => absurd h hd⟩
 ·have ok := z4p (c := c) (t := t) (q := q)
  rw [e] at ok ⊢
  obtain ⟨a1,a2⟩ := aux hl hdm
  have hk : (enC (y5 (wrG t (spn c.s t).1.b) (hold c.l q) 0 c) t).1.k = c.k := (z0d _).trans a2
  refine ⟨fun h0 h1 => ?_,by rw [hk]; exact Int.le_refl _,by rw [hk]; omega,ok,z7l a1 t,fun _ h => absurd h hd⟩
  rcases yao (y5 (wrG t (spn c.s t).1.b) (hold c.l q) 0 c) t with e | e
  ·exact absurd e h0
  ·exact absurd e h1
theorem z3y {c : Ct} (h : CtOk c) (hv : jk c.e c.s = []) (hk : c.k ≤ 2147483643) (t d : Int) : Res c d (zmi c t) := by
 have kk := z07 h hk t 0
 have ok := z3z (c := c) t
 refine ⟨?_,kk.1,kk.2.1,ok,?_,?_⟩
 all_goals unfold zmi
 all_goals rw [if_pos (mayC_iff.2 h)]
 all_goals split
 all_goals rename_i hl
 ·split
  ·exact fun _ h => absurd rfl h
  ·split
   ·exact fun _ _ => rfl
   ·exact fun h _ => absurd rfl h
 ·exact fun _ _ => rfl
 ·split
  ·exact z3i (h.rm t) (z2w h hv t)
  ·rename_i hdm
   rw [if_neg (by omega)]
   have okc := h.cm hl (by simpa using hdm) hk
   exact z3i okc.gv (zpr okc.s okc.e)
 ·exact hv
 ·split
  ·exact fun hd _ _ => zpe (h.rm t).fgC (zwx (h.rm t) hd)
  ·rename_i hdm
   rw [if_neg (by omega)]
   have okc := h.cm hl (by simpa using hdm) hk
   exact fun hd _ _ => zpe okc.gv.fgC (zwx okc.gv hd)
 ·exact fun _ _ h => absurd rfl h
theorem z4e {c : Ct} (h : CtOk c) (hv : jk c.e c.s = []) (t d : Int) : Res c d (ztz c t) := by
 have kk := z1f h t 0
 have ok := z4f (c := c) t
 refine ⟨?_,by rw [kk.1]; exact Int.le_refl _,by rw [kk.1]; omega,ok,?_,?_⟩
 all_goals unfold ztz
 all_goals rw [if_pos (mayC_iff.2 h)]
 all_goals split
 ·exact fun h _ => absurd rfl h
 ·exact fun _ _ => rfl
 ·exact z3i (h.rm t) (z2w h hv t)
 ·exact hv
 ·exact fun hd _ _ => zpe (h.rm t).fgC (zwx (h.rm t) hd)
 ·exact fun _ _ h => absurd rfl h
end Go.Pvm.S
