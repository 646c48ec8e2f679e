/- Part of the proof: certifiers: what is laid in, and copies. -/
import Derived.Test.YtjfgklgcbogejaaGreatEqK1
import Derived.Test.YtjfgklgcbogejaaGreatEqK2
import Derived.Test.YtjfgklgcbogejaaGreatEqK3
import Derived.Test.YtjfgklgcbogejaaGreatEqK4
import Derived.Test.YtjfgklgcbogejaaGreatEqK5
import Derived.Test.YtjfgklgcbogejaaGreatEqK
import Derived.Test.YtjfgklgcbogejaaGreatProg
import Derived.KernelRfl
import Derived.Test.YtjfgklgcbogejaaGreatEqK7
import Derived.Test.YtjfgklgcbogejaaGreatP5
import Derived.Test.YtjfgklgcbogejaaGreatLays189
set_option linter.unusedSimpArgs false
set_option linter.unusedVariables false
set_option maxRecDepth 100000
namespace Go.Pvm.S
open Go.Pvm Go.Proofs
theorem zlc : ∀ args es,qn 4 32 args = some es → ∀ pargs,VFs args pargs → ∀ n,∃ p τ,jg cfg 81 pargs (.at_ n) = some (p,τ) ∧ p.own = true ∧ wd τ n = true ∧ n ≤ τ.next ∧ hdl p = true ∧ KOR (fun _ => .undef) 0 τ p (.made true 4 es) ∧ ∀ i ∈ tops p,n ≤ i := by
 intro args es h pargs ha n
 unfold qn at h
 split at h
 ·rename_i b es0
  split at h
  ·rename_i hc
   cases h
   obtain ⟨h1,h2,h3⟩ := hc
   have hu : Tryz.prog.underlying 25 = some (.slice 78) := by kernel_rfl
   have E : El Tryz.prog 78 4 32 := ⟨by kernel_rfl,by kernel_rfl,⟨.agg [.int .i64 0,.int .i64 0,.float .f64 0,.int .i64 0],by kernel_rfl,rfl,rfl⟩,by decide,by decide⟩
   have hb : zed Tryz.prog .eql 25 .nilsl .nilsl = some (.bool true) := by kernel_rfl
   have hb2 : ∀ b es,zed Tryz.prog .eql 25 (.psl b es) .nilsl = some (.bool false) := by intro b es; kernel_rfl
   have hbs : ∀ σ,jw Tryz.prog σ 25 0 [] = some (.lsl σ.next 4 0 0 (some 0),σ.push (.cells 0 [])) := by intro σ; kernel_rfl
   cases ha with
   | cons hv ht =>
     cases ht
     rename_i p0
     have ev := z8b (jg cfg) (zbi cfg) (.at_ n) p0
     rcases (VK.fr (ρ := fun _ => .undef) (m := 0) hv).psl_inv with ⟨rfl,rfl⟩ | ⟨b',ps,rfl,hps⟩
     ·simp only [hb,zb,ze,if_true] at ev
      exact ⟨_,_,jj rfl ev,rfl,jn n,Nat.le_refl _,rfl,⟨by decide,rfl,.inl ⟨rfl,rfl⟩⟩,fun i hi => by cases hi⟩
     ·have hpl := ju hps h1
      have hE := rowsPl_els.1 hpl
      have hq : IsQ ((Store.at_ n).push (.cells 0 [])) 4 (.psl b' ps) ps := .inl (.inr ⟨b',rfl⟩)
      simp only [hb2,zb,ze,Bool.false_eq_true,if_false,hbs,jo hu hu hq.nostr] at ev
      by_cases hn : ps = []
      ·subst hn
       rw [v7 E hq.elems] at ev
       have he : es = [] := List.eq_nil_of_length_eq_zero (by rw [hps.len]; rfl)
       subst he
       exact ⟨_,_,jj rfl ev,rfl,x6 (jn n) (Nat.le_refl _) rfl,Nat.le_succ _,rfl,⟨by decide,rfl,.inr ⟨n,some 0,0,[],[],rfl,xv _ _,.nil,.inr rfl,rfl,fun _ => rfl,Nat.lt_succ_self _⟩⟩,fun i hi => by rw [List.mem_singleton.1 hi]; exact Nat.le_refl _⟩
      ·rw [u9 E hq.elems hE.all1 hn (xv _ _) (Nat.le_refl _) (by rw [Nat.zero_add,← hps.len]; exact h3)] at ev
       refine ⟨_,_,jj rfl ev,rfl,x6 (x6 (jn n) (Nat.le_refl _) rfl) (Nat.le_succ _) (by simpa using hps.own1 h1 h2),Nat.le_succ_of_le (Nat.le_succ _),rfl,⟨by decide,h1,.inr ⟨n + 1,none,0,ps,[],by rw [Nat.zero_add,hps.len]; rfl,by rw [List.append_nil]; exact xv _ _,hps,.inl rfl,rfl,fun _ => rfl,Nat.lt_succ_self _⟩⟩,fun i hi => by rw [List.mem_singleton.1 hi]; exact Nat.le_succ _⟩
  ·cases h
 ·cases h
theorem zrl (C : x5) (L : vj) (σ : Store) (a0 : PV) (a1 : Int) (a2 : PV) : zgy znm C L 178 [a0,.int .i64 a1,a2] σ = zby znm C 25 3 195 196 σ a0 a1 a2 := by kernel_rfl
theorem zml : InsRuns Tryz.prog 25 (jg znm) 178 :=
 zcf (cfg := znm) (ti := 3) (ov := 195) (rot := 196) (ov_t := 25) (κ := .i64) (el' := 78) (by kernel_rfl) (by kernel_rfl) (fun _ => rfl) (by kernel_rfl) (by kernel_rfl) ⟨4,by kernel_rfl⟩ (by kernel_rfl) (by kernel_rfl) (fun σ a0 a1 a2 => zrl _ _ σ a0 a1 a2)
theorem zmk : ToldOk Tryz.prog 178 (zii Tryz.prog (.insert 25)) := za4 zml
theorem zld : ∀ args es,qn 2 16 args = some es → ∀ pargs,VFs args pargs → ∀ n,∃ p τ,jg cfg 82 pargs (.at_ n) = some (p,τ) ∧ p.own = true ∧ wd τ n = true ∧ n ≤ τ.next ∧ hdl p = true ∧ KOR (fun _ => .undef) 0 τ p (.made true 2 es) ∧ ∀ i ∈ tops p,n ≤ i := by
 intro args es h pargs ha n
 unfold qn at h
 split at h
 ·rename_i b es0
  split at h
  ·rename_i hc
   cases h
   obtain ⟨h1,h2,h3⟩ := hc
   have hu : Tryz.prog.underlying 26 = some (.slice 69) := by kernel_rfl
   have E : El Tryz.prog 69 2 16 := ⟨by kernel_rfl,by kernel_rfl,⟨.agg [.int .i64 0,.int .i64 0],by kernel_rfl,rfl,rfl⟩,by decide,by decide⟩
   have hb : zed Tryz.prog .eql 26 .nilsl .nilsl = some (.bool true) := by kernel_rfl
   have hb2 : ∀ b es,zed Tryz.prog .eql 26 (.psl b es) .nilsl = some (.bool false) := by intro b es; kernel_rfl
   have hbs : ∀ σ,jw Tryz.prog σ 26 0 [] = some (.lsl σ.next 2 0 0 (some 0),σ.push (.cells 0 [])) := by intro σ; kernel_rfl
   cases ha with
   | cons hv ht =>
     cases ht
     rename_i p0
     have ev := z8a (jg cfg) (zbi cfg) (.at_ n) p0
     rcases (VK.fr (ρ := fun _ => .undef) (m := 0) hv).psl_inv with ⟨rfl,rfl⟩ | ⟨b',ps,rfl,hps⟩
     ·simp only [hb,zb,ze,if_true] at ev
      exact ⟨_,_,jj rfl ev,rfl,jn n,Nat.le_refl _,rfl,⟨by decide,rfl,.inl ⟨rfl,rfl⟩⟩,fun i hi => by cases hi⟩
     ·have hpl := ju hps h1
      have hE := rowsPl_els.1 hpl
      have hq : IsQ ((Store.at_ n).push (.cells 0 [])) 2 (.psl b' ps) ps := .inl (.inr ⟨b',rfl⟩)
      simp only [hb2,zb,ze,Bool.false_eq_true,if_false,hbs,jo hu hu hq.nostr] at ev
      by_cases hn : ps = []
      ·subst hn
       rw [v7 E hq.elems] at ev
       have he : es = [] := List.eq_nil_of_length_eq_zero (by rw [hps.len]; rfl)
       subst he
       exact ⟨_,_,jj rfl ev,rfl,x6 (jn n) (Nat.le_refl _) rfl,Nat.le_succ _,rfl,⟨by decide,rfl,.inr ⟨n,some 0,0,[],[],rfl,xv _ _,.nil,.inr rfl,rfl,fun _ => rfl,Nat.lt_succ_self _⟩⟩,fun i hi => by rw [List.mem_singleton.1 hi]; exact Nat.le_refl _⟩
      ·rw [u9 E hq.elems hE.all1 hn (xv _ _) (Nat.le_refl _) (by rw [Nat.zero_add,← hps.len]; exact h3)] at ev
       refine ⟨_,_,jj rfl ev,rfl,x6 (x6 (jn n) (Nat.le_refl _) rfl) (Nat.le_succ _) (by simpa using hps.own1 h1 h2),Nat.le_succ_of_le (Nat.le_succ _),rfl,⟨by decide,h1,.inr ⟨n + 1,none,0,ps,[],by rw [Nat.zero_add,hps.len]; rfl,by rw [List.append_nil]; exact xv _ _,hps,.inl rfl,rfl,fun _ => rfl,Nat.lt_succ_self _⟩⟩,fun i hi => by rw [List.mem_singleton.1 hi]; exact Nat.le_succ _⟩
  ·cases h
 ·cases h
theorem zrn (C : x5) (L : vj) (σ : Store) (a0 : PV) (a1 : Int) (a2 : PV) : zgy znm C L 108 [a0,.int .i64 a1,a2] σ = zby znm C 26 3 155 156 σ a0 a1 a2 := by kernel_rfl
theorem zmn : InsRuns Tryz.prog 26 (jg znm) 108 :=
 zcf (cfg := znm) (ti := 3) (ov := 155) (rot := 156) (ov_t := 26) (κ := .i64) (el' := 69) (by kernel_rfl) (by kernel_rfl) (fun _ => rfl) (by kernel_rfl) (by kernel_rfl) ⟨2,by kernel_rfl⟩ (by kernel_rfl) (by kernel_rfl) (fun σ a0 a1 a2 => zrn _ _ σ a0 a1 a2)
theorem zmm : ToldOk Tryz.prog 108 (zii Tryz.prog (.insert 26)) := za4 zmn
theorem zlb : ∀ args es,qn 3 24 args = some es → ∀ pargs,VFs args pargs → ∀ n,∃ p τ,jg cfg 79 pargs (.at_ n) = some (p,τ) ∧ p.own = true ∧ wd τ n = true ∧ n ≤ τ.next ∧ hdl p = true ∧ KOR (fun _ => .undef) 0 τ p (.made true 3 es) ∧ ∀ i ∈ tops p,n ≤ i := by
 intro args es h pargs ha n
 unfold qn at h
 split at h
 ·rename_i b es0
  split at h
  ·rename_i hc
   cases h
   obtain ⟨h1,h2,h3⟩ := hc
   have hu : Tryz.prog.underlying 23 = some (.slice 37) := by kernel_rfl
   have E : El Tryz.prog 37 3 24 := ⟨by kernel_rfl,by kernel_rfl,⟨.agg [.int .i64 0,.int .i64 0,.int .i64 0],by kernel_rfl,rfl,rfl⟩,by decide,by decide⟩
   have hb : zed Tryz.prog .eql 23 .nilsl .nilsl = some (.bool true) := by kernel_rfl
   have hb2 : ∀ b es,zed Tryz.prog .eql 23 (.psl b es) .nilsl = some (.bool false) := by intro b es; kernel_rfl
   have hbs : ∀ σ,jw Tryz.prog σ 23 0 [] = some (.lsl σ.next 3 0 0 (some 0),σ.push (.cells 0 [])) := by intro σ; kernel_rfl
   cases ha with
   | cons hv ht =>
     cases ht
     rename_i p0
     have ev := z8d (jg cfg) (zbi cfg) (.at_ n) p0
     rcases (VK.fr (ρ := fun _ => .undef) (m := 0) hv).psl_inv with ⟨rfl,rfl⟩ | ⟨b',ps,rfl,hps⟩
     ·simp only [hb,zb,ze,if_true] at ev
      exact ⟨_,_,jj rfl ev,rfl,jn n,Nat.le_refl _,rfl,⟨by decide,rfl,.inl ⟨rfl,rfl⟩⟩,fun i hi => by cases hi⟩
     ·have hpl := ju hps h1
      have hE := rowsPl_els.1 hpl
      have hq : IsQ ((Store.at_ n).push (.cells 0 [])) 3 (.psl b' ps) ps := .inl (.inr ⟨b',rfl⟩)
      simp only [hb2,zb,ze,Bool.false_eq_true,if_false,hbs,jo hu hu hq.nostr] at ev
      by_cases hn : ps = []
      ·subst hn
       rw [v7 E hq.elems] at ev
       have he : es = [] := List.eq_nil_of_length_eq_zero (by rw [hps.len]; rfl)
       subst he
       exact ⟨_,_,jj rfl ev,rfl,x6 (jn n) (Nat.le_refl _) rfl,Nat.le_succ _,rfl,⟨by decide,rfl,.inr ⟨n,some 0,0,[],[],rfl,xv _ _,.nil,.inr rfl,rfl,fun _ => rfl,Nat.lt_succ_self _⟩⟩,fun i hi => by rw [List.mem_singleton.1 hi]; exact Nat.le_refl _⟩
      ·rw [u9 E hq.elems hE.all1 hn (xv _ _) (Nat.le_refl _) (by rw [Nat.zero_add,← hps.len]; exact h3)] at ev
       refine ⟨_,_,jj rfl ev,rfl,x6 (x6 (jn n) (Nat.le_refl _) rfl) (Nat.le_succ _) (by simpa using hps.own1 h1 h2),Nat.le_succ_of_le (Nat.le_succ _),rfl,⟨by decide,h1,.inr ⟨n + 1,none,0,ps,[],by rw [Nat.zero_add,hps.len]; rfl,by rw [List.append_nil]; exact xv _ _,hps,.inl rfl,rfl,fun _ => rfl,Nat.lt_succ_self _⟩⟩,fun i hi => by rw [List.mem_singleton.1 hi]; exact Nat.le_succ _⟩
  ·cases h
 ·cases h
theorem zrk (C : x5) (L : vj) (σ : Store) (a0 : PV) (a1 : Int) (a2 : PV) : zgy znm C L 30 [a0,.int .i64 a1,a2] σ = zby znm C 23 3 86 87 σ a0 a1 a2 := by kernel_rfl
theorem zmj : InsRuns Tryz.prog 23 (jg znm) 30 :=
 zcf (cfg := znm) (ti := 3) (ov := 86) (rot := 87) (ov_t := 23) (κ := .i64) (el' := 37) (by kernel_rfl) (by kernel_rfl) (fun _ => rfl) (by kernel_rfl) (by kernel_rfl) ⟨3,by kernel_rfl⟩ (by kernel_rfl) (by kernel_rfl) (fun σ a0 a1 a2 => zrk _ _ σ a0 a1 a2)
theorem zmi : ToldOk Tryz.prog 30 (zii Tryz.prog (.insert 23)) := za4 zmj
theorem zm6 : ∀ args es,qn 1 8 args = some es → ∀ pargs,VFs args pargs → ∀ n,∃ p τ,jg cfg 80 pargs (.at_ n) = some (p,τ) ∧ p.own = true ∧ wd τ n = true ∧ n ≤ τ.next ∧ hdl p = true ∧ KOR (fun _ => .undef) 0 τ p (.made true 1 es) ∧ ∀ i ∈ tops p,n ≤ i := by
 intro args es h pargs ha n
 unfold qn at h
 split at h
 ·rename_i b es0
  split at h
  ·rename_i hc
   cases h
   obtain ⟨h1,h2,h3⟩ := hc
   have hu : Tryz.prog.underlying 24 = some (.slice 3) := by kernel_rfl
   have E : El Tryz.prog 3 1 8 := ⟨by kernel_rfl,by kernel_rfl,⟨.int .i64 0,by kernel_rfl,rfl,rfl⟩,by decide,by decide⟩
   have hb : zed Tryz.prog .eql 24 .nilsl .nilsl = some (.bool true) := by kernel_rfl
   have hb2 : ∀ b es,zed Tryz.prog .eql 24 (.psl b es) .nilsl = some (.bool false) := by intro b es; kernel_rfl
   have hbs : ∀ σ,jw Tryz.prog σ 24 0 [] = some (.lsl σ.next 1 0 0 (some 0),σ.push (.cells 0 [])) := by intro σ; kernel_rfl
   cases ha with
   | cons hv ht =>
     cases ht
     rename_i p0
     have ev := z8c (jg cfg) (zbi cfg) (.at_ n) p0
     rcases (VK.fr (ρ := fun _ => .undef) (m := 0) hv).psl_inv with ⟨rfl,rfl⟩ | ⟨b',ps,rfl,hps⟩
     ·simp only [hb,zb,ze,if_true] at ev
      exact ⟨_,_,jj rfl ev,rfl,jn n,Nat.le_refl _,rfl,⟨by decide,rfl,.inl ⟨rfl,rfl⟩⟩,fun i hi => by cases hi⟩
     ·have hpl := ju hps h1
      have hE := rowsPl_els.1 hpl
      have hq : IsQ ((Store.at_ n).push (.cells 0 [])) 1 (.psl b' ps) ps := .inl (.inr ⟨b',rfl⟩)
      simp only [hb2,zb,ze,Bool.false_eq_true,if_false,hbs,jo hu hu hq.nostr] at ev
      by_cases hn : ps = []
      ·subst hn
       rw [v7 E hq.elems] at ev
       have he : es = [] := List.eq_nil_of_length_eq_zero (by rw [hps.len]; rfl)
       subst he
       exact ⟨_,_,jj rfl ev,rfl,x6 (jn n) (Nat.le_refl _) rfl,Nat.le_succ _,rfl,⟨by decide,rfl,.inr ⟨n,some 0,0,[],[],rfl,xv _ _,.nil,.inr rfl,rfl,fun _ => rfl,Nat.lt_succ_self _⟩⟩,fun i hi => by rw [List.mem_singleton.1 hi]; exact Nat.le_refl _⟩
      ·rw [u9 E hq.elems hE.all1 hn (xv _ _) (Nat.le_refl _) (by rw [Nat.zero_add,← hps.len]; exact h3)] at ev
       refine ⟨_,_,jj rfl ev,rfl,x6 (x6 (jn n) (Nat.le_refl _) rfl) (Nat.le_succ _) (by simpa using hps.own1 h1 h2),Nat.le_succ_of_le (Nat.le_succ _),rfl,⟨by decide,h1,.inr ⟨n + 1,none,0,ps,[],by rw [Nat.zero_add,hps.len]; rfl,by rw [List.append_nil]; exact xv _ _,hps,.inl rfl,rfl,fun _ => rfl,Nat.lt_succ_self _⟩⟩,fun i hi => by rw [List.mem_singleton.1 hi]; exact Nat.le_succ _⟩
  ·cases h
 ·cases h
theorem zuy (C : x5) (L : vj) (σ : Store) (a0 : PV) (a1 : Int) (a2 : PV) : zgy znm C L 98 [a0,.int .i64 a1,a2] σ = zby znm C 24 3 144 145 σ a0 a1 a2 := by kernel_rfl
theorem zol : InsRuns Tryz.prog 24 (jg znm) 98 :=
 zcf (cfg := znm) (ti := 3) (ov := 144) (rot := 145) (ov_t := 24) (κ := .i64) (el' := 3) (by kernel_rfl) (by kernel_rfl) (fun _ => rfl) (by kernel_rfl) (by kernel_rfl) ⟨1,by kernel_rfl⟩ (by kernel_rfl) (by kernel_rfl) (fun σ a0 a1 a2 => zuy _ _ σ a0 a1 a2)
theorem zok : ToldOk Tryz.prog 98 (zii Tryz.prog (.insert 24)) := za4 zol
theorem z2i : ∀ f u,zgx f = some u → ToldOk Tryz.prog f (zii Tryz.prog u) := by
 intro f u h
 unfold zgx at h
 split at h
 all_goals first | (cases h; done) | (cases h; first | exact zmk | exact zmm | exact zmi | exact zok | exact zwr)
theorem hT : Tolds cfg := fun f g h => by
 have h' : (zgx f).map (zii Tryz.prog) = some g := h
 rw [Option.map_eq_some_iff] at h'
 obtain ⟨u,hu,rfl⟩ := h'
 exact z2i f u hu
theorem ownOk : OwnOk xa Tryz.prog (jg cfg) where
 own := by
  intro g sz h hg args es he
  have hg' : z0u g = some (sz,h) := hg
  unfold z0u at hg'
  split at hg'
  all_goals first | (cases hg'; done) | (cases hg'; first | exact zlc args es he | exact zld args es he | exact zlb args es he | exact zm6 args es he)
 told := fun g u hu args σ => zsd (by show (zgx g).map (zii Tryz.prog) = _; rw [show zgx g = some u from hu]; rfl) args σ
end Go.Pvm.S
