/- Part of the proof: certifiers: what is laid in, and copies. -/
import Derived.Test.YtjfgklgcbogejaaGreatEqK
import Derived.Test.YtjfgklgcbogejaaGreatProg
import Derived.KernelRfl
import Derived.Test.YtjfgklgcbogejaaGreatEqK2
import Derived.Test.YtjfgklgcbogejaaGreatEqK3
import Derived.Test.YtjfgklgcbogejaaGreatEqK4
import Derived.Test.YtjfgklgcbogejaaGreatEqK5
import Derived.Test.YtjfgklgcbogejaaGreatEqK7
import Derived.Test.YtjfgklgcbogejaaGreatP5
import Derived.Test.YtjfgklgcbogejaaGreatLays189
set_option linter.unusedSimpArgs false
set_option linter.unusedVariables false
set_option maxRecDepth 100000
namespace Go.Pvm.S
open Go.Pvm Go.Proofs
theorem zl6 : ∀ args es,qw 4 32 args = some es → ∀ pargs,VFs args pargs → ∀ n,∃ p τ,jo cfg 81 pargs (.at_ n) = some (p,τ) ∧ p.own = true ∧ wn τ n = true ∧ n ≤ τ.next ∧ hdl p = true ∧ KOR (fun _ => .undef) 0 τ p (.made true 4 es) ∧ ∀ i ∈ tops p,n ≤ i := by
 intro args es h pargs ha n
 unfold qw at h
 split at h
 ·rename_i b es0
  split at h
  ·rename_i hc
   cases h
   obtain ⟨h1,h2,h3⟩ := hc
   have hu : Tryz.prog.underlying 25 = some (.slice 78) := by kernel_rfl
   have E : El Tryz.prog 78 4 32 := ⟨by kernel_rfl,by kernel_rfl,⟨.agg [.int .i64 0,.int .i64 0,.float .f64 0,.int .i64 0],by kernel_rfl,rfl,rfl⟩,by decide,by decide⟩
   have hb : zch Tryz.prog .eql 25 .nilsl .nilsl = some (.bool true) := by kernel_rfl
   have hb2 : ∀ b es,zch Tryz.prog .eql 25 (.psl b es) .nilsl = some (.bool false) := by intro b es; kernel_rfl
   have hbs : ∀ σ,j4 Tryz.prog σ 25 0 [] = some (.lsl σ.next 4 0 0 (some 0),σ.push (.cells 0 [])) := by intro σ; kernel_rfl
   cases ha with
   | cons hv ht =>
     cases ht
     rename_i p0
     have ev := ybe (jo cfg) (zbw cfg) (.at_ n) p0
     rcases (VK.fr (ρ := fun _ => .undef) (m := 0) hv).psl_inv with ⟨rfl,rfl⟩ | ⟨b',ps,rfl,hps⟩
     ·simp only [hb,zb,ze,if_true] at ev
      exact ⟨_,_,jr rfl ev,rfl,ju n,Nat.le_refl _,rfl,⟨by decide,rfl,.inl ⟨rfl,rfl⟩⟩,fun i hi => by cases hi⟩
     ·have hpl := j3 hps h1
      have hE := rowsPl_els.1 hpl
      have hq : IsQ ((Store.at_ n).push (.cells 0 [])) 4 (.psl b' ps) ps := .inl (.inr ⟨b',rfl⟩)
      simp only [hb2,zb,ze,Bool.false_eq_true,if_false,hbs,jw hu hu hq.nostr] at ev
      by_cases hn : ps = []
      ·subst hn
       rw [wh E hq.elems] at ev
       have he : es = [] := List.eq_nil_of_length_eq_zero (by rw [hps.len]; rfl)
       subst he
       exact ⟨_,_,jr rfl ev,rfl,x8 (ju n) (Nat.le_refl _) rfl,Nat.le_succ _,rfl,⟨by decide,rfl,.inr ⟨n,some 0,0,[],[],rfl,xx _ _,.nil,.inr rfl,rfl,fun _ => rfl,Nat.lt_succ_self _⟩⟩,fun i hi => by rw [List.mem_singleton.1 hi]; exact Nat.le_refl _⟩
      ·rw [zak E hq.elems hE.all1 hn (xx _ _) (Nat.le_refl _) (by rw [Nat.zero_add,← hps.len]; exact h3)] at ev
       refine ⟨_,_,jr rfl ev,rfl,x8 (x8 (ju n) (Nat.le_refl _) rfl) (Nat.le_succ _) (by simpa using hps.own1 h1 h2),Nat.le_succ_of_le (Nat.le_succ _),rfl,⟨by decide,h1,.inr ⟨n + 1,none,0,ps,[],by rw [Nat.zero_add,hps.len]; rfl,by rw [List.append_nil]; exact xx _ _,hps,.inl rfl,rfl,fun _ => rfl,Nat.lt_succ_self _⟩⟩,fun i hi => by rw [List.mem_singleton.1 hi]; exact Nat.le_succ _⟩
  ·cases h
 ·cases h
theorem zs3 (C : x6) (L : vq) (σ : Store) (a0 : PV) (a1 : Int) (a2 : PV) : zhd zom C L 178 [a0,.int .i64 a1,a2] σ = zcb zom C 25 3 195 196 σ a0 a1 a2 := by kernel_rfl
theorem znl : InsRuns Tryz.prog 25 (jo zom) 178 :=
 zct (cfg := zom) (ti := 3) (ov := 195) (rot := 196) (ov_t := 25) (κ := .i64) (el' := 78) (by kernel_rfl) (by kernel_rfl) (fun _ => rfl) (by kernel_rfl) (by kernel_rfl) ⟨4,by kernel_rfl⟩ (by kernel_rfl) (by kernel_rfl) (fun σ a0 a1 a2 => zs3 _ _ σ a0 a1 a2)
theorem znk : ToldOk Tryz.prog 178 (zi9 Tryz.prog (.insert 25)) := zbi znl
theorem zl7 : ∀ args es,qw 2 16 args = some es → ∀ pargs,VFs args pargs → ∀ n,∃ p τ,jo cfg 82 pargs (.at_ n) = some (p,τ) ∧ p.own = true ∧ wn τ n = true ∧ n ≤ τ.next ∧ hdl p = true ∧ KOR (fun _ => .undef) 0 τ p (.made true 2 es) ∧ ∀ i ∈ tops p,n ≤ i := by
 intro args es h pargs ha n
 unfold qw at h
 split at h
 ·rename_i b es0
  split at h
  ·rename_i hc
   cases h
   obtain ⟨h1,h2,h3⟩ := hc
   have hu : Tryz.prog.underlying 26 = some (.slice 69) := by kernel_rfl
   have E : El Tryz.prog 69 2 16 := ⟨by kernel_rfl,by kernel_rfl,⟨.agg [.int .i64 0,.int .i64 0],by kernel_rfl,rfl,rfl⟩,by decide,by decide⟩
   have hb : zch Tryz.prog .eql 26 .nilsl .nilsl = some (.bool true) := by kernel_rfl
   have hb2 : ∀ b es,zch Tryz.prog .eql 26 (.psl b es) .nilsl = some (.bool false) := by intro b es; kernel_rfl
   have hbs : ∀ σ,j4 Tryz.prog σ 26 0 [] = some (.lsl σ.next 2 0 0 (some 0),σ.push (.cells 0 [])) := by intro σ; kernel_rfl
   cases ha with
   | cons hv ht =>
     cases ht
     rename_i p0
     have ev := ybd (jo cfg) (zbw cfg) (.at_ n) p0
     rcases (VK.fr (ρ := fun _ => .undef) (m := 0) hv).psl_inv with ⟨rfl,rfl⟩ | ⟨b',ps,rfl,hps⟩
     ·simp only [hb,zb,ze,if_true] at ev
      exact ⟨_,_,jr rfl ev,rfl,ju n,Nat.le_refl _,rfl,⟨by decide,rfl,.inl ⟨rfl,rfl⟩⟩,fun i hi => by cases hi⟩
     ·have hpl := j3 hps h1
      have hE := rowsPl_els.1 hpl
      have hq : IsQ ((Store.at_ n).push (.cells 0 [])) 2 (.psl b' ps) ps := .inl (.inr ⟨b',rfl⟩)
      simp only [hb2,zb,ze,Bool.false_eq_true,if_false,hbs,jw hu hu hq.nostr] at ev
      by_cases hn : ps = []
      ·subst hn
       rw [wh E hq.elems] at ev
       have he : es = [] := List.eq_nil_of_length_eq_zero (by rw [hps.len]; rfl)
       subst he
       exact ⟨_,_,jr rfl ev,rfl,x8 (ju n) (Nat.le_refl _) rfl,Nat.le_succ _,rfl,⟨by decide,rfl,.inr ⟨n,some 0,0,[],[],rfl,xx _ _,.nil,.inr rfl,rfl,fun _ => rfl,Nat.lt_succ_self _⟩⟩,fun i hi => by rw [List.mem_singleton.1 hi]; exact Nat.le_refl _⟩
      ·rw [zak E hq.elems hE.all1 hn (xx _ _) (Nat.le_refl _) (by rw [Nat.zero_add,← hps.len]; exact h3)] at ev
       refine ⟨_,_,jr rfl ev,rfl,x8 (x8 (ju n) (Nat.le_refl _) rfl) (Nat.le_succ _) (by simpa using hps.own1 h1 h2),Nat.le_succ_of_le (Nat.le_succ _),rfl,⟨by decide,h1,.inr ⟨n + 1,none,0,ps,[],by rw [Nat.zero_add,hps.len]; rfl,by rw [List.append_nil]; exact xx _ _,hps,.inl rfl,rfl,fun _ => rfl,Nat.lt_succ_self _⟩⟩,fun i hi => by rw [List.mem_singleton.1 hi]; exact Nat.le_succ _⟩
  ·cases h
 ·cases h
theorem zs5 (C : x6) (L : vq) (σ : Store) (a0 : PV) (a1 : Int) (a2 : PV) : zhd zom C L 108 [a0,.int .i64 a1,a2] σ = zcb zom C 26 3 155 156 σ a0 a1 a2 := by kernel_rfl
theorem znn : InsRuns Tryz.prog 26 (jo zom) 108 :=
 zct (cfg := zom) (ti := 3) (ov := 155) (rot := 156) (ov_t := 26) (κ := .i64) (el' := 69) (by kernel_rfl) (by kernel_rfl) (fun _ => rfl) (by kernel_rfl) (by kernel_rfl) ⟨2,by kernel_rfl⟩ (by kernel_rfl) (by kernel_rfl) (fun σ a0 a1 a2 => zs5 _ _ σ a0 a1 a2)
theorem znm : ToldOk Tryz.prog 108 (zi9 Tryz.prog (.insert 26)) := zbi znn
theorem zl5 : ∀ args es,qw 3 24 args = some es → ∀ pargs,VFs args pargs → ∀ n,∃ p τ,jo cfg 79 pargs (.at_ n) = some (p,τ) ∧ p.own = true ∧ wn τ n = true ∧ n ≤ τ.next ∧ hdl p = true ∧ KOR (fun _ => .undef) 0 τ p (.made true 3 es) ∧ ∀ i ∈ tops p,n ≤ i := by
 intro args es h pargs ha n
 unfold qw at h
 split at h
 ·rename_i b es0
  split at h
  ·rename_i hc
   cases h
   obtain ⟨h1,h2,h3⟩ := hc
   have hu : Tryz.prog.underlying 23 = some (.slice 37) := by kernel_rfl
   have E : El Tryz.prog 37 3 24 := ⟨by kernel_rfl,by kernel_rfl,⟨.agg [.int .i64 0,.int .i64 0,.int .i64 0],by kernel_rfl,rfl,rfl⟩,by decide,by decide⟩
   have hb : zch Tryz.prog .eql 23 .nilsl .nilsl = some (.bool true) := by kernel_rfl
   have hb2 : ∀ b es,zch Tryz.prog .eql 23 (.psl b es) .nilsl = some (.bool false) := by intro b es; kernel_rfl
   have hbs : ∀ σ,j4 Tryz.prog σ 23 0 [] = some (.lsl σ.next 3 0 0 (some 0),σ.push (.cells 0 [])) := by intro σ; kernel_rfl
   cases ha with
   | cons hv ht =>
     cases ht
     rename_i p0
     have ev := ybg (jo cfg) (zbw cfg) (.at_ n) p0
     rcases (VK.fr (ρ := fun _ => .undef) (m := 0) hv).psl_inv with ⟨rfl,rfl⟩ | ⟨b',ps,rfl,hps⟩
     ·simp only [hb,zb,ze,if_true] at ev
      exact ⟨_,_,jr rfl ev,rfl,ju n,Nat.le_refl _,rfl,⟨by decide,rfl,.inl ⟨rfl,rfl⟩⟩,fun i hi => by cases hi⟩
     ·have hpl := j3 hps h1
      have hE := rowsPl_els.1 hpl
      have hq : IsQ ((Store.at_ n).push (.cells 0 [])) 3 (.psl b' ps) ps := .inl (.inr ⟨b',rfl⟩)
      simp only [hb2,zb,ze,Bool.false_eq_true,if_false,hbs,jw hu hu hq.nostr] at ev
      by_cases hn : ps = []
      ·subst hn
       rw [wh E hq.elems] at ev
       have he : es = [] := List.eq_nil_of_length_eq_zero (by rw [hps.len]; rfl)
       subst he
       exact ⟨_,_,jr rfl ev,rfl,x8 (ju n) (Nat.le_refl _) rfl,Nat.le_succ _,rfl,⟨by decide,rfl,.inr ⟨n,some 0,0,[],[],rfl,xx _ _,.nil,.inr rfl,rfl,fun _ => rfl,Nat.lt_succ_self _⟩⟩,fun i hi => by rw [List.mem_singleton.1 hi]; exact Nat.le_refl _⟩
      ·rw [zak E hq.elems hE.all1 hn (xx _ _) (Nat.le_refl _) (by rw [Nat.zero_add,← hps.len]; exact h3)] at ev
       refine ⟨_,_,jr rfl ev,rfl,x8 (x8 (ju n) (Nat.le_refl _) rfl) (Nat.le_succ _) (by simpa using hps.own1 h1 h2),Nat.le_succ_of_le (Nat.le_succ _),rfl,⟨by decide,h1,.inr ⟨n + 1,none,0,ps,[],by rw [Nat.zero_add,hps.len]; rfl,by rw [List.append_nil]; exact xx _ _,hps,.inl rfl,rfl,fun _ => rfl,Nat.lt_succ_self _⟩⟩,fun i hi => by rw [List.mem_singleton.1 hi]; exact Nat.le_succ _⟩
  ·cases h
 ·cases h
theorem zs2 (C : x6) (L : vq) (σ : Store) (a0 : PV) (a1 : Int) (a2 : PV) : zhd zom C L 30 [a0,.int .i64 a1,a2] σ = zcb zom C 23 3 86 87 σ a0 a1 a2 := by kernel_rfl
theorem znj : InsRuns Tryz.prog 23 (jo zom) 30 :=
 zct (cfg := zom) (ti := 3) (ov := 86) (rot := 87) (ov_t := 23) (κ := .i64) (el' := 37) (by kernel_rfl) (by kernel_rfl) (fun _ => rfl) (by kernel_rfl) (by kernel_rfl) ⟨3,by kernel_rfl⟩ (by kernel_rfl) (by kernel_rfl) (fun σ a0 a1 a2 => zs2 _ _ σ a0 a1 a2)
theorem zni : ToldOk Tryz.prog 30 (zi9 Tryz.prog (.insert 23)) := zbi znj
theorem zn6 : ∀ args es,qw 1 8 args = some es → ∀ pargs,VFs args pargs → ∀ n,∃ p τ,jo cfg 80 pargs (.at_ n) = some (p,τ) ∧ p.own = true ∧ wn τ n = true ∧ n ≤ τ.next ∧ hdl p = true ∧ KOR (fun _ => .undef) 0 τ p (.made true 1 es) ∧ ∀ i ∈ tops p,n ≤ i := by
 intro args es h pargs ha n
 unfold qw at h
 split at h
 ·rename_i b es0
  split at h
  ·rename_i hc
   cases h
   obtain ⟨h1,h2,h3⟩ := hc
   have hu : Tryz.prog.underlying 24 = some (.slice 3) := by kernel_rfl
   have E : El Tryz.prog 3 1 8 := ⟨by kernel_rfl,by kernel_rfl,⟨.int .i64 0,by kernel_rfl,rfl,rfl⟩,by decide,by decide⟩
   have hb : zch Tryz.prog .eql 24 .nilsl .nilsl = some (.bool true) := by kernel_rfl
   have hb2 : ∀ b es,zch Tryz.prog .eql 24 (.psl b es) .nilsl = some (.bool false) := by intro b es; kernel_rfl
   have hbs : ∀ σ,j4 Tryz.prog σ 24 0 [] = some (.lsl σ.next 1 0 0 (some 0),σ.push (.cells 0 [])) := by intro σ; kernel_rfl
   cases ha with
   | cons hv ht =>
     cases ht
     rename_i p0
     have ev := ybf (jo cfg) (zbw cfg) (.at_ n) p0
     rcases (VK.fr (ρ := fun _ => .undef) (m := 0) hv).psl_inv with ⟨rfl,rfl⟩ | ⟨b',ps,rfl,hps⟩
     ·simp only [hb,zb,ze,if_true] at ev
      exact ⟨_,_,jr rfl ev,rfl,ju n,Nat.le_refl _,rfl,⟨by decide,rfl,.inl ⟨rfl,rfl⟩⟩,fun i hi => by cases hi⟩
     ·have hpl := j3 hps h1
      have hE := rowsPl_els.1 hpl
      have hq : IsQ ((Store.at_ n).push (.cells 0 [])) 1 (.psl b' ps) ps := .inl (.inr ⟨b',rfl⟩)
      simp only [hb2,zb,ze,Bool.false_eq_true,if_false,hbs,jw hu hu hq.nostr] at ev
      by_cases hn : ps = []
      ·subst hn
       rw [wh E hq.elems] at ev
       have he : es = [] := List.eq_nil_of_length_eq_zero (by rw [hps.len]; rfl)
       subst he
       exact ⟨_,_,jr rfl ev,rfl,x8 (ju n) (Nat.le_refl _) rfl,Nat.le_succ _,rfl,⟨by decide,rfl,.inr ⟨n,some 0,0,[],[],rfl,xx _ _,.nil,.inr rfl,rfl,fun _ => rfl,Nat.lt_succ_self _⟩⟩,fun i hi => by rw [List.mem_singleton.1 hi]; exact Nat.le_refl _⟩
      ·rw [zak E hq.elems hE.all1 hn (xx _ _) (Nat.le_refl _) (by rw [Nat.zero_add,← hps.len]; exact h3)] at ev
       refine ⟨_,_,jr rfl ev,rfl,x8 (x8 (ju n) (Nat.le_refl _) rfl) (Nat.le_succ _) (by simpa using hps.own1 h1 h2),Nat.le_succ_of_le (Nat.le_succ _),rfl,⟨by decide,h1,.inr ⟨n + 1,none,0,ps,[],by rw [Nat.zero_add,hps.len]; rfl,by rw [List.append_nil]; exact xx _ _,hps,.inl rfl,rfl,fun _ => rfl,Nat.lt_succ_self _⟩⟩,fun i hi => by rw [List.mem_singleton.1 hi]; exact Nat.le_succ _⟩
  ·cases h
 ·cases h
theorem zwm (C : x6) (L : vq) (σ : Store) (a0 : PV) (a1 : Int) (a2 : PV) : zhd zom C L 98 [a0,.int .i64 a1,a2] σ = zcb zom C 24 3 144 145 σ a0 a1 a2 := by kernel_rfl
theorem zpo : InsRuns Tryz.prog 24 (jo zom) 98 :=
 zct (cfg := zom) (ti := 3) (ov := 144) (rot := 145) (ov_t := 24) (κ := .i64) (el' := 3) (by kernel_rfl) (by kernel_rfl) (fun _ => rfl) (by kernel_rfl) (by kernel_rfl) ⟨1,by kernel_rfl⟩ (by kernel_rfl) (by kernel_rfl) (fun σ a0 a1 a2 => zwm _ _ σ a0 a1 a2)
theorem zpn : ToldOk Tryz.prog 98 (zi9 Tryz.prog (.insert 24)) := zbi zpo
theorem z4s : ∀ f u,zhc f = some u → ToldOk Tryz.prog f (zi9 Tryz.prog u) := by
 intro f u h
 unfold zhc at h
 split at h
 all_goals first | (cases h; done) | (cases h; first | exact znk | exact znm | exact zni | exact zpn | exact zyn)
theorem hT : Tolds cfg := fun f g h => by
 have h' : (zhc f).map (zi9 Tryz.prog) = some g := h
 rw [Option.map_eq_some_iff] at h'
 obtain ⟨u,hu,rfl⟩ := h'
 exact z4s f u hu
theorem ownOk : OwnOk y9 Tryz.prog (jo cfg) where
 own := by
  intro g sz h hg args es he
  have hg' : z20 g = some (sz,h) := hg
  unfold z20 at hg'
  split at hg'
  all_goals first | (cases hg'; done) | (cases hg'; first | exact zl6 args es he | exact zl7 args es he | exact zl5 args es he | exact zn6 args es he)
 told := fun g u hu args σ => ztt (by show (zhc g).map (zi9 Tryz.prog) = _; rw [show zhc g = some u from hu]; rfl) args σ
end Go.Pvm.S
