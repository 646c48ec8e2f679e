/- Part of the proof: the pool's seat: what is told, what is a copy of its own. -/
import Derived.Test.YtceokplopachgaaLaysKeys
import Derived.Test.YtceokplopachgaaKL
import Derived.Test.YtceokplopachgaaEqK1
import Derived.Test.YtceokplopachgaaEqK2
import Derived.Test.YtceokplopachgaaEqK3
import Derived.Test.YtceokplopachgaaDevMa
set_option linter.unusedSimpArgs false
set_option linter.unusedVariables false
set_option maxRecDepth 100000
namespace Go.Pvm.S
open Go.Pvm Go.Proofs
theorem zh2 : ∀ args es,zdo 3 16 args = some es → ∀ pargs,VFs args pargs → ∀ n,∃ p τ,ze cfg 83 pargs (.at_ n) = some (p,τ) ∧ p.own = true ∧ qu τ n = true ∧ n ≤ τ.next ∧ hdl p = true ∧ KOR (fun _ => .undef) 0 τ p (.made true 3 es) ∧ ∀ i ∈ tops p,n ≤ i := by
 intro args es h pargs ha n
 unfold zdo at h
 split at h
 ·rename_i b es0
  split at h
  ·rename_i hc
   cases h
   obtain ⟨h1,h2,h3⟩ := hc
   have hu : Try.prog.underlying 44 = some (.slice 103) := by kernel_rfl
   have E : El Try.prog 103 3 16 := ⟨by kernel_rfl,by kernel_rfl,⟨.agg [.int .i64 0,.bool false,.bool false],by kernel_rfl,rfl,rfl⟩,by decide,by decide⟩
   have hb : j9 Try.prog .eql 44 .nilsl .nilsl = some (.bool true) := by kernel_rfl
   have hb2 : ∀ b es,j9 Try.prog .eql 44 (.psl b es) .nilsl = some (.bool false) := by intro b es; kernel_rfl
   have hbs : ∀ σ,xt Try.prog σ 44 0 [] = some (.lsl σ.next 3 0 0 (some 0),σ.push (.cells 0 [])) := by intro σ; kernel_rfl
   cases ha with
   | cons hv ht =>
     cases ht
     rename_i p0
     have ev := z0i (ze cfg) (y2 cfg) (.at_ n) p0
     rcases (VK.fr (ρ := fun _ => .undef) (m := 0) hv).psl_inv with ⟨rfl,rfl⟩ | ⟨b',ps,rfl,hps⟩
     ·simp only [hb,za,zc,if_true] at ev
      exact ⟨_,_,zf rfl ev,rfl,j6 n,hah _,rfl,⟨by decide,rfl,.inl ⟨rfl,rfl⟩⟩,fun i hi => by cases hi⟩
     ·have hpl := jv hps h1
      have hE := rowsPl_els.1 hpl
      have hq : IsQ ((Store.at_ n).push (.cells 0 [])) 3 (.psl b' ps) ps := .inl (.inr ⟨b',rfl⟩)
      simp only [hb2,za,zc,Bool.false_eq_true,if_false,hbs,j5 hu hu hq.nostr] at ev
      by_cases hn : ps = []
      ·subst hn
       rw [wj E hq.elems] at ev
       have he : es = [] := ha1 (by rw [hps.len]; rfl)
       subst he
       exact ⟨_,_,zf rfl ev,rfl,x7 (j6 n) (hah _) rfl,hbd _,rfl,⟨by decide,rfl,.inr ⟨n,some 0,0,[],[],rfl,zn _ _,.nil,.inr rfl,rfl,fun _ => rfl,haw _⟩⟩,fun i hi => by rw [ham.1 hi]; exact hah _⟩
      ·rw [wl E hq.elems hE.all1 hn (zn _ _) (hah _) (by rw [hb4,← hps.len]; exact h3)] at ev
       refine ⟨_,_,zf rfl ev,rfl,x7 (x7 (j6 n) (hah _) rfl) (hbd _) (by simpa using hps.own1 h1 h2),Nat.le_succ_of_le (hbd _),rfl,⟨by decide,h1,.inr ⟨n + 1,none,0,ps,[],by rw [hb4,hps.len]; rfl,by rw [hbj]; exact zn _ _,hps,.inl rfl,rfl,fun _ => rfl,haw _⟩⟩,fun i hi => by rw [ham.1 hi]; exact hbd _⟩
  ·cases h
 ·cases h
theorem zh3 : ∀ args es,zdo 1 1 args = some es → ∀ pargs,VFs args pargs → ∀ n,∃ p τ,ze cfg 40 pargs (.at_ n) = some (p,τ) ∧ p.own = true ∧ qu τ n = true ∧ n ≤ τ.next ∧ hdl p = true ∧ KOR (fun _ => .undef) 0 τ p (.made true 1 es) ∧ ∀ i ∈ tops p,n ≤ i := by
 intro args es h pargs ha n
 unfold zdo at h
 split at h
 ·rename_i b es0
  split at h
  ·rename_i hc
   cases h
   obtain ⟨h1,h2,h3⟩ := hc
   have hu : Try.prog.underlying 33 = some (.slice 5) := by kernel_rfl
   have E : El Try.prog 5 1 1 := ⟨by kernel_rfl,by kernel_rfl,⟨.int .u8 0,by kernel_rfl,rfl,rfl⟩,by decide,by decide⟩
   have hb : j9 Try.prog .eql 33 .nilsl .nilsl = some (.bool true) := by kernel_rfl
   have hb2 : ∀ b es,j9 Try.prog .eql 33 (.psl b es) .nilsl = some (.bool false) := by intro b es; kernel_rfl
   have hbs : ∀ σ,xt Try.prog σ 33 0 [] = some (.lsl σ.next 1 0 0 (some 0),σ.push (.cells 0 [])) := by intro σ; kernel_rfl
   cases ha with
   | cons hv ht =>
     cases ht
     rename_i p0
     have ev := zzw (ze cfg) (y2 cfg) (.at_ n) p0
     rcases (VK.fr (ρ := fun _ => .undef) (m := 0) hv).psl_inv with ⟨rfl,rfl⟩ | ⟨b',ps,rfl,hps⟩
     ·simp only [hb,za,zc,if_true] at ev
      exact ⟨_,_,zf rfl ev,rfl,j6 n,hah _,rfl,⟨by decide,rfl,.inl ⟨rfl,rfl⟩⟩,fun i hi => by cases hi⟩
     ·have hpl := jv hps h1
      have hE := rowsPl_els.1 hpl
      have hq : IsQ ((Store.at_ n).push (.cells 0 [])) 1 (.psl b' ps) ps := .inl (.inr ⟨b',rfl⟩)
      simp only [hb2,za,zc,Bool.false_eq_true,if_false,hbs,j5 hu hu hq.nostr] at ev
      by_cases hn : ps = []
      ·subst hn
       rw [wj E hq.elems] at ev
       have he : es = [] := ha1 (by rw [hps.len]; rfl)
       subst he
       exact ⟨_,_,zf rfl ev,rfl,x7 (j6 n) (hah _) rfl,hbd _,rfl,⟨by decide,rfl,.inr ⟨n,some 0,0,[],[],rfl,zn _ _,.nil,.inr rfl,rfl,fun _ => rfl,haw _⟩⟩,fun i hi => by rw [ham.1 hi]; exact hah _⟩
      ·rw [wl E hq.elems hE.all1 hn (zn _ _) (hah _) (by rw [hb4,← hps.len]; exact h3)] at ev
       refine ⟨_,_,zf rfl ev,rfl,x7 (x7 (j6 n) (hah _) rfl) (hbd _) (by simpa using hps.own1 h1 h2),Nat.le_succ_of_le (hbd _),rfl,⟨by decide,h1,.inr ⟨n + 1,none,0,ps,[],by rw [hb4,hps.len]; rfl,by rw [hbj]; exact zn _ _,hps,.inl rfl,rfl,fun _ => rfl,haw _⟩⟩,fun i hi => by rw [ham.1 hi]; exact hbd _⟩
  ·cases h
 ·cases h
theorem zv4 : ∀ f u,zb5 f = some u → ToldOk Try.prog f (zef Try.prog u) := by
 intro f u h
 unfold zb5 at h
 split at h
 ·cases h; exact zry
 ·cases h; exact zng
 ·cases h; exact zss
 ·cases h
theorem hTs : zib cfg := fun f g h => by
 have h' : (zb5 f).map (zef Try.prog) = some g := h
 rw [hac] at h'
 obtain ⟨u,hu,rfl⟩ := h'
 exact zv4 f u hu
theorem zwp : OwnOk za5 Try.prog (ze cfg) where
 own := by
  intro g sz h hg args es he
  have hg' : zuq g = some (sz,h) := hg
  unfold zuq at hg'
  split at hg'
  all_goals first | (cases hg'; done) | (cases hg'; first | exact zh2 args es he | exact zh3 args es he)
 told := fun g u hu args σ => zda (by show (zb5 g).map (zef Try.prog) = _; rw [show zb5 g = some u from hu]; rfl) args σ
end Go.Pvm.S
