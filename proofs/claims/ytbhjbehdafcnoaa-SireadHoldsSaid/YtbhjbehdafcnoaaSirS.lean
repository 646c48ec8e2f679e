/- Part of the proof: locks: what is laid in, and copies. -/
import Derived.Test.YtbhjbehdafcnoaaSirB
import Derived.Test.YtbhjbehdafcnoaaP5
set_option linter.unusedSimpArgs false
set_option linter.unusedVariables false
set_option maxRecDepth 100000
namespace Go.Pvm.S
open Go.Pvm Go.Proofs
/-! A copy is its own. -/
theorem cloneLock_own : ∀ args es, cloneK 4 32 args = some es → ∀ pargs, VFs args pargs → ∀ n, ∃ p τ, callω cfg 46 pargs (.at_ n) = some (p, τ) ∧ p.own = true ∧ ownObjs τ n = true ∧ n ≤ τ.next ∧ hdl p = true ∧ KOR (fun _ => .undef) 0 τ p (.made true 4 es) ∧ ∀ i ∈ tops p, n ≤ i := by
  intro args es h pargs ha n
  unfold cloneK at h
  split at h
  · rename_i b es0
    split at h
    · rename_i hc
      cases h
      obtain ⟨h1, h2, h3⟩ := hc
      have hu : Try.prog.underlying 22 = some (.slice 46) := by kernel_rfl
      have E : El Try.prog 46 4 32 := ⟨by kernel_rfl, by kernel_rfl, ⟨.agg [.int .i64 0, .int .i64 0, .float .f64 0, .int .i64 0], by kernel_rfl, rfl, rfl⟩, by decide, by decide⟩
      have hb : binv Try.prog .eql 22 .nilsl .nilsl = some (.bool true) := by kernel_rfl
      have hb2 : ∀ b es, binv Try.prog .eql 22 (.psl b es) .nilsl = some (.bool false) := by intro b es; kernel_rfl
      have hbs : ∀ σ, buildSlv Try.prog σ 22 0 [] = some (.lsl σ.next 4 0 0 (some 0), σ.push (.cells 0 [])) := by intro σ; kernel_rfl
      cases ha with
      | cons hv ht =>
        cases ht
        rename_i p0
        have ev := eq46 (callω cfg) (loopω cfg) (.at_ n) p0
        rcases (VK.fr (ρ := fun _ => .undef) (m := 0) hv).psl_inv with ⟨rfl, rfl⟩ | ⟨b', ps, rfl, hps⟩
        · simp only [hb, bind_some', asBool_bool, if_true] at ev
          exact ⟨_, _, callω_ofK rfl ev, rfl, ownObjs_at n, Nat.le_refl _, rfl, ⟨by decide, rfl, .inl ⟨rfl, rfl⟩⟩, fun i hi => by cases hi⟩
        · have hpl := rowsPl_p hps h1
          have hE := rowsPl_els.1 hpl
          have hq : IsQ ((Store.at_ n).push (.cells 0 [])) 4 (.psl b' ps) ps := .inl (.inr ⟨b', rfl⟩)
          simp only [hb2, bind_some', asBool_bool, Bool.false_eq_true, if_false, hbs, writeB_append hu hu hq.nostr] at ev
          by_cases hn : ps = []
          · subst hn
            rw [appendv_none E hq.elems] at ev
            have he : es = [] := List.eq_nil_of_length_eq_zero (by rw [hps.len]; rfl)
            subst he
            exact ⟨_, _, callω_ofK rfl ev, rfl, ownObjs_push (ownObjs_at n) (Nat.le_refl _) rfl, Nat.le_succ _, rfl, ⟨by decide, rfl, .inr ⟨n, some 0, 0, [], rfl, push_obj _ _, .nil, .inr rfl, Nat.le_refl _, fun _ => rfl, Nat.lt_succ_self _⟩⟩, fun i hi => by rw [List.mem_singleton.1 hi]; exact Nat.le_refl _⟩
          · rw [appendv_full E hq.elems hE.all1 hn (push_obj _ _) (Nat.le_refl _) (by rw [Nat.zero_add, ← hps.len]; exact h3)] at ev
            refine ⟨_, _, callω_ofK rfl ev, rfl, ownObjs_push (ownObjs_push (ownObjs_at n) (Nat.le_refl _) rfl) (Nat.le_succ _) (by simpa using hps.own1 h1 h2), Nat.le_succ_of_le (Nat.le_succ _), rfl, ⟨by decide, h1, .inr ⟨n + 1, none, 0, _, by rw [Nat.zero_add, hps.len]; rfl, push_obj _ _, by simpa using hps, .inl rfl, Nat.zero_le _, fun _ => rfl, Nat.lt_succ_self _⟩⟩, fun i hi => by rw [List.mem_singleton.1 hi]; exact Nat.le_succ _⟩
    · cases h
  · cases h

theorem insLock_eq (C : CallO) (L : LoopO) (σ : Store) (a0 : PV) (a1 : Int) (a2 : PV) : stepK cfgI C L 70 [a0, .int .i64 a1, a2] σ = insBody cfgI C 22 3 75 76 σ a0 a1 a2 := by kernel_rfl
theorem insLock_runs : InsRuns Try.prog 22 (callω cfgI) 70 :=
  insRuns_of (cfg := cfgI) (ti := 3) (ov := 75) (rot := 76) (ov_t := 22) (κ := .i64) (el' := 46) (by kernel_rfl) (by kernel_rfl) (fun _ => rfl) (by kernel_rfl) (by kernel_rfl) ⟨4, by kernel_rfl⟩ (by kernel_rfl) (by kernel_rfl) (fun σ a0 a1 a2 => insLock_eq _ _ σ a0 a1 a2)
theorem insLock_told : ToldOk Try.prog 70 (wordv Try.prog (.insert 22)) := insert_told insLock_runs

end Go.Pvm.S
