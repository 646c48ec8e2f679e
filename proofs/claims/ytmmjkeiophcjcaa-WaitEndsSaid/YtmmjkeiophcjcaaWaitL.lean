/- Part of the proof: the law of one wait more: what the program comes to. -/
import Derived.Test.YtmmjkeiophcjcaaWaitK
import Derived.Test.YtmmjkeiophcjcaaV24
set_option linter.unusedSimpArgs false
set_option linter.unusedVariables false
set_option maxRecDepth 100000
namespace Go.Pvm.Wait
open Go.Pvm Go.Proofs

theorem refAdd_eq {l : List W} {a b : Int} (hc : check l = true) (ha : inR a = true) (hb : inR b = true) : addW l a b = refAdd l a b := by
  unfold addW refAdd
  rw [if_pos hc, if_pos ⟨ha, hb⟩]
  cases hat : at_ l a with
  | some j => rw [((has_at a l).1 j hat).1, if_neg (by simp), if_pos rfl]
  | none => rw [(has_at a l).2 hat]; simp
theorem check_add {l : List W} {a b : Int} (hc : check l = true) (ha : inR a = true) (hb : inR b = true) : check (addW l a b).1 = true := by
  unfold addW
  rw [if_pos hc, if_pos ⟨ha, hb⟩]
  by_cases hat : at_ l a = none
  · rw [if_pos hat]
    by_cases hle : leads l b a = true
    · rw [if_pos hle]; exact hc
    · rw [if_neg hle]
      by_cases h64 : l.length = 64
      · rw [if_pos h64]; exact hc
      · rw [if_neg h64]
        exact (good_iff _).2 (good_add ((good_iff _).1 hc) ha hb hat (by simpa using hle) h64)
  · rw [if_neg hat]; exact hc

section
variable {v : PV} {l : List W} {σ : Store}
theorem sp4 (h : IsW v l) (a b : Int) (hl : l.length < 4611686018427387904) : ∃ σ', callω cfg 4 [v, .int .i64 a, .int .i64 b] .empty = some (.bool true, σ') := by
  have ev := eq4 (callω cfg) (loopω cfg) .empty v a b
  simp only [h.len, bind_some', asInt_int, cE7, asBool_bool] at ev
  by_cases h70 : ((l.length : Nat) : Int) > 70
  · simp only [h70, decide_true, if_true] at ev
    exact ⟨_, callω_ofK hT ev⟩
  · obtain ⟨v1, h1, i1⟩ := cE6 h a b hl .empty
    simp only [h70, decide_false, Bool.false_eq_true, if_false, h1, bind_some', tupv_0, tupv_1, asInt_int, asBool_bool, cE8 (c2 := cfg) rfl rfl h hl, cE9 (c2 := cfg) rfl rfl h hl, i1.len, cE10 (c2 := cfg) rfl rfl] at ev
    cases hc : check l with
    | false =>
      have ha : addW l a b = ([], 1) := by unfold addW; rw [hc]; rfl
      rw [ha] at ev
      simp [hc] at ev
      exact ⟨_, callω_ofK hT ev⟩
    | true =>
      cases ha : inR a with
      | false =>
        have ha' : addW l a b = ([], 1) := by unfold addW; rw [hc, ha]; rfl
        rw [ha'] at ev
        simp [hc, ha] at ev
        exact ⟨_, callω_ofK hT ev⟩
      | true =>
        cases hb : inR b with
        | false =>
          have ha' : addW l a b = ([], 1) := by unfold addW; rw [hc, ha, hb]; rfl
          rw [ha'] at ev
          simp [hc, ha, hb] at ev
          exact ⟨_, callω_ofK hT ev⟩
        | true =>
          obtain ⟨v2, h2, i2⟩ := cE11 h a b (by have := check_len hc; omega) .empty
          have hck := check_add hc ha hb
          rw [← refAdd_eq hc ha hb] at h2 i2
          have hl1 : (addW l a b).1.length < 4611686018427387904 := by have := check_len hck; omega
          simp only [hc, ha, hb, h2, bind_some', tupv_0, tupv_1, asInt_int, asBool_bool, cE12 (c2 := cfg) rfl rfl i1 i2 hl1 hl1, cE12 (c2 := cfg) rfl rfl h i1 hl hl1, cE13 (c2 := cfg) rfl rfl h i1 hl hl1, cE9 (c2 := cfg) rfl rfl i1 hl1, hck, if_true, beq_self_eq_true, decide_true, Bool.not_true, Bool.false_eq_true, if_false] at ev
          exact ⟨_, callω_ofK hT ev⟩
end
/-- What a row's argument is: a list of waits. -/
theorem wt_list {n : Nat} (es : List (List PV)) (h : ∀ c ∈ es, c.length = Try.prog.cellsOf 38 ∧ WT Try.prog false n 38 c) : ∃ l : List W, es = l.map cW := by
  obtain ⟨l, hl, _⟩ := each_map (enc := cW) (Q := fun _ => True) es fun c hc => by
    have ht : structTys Try.prog 38 = some [3, 3] := by kernel_rfl
    obtain ⟨m, parts, rfl, hp, hf⟩ := wt_fields ht (h c hc).2
    have h3 : Try.prog.underlying 3 = some (.int .i64) := by kernel_rfl
    match parts, hp with
    | [p, q], _ =>
      obtain ⟨_, h1⟩ := hf 0 _ p rfl rfl
      obtain ⟨_, h2⟩ := hf 1 _ q rfl rfl
      obtain ⟨x, rfl, _⟩ := wt_int h3 h1
      obtain ⟨y, rfl, _⟩ := wt_int h3 h2
      exact ⟨(x, y), rfl, trivial⟩
  exact ⟨l, hl⟩
end Go.Pvm.Wait
