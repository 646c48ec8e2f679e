/- Part of the proof: the law of lines of waits: what the program comes to. -/
import Derived.Test.YtmmjkeiophcjcaaWaitD
set_option linter.unusedSimpArgs false
set_option linter.unusedVariables false
set_option maxRecDepth 100000
namespace Go.Pvm.Wait
open Go.Pvm Go.Proofs

theorem callE_pureR {cfg c2 : Cfg} {f : FuncId} {args args' : List PV} {σ : Store} {v : PV} (hm : c2.mode f = .pure) (hst : c2.strict = false) (he : enters c2.P f = true) (ha : args.map (fz fuelFz σ) = args') (hv : pureω cfg f args' = some v)
    (hr : ∃ σ', roAll (tops.topss args) σ = some σ') : ∃ σ', callE c2 (callω cfg) f args σ = some (v, σ') := by
  obtain ⟨σ1, hr⟩ := hr
  unfold callE callv
  rw [if_pos he, hm]
  simp only
  unfold pureω at hv
  rw [Option.map_eq_some_iff] at hv
  obtain ⟨⟨u, τ⟩, h1, h2⟩ := hv
  rw [ha, h1]
  simp only [Option.bind_some] at h2 ⊢
  rw [h2]
  by_cases hsc : v.scalar = true
  · exact ⟨σ, by rw [if_pos hsc]⟩
  · exact ⟨σ1, by rw [if_neg hsc, hst, hr]; rfl⟩

section
variable {v : PV} {l : List W} {σ : Store}
theorem lp3 {n : Nat} (hn : n ≤ 63) (a1 : Int) : ∀ (r j : Nat) (v : PV) (σ : Store), j + r = n → IsW v (chain j) →
    ∃ v', loopω cfg 3 lc3_4 (st3_4 a1 (n : Nat) v ((j + 1 : Nat) : Int)) σ = some (.exit 0, out3_4 a1 (n : Nat) v', σ) ∧ IsW v' (chain n)
  | 0, j, v, σ, hj, h => by
    refine ⟨v, loopω_ofK ((lq3_4 _ _ _ _ _ _ _).trans ?_), by rw [show n = j by omega]; exact h⟩
    have : ¬ ((j + 1 : Nat) : Int) ≤ (n : Nat) := by omega
    simp only [this, decide_false, Bool.false_eq_true, if_false]
  | r + 1, j, v, σ, hj, h => by
    have hle : ((j + 1 : Nat) : Int) ≤ (n : Nat) := by omega
    have hwr : IntKind.wrap .i64 (((j + 1 : Nat) : Int) + 1) = ((j + 2 : Nat) : Int) := by rw [wrap_i64 (by omega) (by omega)]; rfl
    obtain ⟨v1, h1, i1⟩ := cE6 h ((j + 1 : Nat) : Int) ((j + 2 : Nat) : Int) (by rw [chain_len]; omega) σ
    rw [add_chain (by omega)] at h1 i1
    obtain ⟨v2, h2, i2⟩ := lp3 hn a1 r (j + 1) v1 σ (by omega) i1
    refine ⟨v2, loopω_ofK ((lq3_4 _ _ _ _ _ _ _).trans ?_), i2⟩
    simp only [hle, decide_true, if_true, hwr, h1, bind_some', tupv_0, tupv_1, asInt_int, bne_self_eq_false, Bool.false_eq_true, if_false]
    exact h2

theorem sp3 {a0 a1 : Int} (h0 : 0 ≤ a0 ∧ a0 ≤ 255) (h1 : 0 ≤ a1 ∧ a1 ≤ 255) : ∃ σ', callω cfg 3 [.int .u8 a0, .int .u8 a1] .empty = some (.bool true, σ') := by
  have ev := eq3 (callω cfg) (loopω cfg) .empty a0 a1
  obtain ⟨x, rfl⟩ := Int.eq_ofNat_of_zero_le h0.1
  obtain ⟨y, rfl⟩ := Int.eq_ofNat_of_zero_le h1.1
  have e1 : IntKind.wrap .i64 (1 + IntKind.wrap .i64 (Int.tmod ((x : Nat) : Int) 63)) = ((1 + x % 63 : Nat) : Int) := by
    have : Int.tmod ((x : Nat) : Int) 63 = ((x % 63 : Nat) : Int) := by rw [Int.tmod_eq_emod_of_nonneg (by omega)]; omega
    rw [this, wrap_i64 (x := ((x % 63 : Nat) : Int)) (by omega) (by omega), wrap_i64 (by omega) (by omega)]
    omega
  generalize hn : 1 + x % 63 = n at e1
  have hn1 : 1 ≤ n ∧ n ≤ 63 := by omega
  -- the first round, over a slice in the store
  let σ0 : Store := Store.push .empty (.cells 0 [])
  have hfr : fz fuelFz σ0 (.lsl Store.empty.next 2 0 0 (some 0)) = .psl true [] := by
    have := frz_lsl (σ := σ0) (id := Store.empty.next) (sz := 2) (idx := 0) (len := 0) (cap := some 0) (push_new Store.empty (.cells 0 [])) (Nat.le_refl _) 7
    exact this
  obtain ⟨v1, p1, i1⟩ := sp6 (v := .psl true []) (l := []) (.inr ⟨true, rfl⟩) 1 2 (by simp)
  have a1' : addW [] 1 2 = (chain 1, 0) := add_chain (k := 0) (by omega)
  rw [a1'] at p1 i1
  obtain ⟨σ1, c1⟩ := callE_pureR (c2 := cfg) (f := 6) (args := [.lsl Store.empty.next 2 0 0 (some 0), .int .i64 1, .int .i64 2]) (σ := σ0) rfl rfl en6 (by simp only [List.map_cons, List.map_nil, hfr, frz_int]) p1 (by
    refine ⟨σ0.put 0 (.cells 0 []), ?_⟩
    have : tops.topss [.lsl Store.empty.next 2 0 0 (some 0), .int .i64 1, .int .i64 2] = [0] := rfl
    rw [this]
    have ho : σ0.objs 0 = some (.cells 0 []) := push_new Store.empty (.cells 0 [])
    simp only [roAll, ho]
    rfl)
  obtain ⟨v2, l2, i2⟩ := lp3 hn1.2 (y : Nat) (n - 1) 1 v1 σ1 (by omega) i1
  have first : loopω cfg 3 lc3_4 (st3_4 (y : Nat) (n : Nat) (.lsl Store.empty.next 2 0 0 (some 0)) 1) σ0 = some (.exit 0, out3_4 (y : Nat) (n : Nat) v2, σ1) := by
    refine loopω_ofK ((lq3_4 _ _ _ _ _ _ _).trans ?_)
    have hle : (1 : Int) ≤ ((n : Nat) : Int) := by omega
    have hwr : IntKind.wrap .i64 ((1 : Int) + 1) = 2 := by rw [wrap_i64 (by omega) (by omega)]; rfl
    simp only [hle, decide_true, if_true, hwr, c1, bind_some', tupv_0, tupv_1, asInt_int, bne_self_eq_false, Bool.false_eq_true, if_false]
    exact l2
  have w1 : IntKind.wrap .i64 ((y : Nat) : Int) = ((y : Nat) : Int) := wrap_i64 (by omega) (by omega)
  have w2 : IntKind.wrap .i64 (((n : Nat) : Int) + 1) = ((n + 1 : Nat) : Int) := by rw [wrap_i64 (by omega) (by omega)]; rfl
  have w3 : IntKind.wrap .i64 (((n : Nat) : Int) + 2) = ((n + 2 : Nat) : Int) := by rw [wrap_i64 (by omega) (by omega)]; rfl
  have hrem : binv Try.prog .rem 3 (.int .i64 ((y : Nat) : Int)) (.int .i64 ((n + 1 : Nat) : Int)) = some (.int .i64 ((y % (n + 1) : Nat) : Int)) := by
    have ht : Int.tmod ((y : Nat) : Int) ((n + 1 : Nat) : Int) = ((y % (n + 1) : Nat) : Int) := by
      rw [Int.tmod_eq_emod_of_nonneg (by omega)]; omega
    have hz : ¬ (((n + 1 : Nat) : Int) = 0) := by omega
    simp only [binv, arith, if_true, hz, if_false, ht]
  have hmod : y % (n + 1) < n + 1 := Nat.mod_lt _ (by omega)
  have w4 : IntKind.wrap .i64 (1 + ((y % (n + 1) : Nat) : Int)) = ((1 + y % (n + 1) : Nat) : Int) := by rw [wrap_i64 (by omega) (by omega)]; omega
  obtain ⟨v3, h3, i3⟩ := cE6 i2 ((n + 1 : Nat) : Int) ((1 + y % (n + 1) : Nat) : Int) (by rw [chain_len]; omega) σ1
  rw [add_cycle hn1.2 (by omega) (by omega)] at h3
  obtain ⟨v4, h4, i4⟩ := cE6 i2 ((n + 1 : Nat) : Int) ((n + 2 : Nat) : Int) (by rw [chain_len]; omega) σ1
  rw [add_chain hn1.2] at h4
  simp only [bs0, bind_some', e1] at ev
  rw [show Store.push Store.empty (.cells 0 []) = σ0 from rfl, first] at ev
  simp only [bind_some', onEx_exit, out3_4_1, out3_4_5, out3_4_6, asInt_int, w1, w2, w3, hrem, w4, h3, h4, tupv_0, tupv_1, if_true, beq_self_eq_true, cE7, asBool_bool] at ev
  exact ⟨_, callω_ofK hT ev⟩
end
end Go.Pvm.Wait
