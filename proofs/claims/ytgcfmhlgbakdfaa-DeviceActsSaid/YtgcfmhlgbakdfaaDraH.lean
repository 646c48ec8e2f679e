/- Part of the proof: the law of any acts. -/
import Derived.Test.YtgcfmhlgbakdfaaDraG
set_option linter.unusedSimpArgs false
set_option linter.unusedVariables false
set_option maxRecDepth 100000
namespace Go.Pvm.S
open Go.Pvm Go.Proofs
theorem Sim.new (P : Nat) : Sim (Dv.new P) (Rf.new P) := ⟨rfl, rfl, rfl, rfl, rfl, rfl, fun u hu => by cases hu⟩
theorem nilNil : binv Try.prog .eql 24 .nilptr .nilptr = some (.bool true) := by kernel_rfl
theorem spActs (n : Int) {l : List Ac} {y : PV} (hv : VF (.psl false (l.map Ac.e)) y) (hl : l.length < 4611686018427387904) (hq : ∀ a ∈ l, Aok a) : ∃ τ, callω cfg 6 [.int .i64 n, y] .empty = some (.bool true, τ) := by
  have hy := VF.acts hv
  have ev := eq6 (callω cfg) (loopω cfg) .empty n y
  by_cases c1 : n < 1
  · have c0 : callE cfg (callω cfg) 7 [.int .i64 n] .empty = some (.tuple [.nilptr, .int .i64 1], .empty) := by rw [callE_live rfl (by kernel_rfl)]; exact spNewNo (.inl c1) _
    have e1 : ((1 : Int) == 1) = true := by decide
    simp only [c0, bind_some', tupv_0, tupv_1, asInt_int, decide_eq_true c1, if_true, e1, nilNil, asBool_bool, cEAwake (c2 := cfg) rfl rfl] at ev
    exact ⟨_, callω_ofK (hT _) ev⟩
  by_cases c2 : 64 < n
  · have c0 : callE cfg (callω cfg) 7 [.int .i64 n] .empty = some (.tuple [.nilptr, .int .i64 1], .empty) := by rw [callE_live rfl (by kernel_rfl)]; exact spNewNo (.inr c2) _
    have e1 : ((1 : Int) == 1) = true := by decide
    simp only [c0, bind_some', tupv_0, tupv_1, asInt_int, decide_eq_false c1, Bool.false_eq_true, if_false, decide_eq_true (show n > 64 from c2), if_true, e1, nilNil, asBool_bool, cEAwake (c2 := cfg) rfl rfl] at ev
    exact ⟨_, callω_ofK (hT _) ev⟩
  have hn : n = ((n.toNat : Nat) : Int) := by omega
  generalize n.toNat = P at hn
  subst hn
  obtain ⟨g1, S1, a1, a2, a3⟩ := spNew (P := P) (by omega) (fun _ => 7) .empty
  have i0 := Inv.new (P := P) (by omega)
  have c0 : callE cfg (callω cfg) 7 [.int .i64 (P : Nat)] .empty = some (.tuple [.ref (Store.empty.next + 2) 0 0, .int .i64 0], S1) := by rw [callE_live rfl (by kernel_rfl)]; exact a1
  generalize Store.empty.next + 2 = id at a2 c0
  have e0 : ((0 : Int) != 0) = false := by decide
  obtain ⟨b, hb⟩ := spLight l hl
  obtain ⟨pb, k1, k2⟩ := callK (c2 := cfg) rfl rfl (by kernel_rfl) hb (.cons hv .nil) (fun σ => fz_plains (pl1 (VF.pl hv rfl)) 7 σ) (lfsPl (pl1 (VF.pl hv rfl))) S1
  rw [k2.base_eq rfl] at k1
  have pg := cEPages (c2 := cfg) rfl rfl a2 i0.pl i0.hP.2
  have pb : (((P : Nat) : Int) == ((P : Nat) : Int)) = true := by simp
  simp only [c0, bind_some', tupv_0, tupv_1, asInt_int, decide_eq_false c1, Bool.false_eq_true, if_false, decide_eq_false (show ¬ ((P : Nat) : Int) > 64 from c2), e0, neNilL, asBool_bool, k1] at ev
  cases b with
  | false =>
    simp only [Bool.not_false, if_true, pg, bind_some', asInt_int, pb, cEAwake (c2 := cfg) rfl rfl, asBool_bool] at ev
    exact ⟨_, callω_ofK (hT _) ev⟩
  | true =>
    rw [if_neg (by decide)] at ev
    by_cases c3 : ((P : Nat) : Int) > 4
    · simp only [decide_eq_true c3, if_true, pg, bind_some', asInt_int, pb, cEAwake (c2 := cfg) rfl rfl, asBool_bool] at ev
      exact ⟨_, callω_ofK (hT _) ev⟩
    · rw [if_neg (by simpa using c3)] at ev
      obtain ⟨p, m1, m2⟩ := callK (c2 := cfg) rfl rfl (by kernel_rfl) (spRNew (P := P) (by omega)) (.cons (.base _ rfl) .nil) (fun σ => fz_plains (pl1 rfl) 7 σ) (lfsPl (pl1 rfl)) S1
      obtain ⟨cs, rfl, hc⟩ := RC.of m2
      have hg : ∀ i, i < S1.next → tag g1 S1.next 8 i = g1 i := fun i hi => tag_old hi
      have o1 : (S1.push (.cells 0 [[.nilsl, .int .i64 0, .nilsl, .nilsl, .int .i64 0, .nilsl, .nilsl, .bool false, .int .i64 0]])).objs S1.next = some (.cells 0 [[.nilsl, .int .i64 0, .nilsl, .nilsl, .int .i64 0, .nilsl, .nilsl, .bool false, .int .i64 0]]) := push_obj _ _
      have x1 := ((a2.retag hg).push (.cells 0 [[.nilsl, .int .i64 0, .nilsl, .nilsl, .int .i64 0, .nilsl, .nilsl, .bool false, .int .i64 0]])).mod (Mod.put (σ := S1.push (.cells 0 [[.nilsl, .int .i64 0, .nilsl, .nilsl, .int .i64 0, .nilsl, .nilsl, .bool false, .int .i64 0]])) (id := S1.next) (o := .cells 0 [cs]) (ids := [S1.next]) (.head _)) fun j hj _ => by
        rw [List.mem_singleton.1 hj, tag_new (Nat.le_refl _)]; decide
      have s1 := stAgg (e' := cs) szRDev o1 rfl hc.ln (ones_plain hc.pl)
      have hLI : LI P id S1.next 0 (tag g1 S1.next 8) ((S1.push (.cells 0 [[.nilsl, .int .i64 0, .nilsl, .nilsl, .int .i64 0, .nilsl, .nilsl, .bool false, .int .i64 0]])).put S1.next (.cells 0 [cs])) (Dv.new P) (Rf.new P) cs :=
        ⟨x1, Sim.new P, hc, i0.mono (by omega), Nat.le_refl _, put_obj _ _ _, tag_new (Nat.le_refl _), Nat.lt_succ_self _⟩
      obtain ⟨τ, l1⟩ := lpActs (by omega) (by omega) hy hl hq 40 0 _ _ _ _ _ (by omega) hLI
      rw [natz] at l1
      simp only [m1, bind_some', s1, l1, onEx_exit, if_true, cEAwake (c2 := cfg) rfl rfl, asBool_bool] at ev
      exact ⟨_, callω_ofK (hT _) ev⟩
end Go.Pvm.S
