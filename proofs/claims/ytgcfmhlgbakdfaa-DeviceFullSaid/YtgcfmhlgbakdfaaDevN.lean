/- Part of the proof: how many bytes a stream takes. -/
import Derived.Test.YtgcfmhlgbakdfaaDevM
set_option linter.unusedSimpArgs false
set_option linter.unusedVariables false
set_option maxRecDepth 100000
namespace Go.Pvm.S
open Go.Pvm Go.Proofs
section
variable {σ : Store} {id : Nat} {g : Nat → Nat} {d : Dv}
/-- Noughts are appended. -/
theorem appZeros (h : DevS g σ id d) {T : Int} (hI : Inv 1 T d) (hT : T ≤ 900000000) (hts : d.ts.length ≤ 10) (n : Nat) (hn : n ≤ 65536) :
    ∃ g' τ, makeSlv Try.prog σ 30 (.int .i64 (n : Nat)) (.int .i64 (n : Nat)) = some (.lsl σ.next 1 0 n (some n), σ.push (.cells 0 (List.replicate n [.int .u8 0]))) ∧
      callE cfg (callω cfg) 15 [.ref id 0 0, .lsl σ.next 1 0 n (some n)] (σ.push (.cells 0 (List.replicate n [.int .u8 0]))) = some (.int .i64 (if n + d.seen.st.length ≤ 65536 then 0 else 10), τ) ∧
      DevS g' τ id (if n + d.seen.st.length ≤ 65536 then d.app (List.replicate n 0) else d) := by
  obtain ⟨x1, x2, x3⟩ := h.box (.cells 0 (List.replicate n [.int .u8 0]))
  have hq : QS RB (σ.push (.cells 0 (List.replicate n [.int .u8 0]))) 1 (.lsl σ.next 1 0 n (some n)) (List.replicate n (0 : UInt8)) := (AxS.fresh (All2.replicate (show RB [PV.int .u8 0] (0 : UInt8) from rfl) n) σ 1 (n := n) (by rw [List.length_replicate])).q
  have hlf : ∀ i ∈ tops (.lsl σ.next 1 0 n (some n)), Lf (σ.push (.cells 0 (List.replicate n [.int .u8 0]))) i := fun i hi => by
    rw [List.mem_singleton.1 hi]
    refine Lf.of (push_obj _ _) ?_
    rw [List.all_eq_true]
    intro e he
    rw [List.eq_of_mem_replicate he]
    rfl
  have hl : (List.replicate n (0 : UInt8)).length = n := List.length_replicate
  obtain ⟨g', τ, a1, a2, a3⟩ := spAppend x1 hq hlf (fun i hi => by rw [List.mem_singleton.1 hi, x3]; exact Nat.le_refl _) hI.hP hI.pl hI.st ⟨hI.bs.1, by have := hI.bs.2; omega⟩ hI.arm (by omega) (by rw [hl]; omega)
  rw [hl] at a1 a2
  exact ⟨g', τ, msB σ n (by omega), by rw [callE_live rfl (by kernel_rfl)]; exact a1, a2⟩
theorem tailFull (h : DevS g σ id d) {T : Int} (hI : Inv 1 T d) (hT : T ≤ 900000000) (hts : d.ts.length ≤ 10) (hb : d.seen.base = 0) (t : Nat) (ht : t < 65536) :
    ∃ τ τ' e base w l, callE cfg (callω cfg) 18 [.ref id 0 0, .int .i64 (t : Nat)] σ = some (.int .i64 e, τ) ∧ callE cfg (callω cfg) 17 [.ref id 0 0] τ = some (.tuple [.int .i64 base, w], τ') ∧ QS RB τ' 1 w l ∧
      ((d.seen.st.length < t ∧ e = 1 ∧ base = 0 ∧ l.length = d.seen.st.length) ∨ (t ≤ d.seen.st.length ∧ e = 0 ∧ base = ((t : Nat) : Int) ∧ l.length = d.seen.st.length - t)) := by
  obtain ⟨g', τ, a1, a2, a3⟩ := spTrim h hI.hP hI.pl hI.st ⟨hI.bs.1, by have := hI.bs.2; omega⟩ hI.arm (by omega) (place := (t : Nat)) (by omega)
  have c1 := fun e (h : callω cfg 18 [.ref id 0 0, .int .i64 (t : Nat)] σ = some (.int .i64 e, τ)) => (show callE cfg (callω cfg) 18 [.ref id 0 0, .int .i64 (t : Nat)] σ = some (.int .i64 e, τ) by rw [callE_live rfl (by kernel_rfl)]; exact h)
  by_cases hc : t ≤ d.seen.st.length
  · rw [if_pos (by omega)] at a1 a2
    have hs := (trim_seen d (t : Nat)).1
    have hst : (d.trim (t : Nat)).seen.st = d.seen.st.drop t ∧ (d.trim (t : Nat)).seen.base = (t : Nat) := by
      rw [hs]
      unfold Dk.turn
      simp [hb]
    have hst0 := hI.st
    obtain ⟨g2, τ2, w, z1, z2, _⟩ := spStream a2 (by rw [hst.1, List.length_drop]; omega)
    rw [hst.1] at z2
    rw [hst.2] at z1
    exact ⟨τ, τ2, _, _, w, _, c1 _ a1, by rw [callE_live rfl (by kernel_rfl)]; exact z1, z2, .inr ⟨hc, rfl, rfl, by rw [List.length_drop]⟩⟩
  · rw [if_neg (by omega)] at a1 a2
    have hst0 := hI.st
    obtain ⟨g2, τ2, w, z1, z2, _⟩ := spStream a2 (by omega)
    rw [hb] at z1
    exact ⟨τ, τ2, _, _, w, _, c1 _ a1, by rw [callE_live rfl (by kernel_rfl)]; exact z1, z2, .inl ⟨by omega, rfl, rfl, rfl⟩⟩

theorem spFullD {n m t : Nat} (hn : n < 65536) (hm : m < 65536) (ht : t < 65536) : ∃ τ, callω cfg 5 [.int .u16 (n : Nat), .int .u16 (m : Nat), .int .u16 (t : Nat)] .empty = some (.bool true, τ) := by
  have ev := eq5 (callω cfg) (loopω cfg) .empty (n : Nat) (m : Nat) (t : Nat)
  obtain ⟨g1, τ1, a1, a2, a3⟩ := spNew (P := 1) (by omega) (fun _ => 7) .empty
  have i0 := Inv.new (P := 1) (by omega)
  have c1 : callE cfg (callω cfg) 7 [.int .i64 1] .empty = some (.tuple [.ref (Store.empty.next + 2) 0 0, .int .i64 0], τ1) := by rw [callE_live rfl (by kernel_rfl)]; exact a1
  generalize Store.empty.next + 2 = id at a2 c1
  have n0 : ((0 : Int) != 0) = false := by decide
  have n1 : ((0 : Int) == 0) = true := by decide
  have wn : IntKind.wrap .i64 ((n : Nat) : Int) = ((n : Nat) : Int) := wrapId (by omega) (by omega)
  have wm : IntKind.wrap .i64 ((m : Nat) : Int) = ((m : Nat) : Int) := wrapId (by omega) (by omega)
  have wt : IntKind.wrap .i64 ((t : Nat) : Int) = ((t : Nat) : Int) := wrapId (by omega) (by omega)
  have wnm : IntKind.wrap .i64 (((n : Nat) : Int) + ((m : Nat) : Int)) = ((n + m : Nat) : Int) := by rw [wrapId (by omega) (by omega)]; omega
  obtain ⟨g2, τ2, b1, b2, b3⟩ := appZeros a2 i0 (by decide) (by decide) n (by omega)
  have hs0 : (Dv.new 1).seen.st.length = 0 := rfl
  rw [hs0, if_pos (by omega)] at b2 b3
  have i1 := i0.app (by decide) (b := List.replicate n 0) (by rw [hs0, List.length_replicate]; omega)
  rw [List.length_replicate] at i1
  obtain ⟨e1, _, _, e4⟩ := app_seen (Dv.new 1) (List.replicate n 0)
  have hst1 : ((Dv.new 1).app (List.replicate n 0)).seen.st.length = n ∧ ((Dv.new 1).app (List.replicate n 0)).seen.base = 0 := by
    rw [e1]
    exact ⟨by show ([] ++ List.replicate n (0 : UInt8)).length = n; simp, rfl⟩
  have ht1 : ((Dv.new 1).app (List.replicate n 0)).ts.length ≤ 1 := e4
  generalize (Dv.new 1).app (List.replicate n 0) = d1 at b3 i1 hst1 ht1
  obtain ⟨g3, τ3, f1, f2, f3⟩ := appZeros b3 i1 (by omega) (by omega) m (by omega)
  rw [hst1.1] at f2 f3
  simp only [c1, bind_some', tupv_0, tupv_1, asInt_int, n0, Bool.false_eq_true, if_false, neNilL, asBool_bool, wn, wm, wt, wnm, b1, b2, f1, f2] at ev
  by_cases co : m + n ≤ 65536
  · have d1' : decide (((n + m : Nat) : Int) > 65536) = false := decide_eq_false (by omega)
    have b0 : (!(false == ((0 : Int) == 10))) = false := by decide
    rw [if_pos co] at f3
    simp only [if_pos co, d1', b0, n0, Bool.false_eq_true, if_false, Bool.not_false, if_true] at ev
    have i2 := i1.app (by omega) (b := List.replicate m 0) (by rw [hst1.1, List.length_replicate]; omega)
    rw [List.length_replicate] at i2
    obtain ⟨e1, _, _, e4⟩ := app_seen d1 (List.replicate m 0)
    have hst2 : (d1.app (List.replicate m 0)).seen.st.length = n + m ∧ (d1.app (List.replicate m 0)).seen.base = 0 := by
      rw [e1]
      refine ⟨?_, hst1.2⟩
      show (d1.seen.st ++ List.replicate m (0 : UInt8)).length = _
      rw [List.length_append, hst1.1, List.length_replicate]
    obtain ⟨τ4, τ5, e, base, w, l, k1, k2, k3, k4⟩ := tailFull f3 i2 (by omega) (by omega) hst2.2 t ht
    rw [hst2.1] at k4
    simp only [k1, bind_some', asInt_int, k2, tupv_0, tupv_1] at ev
    rcases k4 with ⟨q1, rfl, rfl, q4⟩ | ⟨q1, rfl, rfl, q4⟩
    · rw [if_pos (decide_eq_true (by omega))] at ev
      have hlen : pureB Try.prog .len [30] [w] = some (.int .i64 ((n + m : Nat) : Int)) := by rw [k3.len TB, q4]
      have x1 : ((1 : Int) == 1) = true := by decide
      have x2 : (((n + m : Nat) : Int) == ((n + m : Nat) : Int)) = true := by simp
      simp only [x1, n1, if_true, hlen, bind_some', asInt_int, x2, cEAwake (c2 := cfg) rfl rfl, asBool_bool] at ev
      exact ⟨_, callω_ofK hT ev⟩
    · rw [if_neg (by simp; omega)] at ev
      have hlen : pureB Try.prog .len [30] [w] = some (.int .i64 ((n + m - t : Nat) : Int)) := by rw [k3.len TB, q4]
      have wd : IntKind.wrap .i64 (((n + m : Nat) : Int) - ((t : Nat) : Int)) = ((n + m - t : Nat) : Int) := by rw [wrapId (by omega) (by omega)]; omega
      have x1 : (((t : Nat) : Int) == ((t : Nat) : Int)) = true := by simp
      have x2 : (((n + m - t : Nat) : Int) == ((n + m - t : Nat) : Int)) = true := by simp
      simp only [x1, n1, if_true, hlen, bind_some', asInt_int, wd, x2, cEAwake (c2 := cfg) rfl rfl, asBool_bool] at ev
      exact ⟨_, callω_ofK hT ev⟩
  · have d1' : decide (((n + m : Nat) : Int) > 65536) = true := decide_eq_true (by omega)
    have b0 : (!(true == ((10 : Int) == 10))) = false := by decide
    rw [if_neg co] at f3
    simp only [if_neg co, d1', b0, n0, Bool.false_eq_true, if_false, Bool.not_true] at ev
    obtain ⟨τ4, τ5, e, base, w, l, k1, k2, k3, k4⟩ := tailFull f3 i1 (by omega) (by omega) hst1.2 t ht
    rw [hst1.1] at k4
    simp only [k1, bind_some', asInt_int, k2, tupv_0, tupv_1] at ev
    rcases k4 with ⟨q1, rfl, rfl, q4⟩ | ⟨q1, rfl, rfl, q4⟩
    · rw [if_pos (decide_eq_true (by omega))] at ev
      have hlen : pureB Try.prog .len [30] [w] = some (.int .i64 ((n : Nat) : Int)) := by rw [k3.len TB, q4]
      have x1 : ((1 : Int) == 1) = true := by decide
      have x2 : (((n : Nat) : Int) == ((n : Nat) : Int)) = true := by simp
      simp only [x1, n1, if_true, hlen, bind_some', asInt_int, x2, cEAwake (c2 := cfg) rfl rfl, asBool_bool] at ev
      exact ⟨_, callω_ofK hT ev⟩
    · rw [if_neg (by simp; omega)] at ev
      have hlen : pureB Try.prog .len [30] [w] = some (.int .i64 ((n - t : Nat) : Int)) := by rw [k3.len TB, q4]
      have wd : IntKind.wrap .i64 (((n : Nat) : Int) - ((t : Nat) : Int)) = ((n - t : Nat) : Int) := by rw [wrapId (by omega) (by omega)]; omega
      have x1 : (((t : Nat) : Int) == ((t : Nat) : Int)) = true := by simp
      have x2 : (((n - t : Nat) : Int) == ((n - t : Nat) : Int)) = true := by simp
      simp only [x1, n1, if_true, hlen, bind_some', asInt_int, wd, x2, cEAwake (c2 := cfg) rfl rfl, asBool_bool] at ev
      exact ⟨_, callω_ofK hT ev⟩
end
end Go.Pvm.S
