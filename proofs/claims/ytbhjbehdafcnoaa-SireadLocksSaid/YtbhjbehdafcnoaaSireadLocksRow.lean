/- Any locks with a key more, and with a range, whatever the input. -/
import Derived.Test.YtbhjbehdafcnoaaSirO
import Derived.Test.YtbhjbehdafcnoaaSirT
import Derived.Test.YtbhjbehdafcnoaaLockArgs
set_option linter.unusedSimpArgs false
set_option linter.unusedVariables false
set_option maxRecDepth 100000
namespace Go.Proofs.Ytbhjbehdafcnoaa
open Go.ChangeShapes Go.WideShapes Go.ChangeAt Go.RowKit Go.Pvm
theorem aArr3 : ArgK Try.prog 24 (fun p : S.Wd × S.Wd × S.Wd => [.float .f64 p.1.toNat, .float .f64 p.2.1.toNat, .float .f64 p.2.2.toNat]) (fun _ => True) := fun top n c h => by
  obtain ⟨m, parts, rfl, hl, hp⟩ := wt_array (k := 3) (e := 23) (by kernel_rfl) h
  match parts, hl with
  | [a, b, d], _ =>
    obtain ⟨x, hx, _⟩ := S.aFlt _ _ _ (hp a (List.mem_cons_self ..)).2
    obtain ⟨y, hy, _⟩ := S.aFlt _ _ _ (hp b (List.mem_cons_of_mem _ (List.mem_cons_self ..))).2
    obtain ⟨z, hz, _⟩ := S.aFlt _ _ _ (hp d (List.mem_cons_of_mem _ (List.mem_cons_of_mem _ (List.mem_cons_self ..)))).2
    refine ⟨(x, y, z), ?_, trivial⟩
    show VFs ([.float .f64 x.toNat] ++ ([.float .f64 y.toNat] ++ [.float .f64 z.toNat])) (a ++ (b ++ (d ++ [])))
    rw [List.append_nil]
    exact hx.append (hy.append hz)
theorem sireadLocks_args {x y z : PV} (hx : WTV Try.prog 22 x) (hy : WTV Try.prog 3 y) (hz : WTV Try.prog 24 z) : ∃ σ', callω S.cfg 3 [x, y, z] .empty = some (.bool true, σ') := by
  obtain ⟨l, l1, l2⟩ := S.argLs hx
  obtain ⟨t, t1⟩ := S.argIL hy
  obtain ⟨⟨a, b, c⟩, q1, _⟩ := aArr3.many (by kernel_rfl) hz
  obtain ⟨p, τ, h1, h2⟩ := pcall_sound S.hT S.ownOk (S.lawLocks l t a b c l2) (.cons l1 (.cons t1 (.cons q1 .nil)))
  rw [bool_of_fz h2] at h1
  exact ⟨τ, h1⟩
end Go.Proofs.Ytbhjbehdafcnoaa
namespace Go.Proofs.Ytbhjbehdafcnoaa
open Go.ChangeShapes Go.WideShapes Go.ChangeAt Go.RowKit Go.Pvm

theorem sireadLocksOwn : ownKnob Try.prog.godebug = none := by kernel_rfl
theorem sireadLocksLaidOut : laidOutB Try.prog = true := by kernel_rfl

theorem sireadLocks_lifted (os : Os) (started : os.Started) (H : Type) (enc : TypeId × Value → H) :
    ReturnsInHanded {} Try.checked os 3 .any (Rows.sireadLocksSpec.pre6 enc Try.prog Try.f3 Rows.sireadLocksRow.domain false) (Rows.sireadLocksSpec.post enc Try.prog Try.f3 false true false false) := by
  refine row_lifted (C := Try.checked) (cfg := S.cfg) (tb := 4) rfl S.hT sireadLocksLaidOut sireadLocksOwn started (by kernel_rfl) Try.func3 (by kernel_rfl) (by kernel_rfl) (by kernel_rfl) rfl ?_
    (ChangeSpec.witness6 (enc := enc) (C := Try.checked) false ⟨#[], #[.slice none 0 0, .int .i64 0, .agg #[.float .f64 0, .float .f64 0, .float .f64 0]], []⟩ 8 (by kernel_rfl) (by kernel_rfl) (by kernel_rfl) (by kernel_rfl)) ?_
  · intro H ds hl
    have hsz : Try.f3.params.size = 3 := by kernel_rfl
    rw [hsz] at hl
    match ds, hl with
    | [d1, d2, d3], _ => rfl
  · intro pvs h
    have hp : Try.f3.params.toList = [22, 3, 24] := by kernel_rfl
    have h' : WTArgs Try.prog Try.f3.params.toList pvs := h
    rw [hp] at h'
    match pvs, h' with
    | [x, y, z], ⟨hx, hy, hz, _⟩ => exact sireadLocks_args hx hy hz

theorem sireadLocks_holds : Rows.SireadLocksSaid :=
  OpenClaim.holds_of_wide 3 Try.f3 rfl rfl rfl rfl rfl rfl rfl ⟨rfl, rfl, rfl, rfl, rfl⟩ rfl rfl rfl rfl rfl (by kernel_rfl) Try.func3 (by kernel_rfl)
    (of_decide_eq_true (by kernel_rfl)) (by unfold Func.isWrapper; first | (rw [if_pos (by decide +kernel)]; kernel_rfl) | (rw [if_neg (by decide +kernel)]; exact ⟨rfl, rfl⟩))
    (fun os started H enc _ => sireadLocks_lifted os started H enc)

#print axioms sireadLocks_holds
end Go.Proofs.Ytbhjbehdafcnoaa

