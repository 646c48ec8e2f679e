/- Which pools there are, and that nobody's has nothing, whatever the input. -/
import Derived.Test.YtceokplopachgaaPolArgs
import Derived.Test.YtceokplopachgaaPolT
set_option linter.unusedSimpArgs false
set_option linter.unusedVariables false
set_option maxRecDepth 100000
namespace Go.Pvm.S
open Go.Pvm Go.Proofs
theorem argAct {x : PV} (h : WTV Try.prog 36 x) : ∃ (a : Ac) (e : List PV),x = .agg e ∧ RA e a := by
 obtain ⟨a,h1,_⟩ := kAct.many (by kernel_rfl) h
 cases h1 with
 | base h => cases ‹PV.base _ = true›
 | agg h2 => exact ⟨a,_,rfl,VFs.act h2⟩
end Go.Pvm.S
namespace Go.Proofs.Ytceokplopachgaa
open Go.ChangeShapes Go.WideShapes Go.ChangeAt Go.RowKit Go.Pvm
theorem z13 {x : PV} (hx : WTV Try.prog 36 x) : ∃ σ',ze S.cfg 4 [x] .empty = some (.bool true,σ') := by
 obtain ⟨a,e,rfl,h⟩ := S.argAct hx
 exact S.spNobody a h
end Go.Proofs.Ytceokplopachgaa
namespace Go.Proofs.Ytceokplopachgaa
open Go.ChangeShapes Go.WideShapes Go.ChangeAt Go.RowKit Go.Pvm
theorem z14 : ownKnob Try.prog.godebug = none := by kernel_rfl
theorem z11 : laidOutB Try.prog = true := by kernel_rfl
theorem z10 (os : Os) (started : os.Started) (H : Type) (enc : TypeId × Value → H) :
  ReturnsInHanded {} Try.checked os 4 .any (Rows.poolNobodySpec.pre6 enc Try.prog Try.f4 Rows.poolNobodyRow.domain false) (Rows.poolNobodySpec.post enc Try.prog Try.f4 false true false false) := by
 refine znl (C := Try.checked) (cfg := S.cfg) (tb := 4) rfl S.hTo z11 z14 started (by kernel_rfl) Try.func4 (by kernel_rfl) (by kernel_rfl) (by kernel_rfl) rfl ?_
  (ChangeSpec.witness6 (enc := enc) (C := Try.checked) false ⟨#[],#[.agg #[.int .i64 0,.int .i64 0,.slice none 0 0,.int .i64 0,.slice none 0 0]],[]⟩ 8 (by kernel_rfl) (by kernel_rfl) (by kernel_rfl) (by kernel_rfl)) ?_
 ·intro H ds hl
  have hsz : Try.f4.params.size = 1 := by kernel_rfl
  rw [hsz] at hl
  match ds,hl with
  | [d1],_ => rfl
 ·intro pvs h
  have hp : Try.f4.params.toList = [36] := by kernel_rfl
  have h' : zm5 Try.prog Try.f4.params.toList pvs := h
  rw [hp] at h'
  match pvs,h' with
  | [x],⟨hx,_⟩ => exact z13 hx
theorem poolNobody_holds : Rows.PoolNobodySaid :=
 OpenClaim.holds_of_wide 4 Try.f4 rfl rfl rfl rfl rfl rfl rfl ⟨rfl,rfl,rfl,rfl,rfl⟩ rfl rfl rfl rfl rfl (by kernel_rfl) Try.func4 (by kernel_rfl)
  (of_decide_eq_true (by kernel_rfl)) (by unfold Func.isWrapper; first | (rw [if_pos (by decide +kernel)]; kernel_rfl) | (rw [if_neg (by decide +kernel)]; exact ⟨rfl,rfl⟩))
  (fun os started H enc _ => z10 os started H enc)
#print axioms poolNobody_holds
end Go.Proofs.Ytceokplopachgaa
