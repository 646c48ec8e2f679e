/- Never more pages are in than there are frames, whatever the input. -/
import Derived.Test.YtceokplopachgaaPolArgs
import Derived.Test.YtceokplopachgaaPolS
set_option linter.unusedSimpArgs false
set_option linter.unusedVariables false
set_option maxRecDepth 100000
namespace Go.Proofs.Ytceokplopachgaa
open Go.ChangeShapes Go.WideShapes Go.ChangeAt Go.RowKit Go.Pvm
theorem z1h {x y : PV} (hx : WTV Try.prog 5 x) (hy : WTV Try.prog 22 y) : ∃ σ',ze S.cfg 5 [x,y] .empty = some (.bool true,σ') := by
 obtain ⟨n,rfl,n1,n2⟩ := S.argU8 hx
 obtain ⟨l,l1,l2,l3⟩ := S.argActs hy
 exact S.spFew ⟨n1,n2⟩ l1 l2 fun a ha => (l3 a ha).1
end Go.Proofs.Ytceokplopachgaa
namespace Go.Proofs.Ytceokplopachgaa
open Go.ChangeShapes Go.WideShapes Go.ChangeAt Go.RowKit Go.Pvm
theorem z1j : ownKnob Try.prog.godebug = none := by kernel_rfl
theorem z1g : laidOutB Try.prog = true := by kernel_rfl
theorem z1f (os : Os) (started : os.Started) (H : Type) (enc : TypeId × Value → H) :
  ReturnsInHanded {} Try.checked os 5 .any (Rows.poolFewSpec.pre6 enc Try.prog Try.f5 Rows.poolFewRow.domain false) (Rows.poolFewSpec.post enc Try.prog Try.f5 false true false false) := by
 refine znl (C := Try.checked) (cfg := S.cfg) (tb := 4) rfl S.hTo z1g z1j started (by kernel_rfl) Try.func5 (by kernel_rfl) (by kernel_rfl) (by kernel_rfl) rfl ?_
  (ChangeSpec.witness6 (enc := enc) (C := Try.checked) false ⟨#[],#[.int .u8 0,.slice none 0 0],[]⟩ 8 (by kernel_rfl) (by kernel_rfl) (by kernel_rfl) (by kernel_rfl)) ?_
 ·intro H ds hl
  have hsz : Try.f5.params.size = 2 := by kernel_rfl
  rw [hsz] at hl
  match ds,hl with
  | [d1,d2],_ => rfl
 ·intro pvs h
  have hp : Try.f5.params.toList = [5,22] := by kernel_rfl
  have h' : zm5 Try.prog Try.f5.params.toList pvs := h
  rw [hp] at h'
  match pvs,h' with
  | [x,y],⟨hx,hy,_⟩ => exact z1h hx hy
theorem poolFew_holds : Rows.PoolFewSaid :=
 OpenClaim.holds_of_wide 5 Try.f5 rfl rfl rfl rfl rfl rfl rfl ⟨rfl,rfl,rfl,rfl,rfl⟩ rfl rfl rfl rfl rfl (by kernel_rfl) Try.func5 (by kernel_rfl)
  (of_decide_eq_true (by kernel_rfl)) (by unfold Func.isWrapper; first | (rw [if_pos (by decide +kernel)]; kernel_rfl) | (rw [if_neg (by decide +kernel)]; exact ⟨rfl,rfl⟩))
  (fun os started H enc _ => z1f os started H enc)
#print axioms poolFew_holds
end Go.Proofs.Ytceokplopachgaa
