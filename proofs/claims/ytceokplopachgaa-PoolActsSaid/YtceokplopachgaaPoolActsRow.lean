/- What any acts leave in pool and device, step by step, and what is read, whatever the input. -/
import Derived.Test.YtceokplopachgaaPolArgs
import Derived.Test.YtceokplopachgaaPdK
set_option linter.unusedSimpArgs false
set_option linter.unusedVariables false
set_option maxRecDepth 100000
namespace Go.Proofs.Ytceokplopachgaa
open Go.ChangeShapes Go.WideShapes Go.ChangeAt Go.RowKit Go.Pvm
theorem z6a {x y z : PV} (hx : WTV Try.prog 5 x) (hy : WTV Try.prog 5 y) (hz : WTV Try.prog 22 z) : ∃ σ',ze S.cfg 6 [x,y,z] .empty = some (.bool true,σ') := by
 obtain ⟨n,rfl,n1,n2⟩ := S.argU8 hx
 obtain ⟨m,rfl,m1,m2⟩ := S.argU8 hy
 obtain ⟨l,l1,l2,l3⟩ := S.argActs hz
 exact S.spActs ⟨n1,n2⟩ ⟨m1,m2⟩ l1 l2 fun a ha => (l3 a ha).1
end Go.Proofs.Ytceokplopachgaa
namespace Go.Proofs.Ytceokplopachgaa
open Go.ChangeShapes Go.WideShapes Go.ChangeAt Go.RowKit Go.Pvm
theorem z6w : ownKnob Try.prog.godebug = none := by kernel_rfl
theorem z5o : laidOutB Try.prog = true := by kernel_rfl
theorem z5n (os : Os) (started : os.Started) (H : Type) (enc : TypeId × Value → H) :
  ReturnsInHanded {} Try.checked os 6 .any (Rows.poolActsSpec.pre6 enc Try.prog Try.f6 Rows.poolActsRow.domain false) (Rows.poolActsSpec.post enc Try.prog Try.f6 false true false false) := by
 refine znl (C := Try.checked) (cfg := S.cfg) (tb := 4) rfl S.hTo z5o z6w started (by kernel_rfl) Try.func6 (by kernel_rfl) (by kernel_rfl) (by kernel_rfl) rfl ?_
  (ChangeSpec.witness6 (enc := enc) (C := Try.checked) false ⟨#[],#[.int .u8 0,.int .u8 0,.slice none 0 0],[]⟩ 8 (by kernel_rfl) (by kernel_rfl) (by kernel_rfl) (by kernel_rfl)) ?_
 ·intro H ds hl
  have hsz : Try.f6.params.size = 3 := by kernel_rfl
  rw [hsz] at hl
  match ds,hl with
  | [d1,d2,d3],_ => rfl
 ·intro pvs h
  have hp : Try.f6.params.toList = [5,5,22] := by kernel_rfl
  have h' : zm5 Try.prog Try.f6.params.toList pvs := h
  rw [hp] at h'
  match pvs,h' with
  | [x,y,z],⟨hx,hy,hz,_⟩ => exact z6a hx hy hz
theorem poolActs_holds : Rows.PoolActsSaid :=
 OpenClaim.holds_of_wide 6 Try.f6 rfl rfl rfl rfl rfl rfl rfl ⟨rfl,rfl,rfl,rfl,rfl⟩ rfl rfl rfl rfl rfl (by kernel_rfl) Try.func6 (by kernel_rfl)
  (of_decide_eq_true (by kernel_rfl)) (by unfold Func.isWrapper; first | (rw [if_pos (by decide +kernel)]; kernel_rfl) | (rw [if_neg (by decide +kernel)]; exact ⟨rfl,rfl⟩))
  (fun os started H enc _ => z5n os started H enc)
#print axioms poolActs_holds
end Go.Proofs.Ytceokplopachgaa
