/- What is on the device is not ahead of the stream, whatever the input. -/
import Derived.Test.YtceokplopachgaaPolArgs
import Derived.Test.YtceokplopachgaaPolX
set_option linter.unusedSimpArgs false
set_option linter.unusedVariables false
set_option maxRecDepth 100000
namespace Go.Pvm.S
open Go.Pvm Go.Proofs
theorem argBools {x : PV} (h : WTV Try.prog 34 x) : ∃ l : List Bool,IsS RBo x l ∧ l.length < 4611686018427387904 := by
 obtain ⟨l,h1,h2,_⟩ := ArgK.one (e := fun l : List Bool => .psl false (l.map bo)) zxj (by kernel_rfl) h
 rw [z01] at h2
 have := zpq
 exact ⟨l,VF.bos h1,by omega⟩
end Go.Pvm.S
namespace Go.Proofs.Ytceokplopachgaa
open Go.ChangeShapes Go.WideShapes Go.ChangeAt Go.RowKit Go.Pvm
theorem z3c {x y z : PV} (hx : WTV Try.prog 5 x) (hy : WTV Try.prog 22 y) (hz : WTV Try.prog 34 z) : ∃ σ',ze S.cfg 7 [x,y,z] .empty = some (.bool true,σ') := by
 obtain ⟨n,rfl,n1,n2⟩ := S.argU8 hx
 obtain ⟨l,l1,l2,l3⟩ := S.argActs hy
 obtain ⟨q,q1,q2⟩ := S.argBools hz
 exact S.spAhead ⟨n1,n2⟩ l1 l2 q1 q2
end Go.Proofs.Ytceokplopachgaa
namespace Go.Proofs.Ytceokplopachgaa
open Go.ChangeShapes Go.WideShapes Go.ChangeAt Go.RowKit Go.Pvm
theorem z3h : ownKnob Try.prog.godebug = none := by kernel_rfl
theorem z2z : laidOutB Try.prog = true := by kernel_rfl
theorem z2y (os : Os) (started : os.Started) (H : Type) (enc : TypeId × Value → H) :
  ReturnsInHanded {} Try.checked os 7 .any (Rows.poolAheadSpec.pre6 enc Try.prog Try.f7 Rows.poolAheadRow.domain false) (Rows.poolAheadSpec.post enc Try.prog Try.f7 false true false false) := by
 refine znl (C := Try.checked) (cfg := S.cfg) (tb := 4) rfl S.hTo z2z z3h started (by kernel_rfl) Try.func7 (by kernel_rfl) (by kernel_rfl) (by kernel_rfl) rfl ?_
  (ChangeSpec.witness6 (enc := enc) (C := Try.checked) false ⟨#[],#[.int .u8 0,.slice none 0 0,.slice none 0 0],[]⟩ 8 (by kernel_rfl) (by kernel_rfl) (by kernel_rfl) (by kernel_rfl)) ?_
 ·intro H ds hl
  have hsz : Try.f7.params.size = 3 := by kernel_rfl
  rw [hsz] at hl
  match ds,hl with
  | [d1,d2,d3],_ => rfl
 ·intro pvs h
  have hp : Try.f7.params.toList = [5,22,34] := by kernel_rfl
  have h' : zm5 Try.prog Try.f7.params.toList pvs := h
  rw [hp] at h'
  match pvs,h' with
  | [x,y,z],⟨hx,hy,hz,_⟩ => exact z3c hx hy hz
theorem poolAhead_holds : Rows.PoolAheadSaid :=
 OpenClaim.holds_of_wide 7 Try.f7 rfl rfl rfl rfl rfl rfl rfl ⟨rfl,rfl,rfl,rfl,rfl⟩ rfl rfl rfl rfl rfl (by kernel_rfl) Try.func7 (by kernel_rfl)
  (of_decide_eq_true (by kernel_rfl)) (by unfold Func.isWrapper; first | (rw [if_pos (by decide +kernel)]; kernel_rfl) | (rw [if_neg (by decide +kernel)]; exact ⟨rfl,rfl⟩))
  (fun os started H enc _ => z2y os started H enc)
#print axioms poolAhead_holds
end Go.Proofs.Ytceokplopachgaa
