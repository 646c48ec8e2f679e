/- Each transaction that began is known to a certifier till it ends, whatever the input. -/
import Derived.Test.YtjfgklgcbogejaaGreatCrtK
import Derived.Test.YtjfgklgcbogejaaGreatCrtArgs
set_option linter.unusedSimpArgs false
set_option linter.unusedVariables false
set_option maxRecDepth 100000
namespace Go.Proofs.YtjfgklgcbogejaaGreat
open Go.ChangeShapes Go.WideShapes Go.ChangeAt Go.RowKit Go.Pvm
theorem zit {x : PV} (hx : WTV Tryz.prog 22 x) : ∃ σ',jg S.cfg 3 [x] .empty = some (.bool true,σ') := by
 obtain ⟨l,l1,l2⟩ := S.argStps hx
 obtain ⟨p,τ,h1,h2⟩ := zn8 S.hT S.ownOk (S.lawSpans l l2) (.cons l1 .nil)
 rw [zsf h2] at h1
 exact ⟨τ,h1⟩
end Go.Proofs.YtjfgklgcbogejaaGreat
namespace Go.Proofs.YtjfgklgcbogejaaGreat
open Go.ChangeShapes Go.WideShapes Go.ChangeAt Go.RowKit Go.Pvm
theorem zm9 : ownKnob Tryz.prog.godebug = none := by kernel_rfl
theorem zf4 : laidOutB Tryz.prog = true := by kernel_rfl
theorem zf3 (os : Os) (started : os.Started) (H : Type) (enc : TypeId × Value → H) :
  ReturnsInHanded {} Tryz.checked os 3 .any (Rows.certSpansSpec.pre6 enc Tryz.prog Tryz.f3 Rows.certSpansRow.domain false) (Rows.certSpansSpec.post enc Tryz.prog Tryz.f3 false true false false) := by
 refine zrc (C := Tryz.checked) (cfg := S.cfg) (tb := 4) rfl S.hT zf4 zm9 started (by kernel_rfl) Tryz.func3 (by kernel_rfl) (by kernel_rfl) (by kernel_rfl) rfl ?_
  (ChangeSpec.witness6 (enc := enc) (C := Tryz.checked) false ⟨#[],#[.slice none 0 0],[]⟩ 8 (by kernel_rfl) (by kernel_rfl) (by kernel_rfl) (by kernel_rfl)) ?_
 ·intro H ds hl
  have hsz : Tryz.f3.params.size = 1 := by kernel_rfl
  rw [hsz] at hl
  match ds,hl with
  | [d1],_ => rfl
 ·intro pvs h
  have hp : Tryz.f3.params.toList = [22] := by kernel_rfl
  have h' : zqx Tryz.prog Tryz.f3.params.toList pvs := h
  rw [hp] at h'
  match pvs,h' with
  | [x],⟨hx,_⟩ => exact zit hx
theorem certSpans_holds : Rows.CertSpansSaid :=
 OpenClaim.holds_of_wide 3 Tryz.f3 rfl rfl rfl rfl rfl rfl rfl ⟨rfl,rfl,rfl,rfl,rfl⟩ rfl rfl rfl rfl rfl (by kernel_rfl) Tryz.func3 (by kernel_rfl)
  (of_decide_eq_true (by kernel_rfl)) (by unfold Func.isWrapper; first | (rw [if_pos (by decide +kernel)]; kernel_rfl) | (rw [if_neg (by decide +kernel)]; exact ⟨rfl,rfl⟩))
  (fun os started H enc _ => zf3 os started H enc)
#print axioms certSpans_holds
end Go.Proofs.YtjfgklgcbogejaaGreat
