/- Whatever begins, reads, writes and ends: there is never a danger, clocks grow, and nobody is known when nobody lives, whatever the input. -/
import Derived.Test.YtjfgklgcbogejaaGreatCrtM
import Derived.Test.YtjfgklgcbogejaaGreatCrtArgs
set_option linter.unusedSimpArgs false
set_option linter.unusedVariables false
set_option maxRecDepth 100000
namespace Go.Proofs.YtjfgklgcbogejaaGreat
open Go.ChangeShapes Go.WideShapes Go.ChangeAt Go.RowKit Go.Pvm
theorem zl8 {x : PV} (hx : WTV Tryz.prog 22 x) : ∃ σ',jo S.cfg 5 [x] .empty = some (.bool true,σ') := by
 obtain ⟨l,l1,l2⟩ := S.argStps hx
 obtain ⟨p,τ,h1,h2⟩ := zpa S.hT S.ownOk (S.lawSafe l l2) (.cons l1 .nil)
 rw [ztv h2] at h1
 exact ⟨τ,h1⟩
end Go.Proofs.YtjfgklgcbogejaaGreat
namespace Go.Proofs.YtjfgklgcbogejaaGreat
open Go.ChangeShapes Go.WideShapes Go.ChangeAt Go.RowKit Go.Pvm
theorem zp2 : ownKnob Tryz.prog.godebug = none := by kernel_rfl
theorem zi0 : laidOutB Tryz.prog = true := by kernel_rfl
theorem ziz (os : Os) (started : os.Started) (H : Type) (enc : TypeId × Value → H) :
  ReturnsInHanded {} Tryz.checked os 5 .any (Rows.certSafeSpec.pre6 enc Tryz.prog Tryz.f5 Rows.certSafeRow.domain false) (Rows.certSafeSpec.post enc Tryz.prog Tryz.f5 false true false false) := by
 refine zsu (C := Tryz.checked) (cfg := S.cfg) (tb := 4) rfl S.hT zi0 zp2 started (by kernel_rfl) Tryz.func5 (by kernel_rfl) (by kernel_rfl) (by kernel_rfl) rfl ?_
  (ChangeSpec.witness6 (enc := enc) (C := Tryz.checked) false ⟨#[],#[.slice none 0 0],[]⟩ 8 (by kernel_rfl) (by kernel_rfl) (by kernel_rfl) (by kernel_rfl)) ?_
 ·intro H ds hl
  have hsz : Tryz.f5.params.size = 1 := by kernel_rfl
  rw [hsz] at hl
  match ds,hl with
  | [d1],_ => rfl
 ·intro pvs h
  have hp : Tryz.f5.params.toList = [22] := by kernel_rfl
  have h' : zsb Tryz.prog Tryz.f5.params.toList pvs := h
  rw [hp] at h'
  match pvs,h' with
  | [x],⟨hx,_⟩ => exact zl8 hx
theorem certSafe_holds : Rows.CertSafeSaid :=
 OpenClaim.holds_of_wide 5 Tryz.f5 rfl rfl rfl rfl rfl rfl rfl ⟨rfl,rfl,rfl,rfl,rfl⟩ rfl rfl rfl rfl rfl (by kernel_rfl) Tryz.func5 (by kernel_rfl)
  (of_decide_eq_true (by kernel_rfl)) (by unfold Func.isWrapper; first | (rw [if_pos (by decide +kernel)]; kernel_rfl) | (rw [if_neg (by decide +kernel)]; exact ⟨rfl,rfl⟩))
  (fun os started H enc _ => ziz os started H enc)
#print axioms certSafe_holds
end Go.Proofs.YtjfgklgcbogejaaGreat
