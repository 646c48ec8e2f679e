/- Who runs alone, one behind the other, is never given up, whatever the input. -/
import Derived.Test.YtjfgklgcbogejaaGreatCrtL
import Derived.Test.YtjfgklgcbogejaaGreatCrtArgs
set_option linter.unusedSimpArgs false
set_option linter.unusedVariables false
set_option maxRecDepth 100000
namespace Go.Proofs.YtjfgklgcbogejaaGreat
open Go.ChangeShapes Go.WideShapes Go.ChangeAt Go.RowKit Go.Pvm
theorem ziy {x : PV} (hx : WTV Tryz.prog 22 x) : ∃ σ',jc S.cfg 4 [x] .empty = some (.bool true,σ') := by
 obtain ⟨l,l1,l2⟩ := S.argStps hx
 obtain ⟨p,τ,h1,h2⟩ := zoh S.hT S.ownOk (S.lawAlone l l2) (.cons l1 .nil)
 rw [zsr h2] at h1
 exact ⟨τ,h1⟩
end Go.Proofs.YtjfgklgcbogejaaGreat
namespace Go.Proofs.YtjfgklgcbogejaaGreat
open Go.ChangeShapes Go.WideShapes Go.ChangeAt Go.RowKit Go.Pvm
theorem zni : ownKnob Tryz.prog.godebug = none := by kernel_rfl
theorem zga : laidOutB Tryz.prog = true := by kernel_rfl
theorem zf9 (os : Os) (started : os.Started) (H : Type) (enc : TypeId × Value → H) :
  ReturnsInHanded {} Tryz.checked os 4 .any (Rows.certAloneSpec.pre6 enc Tryz.prog Tryz.f4 Rows.certAloneRow.domain false) (Rows.certAloneSpec.post enc Tryz.prog Tryz.f4 false true false false) := by
 refine zrq (C := Tryz.checked) (cfg := S.cfg) (tb := 4) rfl S.hT zga zni started (by kernel_rfl) Tryz.func4 (by kernel_rfl) (by kernel_rfl) (by kernel_rfl) rfl ?_
  (ChangeSpec.witness6 (enc := enc) (C := Tryz.checked) false ⟨#[],#[.slice none 0 0],[]⟩ 8 (by kernel_rfl) (by kernel_rfl) (by kernel_rfl) (by kernel_rfl)) ?_
 ·intro H ds hl
  have hsz : Tryz.f4.params.size = 1 := by kernel_rfl
  rw [hsz] at hl
  match ds,hl with
  | [d1],_ => rfl
 ·intro pvs h
  have hp : Tryz.f4.params.toList = [22] := by kernel_rfl
  have h' : zrb Tryz.prog Tryz.f4.params.toList pvs := h
  rw [hp] at h'
  match pvs,h' with
  | [x],⟨hx,_⟩ => exact ziy hx
theorem certAlone_holds : Rows.CertAloneSaid :=
 OpenClaim.holds_of_wide 4 Tryz.f4 rfl rfl rfl rfl rfl rfl rfl ⟨rfl,rfl,rfl,rfl,rfl⟩ rfl rfl rfl rfl rfl (by kernel_rfl) Tryz.func4 (by kernel_rfl)
  (of_decide_eq_true (by kernel_rfl)) (by unfold Func.isWrapper; first | (rw [if_pos (by decide +kernel)]; kernel_rfl) | (rw [if_neg (by decide +kernel)]; exact ⟨rfl,rfl⟩))
  (fun os started H enc _ => zf9 os started H enc)
#print axioms certAlone_holds
end Go.Proofs.YtjfgklgcbogejaaGreat
