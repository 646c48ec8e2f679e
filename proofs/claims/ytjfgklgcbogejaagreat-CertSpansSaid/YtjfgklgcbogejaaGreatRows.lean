/-
  No cell of these rows narrows 'for every input' (looked for: loops, veiled, ifaces, maps, wideKeys, modest, calm, conditions, laid).
  DERIVED. THE GIVEN ROWS OF THIS SEAT. 4 by the template 'for every input the law returns true; each argument reads behind the call as it read before'; 0 by the template 'total and deterministic' (their statements: YtjfgklgcbogejaaGreatTotals.lean).
  GIVEN WITH THE SEED: the statements are not yours to turn. If you find one false, say at which input.
  Laid BY PROGRAM, IN A SANDBOX (cutbox-rows.mjs): the forced cells as the released guide's own fill.sh prints them over the translation 554a357537eb9473… (all of the seat's roots in one cut). By AI agents, Wed Nov 11 2026. No macro, syntax, notation, axiom, sorry.
-/
import Derived.Test.YtjfgklgcbogejaaGreatChecked
import GoSem.Claim
import GoSem.ClaimJoined
import GoSem.ClaimMapViews
import Derived.JoinedTies
import Derived.KernelRfl
namespace Go.Proofs.YtjfgklgcbogejaaGreat
/- THE CELL 'sum', in the pinned program and in every row, IS THE sha256 OF THE DUMP (.gsa) THAT YtjfgklgcbogejaaGreatProg.lean LOADS. Nothing in Lean hashes anything: it is a label: what it is worth is what the hold of that sum in a sandbox is worth. -/
noncomputable def Tryz.pinned : Pinned := { name := "ytjfgklgcbogejaagreat", sum := "554a357537eb9473d1a8101f5c0b2e967de164a94d14f77c74d4ad94782d8582", checked := Tryz.checked }
namespace Rows
def none {H : Type} : Left H := { results := [], args := [] }

/-- 'humuslaw21.CertSpans': WHATEVER THE INPUT: true; the input reads as it did. -/
def certSpansSpec : ChangeSpec := { name := "certSpans", fn := fun _ => fun
  | [d] => { results := [.lit (.bool true)], args := [d] }
  | _ => none }
def certSpansRow : OpenClaim := { program := "ytjfgklgcbogejaagreat", sum := "554a357537eb9473d1a8101f5c0b2e967de164a94d14f77c74d4ad94782d8582", func := "humus/humuslaw21.CertSpans", spec := "certSpans", inPlace := ["math.Float64frombits", "math.Float64bits", "slices.overlaps[humus/api.Span]", "slices.overlaps[int]", "slices.overlaps[humus/api.Lock]", "slices.overlaps[humus/api.Edge]"], unfollowed := true, recurses := true, apart := false }
def CertSpansSaid : Prop := certSpansRow.holds Tryz.pinned (OpenSpec.ofChange certSpansSpec)

/-- ITS FALSE NEIGHBOUR: 'it returns false'. Refute it at one input. -/
def certSpansWrong : ChangeSpec := { name := "certSpans", fn := fun _ => fun
  | [d] => { results := [.lit (.bool false)], args := [d] }
  | _ => none }
def CertSpansWrongFalsely : Prop := certSpansRow.holds Tryz.pinned (OpenSpec.ofChange certSpansWrong)

/-- 'humuslaw21.CertAlone': WHATEVER THE INPUT: true; the input reads as it did. -/
def certAloneSpec : ChangeSpec := { name := "certAlone", fn := fun _ => fun
  | [d] => { results := [.lit (.bool true)], args := [d] }
  | _ => none }
def certAloneRow : OpenClaim := { program := "ytjfgklgcbogejaagreat", sum := "554a357537eb9473d1a8101f5c0b2e967de164a94d14f77c74d4ad94782d8582", func := "humus/humuslaw21.CertAlone", spec := "certAlone", inPlace := ["math.Float64frombits", "math.Float64bits", "slices.overlaps[int]", "slices.overlaps[humus/api.Span]", "slices.overlaps[humus/api.Lock]", "slices.overlaps[humus/api.Edge]"], unfollowed := true, recurses := true, apart := false }
def CertAloneSaid : Prop := certAloneRow.holds Tryz.pinned (OpenSpec.ofChange certAloneSpec)

/-- ITS FALSE NEIGHBOUR: 'it returns false'. Refute it at one input. -/
def certAloneWrong : ChangeSpec := { name := "certAlone", fn := fun _ => fun
  | [d] => { results := [.lit (.bool false)], args := [d] }
  | _ => none }
def CertAloneWrongFalsely : Prop := certAloneRow.holds Tryz.pinned (OpenSpec.ofChange certAloneWrong)

/-- 'humuslaw21.CertSafe': WHATEVER THE INPUT: true; the input reads as it did. -/
def certSafeSpec : ChangeSpec := { name := "certSafe", fn := fun _ => fun
  | [d] => { results := [.lit (.bool true)], args := [d] }
  | _ => none }
def certSafeRow : OpenClaim := { program := "ytjfgklgcbogejaagreat", sum := "554a357537eb9473d1a8101f5c0b2e967de164a94d14f77c74d4ad94782d8582", func := "humus/humuslaw21.CertSafe", spec := "certSafe", inPlace := ["math.Float64frombits", "math.Float64bits", "slices.overlaps[humus/api.Span]", "slices.overlaps[humus/api.Lock]", "slices.overlaps[humus/api.Edge]", "slices.overlaps[int]"], unfollowed := true, recurses := true, apart := false }
def CertSafeSaid : Prop := certSafeRow.holds Tryz.pinned (OpenSpec.ofChange certSafeSpec)

/-- ITS FALSE NEIGHBOUR: 'it returns false'. Refute it at one input. -/
def certSafeWrong : ChangeSpec := { name := "certSafe", fn := fun _ => fun
  | [d] => { results := [.lit (.bool false)], args := [d] }
  | _ => none }
def CertSafeWrongFalsely : Prop := certSafeRow.holds Tryz.pinned (OpenSpec.ofChange certSafeWrong)

/-- 'humuslaw21.CertTurns': WHATEVER THE INPUT: true; the input reads as it did. -/
def certTurnsSpec : ChangeSpec := { name := "certTurns", fn := fun _ => fun
  | [d1, d2, d3] => { results := [.lit (.bool true)], args := [d1, d2, d3] }
  | _ => none }
def certTurnsRow : OpenClaim := { program := "ytjfgklgcbogejaagreat", sum := "554a357537eb9473d1a8101f5c0b2e967de164a94d14f77c74d4ad94782d8582", func := "humus/humuslaw21.CertTurns", spec := "certTurns", inPlace := ["math.Float64frombits", "math.Float64bits", "slices.overlaps[humus/api.Span]", "slices.overlaps[humus/api.Lock]", "slices.overlaps[humus/api.Edge]", "slices.overlaps[int]"], unfollowed := true, recurses := true, apart := false }
def CertTurnsSaid : Prop := certTurnsRow.holds Tryz.pinned (OpenSpec.ofChange certTurnsSpec)

/-- ITS FALSE NEIGHBOUR: 'it returns false'. Refute it at one input. -/
def certTurnsWrong : ChangeSpec := { name := "certTurns", fn := fun _ => fun
  | [d1, d2, d3] => { results := [.lit (.bool false)], args := [d1, d2, d3] }
  | _ => none }
def CertTurnsWrongFalsely : Prop := certTurnsRow.holds Tryz.pinned (OpenSpec.ofChange certTurnsWrong)

/- THE SECOND FORM. 'bulk': how many values and letters a reading holds, each counted each time it is reached (what is shared counts as often as it is met; a slice's spare places count too). A statement '..UptoSaid' is the law's where the arguments, and the package variables that the reading takes, are together of bulk at most 1048576: NARROWER than '..Said'. Prove '..Said' where nothing that the law and all that it calls make is longer than what came in: it says more and counts as full. Else prove '..UptoSaid'. A law counts once. -/
mutual
def uptoBulk {H : Type} : DataW H → Nat
  | .lit (.string bytes) => bytes.length + 1
  | .lit _ => 1
  | .nil => 1
  | .ptr d => uptoBulk d + 1
  | .slice elems spare => uptoBulkAll elems + uptoBulkAll spare + 1
  | .agg parts => uptoBulkAll parts + 1
  | .iface _ d => uptoBulk d + 1
  | .map entries => uptoBulkEntries entries + 1
  | .held _ => 1
def uptoBulkAll {H : Type} : List (DataW H) → Nat
  | [] => 0
  | d :: r => uptoBulk d + uptoBulkAll r
def uptoBulkEntries {H : Type} : List (Lit × DataW H) → Nat
  | [] => 0
  | x :: r => uptoBulkEntry x + uptoBulkEntries r
def uptoBulkEntry {H : Type} : Lit × DataW H → Nat
  | (.string bytes, d) => bytes.length + uptoBulk d + 1
  | (_, d) => uptoBulk d + 1
 end
def uptoSmall : (H : Type) → List (DataW H) → Bool := fun _ ds => decide (uptoBulkAll ds ≤ 1048576)
def OpenSpec.upto (s : _root_.Go.ChangeSpec) : _root_.Go.OpenSpec := { _root_.Go.OpenSpec.ofChange s with cond := some uptoSmall }

/-- 'humuslaw21.CertSpans', WHERE WHAT IT READS IS OF BULK AT MOST 1048576: true; the input reads as it did. -/
def certSpansUptoRow : OpenClaim := { program := "ytjfgklgcbogejaagreat", sum := "554a357537eb9473d1a8101f5c0b2e967de164a94d14f77c74d4ad94782d8582", func := "humus/humuslaw21.CertSpans", spec := "certSpans", inPlace := ["math.Float64frombits", "math.Float64bits", "slices.overlaps[humus/api.Span]", "slices.overlaps[int]", "slices.overlaps[humus/api.Lock]", "slices.overlaps[humus/api.Edge]"], unfollowed := true, recurses := true, apart := false, narrowed := true }
def CertSpansUptoSaid : Prop := certSpansUptoRow.holds Tryz.pinned (OpenSpec.upto certSpansSpec)

/-- 'humuslaw21.CertAlone', WHERE WHAT IT READS IS OF BULK AT MOST 1048576: true; the input reads as it did. -/
def certAloneUptoRow : OpenClaim := { program := "ytjfgklgcbogejaagreat", sum := "554a357537eb9473d1a8101f5c0b2e967de164a94d14f77c74d4ad94782d8582", func := "humus/humuslaw21.CertAlone", spec := "certAlone", inPlace := ["math.Float64frombits", "math.Float64bits", "slices.overlaps[int]", "slices.overlaps[humus/api.Span]", "slices.overlaps[humus/api.Lock]", "slices.overlaps[humus/api.Edge]"], unfollowed := true, recurses := true, apart := false, narrowed := true }
def CertAloneUptoSaid : Prop := certAloneUptoRow.holds Tryz.pinned (OpenSpec.upto certAloneSpec)

/-- 'humuslaw21.CertSafe', WHERE WHAT IT READS IS OF BULK AT MOST 1048576: true; the input reads as it did. -/
def certSafeUptoRow : OpenClaim := { program := "ytjfgklgcbogejaagreat", sum := "554a357537eb9473d1a8101f5c0b2e967de164a94d14f77c74d4ad94782d8582", func := "humus/humuslaw21.CertSafe", spec := "certSafe", inPlace := ["math.Float64frombits", "math.Float64bits", "slices.overlaps[humus/api.Span]", "slices.overlaps[humus/api.Lock]", "slices.overlaps[humus/api.Edge]", "slices.overlaps[int]"], unfollowed := true, recurses := true, apart := false, narrowed := true }
def CertSafeUptoSaid : Prop := certSafeUptoRow.holds Tryz.pinned (OpenSpec.upto certSafeSpec)

/-- 'humuslaw21.CertTurns', WHERE WHAT IT READS IS OF BULK AT MOST 1048576: true; the input reads as it did. -/
def certTurnsUptoRow : OpenClaim := { program := "ytjfgklgcbogejaagreat", sum := "554a357537eb9473d1a8101f5c0b2e967de164a94d14f77c74d4ad94782d8582", func := "humus/humuslaw21.CertTurns", spec := "certTurns", inPlace := ["math.Float64frombits", "math.Float64bits", "slices.overlaps[humus/api.Span]", "slices.overlaps[humus/api.Lock]", "slices.overlaps[humus/api.Edge]", "slices.overlaps[int]"], unfollowed := true, recurses := true, apart := false, narrowed := true }
def CertTurnsUptoSaid : Prop := certTurnsUptoRow.holds Tryz.pinned (OpenSpec.upto certTurnsSpec)

end Rows
end Go.Proofs.YtjfgklgcbogejaaGreat
