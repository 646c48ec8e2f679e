/-
  No cell of these rows narrows 'for every input' (looked for: loops, veiled, ifaces, maps, wideKeys, modest, calm, conditions, laid).
  DERIVED. THE GIVEN ROWS OF THIS SEAT. 5 by the template 'for every input the law returns true; each argument reads behind the call as it read before'; 0 by the template 'total and deterministic' (their statements: YtpilgmnhkgcgkaaTotals.lean).
  GIVEN WITH THE SEED: the statements are not yours to turn. If you find one false, say at which input.
  Laid BY PROGRAM, IN A SANDBOX (cutbox-rows.mjs): the forced cells as the released guide's own fill.sh prints them over the translation 7faf8770b4da030d… (all of the seat's roots in one cut). By AI agents, Wed Nov 11 2026. No macro, syntax, notation, axiom, sorry.
-/
import Derived.Test.YtpilgmnhkgcgkaaChecked
import GoSem.Claim
import GoSem.ClaimJoined
import GoSem.ClaimMapViews
import Derived.JoinedTies
import Derived.KernelRfl
namespace Go.Proofs.Ytpilgmnhkgcgkaa
/- THE CELL 'sum', in the pinned program and in every row, IS THE sha256 OF THE DUMP (.gsa) THAT YtpilgmnhkgcgkaaProg.lean LOADS. Nothing in Lean hashes anything: it is a label: what it is worth is what the hold of that sum in a sandbox is worth. -/
noncomputable def Try.pinned : Pinned := { name := "ytpilgmnhkgcgkaa", sum := "7faf8770b4da030d1a3b455aac34ab89626dcb5099aefda76042b2a907cbceba", checked := Try.checked }
namespace Rows
def none {H : Type} : Left H := { results := [], args := [] }

/-- 'humuslaw06.RedoCodes': WHATEVER THE INPUT: true; the input reads as it did. -/
def redoCodesSpec : ChangeSpec := { name := "redoCodes", fn := fun _ => fun
  | [d1, d2, d3] => { results := [.lit (.bool true)], args := [d1, d2, d3] }
  | _ => none }
def redoCodesRow : OpenClaim := { program := "ytpilgmnhkgcgkaa", sum := "7faf8770b4da030d1a3b455aac34ab89626dcb5099aefda76042b2a907cbceba", func := "humus/humuslaw06.RedoCodes", spec := "redoCodes", apart := false }
def RedoCodesSaid : Prop := redoCodesRow.holds Try.pinned (OpenSpec.ofChange redoCodesSpec)

/-- ITS FALSE NEIGHBOUR: 'it returns false'. Refute it at one input. -/
def redoCodesWrong : ChangeSpec := { name := "redoCodes", fn := fun _ => fun
  | [d1, d2, d3] => { results := [.lit (.bool false)], args := [d1, d2, d3] }
  | _ => none }
def RedoCodesWrongFalsely : Prop := redoCodesRow.holds Try.pinned (OpenSpec.ofChange redoCodesWrong)

/-- 'humuslaw06.RedoBursts': WHATEVER THE INPUT: true; the input reads as it did. -/
def redoBurstsSpec : ChangeSpec := { name := "redoBursts", fn := fun _ => fun
  | [d1, d2, d3] => { results := [.lit (.bool true)], args := [d1, d2, d3] }
  | _ => none }
def redoBurstsRow : OpenClaim := { program := "ytpilgmnhkgcgkaa", sum := "7faf8770b4da030d1a3b455aac34ab89626dcb5099aefda76042b2a907cbceba", func := "humus/humuslaw06.RedoBursts", spec := "redoBursts", apart := false }
def RedoBurstsSaid : Prop := redoBurstsRow.holds Try.pinned (OpenSpec.ofChange redoBurstsSpec)

/-- ITS FALSE NEIGHBOUR: 'it returns false'. Refute it at one input. -/
def redoBurstsWrong : ChangeSpec := { name := "redoBursts", fn := fun _ => fun
  | [d1, d2, d3] => { results := [.lit (.bool false)], args := [d1, d2, d3] }
  | _ => none }
def RedoBurstsWrongFalsely : Prop := redoBurstsRow.holds Try.pinned (OpenSpec.ofChange redoBurstsWrong)

/-- 'humuslaw06.RedoRows': WHATEVER THE INPUT: true; the input reads as it did. -/
def redoRowsSpec : ChangeSpec := { name := "redoRows", fn := fun _ => fun
  | [d] => { results := [.lit (.bool true)], args := [d] }
  | _ => none }
def redoRowsRow : OpenClaim := { program := "ytpilgmnhkgcgkaa", sum := "7faf8770b4da030d1a3b455aac34ab89626dcb5099aefda76042b2a907cbceba", func := "humus/humuslaw06.RedoRows", spec := "redoRows", apart := false }
def RedoRowsSaid : Prop := redoRowsRow.holds Try.pinned (OpenSpec.ofChange redoRowsSpec)

/-- ITS FALSE NEIGHBOUR: 'it returns false'. Refute it at one input. -/
def redoRowsWrong : ChangeSpec := { name := "redoRows", fn := fun _ => fun
  | [d] => { results := [.lit (.bool false)], args := [d] }
  | _ => none }
def RedoRowsWrongFalsely : Prop := redoRowsRow.holds Try.pinned (OpenSpec.ofChange redoRowsWrong)

/-- 'humuslaw06.RedoCuts': WHATEVER THE INPUT: true; the input reads as it did. -/
def redoCutsSpec : ChangeSpec := { name := "redoCuts", fn := fun _ => fun
  | [d1, d2, d3] => { results := [.lit (.bool true)], args := [d1, d2, d3] }
  | _ => none }
def redoCutsRow : OpenClaim := { program := "ytpilgmnhkgcgkaa", sum := "7faf8770b4da030d1a3b455aac34ab89626dcb5099aefda76042b2a907cbceba", func := "humus/humuslaw06.RedoCuts", spec := "redoCuts", apart := false }
def RedoCutsSaid : Prop := redoCutsRow.holds Try.pinned (OpenSpec.ofChange redoCutsSpec)

/-- ITS FALSE NEIGHBOUR: 'it returns false'. Refute it at one input. -/
def redoCutsWrong : ChangeSpec := { name := "redoCuts", fn := fun _ => fun
  | [d1, d2, d3] => { results := [.lit (.bool false)], args := [d1, d2, d3] }
  | _ => none }
def RedoCutsWrongFalsely : Prop := redoCutsRow.holds Try.pinned (OpenSpec.ofChange redoCutsWrong)

/-- 'humuslaw06.RedoApplies': WHATEVER THE INPUT: true; the input reads as it did. -/
def redoAppliesSpec : ChangeSpec := { name := "redoApplies", fn := fun _ => fun
  | [d1, d2, d3] => { results := [.lit (.bool true)], args := [d1, d2, d3] }
  | _ => none }
def redoAppliesRow : OpenClaim := { program := "ytpilgmnhkgcgkaa", sum := "7faf8770b4da030d1a3b455aac34ab89626dcb5099aefda76042b2a907cbceba", func := "humus/humuslaw06.RedoApplies", spec := "redoApplies", inPlace := ["slices.overlaps[humus/api.Image]"], unfollowed := true, recurses := true, apart := false }
def RedoAppliesSaid : Prop := redoAppliesRow.holds Try.pinned (OpenSpec.ofChange redoAppliesSpec)

/-- ITS FALSE NEIGHBOUR: 'it returns false'. Refute it at one input. -/
def redoAppliesWrong : ChangeSpec := { name := "redoApplies", fn := fun _ => fun
  | [d1, d2, d3] => { results := [.lit (.bool false)], args := [d1, d2, d3] }
  | _ => none }
def RedoAppliesWrongFalsely : Prop := redoAppliesRow.holds Try.pinned (OpenSpec.ofChange redoAppliesWrong)

/- THE SECOND FORM. 'bulk': how many values and letters a reading holds, each counted each time it is reached (what is shared counts as often as it is met; a slice's spare places count too). A statement '..UptoSaid' is the law's where the arguments, and the package variables that the reading takes, are together of bulk at most 1048576: NARROWER than '..Said'. Prove '..Said' where nothing that the law and all that it calls make is longer than what came in: it says more and counts as full. Else prove '..UptoSaid'. A law counts once. -/
mutual
def uptoBulk {H : Type} : DataW H → Nat
  | .lit (.string bytes) => bytes.length + 1
  | .lit _ => 1
  | .nil => 1
  | .ptr d => uptoBulk d + 1
  | .slice elems spare => uptoBulkAll elems + uptoBulkAll spare + 1
  | .agg parts => uptoBulkAll parts + 1
  | .iface _ d => uptoBulk d + 1
  | .map entries => uptoBulkEntries entries + 1
  | .held _ => 1
def uptoBulkAll {H : Type} : List (DataW H) → Nat
  | [] => 0
  | d :: r => uptoBulk d + uptoBulkAll r
def uptoBulkEntries {H : Type} : List (Lit × DataW H) → Nat
  | [] => 0
  | x :: r => uptoBulkEntry x + uptoBulkEntries r
def uptoBulkEntry {H : Type} : Lit × DataW H → Nat
  | (.string bytes, d) => bytes.length + uptoBulk d + 1
  | (_, d) => uptoBulk d + 1
 end
def uptoSmall : (H : Type) → List (DataW H) → Bool := fun _ ds => decide (uptoBulkAll ds ≤ 1048576)
def OpenSpec.upto (s : _root_.Go.ChangeSpec) : _root_.Go.OpenSpec := { _root_.Go.OpenSpec.ofChange s with cond := some uptoSmall }

/-- 'humuslaw06.RedoCodes', WHERE WHAT IT READS IS OF BULK AT MOST 1048576: true; the input reads as it did. -/
def redoCodesUptoRow : OpenClaim := { program := "ytpilgmnhkgcgkaa", sum := "7faf8770b4da030d1a3b455aac34ab89626dcb5099aefda76042b2a907cbceba", func := "humus/humuslaw06.RedoCodes", spec := "redoCodes", apart := false, narrowed := true }
def RedoCodesUptoSaid : Prop := redoCodesUptoRow.holds Try.pinned (OpenSpec.upto redoCodesSpec)

/-- 'humuslaw06.RedoBursts', WHERE WHAT IT READS IS OF BULK AT MOST 1048576: true; the input reads as it did. -/
def redoBurstsUptoRow : OpenClaim := { program := "ytpilgmnhkgcgkaa", sum := "7faf8770b4da030d1a3b455aac34ab89626dcb5099aefda76042b2a907cbceba", func := "humus/humuslaw06.RedoBursts", spec := "redoBursts", apart := false, narrowed := true }
def RedoBurstsUptoSaid : Prop := redoBurstsUptoRow.holds Try.pinned (OpenSpec.upto redoBurstsSpec)

/-- 'humuslaw06.RedoRows', WHERE WHAT IT READS IS OF BULK AT MOST 1048576: true; the input reads as it did. -/
def redoRowsUptoRow : OpenClaim := { program := "ytpilgmnhkgcgkaa", sum := "7faf8770b4da030d1a3b455aac34ab89626dcb5099aefda76042b2a907cbceba", func := "humus/humuslaw06.RedoRows", spec := "redoRows", apart := false, narrowed := true }
def RedoRowsUptoSaid : Prop := redoRowsUptoRow.holds Try.pinned (OpenSpec.upto redoRowsSpec)

/-- 'humuslaw06.RedoCuts', WHERE WHAT IT READS IS OF BULK AT MOST 1048576: true; the input reads as it did. -/
def redoCutsUptoRow : OpenClaim := { program := "ytpilgmnhkgcgkaa", sum := "7faf8770b4da030d1a3b455aac34ab89626dcb5099aefda76042b2a907cbceba", func := "humus/humuslaw06.RedoCuts", spec := "redoCuts", apart := false, narrowed := true }
def RedoCutsUptoSaid : Prop := redoCutsUptoRow.holds Try.pinned (OpenSpec.upto redoCutsSpec)

/-- 'humuslaw06.RedoApplies', WHERE WHAT IT READS IS OF BULK AT MOST 1048576: true; the input reads as it did. -/
def redoAppliesUptoRow : OpenClaim := { program := "ytpilgmnhkgcgkaa", sum := "7faf8770b4da030d1a3b455aac34ab89626dcb5099aefda76042b2a907cbceba", func := "humus/humuslaw06.RedoApplies", spec := "redoApplies", inPlace := ["slices.overlaps[humus/api.Image]"], unfollowed := true, recurses := true, apart := false, narrowed := true }
def RedoAppliesUptoSaid : Prop := redoAppliesUptoRow.holds Try.pinned (OpenSpec.upto redoAppliesSpec)

end Rows
end Go.Proofs.Ytpilgmnhkgcgkaa
