/-
  No cell of these rows narrows 'for every input' (looked for: loops, veiled, ifaces, maps, wideKeys, modest, calm, conditions, laid).
  DERIVED. THE GIVEN ROWS OF THIS SEAT. 3 by the template 'for every input the law returns true; each argument reads behind the call as it read before'; 0 by the template 'total and deterministic' (their statements: YtbhjbehdafcnoaaTotals.lean).
  GIVEN WITH THE SEED: the statements are not yours to turn. If you find one false, say at which input.
  Laid BY PROGRAM, IN A SANDBOX (cutbox-rows.mjs): the forced cells as the released guide's own fill.sh prints them over the translation 1dceabaee153e709… (all of the seat's roots in one cut). By AI agents, Wed Nov 11 2026. No macro, syntax, notation, axiom, sorry.
-/
import Derived.Test.YtbhjbehdafcnoaaChecked
import GoSem.Claim
import GoSem.ClaimJoined
import GoSem.ClaimMapViews
import Derived.JoinedTies
import Derived.KernelRfl
namespace Go.Proofs.Ytbhjbehdafcnoaa
/- THE CELL 'sum', in the pinned program and in every row, IS THE sha256 OF THE DUMP (.gsa) THAT YtbhjbehdafcnoaaProg.lean LOADS. Nothing in Lean hashes anything: it is a label: what it is worth is what the hold of that sum in a sandbox is worth. -/
noncomputable def Try.pinned : Pinned := { name := "ytbhjbehdafcnoaa", sum := "1dceabaee153e7093c7a3f3f5c45efc741e4c9d6882e839d02748f1ad4b9cfd8", checked := Try.checked }
namespace Rows
def none {H : Type} : Left H := { results := [], args := [] }

/-- 'humuslaw19.SireadLocks': WHATEVER THE INPUT: true; the input reads as it did. -/
def sireadLocksSpec : ChangeSpec := { name := "sireadLocks", fn := fun _ => fun
  | [d1, d2, d3] => { results := [.lit (.bool true)], args := [d1, d2, d3] }
  | _ => none }
def sireadLocksRow : OpenClaim := { program := "ytbhjbehdafcnoaa", sum := "1dceabaee153e7093c7a3f3f5c45efc741e4c9d6882e839d02748f1ad4b9cfd8", func := "humus/humuslaw19.SireadLocks", spec := "sireadLocks", inPlace := ["math.Float64frombits", "math.Float64bits", "slices.overlaps[humus/api.Lock]"], unfollowed := true, recurses := true, apart := false }
def SireadLocksSaid : Prop := sireadLocksRow.holds Try.pinned (OpenSpec.ofChange sireadLocksSpec)

/-- ITS FALSE NEIGHBOUR: 'it returns false'. Refute it at one input. -/
def sireadLocksWrong : ChangeSpec := { name := "sireadLocks", fn := fun _ => fun
  | [d1, d2, d3] => { results := [.lit (.bool false)], args := [d1, d2, d3] }
  | _ => none }
def SireadLocksWrongFalsely : Prop := sireadLocksRow.holds Try.pinned (OpenSpec.ofChange sireadLocksWrong)

/-- 'humuslaw19.SireadHolds': WHATEVER THE INPUT: true; the input reads as it did. -/
def sireadHoldsSpec : ChangeSpec := { name := "sireadHolds", fn := fun _ => fun
  | [d1, d2, d3] => { results := [.lit (.bool true)], args := [d1, d2, d3] }
  | _ => none }
def sireadHoldsRow : OpenClaim := { program := "ytbhjbehdafcnoaa", sum := "1dceabaee153e7093c7a3f3f5c45efc741e4c9d6882e839d02748f1ad4b9cfd8", func := "humus/humuslaw19.SireadHolds", spec := "sireadHolds", inPlace := ["math.Float64frombits", "math.Float64bits", "slices.overlaps[humus/api.Lock]"], unfollowed := true, recurses := true, apart := false }
def SireadHoldsSaid : Prop := sireadHoldsRow.holds Try.pinned (OpenSpec.ofChange sireadHoldsSpec)

/-- ITS FALSE NEIGHBOUR: 'it returns false'. Refute it at one input. -/
def sireadHoldsWrong : ChangeSpec := { name := "sireadHolds", fn := fun _ => fun
  | [d1, d2, d3] => { results := [.lit (.bool false)], args := [d1, d2, d3] }
  | _ => none }
def SireadHoldsWrongFalsely : Prop := sireadHoldsRow.holds Try.pinned (OpenSpec.ofChange sireadHoldsWrong)

/-- 'humuslaw19.SireadRanges': WHATEVER THE INPUT: true; the input reads as it did. -/
def sireadRangesSpec : ChangeSpec := { name := "sireadRanges", fn := fun _ => fun
  | [d1, d2, d3] => { results := [.lit (.bool true)], args := [d1, d2, d3] }
  | _ => none }
def sireadRangesRow : OpenClaim := { program := "ytbhjbehdafcnoaa", sum := "1dceabaee153e7093c7a3f3f5c45efc741e4c9d6882e839d02748f1ad4b9cfd8", func := "humus/humuslaw19.SireadRanges", spec := "sireadRanges", inPlace := ["math.Float64bits", "math.Float64frombits", "slices.overlaps[humus/api.Lock]"], unfollowed := true, recurses := true, apart := false }
def SireadRangesSaid : Prop := sireadRangesRow.holds Try.pinned (OpenSpec.ofChange sireadRangesSpec)

/-- ITS FALSE NEIGHBOUR: 'it returns false'. Refute it at one input. -/
def sireadRangesWrong : ChangeSpec := { name := "sireadRanges", fn := fun _ => fun
  | [d1, d2, d3] => { results := [.lit (.bool false)], args := [d1, d2, d3] }
  | _ => none }
def SireadRangesWrongFalsely : Prop := sireadRangesRow.holds Try.pinned (OpenSpec.ofChange sireadRangesWrong)

/- THE SECOND FORM. 'bulk': how many values and letters a reading holds, each counted each time it is reached (what is shared counts as often as it is met; a slice's spare places count too). A statement '..UptoSaid' is the law's where the arguments, and the package variables that the reading takes, are together of bulk at most 1048576: NARROWER than '..Said'. Prove '..Said' where nothing that the law and all that it calls make is longer than what came in: it says more and counts as full. Else prove '..UptoSaid'. A law counts once. -/
mutual
def uptoBulk {H : Type} : DataW H → Nat
  | .lit (.string bytes) => bytes.length + 1
  | .lit _ => 1
  | .nil => 1
  | .ptr d => uptoBulk d + 1
  | .slice elems spare => uptoBulkAll elems + uptoBulkAll spare + 1
  | .agg parts => uptoBulkAll parts + 1
  | .iface _ d => uptoBulk d + 1
  | .map entries => uptoBulkEntries entries + 1
  | .held _ => 1
def uptoBulkAll {H : Type} : List (DataW H) → Nat
  | [] => 0
  | d :: r => uptoBulk d + uptoBulkAll r
def uptoBulkEntries {H : Type} : List (Lit × DataW H) → Nat
  | [] => 0
  | x :: r => uptoBulkEntry x + uptoBulkEntries r
def uptoBulkEntry {H : Type} : Lit × DataW H → Nat
  | (.string bytes, d) => bytes.length + uptoBulk d + 1
  | (_, d) => uptoBulk d + 1
 end
def uptoSmall : (H : Type) → List (DataW H) → Bool := fun _ ds => decide (uptoBulkAll ds ≤ 1048576)
def OpenSpec.upto (s : _root_.Go.ChangeSpec) : _root_.Go.OpenSpec := { _root_.Go.OpenSpec.ofChange s with cond := some uptoSmall }

/-- 'humuslaw19.SireadLocks', WHERE WHAT IT READS IS OF BULK AT MOST 1048576: true; the input reads as it did. -/
def sireadLocksUptoRow : OpenClaim := { program := "ytbhjbehdafcnoaa", sum := "1dceabaee153e7093c7a3f3f5c45efc741e4c9d6882e839d02748f1ad4b9cfd8", func := "humus/humuslaw19.SireadLocks", spec := "sireadLocks", inPlace := ["math.Float64frombits", "math.Float64bits", "slices.overlaps[humus/api.Lock]"], unfollowed := true, recurses := true, apart := false, narrowed := true }
def SireadLocksUptoSaid : Prop := sireadLocksUptoRow.holds Try.pinned (OpenSpec.upto sireadLocksSpec)

/-- 'humuslaw19.SireadHolds', WHERE WHAT IT READS IS OF BULK AT MOST 1048576: true; the input reads as it did. -/
def sireadHoldsUptoRow : OpenClaim := { program := "ytbhjbehdafcnoaa", sum := "1dceabaee153e7093c7a3f3f5c45efc741e4c9d6882e839d02748f1ad4b9cfd8", func := "humus/humuslaw19.SireadHolds", spec := "sireadHolds", inPlace := ["math.Float64frombits", "math.Float64bits", "slices.overlaps[humus/api.Lock]"], unfollowed := true, recurses := true, apart := false, narrowed := true }
def SireadHoldsUptoSaid : Prop := sireadHoldsUptoRow.holds Try.pinned (OpenSpec.upto sireadHoldsSpec)

/-- 'humuslaw19.SireadRanges', WHERE WHAT IT READS IS OF BULK AT MOST 1048576: true; the input reads as it did. -/
def sireadRangesUptoRow : OpenClaim := { program := "ytbhjbehdafcnoaa", sum := "1dceabaee153e7093c7a3f3f5c45efc741e4c9d6882e839d02748f1ad4b9cfd8", func := "humus/humuslaw19.SireadRanges", spec := "sireadRanges", inPlace := ["math.Float64bits", "math.Float64frombits", "slices.overlaps[humus/api.Lock]"], unfollowed := true, recurses := true, apart := false, narrowed := true }
def SireadRangesUptoSaid : Prop := sireadRangesUptoRow.holds Try.pinned (OpenSpec.upto sireadRangesSpec)

end Rows
end Go.Proofs.Ytbhjbehdafcnoaa
