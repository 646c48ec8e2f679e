/-
  No cell of these rows narrows 'for every input' (looked for: loops, veiled, ifaces, maps, wideKeys, modest, calm, conditions, laid).
  DERIVED. THE GIVEN ROWS OF THIS SEAT. 5 by the template 'for every input the law returns true; each argument reads behind the call as it read before'; 0 by the template 'total and deterministic' (their statements: YtceokplopachgaaTotals.lean).
  GIVEN WITH THE SEED: the statements are not yours to turn. If you find one false, say at which input.
  Laid BY PROGRAM, IN A SANDBOX (cutbox-rows.mjs): the forced cells as the released guide's own fill.sh prints them over the translation df8e3cbe8a9a6ce2… (all of the seat's roots in one cut). By AI agents, Wed Nov 11 2026. No macro, syntax, notation, axiom, sorry.
-/
import Derived.Test.YtceokplopachgaaChecked
import GoSem.Claim
import GoSem.ClaimJoined
import GoSem.ClaimMapViews
import Derived.JoinedTies
import Derived.KernelRfl
namespace Go.Proofs.Ytceokplopachgaa
/- THE CELL 'sum', in the pinned program and in every row, IS THE sha256 OF THE DUMP (.gsa) THAT YtceokplopachgaaProg.lean LOADS. Nothing in Lean hashes anything: it is a label: what it is worth is what the hold of that sum in a sandbox is worth. -/
noncomputable def Try.pinned : Pinned := { name := "ytceokplopachgaa", sum := "df8e3cbe8a9a6ce20ffbe9ed53bd638ff1c5c2fe9f4a0f2ff6bf63f927956a90", checked := Try.checked }
namespace Rows
def none {H : Type} : Left H := { results := [], args := [] }

/-- 'humuslaw12.PoolReads': WHATEVER THE INPUT: true; the input reads as it did. -/
def poolReadsSpec : ChangeSpec := { name := "poolReads", fn := fun _ => fun
  | [d1, d2] => { results := [.lit (.bool true)], args := [d1, d2] }
  | _ => none }
def poolReadsRow : OpenClaim := { program := "ytceokplopachgaa", sum := "df8e3cbe8a9a6ce20ffbe9ed53bd638ff1c5c2fe9f4a0f2ff6bf63f927956a90", func := "humus/humuslaw12.PoolReads", spec := "poolReads", unfollowed := true, recurses := true, apart := false }
def PoolReadsSaid : Prop := poolReadsRow.holds Try.pinned (OpenSpec.ofChange poolReadsSpec)

/-- ITS FALSE NEIGHBOUR: 'it returns false'. Refute it at one input. -/
def poolReadsWrong : ChangeSpec := { name := "poolReads", fn := fun _ => fun
  | [d1, d2] => { results := [.lit (.bool false)], args := [d1, d2] }
  | _ => none }
def PoolReadsWrongFalsely : Prop := poolReadsRow.holds Try.pinned (OpenSpec.ofChange poolReadsWrong)

/-- 'humuslaw12.PoolNobody': WHATEVER THE INPUT: true; the input reads as it did. -/
def poolNobodySpec : ChangeSpec := { name := "poolNobody", fn := fun _ => fun
  | [d] => { results := [.lit (.bool true)], args := [d] }
  | _ => none }
def poolNobodyRow : OpenClaim := { program := "ytceokplopachgaa", sum := "df8e3cbe8a9a6ce20ffbe9ed53bd638ff1c5c2fe9f4a0f2ff6bf63f927956a90", func := "humus/humuslaw12.PoolNobody", spec := "poolNobody", unfollowed := true, recurses := true, apart := false }
def PoolNobodySaid : Prop := poolNobodyRow.holds Try.pinned (OpenSpec.ofChange poolNobodySpec)

/-- ITS FALSE NEIGHBOUR: 'it returns false'. Refute it at one input. -/
def poolNobodyWrong : ChangeSpec := { name := "poolNobody", fn := fun _ => fun
  | [d] => { results := [.lit (.bool false)], args := [d] }
  | _ => none }
def PoolNobodyWrongFalsely : Prop := poolNobodyRow.holds Try.pinned (OpenSpec.ofChange poolNobodyWrong)

/-- 'humuslaw12.PoolFew': WHATEVER THE INPUT: true; the input reads as it did. -/
def poolFewSpec : ChangeSpec := { name := "poolFew", fn := fun _ => fun
  | [d1, d2] => { results := [.lit (.bool true)], args := [d1, d2] }
  | _ => none }
def poolFewRow : OpenClaim := { program := "ytceokplopachgaa", sum := "df8e3cbe8a9a6ce20ffbe9ed53bd638ff1c5c2fe9f4a0f2ff6bf63f927956a90", func := "humus/humuslaw12.PoolFew", spec := "poolFew", unfollowed := true, recurses := true, apart := false }
def PoolFewSaid : Prop := poolFewRow.holds Try.pinned (OpenSpec.ofChange poolFewSpec)

/-- ITS FALSE NEIGHBOUR: 'it returns false'. Refute it at one input. -/
def poolFewWrong : ChangeSpec := { name := "poolFew", fn := fun _ => fun
  | [d1, d2] => { results := [.lit (.bool false)], args := [d1, d2] }
  | _ => none }
def PoolFewWrongFalsely : Prop := poolFewRow.holds Try.pinned (OpenSpec.ofChange poolFewWrong)

/-- 'humuslaw12.PoolActs': WHATEVER THE INPUT: true; the input reads as it did. -/
def poolActsSpec : ChangeSpec := { name := "poolActs", fn := fun _ => fun
  | [d1, d2, d3] => { results := [.lit (.bool true)], args := [d1, d2, d3] }
  | _ => none }
def poolActsRow : OpenClaim := { program := "ytceokplopachgaa", sum := "df8e3cbe8a9a6ce20ffbe9ed53bd638ff1c5c2fe9f4a0f2ff6bf63f927956a90", func := "humus/humuslaw12.PoolActs", spec := "poolActs", unfollowed := true, recurses := true, apart := false }
def PoolActsSaid : Prop := poolActsRow.holds Try.pinned (OpenSpec.ofChange poolActsSpec)

/-- ITS FALSE NEIGHBOUR: 'it returns false'. Refute it at one input. -/
def poolActsWrong : ChangeSpec := { name := "poolActs", fn := fun _ => fun
  | [d1, d2, d3] => { results := [.lit (.bool false)], args := [d1, d2, d3] }
  | _ => none }
def PoolActsWrongFalsely : Prop := poolActsRow.holds Try.pinned (OpenSpec.ofChange poolActsWrong)

/-- 'humuslaw12.PoolAhead': WHATEVER THE INPUT: true; the input reads as it did. -/
def poolAheadSpec : ChangeSpec := { name := "poolAhead", fn := fun _ => fun
  | [d1, d2, d3] => { results := [.lit (.bool true)], args := [d1, d2, d3] }
  | _ => none }
def poolAheadRow : OpenClaim := { program := "ytceokplopachgaa", sum := "df8e3cbe8a9a6ce20ffbe9ed53bd638ff1c5c2fe9f4a0f2ff6bf63f927956a90", func := "humus/humuslaw12.PoolAhead", spec := "poolAhead", unfollowed := true, recurses := true, apart := false }
def PoolAheadSaid : Prop := poolAheadRow.holds Try.pinned (OpenSpec.ofChange poolAheadSpec)

/-- ITS FALSE NEIGHBOUR: 'it returns false'. Refute it at one input. -/
def poolAheadWrong : ChangeSpec := { name := "poolAhead", fn := fun _ => fun
  | [d1, d2, d3] => { results := [.lit (.bool false)], args := [d1, d2, d3] }
  | _ => none }
def PoolAheadWrongFalsely : Prop := poolAheadRow.holds Try.pinned (OpenSpec.ofChange poolAheadWrong)

/- THE SECOND FORM. 'bulk': how many values and letters a reading holds, each counted each time it is reached (what is shared counts as often as it is met; a slice's spare places count too). A statement '..UptoSaid' is the law's where the arguments, and the package variables that the reading takes, are together of bulk at most 1048576: NARROWER than '..Said'. Prove '..Said' where nothing that the law and all that it calls make is longer than what came in: it says more and counts as full. Else prove '..UptoSaid'. A law counts once. -/
mutual
def uptoBulk {H : Type} : DataW H → Nat
  | .lit (.string bytes) => bytes.length + 1
  | .lit _ => 1
  | .nil => 1
  | .ptr d => uptoBulk d + 1
  | .slice elems spare => uptoBulkAll elems + uptoBulkAll spare + 1
  | .agg parts => uptoBulkAll parts + 1
  | .iface _ d => uptoBulk d + 1
  | .map entries => uptoBulkEntries entries + 1
  | .held _ => 1
def uptoBulkAll {H : Type} : List (DataW H) → Nat
  | [] => 0
  | d :: r => uptoBulk d + uptoBulkAll r
def uptoBulkEntries {H : Type} : List (Lit × DataW H) → Nat
  | [] => 0
  | x :: r => uptoBulkEntry x + uptoBulkEntries r
def uptoBulkEntry {H : Type} : Lit × DataW H → Nat
  | (.string bytes, d) => bytes.length + uptoBulk d + 1
  | (_, d) => uptoBulk d + 1
 end
def uptoSmall : (H : Type) → List (DataW H) → Bool := fun _ ds => decide (uptoBulkAll ds ≤ 1048576)
def OpenSpec.upto (s : _root_.Go.ChangeSpec) : _root_.Go.OpenSpec := { _root_.Go.OpenSpec.ofChange s with cond := some uptoSmall }

/-- 'humuslaw12.PoolReads', WHERE WHAT IT READS IS OF BULK AT MOST 1048576: true; the input reads as it did. -/
def poolReadsUptoRow : OpenClaim := { program := "ytceokplopachgaa", sum := "df8e3cbe8a9a6ce20ffbe9ed53bd638ff1c5c2fe9f4a0f2ff6bf63f927956a90", func := "humus/humuslaw12.PoolReads", spec := "poolReads", unfollowed := true, recurses := true, apart := false, narrowed := true }
def PoolReadsUptoSaid : Prop := poolReadsUptoRow.holds Try.pinned (OpenSpec.upto poolReadsSpec)

/-- 'humuslaw12.PoolNobody', WHERE WHAT IT READS IS OF BULK AT MOST 1048576: true; the input reads as it did. -/
def poolNobodyUptoRow : OpenClaim := { program := "ytceokplopachgaa", sum := "df8e3cbe8a9a6ce20ffbe9ed53bd638ff1c5c2fe9f4a0f2ff6bf63f927956a90", func := "humus/humuslaw12.PoolNobody", spec := "poolNobody", unfollowed := true, recurses := true, apart := false, narrowed := true }
def PoolNobodyUptoSaid : Prop := poolNobodyUptoRow.holds Try.pinned (OpenSpec.upto poolNobodySpec)

/-- 'humuslaw12.PoolFew', WHERE WHAT IT READS IS OF BULK AT MOST 1048576: true; the input reads as it did. -/
def poolFewUptoRow : OpenClaim := { program := "ytceokplopachgaa", sum := "df8e3cbe8a9a6ce20ffbe9ed53bd638ff1c5c2fe9f4a0f2ff6bf63f927956a90", func := "humus/humuslaw12.PoolFew", spec := "poolFew", unfollowed := true, recurses := true, apart := false, narrowed := true }
def PoolFewUptoSaid : Prop := poolFewUptoRow.holds Try.pinned (OpenSpec.upto poolFewSpec)

/-- 'humuslaw12.PoolActs', WHERE WHAT IT READS IS OF BULK AT MOST 1048576: true; the input reads as it did. -/
def poolActsUptoRow : OpenClaim := { program := "ytceokplopachgaa", sum := "df8e3cbe8a9a6ce20ffbe9ed53bd638ff1c5c2fe9f4a0f2ff6bf63f927956a90", func := "humus/humuslaw12.PoolActs", spec := "poolActs", unfollowed := true, recurses := true, apart := false, narrowed := true }
def PoolActsUptoSaid : Prop := poolActsUptoRow.holds Try.pinned (OpenSpec.upto poolActsSpec)

/-- 'humuslaw12.PoolAhead', WHERE WHAT IT READS IS OF BULK AT MOST 1048576: true; the input reads as it did. -/
def poolAheadUptoRow : OpenClaim := { program := "ytceokplopachgaa", sum := "df8e3cbe8a9a6ce20ffbe9ed53bd638ff1c5c2fe9f4a0f2ff6bf63f927956a90", func := "humus/humuslaw12.PoolAhead", spec := "poolAhead", unfollowed := true, recurses := true, apart := false, narrowed := true }
def PoolAheadUptoSaid : Prop := poolAheadUptoRow.holds Try.pinned (OpenSpec.upto poolAheadSpec)

end Rows
end Go.Proofs.Ytceokplopachgaa
