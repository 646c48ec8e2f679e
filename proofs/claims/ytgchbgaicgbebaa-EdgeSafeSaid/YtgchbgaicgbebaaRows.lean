/-
  No cell of these rows narrows 'for every input' (looked for: loops, veiled, ifaces, maps, wideKeys, modest, calm, conditions, laid).
  DERIVED. THE GIVEN ROWS OF THIS SEAT. 4 by the template 'for every input the law returns true; each argument reads behind the call as it read before'; 0 by the template 'total and deterministic' (their statements: YtgchbgaicgbebaaTotals.lean).
  GIVEN WITH THE SEED: the statements are not yours to turn. If you find one false, say at which input.
  Laid BY PROGRAM, IN A SANDBOX (cutbox-rows.mjs): the forced cells as the released guide's own fill.sh prints them over the translation 5b17f4336f992733… (all of the seat's roots in one cut). By AI agents, Wed Nov 11 2026. No macro, syntax, notation, axiom, sorry.
-/
import Derived.Test.YtgchbgaicgbebaaChecked
import GoSem.Claim
import GoSem.ClaimJoined
import GoSem.ClaimMapViews
import Derived.JoinedTies
import Derived.KernelRfl
namespace Go.Proofs.Ytgchbgaicgbebaa
/- THE CELL 'sum', in the pinned program and in every row, IS THE sha256 OF THE DUMP (.gsa) THAT YtgchbgaicgbebaaProg.lean LOADS. Nothing in Lean hashes anything: it is a label: what it is worth is what the hold of that sum in a sandbox is worth. -/
noncomputable def Try.pinned : Pinned := { name := "ytgchbgaicgbebaa", sum := "5b17f4336f9927336b01b374d379d2315e091200ad7b59ca20cb183b37e36753", checked := Try.checked }
namespace Rows
def none {H : Type} : Left H := { results := [], args := [] }

/-- 'humuslaw20.EdgeVictims': WHATEVER THE INPUT: true; the input reads as it did. -/
def edgeVictimsSpec : ChangeSpec := { name := "edgeVictims", fn := fun _ => fun
  | [d1, d2] => { results := [.lit (.bool true)], args := [d1, d2] }
  | _ => none }
def edgeVictimsRow : OpenClaim := { program := "ytgchbgaicgbebaa", sum := "5b17f4336f9927336b01b374d379d2315e091200ad7b59ca20cb183b37e36753", func := "humus/humuslaw20.EdgeVictims", spec := "edgeVictims", inPlace := ["slices.overlaps[humus/api.Edge]"], unfollowed := true, recurses := true, apart := false }
def EdgeVictimsSaid : Prop := edgeVictimsRow.holds Try.pinned (OpenSpec.ofChange edgeVictimsSpec)

/-- ITS FALSE NEIGHBOUR: 'it returns false'. Refute it at one input. -/
def edgeVictimsWrong : ChangeSpec := { name := "edgeVictims", fn := fun _ => fun
  | [d1, d2] => { results := [.lit (.bool false)], args := [d1, d2] }
  | _ => none }
def EdgeVictimsWrongFalsely : Prop := edgeVictimsRow.holds Try.pinned (OpenSpec.ofChange edgeVictimsWrong)

/-- 'humuslaw20.EdgePairs': WHATEVER THE INPUT: true; the input reads as it did. -/
def edgePairsSpec : ChangeSpec := { name := "edgePairs", fn := fun _ => fun
  | [d1, d2] => { results := [.lit (.bool true)], args := [d1, d2] }
  | _ => none }
def edgePairsRow : OpenClaim := { program := "ytgchbgaicgbebaa", sum := "5b17f4336f9927336b01b374d379d2315e091200ad7b59ca20cb183b37e36753", func := "humus/humuslaw20.EdgePairs", spec := "edgePairs", inPlace := ["slices.overlaps[humus/api.Edge]"], unfollowed := true, recurses := true, apart := false }
def EdgePairsSaid : Prop := edgePairsRow.holds Try.pinned (OpenSpec.ofChange edgePairsSpec)

/-- ITS FALSE NEIGHBOUR: 'it returns false'. Refute it at one input. -/
def edgePairsWrong : ChangeSpec := { name := "edgePairs", fn := fun _ => fun
  | [d1, d2] => { results := [.lit (.bool false)], args := [d1, d2] }
  | _ => none }
def EdgePairsWrongFalsely : Prop := edgePairsRow.holds Try.pinned (OpenSpec.ofChange edgePairsWrong)

/-- 'humuslaw20.EdgeSafe': WHATEVER THE INPUT: true; the input reads as it did. -/
def edgeSafeSpec : ChangeSpec := { name := "edgeSafe", fn := fun _ => fun
  | [d1, d2] => { results := [.lit (.bool true)], args := [d1, d2] }
  | _ => none }
def edgeSafeRow : OpenClaim := { program := "ytgchbgaicgbebaa", sum := "5b17f4336f9927336b01b374d379d2315e091200ad7b59ca20cb183b37e36753", func := "humus/humuslaw20.EdgeSafe", spec := "edgeSafe", inPlace := ["slices.overlaps[humus/api.Edge]"], unfollowed := true, recurses := true, apart := false }
def EdgeSafeSaid : Prop := edgeSafeRow.holds Try.pinned (OpenSpec.ofChange edgeSafeSpec)

/-- ITS FALSE NEIGHBOUR: 'it returns false'. Refute it at one input. -/
def edgeSafeWrong : ChangeSpec := { name := "edgeSafe", fn := fun _ => fun
  | [d1, d2] => { results := [.lit (.bool false)], args := [d1, d2] }
  | _ => none }
def EdgeSafeWrongFalsely : Prop := edgeSafeRow.holds Try.pinned (OpenSpec.ofChange edgeSafeWrong)

/-- 'humuslaw20.EdgeAdds': WHATEVER THE INPUT: true; the input reads as it did. -/
def edgeAddsSpec : ChangeSpec := { name := "edgeAdds", fn := fun _ => fun
  | [d1, d2, d3] => { results := [.lit (.bool true)], args := [d1, d2, d3] }
  | _ => none }
def edgeAddsRow : OpenClaim := { program := "ytgchbgaicgbebaa", sum := "5b17f4336f9927336b01b374d379d2315e091200ad7b59ca20cb183b37e36753", func := "humus/humuslaw20.EdgeAdds", spec := "edgeAdds", inPlace := ["slices.overlaps[humus/api.Edge]"], unfollowed := true, recurses := true, apart := false }
def EdgeAddsSaid : Prop := edgeAddsRow.holds Try.pinned (OpenSpec.ofChange edgeAddsSpec)

/-- ITS FALSE NEIGHBOUR: 'it returns false'. Refute it at one input. -/
def edgeAddsWrong : ChangeSpec := { name := "edgeAdds", fn := fun _ => fun
  | [d1, d2, d3] => { results := [.lit (.bool false)], args := [d1, d2, d3] }
  | _ => none }
def EdgeAddsWrongFalsely : Prop := edgeAddsRow.holds Try.pinned (OpenSpec.ofChange edgeAddsWrong)

/- THE SECOND FORM. 'bulk': how many values and letters a reading holds, each counted each time it is reached (what is shared counts as often as it is met; a slice's spare places count too). A statement '..UptoSaid' is the law's where the arguments, and the package variables that the reading takes, are together of bulk at most 1048576: NARROWER than '..Said'. Prove '..Said' where nothing that the law and all that it calls make is longer than what came in: it says more and counts as full. Else prove '..UptoSaid'. A law counts once. -/
mutual
def uptoBulk {H : Type} : DataW H → Nat
  | .lit (.string bytes) => bytes.length + 1
  | .lit _ => 1
  | .nil => 1
  | .ptr d => uptoBulk d + 1
  | .slice elems spare => uptoBulkAll elems + uptoBulkAll spare + 1
  | .agg parts => uptoBulkAll parts + 1
  | .iface _ d => uptoBulk d + 1
  | .map entries => uptoBulkEntries entries + 1
  | .held _ => 1
def uptoBulkAll {H : Type} : List (DataW H) → Nat
  | [] => 0
  | d :: r => uptoBulk d + uptoBulkAll r
def uptoBulkEntries {H : Type} : List (Lit × DataW H) → Nat
  | [] => 0
  | x :: r => uptoBulkEntry x + uptoBulkEntries r
def uptoBulkEntry {H : Type} : Lit × DataW H → Nat
  | (.string bytes, d) => bytes.length + uptoBulk d + 1
  | (_, d) => uptoBulk d + 1
 end
def uptoSmall : (H : Type) → List (DataW H) → Bool := fun _ ds => decide (uptoBulkAll ds ≤ 1048576)
def OpenSpec.upto (s : _root_.Go.ChangeSpec) : _root_.Go.OpenSpec := { _root_.Go.OpenSpec.ofChange s with cond := some uptoSmall }

/-- 'humuslaw20.EdgeVictims', WHERE WHAT IT READS IS OF BULK AT MOST 1048576: true; the input reads as it did. -/
def edgeVictimsUptoRow : OpenClaim := { program := "ytgchbgaicgbebaa", sum := "5b17f4336f9927336b01b374d379d2315e091200ad7b59ca20cb183b37e36753", func := "humus/humuslaw20.EdgeVictims", spec := "edgeVictims", inPlace := ["slices.overlaps[humus/api.Edge]"], unfollowed := true, recurses := true, apart := false, narrowed := true }
def EdgeVictimsUptoSaid : Prop := edgeVictimsUptoRow.holds Try.pinned (OpenSpec.upto edgeVictimsSpec)

/-- 'humuslaw20.EdgePairs', WHERE WHAT IT READS IS OF BULK AT MOST 1048576: true; the input reads as it did. -/
def edgePairsUptoRow : OpenClaim := { program := "ytgchbgaicgbebaa", sum := "5b17f4336f9927336b01b374d379d2315e091200ad7b59ca20cb183b37e36753", func := "humus/humuslaw20.EdgePairs", spec := "edgePairs", inPlace := ["slices.overlaps[humus/api.Edge]"], unfollowed := true, recurses := true, apart := false, narrowed := true }
def EdgePairsUptoSaid : Prop := edgePairsUptoRow.holds Try.pinned (OpenSpec.upto edgePairsSpec)

/-- 'humuslaw20.EdgeSafe', WHERE WHAT IT READS IS OF BULK AT MOST 1048576: true; the input reads as it did. -/
def edgeSafeUptoRow : OpenClaim := { program := "ytgchbgaicgbebaa", sum := "5b17f4336f9927336b01b374d379d2315e091200ad7b59ca20cb183b37e36753", func := "humus/humuslaw20.EdgeSafe", spec := "edgeSafe", inPlace := ["slices.overlaps[humus/api.Edge]"], unfollowed := true, recurses := true, apart := false, narrowed := true }
def EdgeSafeUptoSaid : Prop := edgeSafeUptoRow.holds Try.pinned (OpenSpec.upto edgeSafeSpec)

/-- 'humuslaw20.EdgeAdds', WHERE WHAT IT READS IS OF BULK AT MOST 1048576: true; the input reads as it did. -/
def edgeAddsUptoRow : OpenClaim := { program := "ytgchbgaicgbebaa", sum := "5b17f4336f9927336b01b374d379d2315e091200ad7b59ca20cb183b37e36753", func := "humus/humuslaw20.EdgeAdds", spec := "edgeAdds", inPlace := ["slices.overlaps[humus/api.Edge]"], unfollowed := true, recurses := true, apart := false, narrowed := true }
def EdgeAddsUptoSaid : Prop := edgeAddsUptoRow.holds Try.pinned (OpenSpec.upto edgeAddsSpec)

end Rows
end Go.Proofs.Ytgchbgaicgbebaa
