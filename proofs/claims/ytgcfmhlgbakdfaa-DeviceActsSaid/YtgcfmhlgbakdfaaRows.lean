/-
  No cell of these rows narrows 'for every input' (looked for: loops, veiled, ifaces, maps, wideKeys, modest, calm, conditions, laid).
  DERIVED. THE GIVEN ROWS OF THIS SEAT. 4 by the template 'for every input the law returns true; each argument reads behind the call as it read before'; 0 by the template 'total and deterministic' (their statements: YtgcfmhlgbakdfaaTotals.lean).
  GIVEN WITH THE SEED: the statements are not yours to turn. If you find one false, say at which input.
  Laid BY PROGRAM, IN A SANDBOX (cutbox-rows.mjs): the forced cells as the released guide's own fill.sh prints them over the translation 9835a3aa37d686bf… (all of the seat's roots in one cut). By AI agents, Wed Nov 11 2026. No macro, syntax, notation, axiom, sorry.
-/
import Derived.Test.YtgcfmhlgbakdfaaChecked
import GoSem.Claim
import GoSem.ClaimJoined
import GoSem.ClaimMapViews
import Derived.JoinedTies
import Derived.KernelRfl
namespace Go.Proofs.Ytgcfmhlgbakdfaa
/- THE CELL 'sum', in the pinned program and in every row, IS THE sha256 OF THE DUMP (.gsa) THAT YtgcfmhlgbakdfaaProg.lean LOADS. Nothing in Lean hashes anything: it is a label: what it is worth is what the hold of that sum in a sandbox is worth. -/
noncomputable def Try.pinned : Pinned := { name := "ytgcfmhlgbakdfaa", sum := "9835a3aa37d686bfbd890a8d2a62c7ae49000df58bd486f031a8cbd84b06af95", checked := Try.checked }
namespace Rows
def none {H : Type} : Left H := { results := [], args := [] }

/-- 'humuslaw05.DeviceKeeps': WHATEVER THE INPUT: true; the input reads as it did. -/
def deviceKeepsSpec : ChangeSpec := { name := "deviceKeeps", fn := fun _ => fun
  | [d1, d2, d3] => { results := [.lit (.bool true)], args := [d1, d2, d3] }
  | _ => none }
def deviceKeepsRow : OpenClaim := { program := "ytgcfmhlgbakdfaa", sum := "9835a3aa37d686bfbd890a8d2a62c7ae49000df58bd486f031a8cbd84b06af95", func := "humus/humuslaw05.DeviceKeeps", spec := "deviceKeeps", apart := false }
def DeviceKeepsSaid : Prop := deviceKeepsRow.holds Try.pinned (OpenSpec.ofChange deviceKeepsSpec)

/-- ITS FALSE NEIGHBOUR: 'it returns false'. Refute it at one input. -/
def deviceKeepsWrong : ChangeSpec := { name := "deviceKeeps", fn := fun _ => fun
  | [d1, d2, d3] => { results := [.lit (.bool false)], args := [d1, d2, d3] }
  | _ => none }
def DeviceKeepsWrongFalsely : Prop := deviceKeepsRow.holds Try.pinned (OpenSpec.ofChange deviceKeepsWrong)

/-- 'humuslaw05.DeviceTorn': WHATEVER THE INPUT: true; the input reads as it did. -/
def deviceTornSpec : ChangeSpec := { name := "deviceTorn", fn := fun _ => fun
  | [d1, d2, d3] => { results := [.lit (.bool true)], args := [d1, d2, d3] }
  | _ => none }
def deviceTornRow : OpenClaim := { program := "ytgcfmhlgbakdfaa", sum := "9835a3aa37d686bfbd890a8d2a62c7ae49000df58bd486f031a8cbd84b06af95", func := "humus/humuslaw05.DeviceTorn", spec := "deviceTorn", apart := false }
def DeviceTornSaid : Prop := deviceTornRow.holds Try.pinned (OpenSpec.ofChange deviceTornSpec)

/-- ITS FALSE NEIGHBOUR: 'it returns false'. Refute it at one input. -/
def deviceTornWrong : ChangeSpec := { name := "deviceTorn", fn := fun _ => fun
  | [d1, d2, d3] => { results := [.lit (.bool false)], args := [d1, d2, d3] }
  | _ => none }
def DeviceTornWrongFalsely : Prop := deviceTornRow.holds Try.pinned (OpenSpec.ofChange deviceTornWrong)

/-- 'humuslaw05.DeviceFull': WHATEVER THE INPUT: true; the input reads as it did. -/
def deviceFullSpec : ChangeSpec := { name := "deviceFull", fn := fun _ => fun
  | [d1, d2, d3] => { results := [.lit (.bool true)], args := [d1, d2, d3] }
  | _ => none }
def deviceFullRow : OpenClaim := { program := "ytgcfmhlgbakdfaa", sum := "9835a3aa37d686bfbd890a8d2a62c7ae49000df58bd486f031a8cbd84b06af95", func := "humus/humuslaw05.DeviceFull", spec := "deviceFull", apart := false }
def DeviceFullSaid : Prop := deviceFullRow.holds Try.pinned (OpenSpec.ofChange deviceFullSpec)

/-- ITS FALSE NEIGHBOUR: 'it returns false'. Refute it at one input. -/
def deviceFullWrong : ChangeSpec := { name := "deviceFull", fn := fun _ => fun
  | [d1, d2, d3] => { results := [.lit (.bool false)], args := [d1, d2, d3] }
  | _ => none }
def DeviceFullWrongFalsely : Prop := deviceFullRow.holds Try.pinned (OpenSpec.ofChange deviceFullWrong)

/-- 'humuslaw05.DeviceActs': WHATEVER THE INPUT: true; the input reads as it did. -/
def deviceActsSpec : ChangeSpec := { name := "deviceActs", fn := fun _ => fun
  | [d1, d2] => { results := [.lit (.bool true)], args := [d1, d2] }
  | _ => none }
def deviceActsRow : OpenClaim := { program := "ytgcfmhlgbakdfaa", sum := "9835a3aa37d686bfbd890a8d2a62c7ae49000df58bd486f031a8cbd84b06af95", func := "humus/humuslaw05.DeviceActs", spec := "deviceActs", apart := false }
def DeviceActsSaid : Prop := deviceActsRow.holds Try.pinned (OpenSpec.ofChange deviceActsSpec)

/-- ITS FALSE NEIGHBOUR: 'it returns false'. Refute it at one input. -/
def deviceActsWrong : ChangeSpec := { name := "deviceActs", fn := fun _ => fun
  | [d1, d2] => { results := [.lit (.bool false)], args := [d1, d2] }
  | _ => none }
def DeviceActsWrongFalsely : Prop := deviceActsRow.holds Try.pinned (OpenSpec.ofChange deviceActsWrong)

/- THE SECOND FORM. 'bulk': how many values and letters a reading holds, each counted each time it is reached (what is shared counts as often as it is met; a slice's spare places count too). A statement '..UptoSaid' is the law's where the arguments, and the package variables that the reading takes, are together of bulk at most 1048576: NARROWER than '..Said'. Prove '..Said' where nothing that the law and all that it calls make is longer than what came in: it says more and counts as full. Else prove '..UptoSaid'. A law counts once. -/
mutual
def uptoBulk {H : Type} : DataW H → Nat
  | .lit (.string bytes) => bytes.length + 1
  | .lit _ => 1
  | .nil => 1
  | .ptr d => uptoBulk d + 1
  | .slice elems spare => uptoBulkAll elems + uptoBulkAll spare + 1
  | .agg parts => uptoBulkAll parts + 1
  | .iface _ d => uptoBulk d + 1
  | .map entries => uptoBulkEntries entries + 1
  | .held _ => 1
def uptoBulkAll {H : Type} : List (DataW H) → Nat
  | [] => 0
  | d :: r => uptoBulk d + uptoBulkAll r
def uptoBulkEntries {H : Type} : List (Lit × DataW H) → Nat
  | [] => 0
  | x :: r => uptoBulkEntry x + uptoBulkEntries r
def uptoBulkEntry {H : Type} : Lit × DataW H → Nat
  | (.string bytes, d) => bytes.length + uptoBulk d + 1
  | (_, d) => uptoBulk d + 1
 end
def uptoSmall : (H : Type) → List (DataW H) → Bool := fun _ ds => decide (uptoBulkAll ds ≤ 1048576)
def OpenSpec.upto (s : _root_.Go.ChangeSpec) : _root_.Go.OpenSpec := { _root_.Go.OpenSpec.ofChange s with cond := some uptoSmall }

/-- 'humuslaw05.DeviceKeeps', WHERE WHAT IT READS IS OF BULK AT MOST 1048576: true; the input reads as it did. -/
def deviceKeepsUptoRow : OpenClaim := { program := "ytgcfmhlgbakdfaa", sum := "9835a3aa37d686bfbd890a8d2a62c7ae49000df58bd486f031a8cbd84b06af95", func := "humus/humuslaw05.DeviceKeeps", spec := "deviceKeeps", apart := false, narrowed := true }
def DeviceKeepsUptoSaid : Prop := deviceKeepsUptoRow.holds Try.pinned (OpenSpec.upto deviceKeepsSpec)

/-- 'humuslaw05.DeviceTorn', WHERE WHAT IT READS IS OF BULK AT MOST 1048576: true; the input reads as it did. -/
def deviceTornUptoRow : OpenClaim := { program := "ytgcfmhlgbakdfaa", sum := "9835a3aa37d686bfbd890a8d2a62c7ae49000df58bd486f031a8cbd84b06af95", func := "humus/humuslaw05.DeviceTorn", spec := "deviceTorn", apart := false, narrowed := true }
def DeviceTornUptoSaid : Prop := deviceTornUptoRow.holds Try.pinned (OpenSpec.upto deviceTornSpec)

/-- 'humuslaw05.DeviceFull', WHERE WHAT IT READS IS OF BULK AT MOST 1048576: true; the input reads as it did. -/
def deviceFullUptoRow : OpenClaim := { program := "ytgcfmhlgbakdfaa", sum := "9835a3aa37d686bfbd890a8d2a62c7ae49000df58bd486f031a8cbd84b06af95", func := "humus/humuslaw05.DeviceFull", spec := "deviceFull", apart := false, narrowed := true }
def DeviceFullUptoSaid : Prop := deviceFullUptoRow.holds Try.pinned (OpenSpec.upto deviceFullSpec)

/-- 'humuslaw05.DeviceActs', WHERE WHAT IT READS IS OF BULK AT MOST 1048576: true; the input reads as it did. -/
def deviceActsUptoRow : OpenClaim := { program := "ytgcfmhlgbakdfaa", sum := "9835a3aa37d686bfbd890a8d2a62c7ae49000df58bd486f031a8cbd84b06af95", func := "humus/humuslaw05.DeviceActs", spec := "deviceActs", apart := false, narrowed := true }
def DeviceActsUptoSaid : Prop := deviceActsUptoRow.holds Try.pinned (OpenSpec.upto deviceActsSpec)

end Rows
end Go.Proofs.Ytgcfmhlgbakdfaa
