/-
  No cell of these rows narrows 'for every input' (looked for: loops, veiled, ifaces, maps, wideKeys, modest, calm, conditions, laid).
  DERIVED. THE GIVEN ROWS OF THIS SEAT. 6 by the template 'for every input the law returns true; each argument reads behind the call as it read before'; 0 by the template 'total and deterministic' (their statements: YtieapebabncliaaTotals.lean).
  GIVEN WITH THE SEED: the statements are not yours to turn. If you find one false, say at which input.
  Laid BY PROGRAM, IN A SANDBOX (cutbox-rows.mjs): the forced cells as the released guide's own fill.sh prints them over the translation 4a5fb01359c21103… (all of the seat's roots in one cut). By AI agents, Wed Nov 11 2026. No macro, syntax, notation, axiom, sorry.
-/
import Derived.Test.YtieapebabncliaaChecked
import GoSem.Claim
import GoSem.ClaimJoined
import GoSem.ClaimMapViews
import Derived.JoinedTies
import Derived.KernelRfl
namespace Go.Proofs.Ytieapebabncliaa
/- THE CELL 'sum', in the pinned program and in every row, IS THE sha256 OF THE DUMP (.gsa) THAT YtieapebabncliaaProg.lean LOADS. Nothing in Lean hashes anything: it is a label: what it is worth is what the hold of that sum in a sandbox is worth. -/
noncomputable def Try.pinned : Pinned := { name := "ytieapebabncliaa", sum := "4a5fb01359c21103ead30ac4d63b6d55aeeb55bed76919a710d08b8cfd3c2c4d", checked := Try.checked }
namespace Rows
def none {H : Type} : Left H := { results := [], args := [] }

/-- 'incipitlaw19.AxisLists': WHATEVER THE INPUT: true; the input reads as it did. -/
def axisListsSpec : ChangeSpec := { name := "axisLists", fn := fun _ => fun
  | [d] => { results := [.lit (.bool true)], args := [d] }
  | _ => none }
def axisListsRow : OpenClaim := { program := "ytieapebabncliaa", sum := "4a5fb01359c21103ead30ac4d63b6d55aeeb55bed76919a710d08b8cfd3c2c4d", func := "incipit/incipitlaw19.AxisLists", spec := "axisLists", unfollowed := true, recurses := true, apart := false }
def AxisListsSaid : Prop := axisListsRow.holds Try.pinned (OpenSpec.ofChange axisListsSpec)

/-- ITS FALSE NEIGHBOUR: 'it returns false'. Refute it at one input. -/
def axisListsWrong : ChangeSpec := { name := "axisLists", fn := fun _ => fun
  | [d] => { results := [.lit (.bool false)], args := [d] }
  | _ => none }
def AxisListsWrongFalsely : Prop := axisListsRow.holds Try.pinned (OpenSpec.ofChange axisListsWrong)

/-- 'incipitlaw19.AxisCounts': WHATEVER THE INPUT: true; the input reads as it did. -/
def axisCountsSpec : ChangeSpec := { name := "axisCounts", fn := fun _ => fun
  | [d1, d2] => { results := [.lit (.bool true)], args := [d1, d2] }
  | _ => none }
def axisCountsRow : OpenClaim := { program := "ytieapebabncliaa", sum := "4a5fb01359c21103ead30ac4d63b6d55aeeb55bed76919a710d08b8cfd3c2c4d", func := "incipit/incipitlaw19.AxisCounts", spec := "axisCounts", unfollowed := true, recurses := true, apart := false }
def AxisCountsSaid : Prop := axisCountsRow.holds Try.pinned (OpenSpec.ofChange axisCountsSpec)

/-- ITS FALSE NEIGHBOUR: 'it returns false'. Refute it at one input. -/
def axisCountsWrong : ChangeSpec := { name := "axisCounts", fn := fun _ => fun
  | [d1, d2] => { results := [.lit (.bool false)], args := [d1, d2] }
  | _ => none }
def AxisCountsWrongFalsely : Prop := axisCountsRow.holds Try.pinned (OpenSpec.ofChange axisCountsWrong)

/-- 'incipitlaw19.AxisOf': WHATEVER THE INPUT: true; the input reads as it did. -/
def axisOfSpec : ChangeSpec := { name := "axisOf", fn := fun _ => fun
  | [d1, d2, d3] => { results := [.lit (.bool true)], args := [d1, d2, d3] }
  | _ => none }
def axisOfRow : OpenClaim := { program := "ytieapebabncliaa", sum := "4a5fb01359c21103ead30ac4d63b6d55aeeb55bed76919a710d08b8cfd3c2c4d", func := "incipit/incipitlaw19.AxisOf", spec := "axisOf", unfollowed := true, recurses := true, apart := false }
def AxisOfSaid : Prop := axisOfRow.holds Try.pinned (OpenSpec.ofChange axisOfSpec)

/-- ITS FALSE NEIGHBOUR: 'it returns false'. Refute it at one input. -/
def axisOfWrong : ChangeSpec := { name := "axisOf", fn := fun _ => fun
  | [d1, d2, d3] => { results := [.lit (.bool false)], args := [d1, d2, d3] }
  | _ => none }
def AxisOfWrongFalsely : Prop := axisOfRow.holds Try.pinned (OpenSpec.ofChange axisOfWrong)

/-- 'incipitlaw19.AxisKnown': WHATEVER THE INPUT: true; the input reads as it did. -/
def axisKnownSpec : ChangeSpec := { name := "axisKnown", fn := fun _ => fun
  | [d] => { results := [.lit (.bool true)], args := [d] }
  | _ => none }
def axisKnownRow : OpenClaim := { program := "ytieapebabncliaa", sum := "4a5fb01359c21103ead30ac4d63b6d55aeeb55bed76919a710d08b8cfd3c2c4d", func := "incipit/incipitlaw19.AxisKnown", spec := "axisKnown", unfollowed := true, recurses := true, apart := false }
def AxisKnownSaid : Prop := axisKnownRow.holds Try.pinned (OpenSpec.ofChange axisKnownSpec)

/-- ITS FALSE NEIGHBOUR: 'it returns false'. Refute it at one input. -/
def axisKnownWrong : ChangeSpec := { name := "axisKnown", fn := fun _ => fun
  | [d] => { results := [.lit (.bool false)], args := [d] }
  | _ => none }
def AxisKnownWrongFalsely : Prop := axisKnownRow.holds Try.pinned (OpenSpec.ofChange axisKnownWrong)

/-- 'incipitlaw19.AxisSets': WHATEVER THE INPUT: true; the input reads as it did. -/
def axisSetsSpec : ChangeSpec := { name := "axisSets", fn := fun _ => fun
  | [d1, d2] => { results := [.lit (.bool true)], args := [d1, d2] }
  | _ => none }
def axisSetsRow : OpenClaim := { program := "ytieapebabncliaa", sum := "4a5fb01359c21103ead30ac4d63b6d55aeeb55bed76919a710d08b8cfd3c2c4d", func := "incipit/incipitlaw19.AxisSets", spec := "axisSets", unfollowed := true, recurses := true, apart := false }
def AxisSetsSaid : Prop := axisSetsRow.holds Try.pinned (OpenSpec.ofChange axisSetsSpec)

/-- ITS FALSE NEIGHBOUR: 'it returns false'. Refute it at one input. -/
def axisSetsWrong : ChangeSpec := { name := "axisSets", fn := fun _ => fun
  | [d1, d2] => { results := [.lit (.bool false)], args := [d1, d2] }
  | _ => none }
def AxisSetsWrongFalsely : Prop := axisSetsRow.holds Try.pinned (OpenSpec.ofChange axisSetsWrong)

/-- 'incipitlaw19.AxisTells': WHATEVER THE INPUT: true; the input reads as it did. -/
def axisTellsSpec : ChangeSpec := { name := "axisTells", fn := fun _ => fun
  | [d1, d2, d3] => { results := [.lit (.bool true)], args := [d1, d2, d3] }
  | _ => none }
def axisTellsRow : OpenClaim := { program := "ytieapebabncliaa", sum := "4a5fb01359c21103ead30ac4d63b6d55aeeb55bed76919a710d08b8cfd3c2c4d", func := "incipit/incipitlaw19.AxisTells", spec := "axisTells", unfollowed := true, recurses := true, apart := false }
def AxisTellsSaid : Prop := axisTellsRow.holds Try.pinned (OpenSpec.ofChange axisTellsSpec)

/-- ITS FALSE NEIGHBOUR: 'it returns false'. Refute it at one input. -/
def axisTellsWrong : ChangeSpec := { name := "axisTells", fn := fun _ => fun
  | [d1, d2, d3] => { results := [.lit (.bool false)], args := [d1, d2, d3] }
  | _ => none }
def AxisTellsWrongFalsely : Prop := axisTellsRow.holds Try.pinned (OpenSpec.ofChange axisTellsWrong)

/- THE SECOND FORM. 'bulk': how many values and letters a reading holds, each counted each time it is reached (what is shared counts as often as it is met; a slice's spare places count too). A statement '..UptoSaid' is the law's where the arguments, and the package variables that the reading takes, are together of bulk at most 1048576: NARROWER than '..Said'. Prove '..Said' where nothing that the law and all that it calls make is longer than what came in: it says more and counts as full. Else prove '..UptoSaid'. A law counts once. -/
mutual
def uptoBulk {H : Type} : DataW H → Nat
  | .lit (.string bytes) => bytes.length + 1
  | .lit _ => 1
  | .nil => 1
  | .ptr d => uptoBulk d + 1
  | .slice elems spare => uptoBulkAll elems + uptoBulkAll spare + 1
  | .agg parts => uptoBulkAll parts + 1
  | .iface _ d => uptoBulk d + 1
  | .map entries => uptoBulkEntries entries + 1
  | .held _ => 1
def uptoBulkAll {H : Type} : List (DataW H) → Nat
  | [] => 0
  | d :: r => uptoBulk d + uptoBulkAll r
def uptoBulkEntries {H : Type} : List (Lit × DataW H) → Nat
  | [] => 0
  | x :: r => uptoBulkEntry x + uptoBulkEntries r
def uptoBulkEntry {H : Type} : Lit × DataW H → Nat
  | (.string bytes, d) => bytes.length + uptoBulk d + 1
  | (_, d) => uptoBulk d + 1
 end
def uptoSmall : (H : Type) → List (DataW H) → Bool := fun _ ds => decide (uptoBulkAll ds ≤ 1048576)
def OpenSpec.upto (s : _root_.Go.ChangeSpec) : _root_.Go.OpenSpec := { _root_.Go.OpenSpec.ofChange s with cond := some uptoSmall }

/-- 'incipitlaw19.AxisLists', WHERE WHAT IT READS IS OF BULK AT MOST 1048576: true; the input reads as it did. -/
def axisListsUptoRow : OpenClaim := { program := "ytieapebabncliaa", sum := "4a5fb01359c21103ead30ac4d63b6d55aeeb55bed76919a710d08b8cfd3c2c4d", func := "incipit/incipitlaw19.AxisLists", spec := "axisLists", unfollowed := true, recurses := true, apart := false, narrowed := true }
def AxisListsUptoSaid : Prop := axisListsUptoRow.holds Try.pinned (OpenSpec.upto axisListsSpec)

/-- 'incipitlaw19.AxisCounts', WHERE WHAT IT READS IS OF BULK AT MOST 1048576: true; the input reads as it did. -/
def axisCountsUptoRow : OpenClaim := { program := "ytieapebabncliaa", sum := "4a5fb01359c21103ead30ac4d63b6d55aeeb55bed76919a710d08b8cfd3c2c4d", func := "incipit/incipitlaw19.AxisCounts", spec := "axisCounts", unfollowed := true, recurses := true, apart := false, narrowed := true }
def AxisCountsUptoSaid : Prop := axisCountsUptoRow.holds Try.pinned (OpenSpec.upto axisCountsSpec)

/-- 'incipitlaw19.AxisOf', WHERE WHAT IT READS IS OF BULK AT MOST 1048576: true; the input reads as it did. -/
def axisOfUptoRow : OpenClaim := { program := "ytieapebabncliaa", sum := "4a5fb01359c21103ead30ac4d63b6d55aeeb55bed76919a710d08b8cfd3c2c4d", func := "incipit/incipitlaw19.AxisOf", spec := "axisOf", unfollowed := true, recurses := true, apart := false, narrowed := true }
def AxisOfUptoSaid : Prop := axisOfUptoRow.holds Try.pinned (OpenSpec.upto axisOfSpec)

/-- 'incipitlaw19.AxisKnown', WHERE WHAT IT READS IS OF BULK AT MOST 1048576: true; the input reads as it did. -/
def axisKnownUptoRow : OpenClaim := { program := "ytieapebabncliaa", sum := "4a5fb01359c21103ead30ac4d63b6d55aeeb55bed76919a710d08b8cfd3c2c4d", func := "incipit/incipitlaw19.AxisKnown", spec := "axisKnown", unfollowed := true, recurses := true, apart := false, narrowed := true }
def AxisKnownUptoSaid : Prop := axisKnownUptoRow.holds Try.pinned (OpenSpec.upto axisKnownSpec)

/-- 'incipitlaw19.AxisSets', WHERE WHAT IT READS IS OF BULK AT MOST 1048576: true; the input reads as it did. -/
def axisSetsUptoRow : OpenClaim := { program := "ytieapebabncliaa", sum := "4a5fb01359c21103ead30ac4d63b6d55aeeb55bed76919a710d08b8cfd3c2c4d", func := "incipit/incipitlaw19.AxisSets", spec := "axisSets", unfollowed := true, recurses := true, apart := false, narrowed := true }
def AxisSetsUptoSaid : Prop := axisSetsUptoRow.holds Try.pinned (OpenSpec.upto axisSetsSpec)

/-- 'incipitlaw19.AxisTells', WHERE WHAT IT READS IS OF BULK AT MOST 1048576: true; the input reads as it did. -/
def axisTellsUptoRow : OpenClaim := { program := "ytieapebabncliaa", sum := "4a5fb01359c21103ead30ac4d63b6d55aeeb55bed76919a710d08b8cfd3c2c4d", func := "incipit/incipitlaw19.AxisTells", spec := "axisTells", unfollowed := true, recurses := true, apart := false, narrowed := true }
def AxisTellsUptoSaid : Prop := axisTellsUptoRow.holds Try.pinned (OpenSpec.upto axisTellsSpec)

end Rows
end Go.Proofs.Ytieapebabncliaa
