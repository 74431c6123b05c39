/-
  No cell of these rows narrows 'for every input' (looked for: loops, veiled, ifaces, maps, wideKeys, modest, calm, conditions, laid).
  DERIVED. THE GIVEN ROWS OF THIS SEAT. 10 by the template 'for every input the law returns true; each argument reads behind the call as it read before'; 0 by the template 'total and deterministic' (their statements: YtbahpkjfgoeohaaTotals.lean).
  GIVEN WITH THE SEED: the statements are not yours to turn. If you find one false, say at which input.
  Laid BY PROGRAM, IN A SANDBOX (cutbox-rows.mjs): the forced cells as the released guide's own fill.sh prints them over the translation b0a5f2aced3cd6da… (all of the seat's roots in one cut). By AI agents, Wed Nov 11 2026. No macro, syntax, notation, axiom, sorry.
-/
import Derived.Test.YtbahpkjfgoeohaaChecked
import GoSem.Claim
import GoSem.ClaimJoined
import GoSem.ClaimMapViews
import Derived.JoinedTies
import Derived.KernelRfl
namespace Go.Proofs.Ytbahpkjfgoeohaa
/- THE CELL 'sum', in the pinned program and in every row, IS THE sha256 OF THE DUMP (.gsa) THAT YtbahpkjfgoeohaaProg.lean LOADS. Nothing in Lean hashes anything: it is a label: what it is worth is what the hold of that sum in a sandbox is worth. -/
noncomputable def Try.pinned : Pinned := { name := "ytbahpkjfgoeohaa", sum := "b0a5f2aced3cd6dadd260bf93c1eb2dfacb131175ba2feef54d2c5effe4d8592", checked := Try.checked }
namespace Rows
def none {H : Type} : Left H := { results := [], args := [] }

/-- 'clusterkernellaw07.SpaceCounts': WHATEVER THE INPUT: true; the input reads as it did. -/
def spaceCountsSpec : ChangeSpec := { name := "spaceCounts", fn := fun _ => fun
  | [d1, d2, d3] => { results := [.lit (.bool true)], args := [d1, d2, d3] }
  | _ => none }
def spaceCountsRow : OpenClaim := { program := "ytbahpkjfgoeohaa", sum := "b0a5f2aced3cd6dadd260bf93c1eb2dfacb131175ba2feef54d2c5effe4d8592", func := "clusterkernel/clusterkernellaw07.SpaceCounts", spec := "spaceCounts", unfollowed := true, recurses := true, apart := false }
def SpaceCountsSaid : Prop := spaceCountsRow.holds Try.pinned (OpenSpec.ofChange spaceCountsSpec)

/-- ITS FALSE NEIGHBOUR: 'it returns false'. Refute it at one input. -/
def spaceCountsWrong : ChangeSpec := { name := "spaceCounts", fn := fun _ => fun
  | [d1, d2, d3] => { results := [.lit (.bool false)], args := [d1, d2, d3] }
  | _ => none }
def SpaceCountsWrongFalsely : Prop := spaceCountsRow.holds Try.pinned (OpenSpec.ofChange spaceCountsWrong)

/-- 'clusterkernellaw01.PackOnce': WHATEVER THE INPUT: true; the input reads as it did. -/
def packOnceSpec : ChangeSpec := { name := "packOnce", fn := fun _ => fun
  | [d1, d2, d3] => { results := [.lit (.bool true)], args := [d1, d2, d3] }
  | _ => none }
def packOnceRow : OpenClaim := { program := "ytbahpkjfgoeohaa", sum := "b0a5f2aced3cd6dadd260bf93c1eb2dfacb131175ba2feef54d2c5effe4d8592", func := "clusterkernel/clusterkernellaw01.PackOnce", spec := "packOnce", apart := false }
def PackOnceSaid : Prop := packOnceRow.holds Try.pinned (OpenSpec.ofChange packOnceSpec)

/-- ITS FALSE NEIGHBOUR: 'it returns false'. Refute it at one input. -/
def packOnceWrong : ChangeSpec := { name := "packOnce", fn := fun _ => fun
  | [d1, d2, d3] => { results := [.lit (.bool false)], args := [d1, d2, d3] }
  | _ => none }
def PackOnceWrongFalsely : Prop := packOnceRow.holds Try.pinned (OpenSpec.ofChange packOnceWrong)

/-- 'clusterkernellaw07.SpaceFinds': WHATEVER THE INPUT: true; the input reads as it did. -/
def spaceFindsSpec : ChangeSpec := { name := "spaceFinds", fn := fun _ => fun
  | [d1, d2, d3] => { results := [.lit (.bool true)], args := [d1, d2, d3] }
  | _ => none }
def spaceFindsRow : OpenClaim := { program := "ytbahpkjfgoeohaa", sum := "b0a5f2aced3cd6dadd260bf93c1eb2dfacb131175ba2feef54d2c5effe4d8592", func := "clusterkernel/clusterkernellaw07.SpaceFinds", spec := "spaceFinds", unfollowed := true, recurses := true, apart := false }
def SpaceFindsSaid : Prop := spaceFindsRow.holds Try.pinned (OpenSpec.ofChange spaceFindsSpec)

/-- ITS FALSE NEIGHBOUR: 'it returns false'. Refute it at one input. -/
def spaceFindsWrong : ChangeSpec := { name := "spaceFinds", fn := fun _ => fun
  | [d1, d2, d3] => { results := [.lit (.bool false)], args := [d1, d2, d3] }
  | _ => none }
def SpaceFindsWrongFalsely : Prop := spaceFindsRow.holds Try.pinned (OpenSpec.ofChange spaceFindsWrong)

/-- 'clusterkernellaw07.SpaceChanges': WHATEVER THE INPUT: true; the input reads as it did. -/
def spaceChangesSpec : ChangeSpec := { name := "spaceChanges", fn := fun _ => fun
  | [d1, d2, d3, d4] => { results := [.lit (.bool true)], args := [d1, d2, d3, d4] }
  | _ => none }
def spaceChangesRow : OpenClaim := { program := "ytbahpkjfgoeohaa", sum := "b0a5f2aced3cd6dadd260bf93c1eb2dfacb131175ba2feef54d2c5effe4d8592", func := "clusterkernel/clusterkernellaw07.SpaceChanges", spec := "spaceChanges", unfollowed := true, recurses := true, apart := false }
def SpaceChangesSaid : Prop := spaceChangesRow.holds Try.pinned (OpenSpec.ofChange spaceChangesSpec)

/-- ITS FALSE NEIGHBOUR: 'it returns false'. Refute it at one input. -/
def spaceChangesWrong : ChangeSpec := { name := "spaceChanges", fn := fun _ => fun
  | [d1, d2, d3, d4] => { results := [.lit (.bool false)], args := [d1, d2, d3, d4] }
  | _ => none }
def SpaceChangesWrongFalsely : Prop := spaceChangesRow.holds Try.pinned (OpenSpec.ofChange spaceChangesWrong)

/-- 'clusterkernellaw07.SpaceKeeps': WHATEVER THE INPUT: true; the input reads as it did. -/
def spaceKeepsSpec : ChangeSpec := { name := "spaceKeeps", fn := fun _ => fun
  | [d1, d2, d3] => { results := [.lit (.bool true)], args := [d1, d2, d3] }
  | _ => none }
def spaceKeepsRow : OpenClaim := { program := "ytbahpkjfgoeohaa", sum := "b0a5f2aced3cd6dadd260bf93c1eb2dfacb131175ba2feef54d2c5effe4d8592", func := "clusterkernel/clusterkernellaw07.SpaceKeeps", spec := "spaceKeeps", unfollowed := true, recurses := true, apart := false }
def SpaceKeepsSaid : Prop := spaceKeepsRow.holds Try.pinned (OpenSpec.ofChange spaceKeepsSpec)

/-- ITS FALSE NEIGHBOUR: 'it returns false'. Refute it at one input. -/
def spaceKeepsWrong : ChangeSpec := { name := "spaceKeeps", fn := fun _ => fun
  | [d1, d2, d3] => { results := [.lit (.bool false)], args := [d1, d2, d3] }
  | _ => none }
def SpaceKeepsWrongFalsely : Prop := spaceKeepsRow.holds Try.pinned (OpenSpec.ofChange spaceKeepsWrong)

/-- 'clusterkernellaw10.TableCounts': WHATEVER THE INPUT: true; the input reads as it did. -/
def tableCountsSpec : ChangeSpec := { name := "tableCounts", fn := fun _ => fun
  | [d1, d2, d3] => { results := [.lit (.bool true)], args := [d1, d2, d3] }
  | _ => none }
def tableCountsRow : OpenClaim := { program := "ytbahpkjfgoeohaa", sum := "b0a5f2aced3cd6dadd260bf93c1eb2dfacb131175ba2feef54d2c5effe4d8592", func := "clusterkernel/clusterkernellaw10.TableCounts", spec := "tableCounts", unfollowed := true, recurses := true, apart := false }
def TableCountsSaid : Prop := tableCountsRow.holds Try.pinned (OpenSpec.ofChange tableCountsSpec)

/-- ITS FALSE NEIGHBOUR: 'it returns false'. Refute it at one input. -/
def tableCountsWrong : ChangeSpec := { name := "tableCounts", fn := fun _ => fun
  | [d1, d2, d3] => { results := [.lit (.bool false)], args := [d1, d2, d3] }
  | _ => none }
def TableCountsWrongFalsely : Prop := tableCountsRow.holds Try.pinned (OpenSpec.ofChange tableCountsWrong)

/-- 'clusterkernellaw10.TableHolds': WHATEVER THE INPUT: true; the input reads as it did. -/
def tableHoldsSpec : ChangeSpec := { name := "tableHolds", fn := fun _ => fun
  | [d1, d2] => { results := [.lit (.bool true)], args := [d1, d2] }
  | _ => none }
def tableHoldsRow : OpenClaim := { program := "ytbahpkjfgoeohaa", sum := "b0a5f2aced3cd6dadd260bf93c1eb2dfacb131175ba2feef54d2c5effe4d8592", func := "clusterkernel/clusterkernellaw10.TableHolds", spec := "tableHolds", unfollowed := true, recurses := true, apart := false }
def TableHoldsSaid : Prop := tableHoldsRow.holds Try.pinned (OpenSpec.ofChange tableHoldsSpec)

/-- ITS FALSE NEIGHBOUR: 'it returns false'. Refute it at one input. -/
def tableHoldsWrong : ChangeSpec := { name := "tableHolds", fn := fun _ => fun
  | [d1, d2] => { results := [.lit (.bool false)], args := [d1, d2] }
  | _ => none }
def TableHoldsWrongFalsely : Prop := tableHoldsRow.holds Try.pinned (OpenSpec.ofChange tableHoldsWrong)

/-- 'clusterkernellaw10.TableSlots': WHATEVER THE INPUT: true; the input reads as it did. -/
def tableSlotsSpec : ChangeSpec := { name := "tableSlots", fn := fun _ => fun
  | [d1, d2, d3, d4] => { results := [.lit (.bool true)], args := [d1, d2, d3, d4] }
  | _ => none }
def tableSlotsRow : OpenClaim := { program := "ytbahpkjfgoeohaa", sum := "b0a5f2aced3cd6dadd260bf93c1eb2dfacb131175ba2feef54d2c5effe4d8592", func := "clusterkernel/clusterkernellaw10.TableSlots", spec := "tableSlots", unfollowed := true, recurses := true, apart := false }
def TableSlotsSaid : Prop := tableSlotsRow.holds Try.pinned (OpenSpec.ofChange tableSlotsSpec)

/-- ITS FALSE NEIGHBOUR: 'it returns false'. Refute it at one input. -/
def tableSlotsWrong : ChangeSpec := { name := "tableSlots", fn := fun _ => fun
  | [d1, d2, d3, d4] => { results := [.lit (.bool false)], args := [d1, d2, d3, d4] }
  | _ => none }
def TableSlotsWrongFalsely : Prop := tableSlotsRow.holds Try.pinned (OpenSpec.ofChange tableSlotsWrong)

/-- 'clusterkernellaw10.TableLeast': WHATEVER THE INPUT: true; the input reads as it did. -/
def tableLeastSpec : ChangeSpec := { name := "tableLeast", fn := fun _ => fun
  | [d] => { results := [.lit (.bool true)], args := [d] }
  | _ => none }
def tableLeastRow : OpenClaim := { program := "ytbahpkjfgoeohaa", sum := "b0a5f2aced3cd6dadd260bf93c1eb2dfacb131175ba2feef54d2c5effe4d8592", func := "clusterkernel/clusterkernellaw10.TableLeast", spec := "tableLeast", unfollowed := true, recurses := true, apart := false }
def TableLeastSaid : Prop := tableLeastRow.holds Try.pinned (OpenSpec.ofChange tableLeastSpec)

/-- ITS FALSE NEIGHBOUR: 'it returns false'. Refute it at one input. -/
def tableLeastWrong : ChangeSpec := { name := "tableLeast", fn := fun _ => fun
  | [d] => { results := [.lit (.bool false)], args := [d] }
  | _ => none }
def TableLeastWrongFalsely : Prop := tableLeastRow.holds Try.pinned (OpenSpec.ofChange tableLeastWrong)

/-- 'clusterkernellaw10.TableKeeps': WHATEVER THE INPUT: true; the input reads as it did. -/
def tableKeepsSpec : ChangeSpec := { name := "tableKeeps", fn := fun _ => fun
  | [d1, d2] => { results := [.lit (.bool true)], args := [d1, d2] }
  | _ => none }
def tableKeepsRow : OpenClaim := { program := "ytbahpkjfgoeohaa", sum := "b0a5f2aced3cd6dadd260bf93c1eb2dfacb131175ba2feef54d2c5effe4d8592", func := "clusterkernel/clusterkernellaw10.TableKeeps", spec := "tableKeeps", unfollowed := true, recurses := true, apart := false }
def TableKeepsSaid : Prop := tableKeepsRow.holds Try.pinned (OpenSpec.ofChange tableKeepsSpec)

/-- ITS FALSE NEIGHBOUR: 'it returns false'. Refute it at one input. -/
def tableKeepsWrong : ChangeSpec := { name := "tableKeeps", fn := fun _ => fun
  | [d1, d2] => { results := [.lit (.bool false)], args := [d1, d2] }
  | _ => none }
def TableKeepsWrongFalsely : Prop := tableKeepsRow.holds Try.pinned (OpenSpec.ofChange tableKeepsWrong)

/- THE SECOND FORM. 'bulk': how many values and letters a reading holds, each counted each time it is reached (what is shared counts as often as it is met; a slice's spare places count too). A statement '..UptoSaid' is the law's where the arguments, and the package variables that the reading takes, are together of bulk at most 1048576: NARROWER than '..Said'. Prove '..Said' where nothing that the law and all that it calls make is longer than what came in: it says more and counts as full. Else prove '..UptoSaid'. A law counts once. -/
mutual
def uptoBulk {H : Type} : DataW H → Nat
  | .lit (.string bytes) => bytes.length + 1
  | .lit _ => 1
  | .nil => 1
  | .ptr d => uptoBulk d + 1
  | .slice elems spare => uptoBulkAll elems + uptoBulkAll spare + 1
  | .agg parts => uptoBulkAll parts + 1
  | .iface _ d => uptoBulk d + 1
  | .map entries => uptoBulkEntries entries + 1
  | .held _ => 1
def uptoBulkAll {H : Type} : List (DataW H) → Nat
  | [] => 0
  | d :: r => uptoBulk d + uptoBulkAll r
def uptoBulkEntries {H : Type} : List (Lit × DataW H) → Nat
  | [] => 0
  | x :: r => uptoBulkEntry x + uptoBulkEntries r
def uptoBulkEntry {H : Type} : Lit × DataW H → Nat
  | (.string bytes, d) => bytes.length + uptoBulk d + 1
  | (_, d) => uptoBulk d + 1
 end
def uptoSmall : (H : Type) → List (DataW H) → Bool := fun _ ds => decide (uptoBulkAll ds ≤ 1048576)
def OpenSpec.upto (s : _root_.Go.ChangeSpec) : _root_.Go.OpenSpec := { _root_.Go.OpenSpec.ofChange s with cond := some uptoSmall }

/-- 'clusterkernellaw07.SpaceCounts', WHERE WHAT IT READS IS OF BULK AT MOST 1048576: true; the input reads as it did. -/
def spaceCountsUptoRow : OpenClaim := { program := "ytbahpkjfgoeohaa", sum := "b0a5f2aced3cd6dadd260bf93c1eb2dfacb131175ba2feef54d2c5effe4d8592", func := "clusterkernel/clusterkernellaw07.SpaceCounts", spec := "spaceCounts", unfollowed := true, recurses := true, apart := false, narrowed := true }
def SpaceCountsUptoSaid : Prop := spaceCountsUptoRow.holds Try.pinned (OpenSpec.upto spaceCountsSpec)

/-- 'clusterkernellaw01.PackOnce', WHERE WHAT IT READS IS OF BULK AT MOST 1048576: true; the input reads as it did. -/
def packOnceUptoRow : OpenClaim := { program := "ytbahpkjfgoeohaa", sum := "b0a5f2aced3cd6dadd260bf93c1eb2dfacb131175ba2feef54d2c5effe4d8592", func := "clusterkernel/clusterkernellaw01.PackOnce", spec := "packOnce", apart := false, narrowed := true }
def PackOnceUptoSaid : Prop := packOnceUptoRow.holds Try.pinned (OpenSpec.upto packOnceSpec)

/-- 'clusterkernellaw07.SpaceFinds', WHERE WHAT IT READS IS OF BULK AT MOST 1048576: true; the input reads as it did. -/
def spaceFindsUptoRow : OpenClaim := { program := "ytbahpkjfgoeohaa", sum := "b0a5f2aced3cd6dadd260bf93c1eb2dfacb131175ba2feef54d2c5effe4d8592", func := "clusterkernel/clusterkernellaw07.SpaceFinds", spec := "spaceFinds", unfollowed := true, recurses := true, apart := false, narrowed := true }
def SpaceFindsUptoSaid : Prop := spaceFindsUptoRow.holds Try.pinned (OpenSpec.upto spaceFindsSpec)

/-- 'clusterkernellaw07.SpaceChanges', WHERE WHAT IT READS IS OF BULK AT MOST 1048576: true; the input reads as it did. -/
def spaceChangesUptoRow : OpenClaim := { program := "ytbahpkjfgoeohaa", sum := "b0a5f2aced3cd6dadd260bf93c1eb2dfacb131175ba2feef54d2c5effe4d8592", func := "clusterkernel/clusterkernellaw07.SpaceChanges", spec := "spaceChanges", unfollowed := true, recurses := true, apart := false, narrowed := true }
def SpaceChangesUptoSaid : Prop := spaceChangesUptoRow.holds Try.pinned (OpenSpec.upto spaceChangesSpec)

/-- 'clusterkernellaw07.SpaceKeeps', WHERE WHAT IT READS IS OF BULK AT MOST 1048576: true; the input reads as it did. -/
def spaceKeepsUptoRow : OpenClaim := { program := "ytbahpkjfgoeohaa", sum := "b0a5f2aced3cd6dadd260bf93c1eb2dfacb131175ba2feef54d2c5effe4d8592", func := "clusterkernel/clusterkernellaw07.SpaceKeeps", spec := "spaceKeeps", unfollowed := true, recurses := true, apart := false, narrowed := true }
def SpaceKeepsUptoSaid : Prop := spaceKeepsUptoRow.holds Try.pinned (OpenSpec.upto spaceKeepsSpec)

/-- 'clusterkernellaw10.TableCounts', WHERE WHAT IT READS IS OF BULK AT MOST 1048576: true; the input reads as it did. -/
def tableCountsUptoRow : OpenClaim := { program := "ytbahpkjfgoeohaa", sum := "b0a5f2aced3cd6dadd260bf93c1eb2dfacb131175ba2feef54d2c5effe4d8592", func := "clusterkernel/clusterkernellaw10.TableCounts", spec := "tableCounts", unfollowed := true, recurses := true, apart := false, narrowed := true }
def TableCountsUptoSaid : Prop := tableCountsUptoRow.holds Try.pinned (OpenSpec.upto tableCountsSpec)

/-- 'clusterkernellaw10.TableHolds', WHERE WHAT IT READS IS OF BULK AT MOST 1048576: true; the input reads as it did. -/
def tableHoldsUptoRow : OpenClaim := { program := "ytbahpkjfgoeohaa", sum := "b0a5f2aced3cd6dadd260bf93c1eb2dfacb131175ba2feef54d2c5effe4d8592", func := "clusterkernel/clusterkernellaw10.TableHolds", spec := "tableHolds", unfollowed := true, recurses := true, apart := false, narrowed := true }
def TableHoldsUptoSaid : Prop := tableHoldsUptoRow.holds Try.pinned (OpenSpec.upto tableHoldsSpec)

/-- 'clusterkernellaw10.TableSlots', WHERE WHAT IT READS IS OF BULK AT MOST 1048576: true; the input reads as it did. -/
def tableSlotsUptoRow : OpenClaim := { program := "ytbahpkjfgoeohaa", sum := "b0a5f2aced3cd6dadd260bf93c1eb2dfacb131175ba2feef54d2c5effe4d8592", func := "clusterkernel/clusterkernellaw10.TableSlots", spec := "tableSlots", unfollowed := true, recurses := true, apart := false, narrowed := true }
def TableSlotsUptoSaid : Prop := tableSlotsUptoRow.holds Try.pinned (OpenSpec.upto tableSlotsSpec)

/-- 'clusterkernellaw10.TableLeast', WHERE WHAT IT READS IS OF BULK AT MOST 1048576: true; the input reads as it did. -/
def tableLeastUptoRow : OpenClaim := { program := "ytbahpkjfgoeohaa", sum := "b0a5f2aced3cd6dadd260bf93c1eb2dfacb131175ba2feef54d2c5effe4d8592", func := "clusterkernel/clusterkernellaw10.TableLeast", spec := "tableLeast", unfollowed := true, recurses := true, apart := false, narrowed := true }
def TableLeastUptoSaid : Prop := tableLeastUptoRow.holds Try.pinned (OpenSpec.upto tableLeastSpec)

/-- 'clusterkernellaw10.TableKeeps', WHERE WHAT IT READS IS OF BULK AT MOST 1048576: true; the input reads as it did. -/
def tableKeepsUptoRow : OpenClaim := { program := "ytbahpkjfgoeohaa", sum := "b0a5f2aced3cd6dadd260bf93c1eb2dfacb131175ba2feef54d2c5effe4d8592", func := "clusterkernel/clusterkernellaw10.TableKeeps", spec := "tableKeeps", unfollowed := true, recurses := true, apart := false, narrowed := true }
def TableKeepsUptoSaid : Prop := tableKeepsUptoRow.holds Try.pinned (OpenSpec.upto tableKeepsSpec)

end Rows
end Go.Proofs.Ytbahpkjfgoeohaa
