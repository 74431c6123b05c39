/-
  No cell of these rows narrows 'for every input' (looked for: loops, veiled, ifaces, maps, wideKeys, modest, calm, conditions, laid).
  DERIVED. THE GIVEN ROWS OF THIS SEAT. 8 by the template 'for every input the law returns true; each argument reads behind the call as it read before'; 0 by the template 'total and deterministic' (their statements: YtnnabccfagojhaaTotals.lean).
  GIVEN WITH THE SEED: the statements are not yours to turn. If you find one false, say at which input.
  Laid BY PROGRAM, IN A SANDBOX (cutbox-rows.mjs): the forced cells as the released guide's own fill.sh prints them over the translation 569efcf4da93f3be… (all of the seat's roots in one cut). By AI agents, Wed Nov 11 2026. No macro, syntax, notation, axiom, sorry.
-/
import Derived.Test.YtnnabccfagojhaaChecked
import GoSem.Claim
import GoSem.ClaimJoined
import GoSem.ClaimMapViews
import Derived.JoinedTies
import Derived.KernelRfl
namespace Go.Proofs.Ytnnabccfagojhaa
/- THE CELL 'sum', in the pinned program and in every row, IS THE sha256 OF THE DUMP (.gsa) THAT YtnnabccfagojhaaProg.lean LOADS. Nothing in Lean hashes anything: it is a label: what it is worth is what the hold of that sum in a sandbox is worth. -/
noncomputable def Try.pinned : Pinned := { name := "ytnnabccfagojhaa", sum := "569efcf4da93f3be8e989bdccdcf332d3733c8367bbdf461637b965819ebd018", checked := Try.checked }
namespace Rows
def none {H : Type} : Left H := { results := [], args := [] }

/-- 'clusterkernellaw37.ContractEnds': WHATEVER THE INPUT: true; the input reads as it did. -/
def contractEndsSpec : ChangeSpec := { name := "contractEnds", fn := fun _ => fun
  | [d1, d2, d3] => { results := [.lit (.bool true)], args := [d1, d2, d3] }
  | _ => none }
def contractEndsRow : OpenClaim := { program := "ytnnabccfagojhaa", sum := "569efcf4da93f3be8e989bdccdcf332d3733c8367bbdf461637b965819ebd018", func := "clusterkernel/clusterkernellaw37.ContractEnds", spec := "contractEnds", unfollowed := true, recurses := true, apart := false }
def ContractEndsSaid : Prop := contractEndsRow.holds Try.pinned (OpenSpec.ofChange contractEndsSpec)

/-- ITS FALSE NEIGHBOUR: 'it returns false'. Refute it at one input. -/
def contractEndsWrong : ChangeSpec := { name := "contractEnds", fn := fun _ => fun
  | [d1, d2, d3] => { results := [.lit (.bool false)], args := [d1, d2, d3] }
  | _ => none }
def ContractEndsWrongFalsely : Prop := contractEndsRow.holds Try.pinned (OpenSpec.ofChange contractEndsWrong)

/-- 'clusterkernellaw08.FileModel': WHATEVER THE INPUT: true; the input reads as it did. -/
def fileModelSpec : ChangeSpec := { name := "fileModel", fn := fun _ => fun
  | [d1, d2] => { results := [.lit (.bool true)], args := [d1, d2] }
  | _ => none }
def fileModelRow : OpenClaim := { program := "ytnnabccfagojhaa", sum := "569efcf4da93f3be8e989bdccdcf332d3733c8367bbdf461637b965819ebd018", func := "clusterkernel/clusterkernellaw08.FileModel", spec := "fileModel", unfollowed := true, recurses := true, apart := false }
def FileModelSaid : Prop := fileModelRow.holds Try.pinned (OpenSpec.ofChange fileModelSpec)

/-- ITS FALSE NEIGHBOUR: 'it returns false'. Refute it at one input. -/
def fileModelWrong : ChangeSpec := { name := "fileModel", fn := fun _ => fun
  | [d1, d2] => { results := [.lit (.bool false)], args := [d1, d2] }
  | _ => none }
def FileModelWrongFalsely : Prop := fileModelRow.holds Try.pinned (OpenSpec.ofChange fileModelWrong)

/-- 'clusterkernellaw35.LocateFinds': WHATEVER THE INPUT: true; the input reads as it did. -/
def locateFindsSpec : ChangeSpec := { name := "locateFinds", fn := fun _ => fun
  | [d1, d2, d3, d4, d5, d6] => { results := [.lit (.bool true)], args := [d1, d2, d3, d4, d5, d6] }
  | _ => none }
def locateFindsRow : OpenClaim := { program := "ytnnabccfagojhaa", sum := "569efcf4da93f3be8e989bdccdcf332d3733c8367bbdf461637b965819ebd018", func := "clusterkernel/clusterkernellaw35.LocateFinds", spec := "locateFinds", unfollowed := true, recurses := true, apart := false }
def LocateFindsSaid : Prop := locateFindsRow.holds Try.pinned (OpenSpec.ofChange locateFindsSpec)

/-- ITS FALSE NEIGHBOUR: 'it returns false'. Refute it at one input. -/
def locateFindsWrong : ChangeSpec := { name := "locateFinds", fn := fun _ => fun
  | [d1, d2, d3, d4, d5, d6] => { results := [.lit (.bool false)], args := [d1, d2, d3, d4, d5, d6] }
  | _ => none }
def LocateFindsWrongFalsely : Prop := locateFindsRow.holds Try.pinned (OpenSpec.ofChange locateFindsWrong)

/-- 'clusterkernellaw35.LocateLeads': WHATEVER THE INPUT: true; the input reads as it did. -/
def locateLeadsSpec : ChangeSpec := { name := "locateLeads", fn := fun _ => fun
  | [d1, d2, d3] => { results := [.lit (.bool true)], args := [d1, d2, d3] }
  | _ => none }
def locateLeadsRow : OpenClaim := { program := "ytnnabccfagojhaa", sum := "569efcf4da93f3be8e989bdccdcf332d3733c8367bbdf461637b965819ebd018", func := "clusterkernel/clusterkernellaw35.LocateLeads", spec := "locateLeads", unfollowed := true, recurses := true, apart := false }
def LocateLeadsSaid : Prop := locateLeadsRow.holds Try.pinned (OpenSpec.ofChange locateLeadsSpec)

/-- ITS FALSE NEIGHBOUR: 'it returns false'. Refute it at one input. -/
def locateLeadsWrong : ChangeSpec := { name := "locateLeads", fn := fun _ => fun
  | [d1, d2, d3] => { results := [.lit (.bool false)], args := [d1, d2, d3] }
  | _ => none }
def LocateLeadsWrongFalsely : Prop := locateLeadsRow.holds Try.pinned (OpenSpec.ofChange locateLeadsWrong)

/-- 'clusterkernellaw35.LocateReplaces': WHATEVER THE INPUT: true; the input reads as it did. -/
def locateReplacesSpec : ChangeSpec := { name := "locateReplaces", fn := fun _ => fun
  | [d1, d2, d3, d4] => { results := [.lit (.bool true)], args := [d1, d2, d3, d4] }
  | _ => none }
def locateReplacesRow : OpenClaim := { program := "ytnnabccfagojhaa", sum := "569efcf4da93f3be8e989bdccdcf332d3733c8367bbdf461637b965819ebd018", func := "clusterkernel/clusterkernellaw35.LocateReplaces", spec := "locateReplaces", unfollowed := true, recurses := true, apart := false }
def LocateReplacesSaid : Prop := locateReplacesRow.holds Try.pinned (OpenSpec.ofChange locateReplacesSpec)

/-- ITS FALSE NEIGHBOUR: 'it returns false'. Refute it at one input. -/
def locateReplacesWrong : ChangeSpec := { name := "locateReplaces", fn := fun _ => fun
  | [d1, d2, d3, d4] => { results := [.lit (.bool false)], args := [d1, d2, d3, d4] }
  | _ => none }
def LocateReplacesWrongFalsely : Prop := locateReplacesRow.holds Try.pinned (OpenSpec.ofChange locateReplacesWrong)

/-- 'clusterkernellaw37.ContractSettles': WHATEVER THE INPUT: true; the input reads as it did. -/
def contractSettlesSpec : ChangeSpec := { name := "contractSettles", fn := fun _ => fun
  | [d1, d2, d3, d4] => { results := [.lit (.bool true)], args := [d1, d2, d3, d4] }
  | _ => none }
def contractSettlesRow : OpenClaim := { program := "ytnnabccfagojhaa", sum := "569efcf4da93f3be8e989bdccdcf332d3733c8367bbdf461637b965819ebd018", func := "clusterkernel/clusterkernellaw37.ContractSettles", spec := "contractSettles", unfollowed := true, recurses := true, apart := false }
def ContractSettlesSaid : Prop := contractSettlesRow.holds Try.pinned (OpenSpec.ofChange contractSettlesSpec)

/-- ITS FALSE NEIGHBOUR: 'it returns false'. Refute it at one input. -/
def contractSettlesWrong : ChangeSpec := { name := "contractSettles", fn := fun _ => fun
  | [d1, d2, d3, d4] => { results := [.lit (.bool false)], args := [d1, d2, d3, d4] }
  | _ => none }
def ContractSettlesWrongFalsely : Prop := contractSettlesRow.holds Try.pinned (OpenSpec.ofChange contractSettlesWrong)

/-- 'clusterkernellaw37.ContractMoves': WHATEVER THE INPUT: true; the input reads as it did. -/
def contractMovesSpec : ChangeSpec := { name := "contractMoves", fn := fun _ => fun
  | [d1, d2, d3, d4, d5, d6, d7] => { results := [.lit (.bool true)], args := [d1, d2, d3, d4, d5, d6, d7] }
  | _ => none }
def contractMovesRow : OpenClaim := { program := "ytnnabccfagojhaa", sum := "569efcf4da93f3be8e989bdccdcf332d3733c8367bbdf461637b965819ebd018", func := "clusterkernel/clusterkernellaw37.ContractMoves", spec := "contractMoves", unfollowed := true, recurses := true, apart := false }
def ContractMovesSaid : Prop := contractMovesRow.holds Try.pinned (OpenSpec.ofChange contractMovesSpec)

/-- ITS FALSE NEIGHBOUR: 'it returns false'. Refute it at one input. -/
def contractMovesWrong : ChangeSpec := { name := "contractMoves", fn := fun _ => fun
  | [d1, d2, d3, d4, d5, d6, d7] => { results := [.lit (.bool false)], args := [d1, d2, d3, d4, d5, d6, d7] }
  | _ => none }
def ContractMovesWrongFalsely : Prop := contractMovesRow.holds Try.pinned (OpenSpec.ofChange contractMovesWrong)

/-- 'clusterkernellaw37.ContractBounds': WHATEVER THE INPUT: true; the input reads as it did. -/
def contractBoundsSpec : ChangeSpec := { name := "contractBounds", fn := fun _ => fun
  | [d1, d2] => { results := [.lit (.bool true)], args := [d1, d2] }
  | _ => none }
def contractBoundsRow : OpenClaim := { program := "ytnnabccfagojhaa", sum := "569efcf4da93f3be8e989bdccdcf332d3733c8367bbdf461637b965819ebd018", func := "clusterkernel/clusterkernellaw37.ContractBounds", spec := "contractBounds", unfollowed := true, recurses := true, apart := false }
def ContractBoundsSaid : Prop := contractBoundsRow.holds Try.pinned (OpenSpec.ofChange contractBoundsSpec)

/-- ITS FALSE NEIGHBOUR: 'it returns false'. Refute it at one input. -/
def contractBoundsWrong : ChangeSpec := { name := "contractBounds", fn := fun _ => fun
  | [d1, d2] => { results := [.lit (.bool false)], args := [d1, d2] }
  | _ => none }
def ContractBoundsWrongFalsely : Prop := contractBoundsRow.holds Try.pinned (OpenSpec.ofChange contractBoundsWrong)

/- THE SECOND FORM. 'bulk': how many values and letters a reading holds, each counted each time it is reached (what is shared counts as often as it is met; a slice's spare places count too). A statement '..UptoSaid' is the law's where the arguments, and the package variables that the reading takes, are together of bulk at most 1048576: NARROWER than '..Said'. Prove '..Said' where nothing that the law and all that it calls make is longer than what came in: it says more and counts as full. Else prove '..UptoSaid'. A law counts once. -/
mutual
def uptoBulk {H : Type} : DataW H → Nat
  | .lit (.string bytes) => bytes.length + 1
  | .lit _ => 1
  | .nil => 1
  | .ptr d => uptoBulk d + 1
  | .slice elems spare => uptoBulkAll elems + uptoBulkAll spare + 1
  | .agg parts => uptoBulkAll parts + 1
  | .iface _ d => uptoBulk d + 1
  | .map entries => uptoBulkEntries entries + 1
  | .held _ => 1
def uptoBulkAll {H : Type} : List (DataW H) → Nat
  | [] => 0
  | d :: r => uptoBulk d + uptoBulkAll r
def uptoBulkEntries {H : Type} : List (Lit × DataW H) → Nat
  | [] => 0
  | x :: r => uptoBulkEntry x + uptoBulkEntries r
def uptoBulkEntry {H : Type} : Lit × DataW H → Nat
  | (.string bytes, d) => bytes.length + uptoBulk d + 1
  | (_, d) => uptoBulk d + 1
 end
def uptoSmall : (H : Type) → List (DataW H) → Bool := fun _ ds => decide (uptoBulkAll ds ≤ 1048576)
def OpenSpec.upto (s : _root_.Go.ChangeSpec) : _root_.Go.OpenSpec := { _root_.Go.OpenSpec.ofChange s with cond := some uptoSmall }

/-- 'clusterkernellaw37.ContractEnds', WHERE WHAT IT READS IS OF BULK AT MOST 1048576: true; the input reads as it did. -/
def contractEndsUptoRow : OpenClaim := { program := "ytnnabccfagojhaa", sum := "569efcf4da93f3be8e989bdccdcf332d3733c8367bbdf461637b965819ebd018", func := "clusterkernel/clusterkernellaw37.ContractEnds", spec := "contractEnds", unfollowed := true, recurses := true, apart := false, narrowed := true }
def ContractEndsUptoSaid : Prop := contractEndsUptoRow.holds Try.pinned (OpenSpec.upto contractEndsSpec)

/-- 'clusterkernellaw08.FileModel', WHERE WHAT IT READS IS OF BULK AT MOST 1048576: true; the input reads as it did. -/
def fileModelUptoRow : OpenClaim := { program := "ytnnabccfagojhaa", sum := "569efcf4da93f3be8e989bdccdcf332d3733c8367bbdf461637b965819ebd018", func := "clusterkernel/clusterkernellaw08.FileModel", spec := "fileModel", unfollowed := true, recurses := true, apart := false, narrowed := true }
def FileModelUptoSaid : Prop := fileModelUptoRow.holds Try.pinned (OpenSpec.upto fileModelSpec)

/-- 'clusterkernellaw35.LocateFinds', WHERE WHAT IT READS IS OF BULK AT MOST 1048576: true; the input reads as it did. -/
def locateFindsUptoRow : OpenClaim := { program := "ytnnabccfagojhaa", sum := "569efcf4da93f3be8e989bdccdcf332d3733c8367bbdf461637b965819ebd018", func := "clusterkernel/clusterkernellaw35.LocateFinds", spec := "locateFinds", unfollowed := true, recurses := true, apart := false, narrowed := true }
def LocateFindsUptoSaid : Prop := locateFindsUptoRow.holds Try.pinned (OpenSpec.upto locateFindsSpec)

/-- 'clusterkernellaw35.LocateLeads', WHERE WHAT IT READS IS OF BULK AT MOST 1048576: true; the input reads as it did. -/
def locateLeadsUptoRow : OpenClaim := { program := "ytnnabccfagojhaa", sum := "569efcf4da93f3be8e989bdccdcf332d3733c8367bbdf461637b965819ebd018", func := "clusterkernel/clusterkernellaw35.LocateLeads", spec := "locateLeads", unfollowed := true, recurses := true, apart := false, narrowed := true }
def LocateLeadsUptoSaid : Prop := locateLeadsUptoRow.holds Try.pinned (OpenSpec.upto locateLeadsSpec)

/-- 'clusterkernellaw35.LocateReplaces', WHERE WHAT IT READS IS OF BULK AT MOST 1048576: true; the input reads as it did. -/
def locateReplacesUptoRow : OpenClaim := { program := "ytnnabccfagojhaa", sum := "569efcf4da93f3be8e989bdccdcf332d3733c8367bbdf461637b965819ebd018", func := "clusterkernel/clusterkernellaw35.LocateReplaces", spec := "locateReplaces", unfollowed := true, recurses := true, apart := false, narrowed := true }
def LocateReplacesUptoSaid : Prop := locateReplacesUptoRow.holds Try.pinned (OpenSpec.upto locateReplacesSpec)

/-- 'clusterkernellaw37.ContractSettles', WHERE WHAT IT READS IS OF BULK AT MOST 1048576: true; the input reads as it did. -/
def contractSettlesUptoRow : OpenClaim := { program := "ytnnabccfagojhaa", sum := "569efcf4da93f3be8e989bdccdcf332d3733c8367bbdf461637b965819ebd018", func := "clusterkernel/clusterkernellaw37.ContractSettles", spec := "contractSettles", unfollowed := true, recurses := true, apart := false, narrowed := true }
def ContractSettlesUptoSaid : Prop := contractSettlesUptoRow.holds Try.pinned (OpenSpec.upto contractSettlesSpec)

/-- 'clusterkernellaw37.ContractMoves', WHERE WHAT IT READS IS OF BULK AT MOST 1048576: true; the input reads as it did. -/
def contractMovesUptoRow : OpenClaim := { program := "ytnnabccfagojhaa", sum := "569efcf4da93f3be8e989bdccdcf332d3733c8367bbdf461637b965819ebd018", func := "clusterkernel/clusterkernellaw37.ContractMoves", spec := "contractMoves", unfollowed := true, recurses := true, apart := false, narrowed := true }
def ContractMovesUptoSaid : Prop := contractMovesUptoRow.holds Try.pinned (OpenSpec.upto contractMovesSpec)

/-- 'clusterkernellaw37.ContractBounds', WHERE WHAT IT READS IS OF BULK AT MOST 1048576: true; the input reads as it did. -/
def contractBoundsUptoRow : OpenClaim := { program := "ytnnabccfagojhaa", sum := "569efcf4da93f3be8e989bdccdcf332d3733c8367bbdf461637b965819ebd018", func := "clusterkernel/clusterkernellaw37.ContractBounds", spec := "contractBounds", unfollowed := true, recurses := true, apart := false, narrowed := true }
def ContractBoundsUptoSaid : Prop := contractBoundsUptoRow.holds Try.pinned (OpenSpec.upto contractBoundsSpec)

end Rows
end Go.Proofs.Ytnnabccfagojhaa
