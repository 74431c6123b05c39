/-
  No cell of these rows narrows 'for every input' (looked for: loops, veiled, ifaces, maps, wideKeys, modest, calm, conditions, laid).
  DERIVED. THE GIVEN ROWS OF THIS SEAT. 6 by the template 'for every input the law returns true; each argument reads behind the call as it read before'; 0 by the template 'total and deterministic' (their statements: YteejbbfaphcgiaaGreatTotals.lean).
  GIVEN WITH THE SEED: the statements are not yours to turn. If you find one false, say at which input.
  Laid BY PROGRAM, IN A SANDBOX (cutbox-rows.mjs): the forced cells as the released guide's own fill.sh prints them over the translation 10acf4bf74ba03ce… (all of the seat's roots in one cut). By AI agents, Wed Nov 11 2026. No macro, syntax, notation, axiom, sorry.
-/
import Derived.Test.YteejbbfaphcgiaaGreatChecked
import GoSem.Claim
import GoSem.ClaimJoined
import GoSem.ClaimMapViews
import Derived.JoinedTies
import Derived.KernelRfl
namespace Go.Proofs.YteejbbfaphcgiaaGreat
/- THE CELL 'sum', in the pinned program and in every row, IS THE sha256 OF THE DUMP (.gsa) THAT YteejbbfaphcgiaaGreatProg.lean LOADS. Nothing in Lean hashes anything: it is a label: what it is worth is what the hold of that sum in a sandbox is worth. -/
noncomputable def Tryz.pinned : Pinned := { name := "yteejbbfaphcgiaagreat", sum := "10acf4bf74ba03ce83415b50df1ccef5455661d181624ce5b7554766c93a85d1", checked := Tryz.checked }
namespace Rows
def none {H : Type} : Left H := { results := [], args := [] }

/-- 'clusterkernellaw44.ReportCounts': WHATEVER THE INPUT: true; the input reads as it did. -/
def reportCountsSpec : ChangeSpec := { name := "reportCounts", fn := fun _ => fun
  | [d1, d2, d3, d4, d5] => { results := [.lit (.bool true)], args := [d1, d2, d3, d4, d5] }
  | _ => none }
def reportCountsRow : OpenClaim := { program := "yteejbbfaphcgiaagreat", sum := "10acf4bf74ba03ce83415b50df1ccef5455661d181624ce5b7554766c93a85d1", func := "clusterkernel/clusterkernellaw44.ReportCounts", spec := "reportCounts", unfollowed := true, recurses := true, apart := false }
def ReportCountsSaid : Prop := reportCountsRow.holds Tryz.pinned (OpenSpec.ofChange reportCountsSpec)

/-- ITS FALSE NEIGHBOUR: 'it returns false'. Refute it at one input. -/
def reportCountsWrong : ChangeSpec := { name := "reportCounts", fn := fun _ => fun
  | [d1, d2, d3, d4, d5] => { results := [.lit (.bool false)], args := [d1, d2, d3, d4, d5] }
  | _ => none }
def ReportCountsWrongFalsely : Prop := reportCountsRow.holds Tryz.pinned (OpenSpec.ofChange reportCountsWrong)

/-- 'clusterkernellaw44.ReportAdds': WHATEVER THE INPUT: true; the input reads as it did. -/
def reportAddsSpec : ChangeSpec := { name := "reportAdds", fn := fun _ => fun
  | [d1, d2] => { results := [.lit (.bool true)], args := [d1, d2] }
  | _ => none }
def reportAddsRow : OpenClaim := { program := "yteejbbfaphcgiaagreat", sum := "10acf4bf74ba03ce83415b50df1ccef5455661d181624ce5b7554766c93a85d1", func := "clusterkernel/clusterkernellaw44.ReportAdds", spec := "reportAdds", unfollowed := true, recurses := true, apart := false }
def ReportAddsSaid : Prop := reportAddsRow.holds Tryz.pinned (OpenSpec.ofChange reportAddsSpec)

/-- ITS FALSE NEIGHBOUR: 'it returns false'. Refute it at one input. -/
def reportAddsWrong : ChangeSpec := { name := "reportAdds", fn := fun _ => fun
  | [d1, d2] => { results := [.lit (.bool false)], args := [d1, d2] }
  | _ => none }
def ReportAddsWrongFalsely : Prop := reportAddsRow.holds Tryz.pinned (OpenSpec.ofChange reportAddsWrong)

/-- 'clusterkernellaw44.ReportWaits': WHATEVER THE INPUT: true; the input reads as it did. -/
def reportWaitsSpec : ChangeSpec := { name := "reportWaits", fn := fun _ => fun
  | [d1, d2] => { results := [.lit (.bool true)], args := [d1, d2] }
  | _ => none }
def reportWaitsRow : OpenClaim := { program := "yteejbbfaphcgiaagreat", sum := "10acf4bf74ba03ce83415b50df1ccef5455661d181624ce5b7554766c93a85d1", func := "clusterkernel/clusterkernellaw44.ReportWaits", spec := "reportWaits", unfollowed := true, recurses := true, apart := false }
def ReportWaitsSaid : Prop := reportWaitsRow.holds Tryz.pinned (OpenSpec.ofChange reportWaitsSpec)

/-- ITS FALSE NEIGHBOUR: 'it returns false'. Refute it at one input. -/
def reportWaitsWrong : ChangeSpec := { name := "reportWaits", fn := fun _ => fun
  | [d1, d2] => { results := [.lit (.bool false)], args := [d1, d2] }
  | _ => none }
def ReportWaitsWrongFalsely : Prop := reportWaitsRow.holds Tryz.pinned (OpenSpec.ofChange reportWaitsWrong)

/-- 'clusterkernellaw31.ViewChecks': WHATEVER THE INPUT: true; the input reads as it did. -/
def viewChecksSpec : ChangeSpec := { name := "viewChecks", fn := fun _ => fun
  | [d1, d2, d3, d4, d5, d6] => { results := [.lit (.bool true)], args := [d1, d2, d3, d4, d5, d6] }
  | _ => none }
def viewChecksRow : OpenClaim := { program := "yteejbbfaphcgiaagreat", sum := "10acf4bf74ba03ce83415b50df1ccef5455661d181624ce5b7554766c93a85d1", func := "clusterkernel/clusterkernellaw31.ViewChecks", spec := "viewChecks", unfollowed := true, recurses := true, apart := false }
def ViewChecksSaid : Prop := viewChecksRow.holds Tryz.pinned (OpenSpec.ofChange viewChecksSpec)

/-- ITS FALSE NEIGHBOUR: 'it returns false'. Refute it at one input. -/
def viewChecksWrong : ChangeSpec := { name := "viewChecks", fn := fun _ => fun
  | [d1, d2, d3, d4, d5, d6] => { results := [.lit (.bool false)], args := [d1, d2, d3, d4, d5, d6] }
  | _ => none }
def ViewChecksWrongFalsely : Prop := viewChecksRow.holds Tryz.pinned (OpenSpec.ofChange viewChecksWrong)

/-- 'clusterkernellaw31.ViewMeets': WHATEVER THE INPUT: true; the input reads as it did. -/
def viewMeetsSpec : ChangeSpec := { name := "viewMeets", fn := fun _ => fun
  | [d1, d2] => { results := [.lit (.bool true)], args := [d1, d2] }
  | _ => none }
def viewMeetsRow : OpenClaim := { program := "yteejbbfaphcgiaagreat", sum := "10acf4bf74ba03ce83415b50df1ccef5455661d181624ce5b7554766c93a85d1", func := "clusterkernel/clusterkernellaw31.ViewMeets", spec := "viewMeets", unfollowed := true, recurses := true, apart := false }
def ViewMeetsSaid : Prop := viewMeetsRow.holds Tryz.pinned (OpenSpec.ofChange viewMeetsSpec)

/-- ITS FALSE NEIGHBOUR: 'it returns false'. Refute it at one input. -/
def viewMeetsWrong : ChangeSpec := { name := "viewMeets", fn := fun _ => fun
  | [d1, d2] => { results := [.lit (.bool false)], args := [d1, d2] }
  | _ => none }
def ViewMeetsWrongFalsely : Prop := viewMeetsRow.holds Tryz.pinned (OpenSpec.ofChange viewMeetsWrong)

/-- 'clusterkernellaw31.ViewChain': WHATEVER THE INPUT: true; the input reads as it did. -/
def viewChainSpec : ChangeSpec := { name := "viewChain", fn := fun _ => fun
  | [d1, d2] => { results := [.lit (.bool true)], args := [d1, d2] }
  | _ => none }
def viewChainRow : OpenClaim := { program := "yteejbbfaphcgiaagreat", sum := "10acf4bf74ba03ce83415b50df1ccef5455661d181624ce5b7554766c93a85d1", func := "clusterkernel/clusterkernellaw31.ViewChain", spec := "viewChain", unfollowed := true, recurses := true, apart := false }
def ViewChainSaid : Prop := viewChainRow.holds Tryz.pinned (OpenSpec.ofChange viewChainSpec)

/-- ITS FALSE NEIGHBOUR: 'it returns false'. Refute it at one input. -/
def viewChainWrong : ChangeSpec := { name := "viewChain", fn := fun _ => fun
  | [d1, d2] => { results := [.lit (.bool false)], args := [d1, d2] }
  | _ => none }
def ViewChainWrongFalsely : Prop := viewChainRow.holds Tryz.pinned (OpenSpec.ofChange viewChainWrong)

/- THE SECOND FORM. 'bulk': how many values and letters a reading holds, each counted each time it is reached (what is shared counts as often as it is met; a slice's spare places count too). A statement '..UptoSaid' is the law's where the arguments, and the package variables that the reading takes, are together of bulk at most 1048576: NARROWER than '..Said'. Prove '..Said' where nothing that the law and all that it calls make is longer than what came in: it says more and counts as full. Else prove '..UptoSaid'. A law counts once. -/
mutual
def uptoBulk {H : Type} : DataW H → Nat
  | .lit (.string bytes) => bytes.length + 1
  | .lit _ => 1
  | .nil => 1
  | .ptr d => uptoBulk d + 1
  | .slice elems spare => uptoBulkAll elems + uptoBulkAll spare + 1
  | .agg parts => uptoBulkAll parts + 1
  | .iface _ d => uptoBulk d + 1
  | .map entries => uptoBulkEntries entries + 1
  | .held _ => 1
def uptoBulkAll {H : Type} : List (DataW H) → Nat
  | [] => 0
  | d :: r => uptoBulk d + uptoBulkAll r
def uptoBulkEntries {H : Type} : List (Lit × DataW H) → Nat
  | [] => 0
  | x :: r => uptoBulkEntry x + uptoBulkEntries r
def uptoBulkEntry {H : Type} : Lit × DataW H → Nat
  | (.string bytes, d) => bytes.length + uptoBulk d + 1
  | (_, d) => uptoBulk d + 1
 end
def uptoSmall : (H : Type) → List (DataW H) → Bool := fun _ ds => decide (uptoBulkAll ds ≤ 1048576)
def OpenSpec.upto (s : _root_.Go.ChangeSpec) : _root_.Go.OpenSpec := { _root_.Go.OpenSpec.ofChange s with cond := some uptoSmall }

/-- 'clusterkernellaw44.ReportCounts', WHERE WHAT IT READS IS OF BULK AT MOST 1048576: true; the input reads as it did. -/
def reportCountsUptoRow : OpenClaim := { program := "yteejbbfaphcgiaagreat", sum := "10acf4bf74ba03ce83415b50df1ccef5455661d181624ce5b7554766c93a85d1", func := "clusterkernel/clusterkernellaw44.ReportCounts", spec := "reportCounts", unfollowed := true, recurses := true, apart := false, narrowed := true }
def ReportCountsUptoSaid : Prop := reportCountsUptoRow.holds Tryz.pinned (OpenSpec.upto reportCountsSpec)

/-- 'clusterkernellaw44.ReportAdds', WHERE WHAT IT READS IS OF BULK AT MOST 1048576: true; the input reads as it did. -/
def reportAddsUptoRow : OpenClaim := { program := "yteejbbfaphcgiaagreat", sum := "10acf4bf74ba03ce83415b50df1ccef5455661d181624ce5b7554766c93a85d1", func := "clusterkernel/clusterkernellaw44.ReportAdds", spec := "reportAdds", unfollowed := true, recurses := true, apart := false, narrowed := true }
def ReportAddsUptoSaid : Prop := reportAddsUptoRow.holds Tryz.pinned (OpenSpec.upto reportAddsSpec)

/-- 'clusterkernellaw44.ReportWaits', WHERE WHAT IT READS IS OF BULK AT MOST 1048576: true; the input reads as it did. -/
def reportWaitsUptoRow : OpenClaim := { program := "yteejbbfaphcgiaagreat", sum := "10acf4bf74ba03ce83415b50df1ccef5455661d181624ce5b7554766c93a85d1", func := "clusterkernel/clusterkernellaw44.ReportWaits", spec := "reportWaits", unfollowed := true, recurses := true, apart := false, narrowed := true }
def ReportWaitsUptoSaid : Prop := reportWaitsUptoRow.holds Tryz.pinned (OpenSpec.upto reportWaitsSpec)

/-- 'clusterkernellaw31.ViewChecks', WHERE WHAT IT READS IS OF BULK AT MOST 1048576: true; the input reads as it did. -/
def viewChecksUptoRow : OpenClaim := { program := "yteejbbfaphcgiaagreat", sum := "10acf4bf74ba03ce83415b50df1ccef5455661d181624ce5b7554766c93a85d1", func := "clusterkernel/clusterkernellaw31.ViewChecks", spec := "viewChecks", unfollowed := true, recurses := true, apart := false, narrowed := true }
def ViewChecksUptoSaid : Prop := viewChecksUptoRow.holds Tryz.pinned (OpenSpec.upto viewChecksSpec)

/-- 'clusterkernellaw31.ViewMeets', WHERE WHAT IT READS IS OF BULK AT MOST 1048576: true; the input reads as it did. -/
def viewMeetsUptoRow : OpenClaim := { program := "yteejbbfaphcgiaagreat", sum := "10acf4bf74ba03ce83415b50df1ccef5455661d181624ce5b7554766c93a85d1", func := "clusterkernel/clusterkernellaw31.ViewMeets", spec := "viewMeets", unfollowed := true, recurses := true, apart := false, narrowed := true }
def ViewMeetsUptoSaid : Prop := viewMeetsUptoRow.holds Tryz.pinned (OpenSpec.upto viewMeetsSpec)

/-- 'clusterkernellaw31.ViewChain', WHERE WHAT IT READS IS OF BULK AT MOST 1048576: true; the input reads as it did. -/
def viewChainUptoRow : OpenClaim := { program := "yteejbbfaphcgiaagreat", sum := "10acf4bf74ba03ce83415b50df1ccef5455661d181624ce5b7554766c93a85d1", func := "clusterkernel/clusterkernellaw31.ViewChain", spec := "viewChain", unfollowed := true, recurses := true, apart := false, narrowed := true }
def ViewChainUptoSaid : Prop := viewChainUptoRow.holds Tryz.pinned (OpenSpec.upto viewChainSpec)

end Rows
end Go.Proofs.YteejbbfaphcgiaaGreat
