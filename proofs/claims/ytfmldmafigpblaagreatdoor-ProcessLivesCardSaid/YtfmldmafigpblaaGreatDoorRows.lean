/-
  NARROWER THAN 'FOR EVERY INPUT', by the rows' own cells (each row's printed sentence says how): ProcessReaps: laid · ProcessLives: laid · ProcessFamily: laid.
  DERIVED. THE GIVEN ROWS OF THIS SEAT. 3 by the template 'for every input the law returns true; each argument reads behind the call as it read before'; 0 by the template 'total and deterministic' (their statements: YtfmldmafigpblaaGreatDoorTotals.lean).
  GIVEN WITH THE SEED: the statements are not yours to turn. If you find one false, say at which input.
  Laid BY PROGRAM, IN A SANDBOX (cutbox-rows.mjs): the forced cells as the released guide's own fill.sh prints them over the translation e8472218839aba81… (all of the seat's roots in one cut). By AI agents, Wed Nov 11 2026. No macro, syntax, notation, axiom, sorry.
-/
import Derived.Test.YtfmldmafigpblaaGreatDoorChecked
import GoSem.Claim
import GoSem.ClaimJoined
import GoSem.ClaimMapViews
import Derived.JoinedTies
import Derived.KernelRfl
namespace Go.Proofs.YtfmldmafigpblaaGreatDoor
/- THE CELL 'sum', in the pinned program and in every row, IS THE sha256 OF THE DUMP (.gsa) THAT YtfmldmafigpblaaGreatDoorProg.lean LOADS. Nothing in Lean hashes anything: it is a label: what it is worth is what the hold of that sum in a sandbox is worth. -/
noncomputable def Tryz.pinned : Pinned := { name := "ytfmldmafigpblaagreatdoor", sum := "e8472218839aba81b90709356e376fbb852ed6bda0585fd831d0e4a424ff1da0", checked := Tryz.checked }
namespace Rows
def none {H : Type} : Left H := { results := [], args := [] }

/- WHAT THE LISTED PACKAGE-LEVEL VARIABLES READ AS WHEN THE CALL BEGINS. Each datum BY PROGRAM (the guide's laid-datum.mjs) off the statement by which the dump's own 'gosem.cut.vars' lays the variable. In a bare row this is a premise. The card (YtfmldmafigpblaaGreatDoorCards.lean) ties it to the program's text. -/
def laid_clusterkernel_code_forms {H : Type} : DataW H := .agg [.agg [.lit (.string [110, 111, 112]), .lit (.string [])], .agg [.lit (.string [115, 101, 116]), .lit (.string [114, 110])], .agg [.lit (.string [109, 111, 118, 101]), .lit (.string [114, 114])], .agg [.lit (.string [97, 100, 100]), .lit (.string [114, 114, 114])], .agg [.lit (.string [115, 117, 98]), .lit (.string [114, 114, 114])], .agg [.lit (.string [109, 117, 108]), .lit (.string [114, 114, 114])], .agg [.lit (.string [108, 101, 115, 115]), .lit (.string [114, 114, 114])], .agg [.lit (.string [101, 113, 117, 97, 108]), .lit (.string [114, 114, 114])], .agg [.lit (.string [106, 117, 109, 112]), .lit (.string [116])], .agg [.lit (.string [105, 102]), .lit (.string [114, 116])], .agg [.lit (.string [108, 111, 97, 100]), .lit (.string [114, 114, 111])], .agg [.lit (.string [115, 116, 111, 114, 101]), .lit (.string [114, 114, 111])], .agg [.lit (.string [99, 97, 108, 108]), .lit (.string [99])]]

/-- 'clusterkernellaw16.ProcessReaps': WHATEVER THE INPUT: true; the input reads as it did. -/
def processReapsSpec : ChangeSpec := { name := "processReaps", fn := fun _ => fun
  | [d1, d2, d3] => { results := [.lit (.bool true)], args := [d1, d2, d3] }
  | _ => none }
def processReapsRow : OpenClaim := { program := "ytfmldmafigpblaagreatdoor", sum := "e8472218839aba81b90709356e376fbb852ed6bda0585fd831d0e4a424ff1da0", func := "clusterkernel/clusterkernellaw16.ProcessReaps", spec := "processReaps", unfollowed := true, recurses := true, named := ["clusterkernel/code.forms"], apart := false, laid := [("clusterkernel/code.forms", laid_clusterkernel_code_forms)] }
def ProcessReapsSaid : Prop := processReapsRow.holds Tryz.pinned (OpenSpec.ofChange processReapsSpec)

/-- ITS FALSE NEIGHBOUR: 'it returns false'. Refute it at one input. -/
def processReapsWrong : ChangeSpec := { name := "processReaps", fn := fun _ => fun
  | [d1, d2, d3] => { results := [.lit (.bool false)], args := [d1, d2, d3] }
  | _ => none }
def ProcessReapsWrongFalsely : Prop := processReapsRow.holds Tryz.pinned (OpenSpec.ofChange processReapsWrong)

/-- 'clusterkernellaw16.ProcessLives': WHATEVER THE INPUT: true; the input reads as it did. -/
def processLivesSpec : ChangeSpec := { name := "processLives", fn := fun _ => fun
  | [d1, d2, d3, d4, d5, d6] => { results := [.lit (.bool true)], args := [d1, d2, d3, d4, d5, d6] }
  | _ => none }
def processLivesRow : OpenClaim := { program := "ytfmldmafigpblaagreatdoor", sum := "e8472218839aba81b90709356e376fbb852ed6bda0585fd831d0e4a424ff1da0", func := "clusterkernel/clusterkernellaw16.ProcessLives", spec := "processLives", unfollowed := true, recurses := true, named := ["clusterkernel/code.forms"], apart := false, laid := [("clusterkernel/code.forms", laid_clusterkernel_code_forms)] }
def ProcessLivesSaid : Prop := processLivesRow.holds Tryz.pinned (OpenSpec.ofChange processLivesSpec)

/-- ITS FALSE NEIGHBOUR: 'it returns false'. Refute it at one input. -/
def processLivesWrong : ChangeSpec := { name := "processLives", fn := fun _ => fun
  | [d1, d2, d3, d4, d5, d6] => { results := [.lit (.bool false)], args := [d1, d2, d3, d4, d5, d6] }
  | _ => none }
def ProcessLivesWrongFalsely : Prop := processLivesRow.holds Tryz.pinned (OpenSpec.ofChange processLivesWrong)

/-- 'clusterkernellaw16.ProcessFamily': WHATEVER THE INPUT: true; the input reads as it did. -/
def processFamilySpec : ChangeSpec := { name := "processFamily", fn := fun _ => fun
  | [d1, d2, d3] => { results := [.lit (.bool true)], args := [d1, d2, d3] }
  | _ => none }
def processFamilyRow : OpenClaim := { program := "ytfmldmafigpblaagreatdoor", sum := "e8472218839aba81b90709356e376fbb852ed6bda0585fd831d0e4a424ff1da0", func := "clusterkernel/clusterkernellaw16.ProcessFamily", spec := "processFamily", unfollowed := true, recurses := true, named := ["clusterkernel/code.forms"], apart := false, laid := [("clusterkernel/code.forms", laid_clusterkernel_code_forms)] }
def ProcessFamilySaid : Prop := processFamilyRow.holds Tryz.pinned (OpenSpec.ofChange processFamilySpec)

/-- ITS FALSE NEIGHBOUR: 'it returns false'. Refute it at one input. -/
def processFamilyWrong : ChangeSpec := { name := "processFamily", fn := fun _ => fun
  | [d1, d2, d3] => { results := [.lit (.bool false)], args := [d1, d2, d3] }
  | _ => none }
def ProcessFamilyWrongFalsely : Prop := processFamilyRow.holds Tryz.pinned (OpenSpec.ofChange processFamilyWrong)

/- THE SECOND FORM. 'bulk': how many values and letters a reading holds, each counted each time it is reached (what is shared counts as often as it is met; a slice's spare places count too). A statement '..UptoSaid' is the law's where the arguments, and the package variables that the reading takes, are together of bulk at most 1048576: NARROWER than '..Said'. Prove '..Said' where nothing that the law and all that it calls make is longer than what came in: it says more and counts as full. Else prove '..UptoSaid'. A law counts once. -/
mutual
def uptoBulk {H : Type} : DataW H → Nat
  | .lit (.string bytes) => bytes.length + 1
  | .lit _ => 1
  | .nil => 1
  | .ptr d => uptoBulk d + 1
  | .slice elems spare => uptoBulkAll elems + uptoBulkAll spare + 1
  | .agg parts => uptoBulkAll parts + 1
  | .iface _ d => uptoBulk d + 1
  | .map entries => uptoBulkEntries entries + 1
  | .held _ => 1
def uptoBulkAll {H : Type} : List (DataW H) → Nat
  | [] => 0
  | d :: r => uptoBulk d + uptoBulkAll r
def uptoBulkEntries {H : Type} : List (Lit × DataW H) → Nat
  | [] => 0
  | x :: r => uptoBulkEntry x + uptoBulkEntries r
def uptoBulkEntry {H : Type} : Lit × DataW H → Nat
  | (.string bytes, d) => bytes.length + uptoBulk d + 1
  | (_, d) => uptoBulk d + 1
 end
def uptoSmall : (H : Type) → List (DataW H) → Bool := fun _ ds => decide (uptoBulkAll ds ≤ 1048576)
def OpenSpec.upto (s : _root_.Go.ChangeSpec) : _root_.Go.OpenSpec := { _root_.Go.OpenSpec.ofChange s with cond := some uptoSmall }

/-- 'clusterkernellaw16.ProcessReaps', WHERE WHAT IT READS IS OF BULK AT MOST 1048576: true; the input reads as it did. -/
def processReapsUptoRow : OpenClaim := { program := "ytfmldmafigpblaagreatdoor", sum := "e8472218839aba81b90709356e376fbb852ed6bda0585fd831d0e4a424ff1da0", func := "clusterkernel/clusterkernellaw16.ProcessReaps", spec := "processReaps", unfollowed := true, recurses := true, named := ["clusterkernel/code.forms"], apart := false, laid := [("clusterkernel/code.forms", laid_clusterkernel_code_forms)], narrowed := true }
def ProcessReapsUptoSaid : Prop := processReapsUptoRow.holds Tryz.pinned (OpenSpec.upto processReapsSpec)

/-- 'clusterkernellaw16.ProcessLives', WHERE WHAT IT READS IS OF BULK AT MOST 1048576: true; the input reads as it did. -/
def processLivesUptoRow : OpenClaim := { program := "ytfmldmafigpblaagreatdoor", sum := "e8472218839aba81b90709356e376fbb852ed6bda0585fd831d0e4a424ff1da0", func := "clusterkernel/clusterkernellaw16.ProcessLives", spec := "processLives", unfollowed := true, recurses := true, named := ["clusterkernel/code.forms"], apart := false, laid := [("clusterkernel/code.forms", laid_clusterkernel_code_forms)], narrowed := true }
def ProcessLivesUptoSaid : Prop := processLivesUptoRow.holds Tryz.pinned (OpenSpec.upto processLivesSpec)

/-- 'clusterkernellaw16.ProcessFamily', WHERE WHAT IT READS IS OF BULK AT MOST 1048576: true; the input reads as it did. -/
def processFamilyUptoRow : OpenClaim := { program := "ytfmldmafigpblaagreatdoor", sum := "e8472218839aba81b90709356e376fbb852ed6bda0585fd831d0e4a424ff1da0", func := "clusterkernel/clusterkernellaw16.ProcessFamily", spec := "processFamily", unfollowed := true, recurses := true, named := ["clusterkernel/code.forms"], apart := false, laid := [("clusterkernel/code.forms", laid_clusterkernel_code_forms)], narrowed := true }
def ProcessFamilyUptoSaid : Prop := processFamilyUptoRow.holds Tryz.pinned (OpenSpec.upto processFamilySpec)

end Rows
end Go.Proofs.YtfmldmafigpblaaGreatDoor
