/-
  No cell of these rows narrows 'for every input' (looked for: loops, veiled, ifaces, maps, wideKeys, modest, calm, conditions, laid).
  DERIVED. THE GIVEN ROWS OF THIS SEAT. 10 by the template 'for every input the law returns true; each argument reads behind the call as it read before'; 0 by the template 'total and deterministic' (their statements: YtapfhnlomclnbaaTotals.lean).
  GIVEN WITH THE SEED: the statements are not yours to turn. If you find one false, say at which input.
  Laid BY PROGRAM, IN A SANDBOX (cutbox-rows.mjs): the forced cells as the released guide's own fill.sh prints them over the translation 0f67c082d028d7b2… (all of the seat's roots in one cut). By AI agents, Wed Nov 11 2026. No macro, syntax, notation, axiom, sorry.
-/
import Derived.Test.YtapfhnlomclnbaaChecked
import GoSem.Claim
import GoSem.ClaimJoined
import GoSem.ClaimMapViews
import Derived.JoinedTies
import Derived.KernelRfl
namespace Go.Proofs.Ytapfhnlomclnbaa
/- THE CELL 'sum', in the pinned program and in every row, IS THE sha256 OF THE DUMP (.gsa) THAT YtapfhnlomclnbaaProg.lean LOADS. Nothing in Lean hashes anything: it is a label: what it is worth is what the hold of that sum in a sandbox is worth. -/
noncomputable def Try.pinned : Pinned := { name := "ytapfhnlomclnbaa", sum := "0f67c082d028d7b242ddeecf6b2a23a01be80adc5b9d81d727a1ce498b3fc85d", checked := Try.checked }
namespace Rows
def none {H : Type} : Left H := { results := [], args := [] }

/-- 'clusterkernellaw08.FileBytes': WHATEVER THE INPUT: true; the input reads as it did. -/
def fileBytesSpec : ChangeSpec := { name := "fileBytes", fn := fun _ => fun
  | [d1, d2, d3, d4, d5, d6] => { results := [.lit (.bool true)], args := [d1, d2, d3, d4, d5, d6] }
  | _ => none }
def fileBytesRow : OpenClaim := { program := "ytapfhnlomclnbaa", sum := "0f67c082d028d7b242ddeecf6b2a23a01be80adc5b9d81d727a1ce498b3fc85d", func := "clusterkernel/clusterkernellaw08.FileBytes", spec := "fileBytes", unfollowed := true, recurses := true, apart := false }
def FileBytesSaid : Prop := fileBytesRow.holds Try.pinned (OpenSpec.ofChange fileBytesSpec)

/-- ITS FALSE NEIGHBOUR: 'it returns false'. Refute it at one input. -/
def fileBytesWrong : ChangeSpec := { name := "fileBytes", fn := fun _ => fun
  | [d1, d2, d3, d4, d5, d6] => { results := [.lit (.bool false)], args := [d1, d2, d3, d4, d5, d6] }
  | _ => none }
def FileBytesWrongFalsely : Prop := fileBytesRow.holds Try.pinned (OpenSpec.ofChange fileBytesWrong)

/-- 'clusterkernellaw08.FileKeeps': WHATEVER THE INPUT: true; the input reads as it did. -/
def fileKeepsSpec : ChangeSpec := { name := "fileKeeps", fn := fun _ => fun
  | [d1, d2, d3, d4] => { results := [.lit (.bool true)], args := [d1, d2, d3, d4] }
  | _ => none }
def fileKeepsRow : OpenClaim := { program := "ytapfhnlomclnbaa", sum := "0f67c082d028d7b242ddeecf6b2a23a01be80adc5b9d81d727a1ce498b3fc85d", func := "clusterkernel/clusterkernellaw08.FileKeeps", spec := "fileKeeps", unfollowed := true, recurses := true, apart := false }
def FileKeepsSaid : Prop := fileKeepsRow.holds Try.pinned (OpenSpec.ofChange fileKeepsSpec)

/-- ITS FALSE NEIGHBOUR: 'it returns false'. Refute it at one input. -/
def fileKeepsWrong : ChangeSpec := { name := "fileKeeps", fn := fun _ => fun
  | [d1, d2, d3, d4] => { results := [.lit (.bool false)], args := [d1, d2, d3, d4] }
  | _ => none }
def FileKeepsWrongFalsely : Prop := fileKeepsRow.holds Try.pinned (OpenSpec.ofChange fileKeepsWrong)

/-- 'clusterkernellaw08.FileModel': WHATEVER THE INPUT: true; the input reads as it did. -/
def fileModelSpec : ChangeSpec := { name := "fileModel", fn := fun _ => fun
  | [d1, d2] => { results := [.lit (.bool true)], args := [d1, d2] }
  | _ => none }
def fileModelRow : OpenClaim := { program := "ytapfhnlomclnbaa", sum := "0f67c082d028d7b242ddeecf6b2a23a01be80adc5b9d81d727a1ce498b3fc85d", func := "clusterkernel/clusterkernellaw08.FileModel", spec := "fileModel", unfollowed := true, recurses := true, apart := false }
def FileModelSaid : Prop := fileModelRow.holds Try.pinned (OpenSpec.ofChange fileModelSpec)

/-- ITS FALSE NEIGHBOUR: 'it returns false'. Refute it at one input. -/
def fileModelWrong : ChangeSpec := { name := "fileModel", fn := fun _ => fun
  | [d1, d2] => { results := [.lit (.bool false)], args := [d1, d2] }
  | _ => none }
def FileModelWrongFalsely : Prop := fileModelRow.holds Try.pinned (OpenSpec.ofChange fileModelWrong)

/-- 'clusterkernellaw11.PipeMoves': WHATEVER THE INPUT: true; the input reads as it did. -/
def pipeMovesSpec : ChangeSpec := { name := "pipeMoves", fn := fun _ => fun
  | [d1, d2, d3, d4] => { results := [.lit (.bool true)], args := [d1, d2, d3, d4] }
  | _ => none }
def pipeMovesRow : OpenClaim := { program := "ytapfhnlomclnbaa", sum := "0f67c082d028d7b242ddeecf6b2a23a01be80adc5b9d81d727a1ce498b3fc85d", func := "clusterkernel/clusterkernellaw11.PipeMoves", spec := "pipeMoves", unfollowed := true, recurses := true, apart := false }
def PipeMovesSaid : Prop := pipeMovesRow.holds Try.pinned (OpenSpec.ofChange pipeMovesSpec)

/-- ITS FALSE NEIGHBOUR: 'it returns false'. Refute it at one input. -/
def pipeMovesWrong : ChangeSpec := { name := "pipeMoves", fn := fun _ => fun
  | [d1, d2, d3, d4] => { results := [.lit (.bool false)], args := [d1, d2, d3, d4] }
  | _ => none }
def PipeMovesWrongFalsely : Prop := pipeMovesRow.holds Try.pinned (OpenSpec.ofChange pipeMovesWrong)

/-- 'clusterkernellaw11.PipeOrder': WHATEVER THE INPUT: true; the input reads as it did. -/
def pipeOrderSpec : ChangeSpec := { name := "pipeOrder", fn := fun _ => fun
  | [d1, d2] => { results := [.lit (.bool true)], args := [d1, d2] }
  | _ => none }
def pipeOrderRow : OpenClaim := { program := "ytapfhnlomclnbaa", sum := "0f67c082d028d7b242ddeecf6b2a23a01be80adc5b9d81d727a1ce498b3fc85d", func := "clusterkernel/clusterkernellaw11.PipeOrder", spec := "pipeOrder", unfollowed := true, recurses := true, apart := false }
def PipeOrderSaid : Prop := pipeOrderRow.holds Try.pinned (OpenSpec.ofChange pipeOrderSpec)

/-- ITS FALSE NEIGHBOUR: 'it returns false'. Refute it at one input. -/
def pipeOrderWrong : ChangeSpec := { name := "pipeOrder", fn := fun _ => fun
  | [d1, d2] => { results := [.lit (.bool false)], args := [d1, d2] }
  | _ => none }
def PipeOrderWrongFalsely : Prop := pipeOrderRow.holds Try.pinned (OpenSpec.ofChange pipeOrderWrong)

/-- 'clusterkernellaw11.PipeCloses': WHATEVER THE INPUT: true; the input reads as it did. -/
def pipeClosesSpec : ChangeSpec := { name := "pipeCloses", fn := fun _ => fun
  | [d1, d2] => { results := [.lit (.bool true)], args := [d1, d2] }
  | _ => none }
def pipeClosesRow : OpenClaim := { program := "ytapfhnlomclnbaa", sum := "0f67c082d028d7b242ddeecf6b2a23a01be80adc5b9d81d727a1ce498b3fc85d", func := "clusterkernel/clusterkernellaw11.PipeCloses", spec := "pipeCloses", unfollowed := true, recurses := true, apart := false }
def PipeClosesSaid : Prop := pipeClosesRow.holds Try.pinned (OpenSpec.ofChange pipeClosesSpec)

/-- ITS FALSE NEIGHBOUR: 'it returns false'. Refute it at one input. -/
def pipeClosesWrong : ChangeSpec := { name := "pipeCloses", fn := fun _ => fun
  | [d1, d2] => { results := [.lit (.bool false)], args := [d1, d2] }
  | _ => none }
def PipeClosesWrongFalsely : Prop := pipeClosesRow.holds Try.pinned (OpenSpec.ofChange pipeClosesWrong)

/-- 'clusterkernellaw12.ChannelPorts': WHATEVER THE INPUT: true; the input reads as it did. -/
def channelPortsSpec : ChangeSpec := { name := "channelPorts", fn := fun _ => fun
  | [d1, d2, d3] => { results := [.lit (.bool true)], args := [d1, d2, d3] }
  | _ => none }
def channelPortsRow : OpenClaim := { program := "ytapfhnlomclnbaa", sum := "0f67c082d028d7b242ddeecf6b2a23a01be80adc5b9d81d727a1ce498b3fc85d", func := "clusterkernel/clusterkernellaw12.ChannelPorts", spec := "channelPorts", unfollowed := true, recurses := true, apart := false }
def ChannelPortsSaid : Prop := channelPortsRow.holds Try.pinned (OpenSpec.ofChange channelPortsSpec)

/-- ITS FALSE NEIGHBOUR: 'it returns false'. Refute it at one input. -/
def channelPortsWrong : ChangeSpec := { name := "channelPorts", fn := fun _ => fun
  | [d1, d2, d3] => { results := [.lit (.bool false)], args := [d1, d2, d3] }
  | _ => none }
def ChannelPortsWrongFalsely : Prop := channelPortsRow.holds Try.pinned (OpenSpec.ofChange channelPortsWrong)

/-- 'clusterkernellaw12.ChannelMoves': WHATEVER THE INPUT: true; the input reads as it did. -/
def channelMovesSpec : ChangeSpec := { name := "channelMoves", fn := fun _ => fun
  | [d1, d2, d3, d4, d5] => { results := [.lit (.bool true)], args := [d1, d2, d3, d4, d5] }
  | _ => none }
def channelMovesRow : OpenClaim := { program := "ytapfhnlomclnbaa", sum := "0f67c082d028d7b242ddeecf6b2a23a01be80adc5b9d81d727a1ce498b3fc85d", func := "clusterkernel/clusterkernellaw12.ChannelMoves", spec := "channelMoves", unfollowed := true, recurses := true, apart := false }
def ChannelMovesSaid : Prop := channelMovesRow.holds Try.pinned (OpenSpec.ofChange channelMovesSpec)

/-- ITS FALSE NEIGHBOUR: 'it returns false'. Refute it at one input. -/
def channelMovesWrong : ChangeSpec := { name := "channelMoves", fn := fun _ => fun
  | [d1, d2, d3, d4, d5] => { results := [.lit (.bool false)], args := [d1, d2, d3, d4, d5] }
  | _ => none }
def ChannelMovesWrongFalsely : Prop := channelMovesRow.holds Try.pinned (OpenSpec.ofChange channelMovesWrong)

/-- 'clusterkernellaw12.ChannelOrder': WHATEVER THE INPUT: true; the input reads as it did. -/
def channelOrderSpec : ChangeSpec := { name := "channelOrder", fn := fun _ => fun
  | [d] => { results := [.lit (.bool true)], args := [d] }
  | _ => none }
def channelOrderRow : OpenClaim := { program := "ytapfhnlomclnbaa", sum := "0f67c082d028d7b242ddeecf6b2a23a01be80adc5b9d81d727a1ce498b3fc85d", func := "clusterkernel/clusterkernellaw12.ChannelOrder", spec := "channelOrder", unfollowed := true, recurses := true, apart := false }
def ChannelOrderSaid : Prop := channelOrderRow.holds Try.pinned (OpenSpec.ofChange channelOrderSpec)

/-- ITS FALSE NEIGHBOUR: 'it returns false'. Refute it at one input. -/
def channelOrderWrong : ChangeSpec := { name := "channelOrder", fn := fun _ => fun
  | [d] => { results := [.lit (.bool false)], args := [d] }
  | _ => none }
def ChannelOrderWrongFalsely : Prop := channelOrderRow.holds Try.pinned (OpenSpec.ofChange channelOrderWrong)

/-- 'clusterkernellaw12.ChannelCalls': WHATEVER THE INPUT: true; the input reads as it did. -/
def channelCallsSpec : ChangeSpec := { name := "channelCalls", fn := fun _ => fun
  | [d] => { results := [.lit (.bool true)], args := [d] }
  | _ => none }
def channelCallsRow : OpenClaim := { program := "ytapfhnlomclnbaa", sum := "0f67c082d028d7b242ddeecf6b2a23a01be80adc5b9d81d727a1ce498b3fc85d", func := "clusterkernel/clusterkernellaw12.ChannelCalls", spec := "channelCalls", unfollowed := true, recurses := true, apart := false }
def ChannelCallsSaid : Prop := channelCallsRow.holds Try.pinned (OpenSpec.ofChange channelCallsSpec)

/-- ITS FALSE NEIGHBOUR: 'it returns false'. Refute it at one input. -/
def channelCallsWrong : ChangeSpec := { name := "channelCalls", fn := fun _ => fun
  | [d] => { results := [.lit (.bool false)], args := [d] }
  | _ => none }
def ChannelCallsWrongFalsely : Prop := channelCallsRow.holds Try.pinned (OpenSpec.ofChange channelCallsWrong)

/- THE SECOND FORM. 'bulk': how many values and letters a reading holds, each counted each time it is reached (what is shared counts as often as it is met; a slice's spare places count too). A statement '..UptoSaid' is the law's where the arguments, and the package variables that the reading takes, are together of bulk at most 1048576: NARROWER than '..Said'. Prove '..Said' where nothing that the law and all that it calls make is longer than what came in: it says more and counts as full. Else prove '..UptoSaid'. A law counts once. -/
mutual
def uptoBulk {H : Type} : DataW H → Nat
  | .lit (.string bytes) => bytes.length + 1
  | .lit _ => 1
  | .nil => 1
  | .ptr d => uptoBulk d + 1
  | .slice elems spare => uptoBulkAll elems + uptoBulkAll spare + 1
  | .agg parts => uptoBulkAll parts + 1
  | .iface _ d => uptoBulk d + 1
  | .map entries => uptoBulkEntries entries + 1
  | .held _ => 1
def uptoBulkAll {H : Type} : List (DataW H) → Nat
  | [] => 0
  | d :: r => uptoBulk d + uptoBulkAll r
def uptoBulkEntries {H : Type} : List (Lit × DataW H) → Nat
  | [] => 0
  | x :: r => uptoBulkEntry x + uptoBulkEntries r
def uptoBulkEntry {H : Type} : Lit × DataW H → Nat
  | (.string bytes, d) => bytes.length + uptoBulk d + 1
  | (_, d) => uptoBulk d + 1
 end
def uptoSmall : (H : Type) → List (DataW H) → Bool := fun _ ds => decide (uptoBulkAll ds ≤ 1048576)
def OpenSpec.upto (s : _root_.Go.ChangeSpec) : _root_.Go.OpenSpec := { _root_.Go.OpenSpec.ofChange s with cond := some uptoSmall }

/-- 'clusterkernellaw08.FileBytes', WHERE WHAT IT READS IS OF BULK AT MOST 1048576: true; the input reads as it did. -/
def fileBytesUptoRow : OpenClaim := { program := "ytapfhnlomclnbaa", sum := "0f67c082d028d7b242ddeecf6b2a23a01be80adc5b9d81d727a1ce498b3fc85d", func := "clusterkernel/clusterkernellaw08.FileBytes", spec := "fileBytes", unfollowed := true, recurses := true, apart := false, narrowed := true }
def FileBytesUptoSaid : Prop := fileBytesUptoRow.holds Try.pinned (OpenSpec.upto fileBytesSpec)

/-- 'clusterkernellaw08.FileKeeps', WHERE WHAT IT READS IS OF BULK AT MOST 1048576: true; the input reads as it did. -/
def fileKeepsUptoRow : OpenClaim := { program := "ytapfhnlomclnbaa", sum := "0f67c082d028d7b242ddeecf6b2a23a01be80adc5b9d81d727a1ce498b3fc85d", func := "clusterkernel/clusterkernellaw08.FileKeeps", spec := "fileKeeps", unfollowed := true, recurses := true, apart := false, narrowed := true }
def FileKeepsUptoSaid : Prop := fileKeepsUptoRow.holds Try.pinned (OpenSpec.upto fileKeepsSpec)

/-- 'clusterkernellaw08.FileModel', WHERE WHAT IT READS IS OF BULK AT MOST 1048576: true; the input reads as it did. -/
def fileModelUptoRow : OpenClaim := { program := "ytapfhnlomclnbaa", sum := "0f67c082d028d7b242ddeecf6b2a23a01be80adc5b9d81d727a1ce498b3fc85d", func := "clusterkernel/clusterkernellaw08.FileModel", spec := "fileModel", unfollowed := true, recurses := true, apart := false, narrowed := true }
def FileModelUptoSaid : Prop := fileModelUptoRow.holds Try.pinned (OpenSpec.upto fileModelSpec)

/-- 'clusterkernellaw11.PipeMoves', WHERE WHAT IT READS IS OF BULK AT MOST 1048576: true; the input reads as it did. -/
def pipeMovesUptoRow : OpenClaim := { program := "ytapfhnlomclnbaa", sum := "0f67c082d028d7b242ddeecf6b2a23a01be80adc5b9d81d727a1ce498b3fc85d", func := "clusterkernel/clusterkernellaw11.PipeMoves", spec := "pipeMoves", unfollowed := true, recurses := true, apart := false, narrowed := true }
def PipeMovesUptoSaid : Prop := pipeMovesUptoRow.holds Try.pinned (OpenSpec.upto pipeMovesSpec)

/-- 'clusterkernellaw11.PipeOrder', WHERE WHAT IT READS IS OF BULK AT MOST 1048576: true; the input reads as it did. -/
def pipeOrderUptoRow : OpenClaim := { program := "ytapfhnlomclnbaa", sum := "0f67c082d028d7b242ddeecf6b2a23a01be80adc5b9d81d727a1ce498b3fc85d", func := "clusterkernel/clusterkernellaw11.PipeOrder", spec := "pipeOrder", unfollowed := true, recurses := true, apart := false, narrowed := true }
def PipeOrderUptoSaid : Prop := pipeOrderUptoRow.holds Try.pinned (OpenSpec.upto pipeOrderSpec)

/-- 'clusterkernellaw11.PipeCloses', WHERE WHAT IT READS IS OF BULK AT MOST 1048576: true; the input reads as it did. -/
def pipeClosesUptoRow : OpenClaim := { program := "ytapfhnlomclnbaa", sum := "0f67c082d028d7b242ddeecf6b2a23a01be80adc5b9d81d727a1ce498b3fc85d", func := "clusterkernel/clusterkernellaw11.PipeCloses", spec := "pipeCloses", unfollowed := true, recurses := true, apart := false, narrowed := true }
def PipeClosesUptoSaid : Prop := pipeClosesUptoRow.holds Try.pinned (OpenSpec.upto pipeClosesSpec)

/-- 'clusterkernellaw12.ChannelPorts', WHERE WHAT IT READS IS OF BULK AT MOST 1048576: true; the input reads as it did. -/
def channelPortsUptoRow : OpenClaim := { program := "ytapfhnlomclnbaa", sum := "0f67c082d028d7b242ddeecf6b2a23a01be80adc5b9d81d727a1ce498b3fc85d", func := "clusterkernel/clusterkernellaw12.ChannelPorts", spec := "channelPorts", unfollowed := true, recurses := true, apart := false, narrowed := true }
def ChannelPortsUptoSaid : Prop := channelPortsUptoRow.holds Try.pinned (OpenSpec.upto channelPortsSpec)

/-- 'clusterkernellaw12.ChannelMoves', WHERE WHAT IT READS IS OF BULK AT MOST 1048576: true; the input reads as it did. -/
def channelMovesUptoRow : OpenClaim := { program := "ytapfhnlomclnbaa", sum := "0f67c082d028d7b242ddeecf6b2a23a01be80adc5b9d81d727a1ce498b3fc85d", func := "clusterkernel/clusterkernellaw12.ChannelMoves", spec := "channelMoves", unfollowed := true, recurses := true, apart := false, narrowed := true }
def ChannelMovesUptoSaid : Prop := channelMovesUptoRow.holds Try.pinned (OpenSpec.upto channelMovesSpec)

/-- 'clusterkernellaw12.ChannelOrder', WHERE WHAT IT READS IS OF BULK AT MOST 1048576: true; the input reads as it did. -/
def channelOrderUptoRow : OpenClaim := { program := "ytapfhnlomclnbaa", sum := "0f67c082d028d7b242ddeecf6b2a23a01be80adc5b9d81d727a1ce498b3fc85d", func := "clusterkernel/clusterkernellaw12.ChannelOrder", spec := "channelOrder", unfollowed := true, recurses := true, apart := false, narrowed := true }
def ChannelOrderUptoSaid : Prop := channelOrderUptoRow.holds Try.pinned (OpenSpec.upto channelOrderSpec)

/-- 'clusterkernellaw12.ChannelCalls', WHERE WHAT IT READS IS OF BULK AT MOST 1048576: true; the input reads as it did. -/
def channelCallsUptoRow : OpenClaim := { program := "ytapfhnlomclnbaa", sum := "0f67c082d028d7b242ddeecf6b2a23a01be80adc5b9d81d727a1ce498b3fc85d", func := "clusterkernel/clusterkernellaw12.ChannelCalls", spec := "channelCalls", unfollowed := true, recurses := true, apart := false, narrowed := true }
def ChannelCallsUptoSaid : Prop := channelCallsUptoRow.holds Try.pinned (OpenSpec.upto channelCallsSpec)

end Rows
end Go.Proofs.Ytapfhnlomclnbaa
