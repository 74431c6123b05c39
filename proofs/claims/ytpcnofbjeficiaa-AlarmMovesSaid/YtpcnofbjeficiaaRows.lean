/-
  No cell of these rows narrows 'for every input' (looked for: loops, veiled, ifaces, maps, wideKeys, modest, calm, conditions, laid).
  DERIVED. THE GIVEN ROWS OF THIS SEAT. 8 by the template 'for every input the law returns true; each argument reads behind the call as it read before'; 0 by the template 'total and deterministic' (their statements: YtpcnofbjeficiaaTotals.lean).
  GIVEN WITH THE SEED: the statements are not yours to turn. If you find one false, say at which input.
  Laid BY PROGRAM, IN A SANDBOX (cutbox-rows.mjs): the forced cells as the released guide's own fill.sh prints them over the translation 090a2fedfb67b257… (all of the seat's roots in one cut). By AI agents, Wed Nov 11 2026. No macro, syntax, notation, axiom, sorry.
-/
import Derived.Test.YtpcnofbjeficiaaChecked
import GoSem.Claim
import GoSem.ClaimJoined
import GoSem.ClaimMapViews
import Derived.JoinedTies
import Derived.KernelRfl
namespace Go.Proofs.Ytpcnofbjeficiaa
/- THE CELL 'sum', in the pinned program and in every row, IS THE sha256 OF THE DUMP (.gsa) THAT YtpcnofbjeficiaaProg.lean LOADS. Nothing in Lean hashes anything: it is a label: what it is worth is what the hold of that sum in a sandbox is worth. -/
noncomputable def Try.pinned : Pinned := { name := "ytpcnofbjeficiaa", sum := "090a2fedfb67b257c7eb677ed5e51b25117debd48b607a538573c5f42f42ebef", checked := Try.checked }
namespace Rows
def none {H : Type} : Left H := { results := [], args := [] }

/-- 'clusterkernellaw17.DeviceMoves': WHATEVER THE INPUT: true; the input reads as it did. -/
def deviceMovesSpec : ChangeSpec := { name := "deviceMoves", fn := fun _ => fun
  | [d1, d2, d3, d4] => { results := [.lit (.bool true)], args := [d1, d2, d3, d4] }
  | _ => none }
def deviceMovesRow : OpenClaim := { program := "ytpcnofbjeficiaa", sum := "090a2fedfb67b257c7eb677ed5e51b25117debd48b607a538573c5f42f42ebef", func := "clusterkernel/clusterkernellaw17.DeviceMoves", spec := "deviceMoves", unfollowed := true, recurses := true, apart := false }
def DeviceMovesSaid : Prop := deviceMovesRow.holds Try.pinned (OpenSpec.ofChange deviceMovesSpec)

/-- ITS FALSE NEIGHBOUR: 'it returns false'. Refute it at one input. -/
def deviceMovesWrong : ChangeSpec := { name := "deviceMoves", fn := fun _ => fun
  | [d1, d2, d3, d4] => { results := [.lit (.bool false)], args := [d1, d2, d3, d4] }
  | _ => none }
def DeviceMovesWrongFalsely : Prop := deviceMovesRow.holds Try.pinned (OpenSpec.ofChange deviceMovesWrong)

/-- 'clusterkernellaw17.DeviceTells': WHATEVER THE INPUT: true; the input reads as it did. -/
def deviceTellsSpec : ChangeSpec := { name := "deviceTells", fn := fun _ => fun
  | [d] => { results := [.lit (.bool true)], args := [d] }
  | _ => none }
def deviceTellsRow : OpenClaim := { program := "ytpcnofbjeficiaa", sum := "090a2fedfb67b257c7eb677ed5e51b25117debd48b607a538573c5f42f42ebef", func := "clusterkernel/clusterkernellaw17.DeviceTells", spec := "deviceTells", unfollowed := true, recurses := true, apart := false }
def DeviceTellsSaid : Prop := deviceTellsRow.holds Try.pinned (OpenSpec.ofChange deviceTellsSpec)

/-- ITS FALSE NEIGHBOUR: 'it returns false'. Refute it at one input. -/
def deviceTellsWrong : ChangeSpec := { name := "deviceTells", fn := fun _ => fun
  | [d] => { results := [.lit (.bool false)], args := [d] }
  | _ => none }
def DeviceTellsWrongFalsely : Prop := deviceTellsRow.holds Try.pinned (OpenSpec.ofChange deviceTellsWrong)

/-- 'clusterkernellaw14.SignalMoves': WHATEVER THE INPUT: true; the input reads as it did. -/
def signalMovesSpec : ChangeSpec := { name := "signalMoves", fn := fun _ => fun
  | [d1, d2, d3, d4] => { results := [.lit (.bool true)], args := [d1, d2, d3, d4] }
  | _ => none }
def signalMovesRow : OpenClaim := { program := "ytpcnofbjeficiaa", sum := "090a2fedfb67b257c7eb677ed5e51b25117debd48b607a538573c5f42f42ebef", func := "clusterkernel/clusterkernellaw14.SignalMoves", spec := "signalMoves", apart := false }
def SignalMovesSaid : Prop := signalMovesRow.holds Try.pinned (OpenSpec.ofChange signalMovesSpec)

/-- ITS FALSE NEIGHBOUR: 'it returns false'. Refute it at one input. -/
def signalMovesWrong : ChangeSpec := { name := "signalMoves", fn := fun _ => fun
  | [d1, d2, d3, d4] => { results := [.lit (.bool false)], args := [d1, d2, d3, d4] }
  | _ => none }
def SignalMovesWrongFalsely : Prop := signalMovesRow.holds Try.pinned (OpenSpec.ofChange signalMovesWrong)

/-- 'clusterkernellaw14.SignalTwice': WHATEVER THE INPUT: true; the input reads as it did. -/
def signalTwiceSpec : ChangeSpec := { name := "signalTwice", fn := fun _ => fun
  | [d1, d2] => { results := [.lit (.bool true)], args := [d1, d2] }
  | _ => none }
def signalTwiceRow : OpenClaim := { program := "ytpcnofbjeficiaa", sum := "090a2fedfb67b257c7eb677ed5e51b25117debd48b607a538573c5f42f42ebef", func := "clusterkernel/clusterkernellaw14.SignalTwice", spec := "signalTwice", apart := false }
def SignalTwiceSaid : Prop := signalTwiceRow.holds Try.pinned (OpenSpec.ofChange signalTwiceSpec)

/-- ITS FALSE NEIGHBOUR: 'it returns false'. Refute it at one input. -/
def signalTwiceWrong : ChangeSpec := { name := "signalTwice", fn := fun _ => fun
  | [d1, d2] => { results := [.lit (.bool false)], args := [d1, d2] }
  | _ => none }
def SignalTwiceWrongFalsely : Prop := signalTwiceRow.holds Try.pinned (OpenSpec.ofChange signalTwiceWrong)

/-- 'clusterkernellaw14.SignalSets': WHATEVER THE INPUT: true; the input reads as it did. -/
def signalSetsSpec : ChangeSpec := { name := "signalSets", fn := fun _ => fun
  | [d] => { results := [.lit (.bool true)], args := [d] }
  | _ => none }
def signalSetsRow : OpenClaim := { program := "ytpcnofbjeficiaa", sum := "090a2fedfb67b257c7eb677ed5e51b25117debd48b607a538573c5f42f42ebef", func := "clusterkernel/clusterkernellaw14.SignalSets", spec := "signalSets", apart := false }
def SignalSetsSaid : Prop := signalSetsRow.holds Try.pinned (OpenSpec.ofChange signalSetsSpec)

/-- ITS FALSE NEIGHBOUR: 'it returns false'. Refute it at one input. -/
def signalSetsWrong : ChangeSpec := { name := "signalSets", fn := fun _ => fun
  | [d] => { results := [.lit (.bool false)], args := [d] }
  | _ => none }
def SignalSetsWrongFalsely : Prop := signalSetsRow.holds Try.pinned (OpenSpec.ofChange signalSetsWrong)

/-- 'clusterkernellaw15.AlarmMoves': WHATEVER THE INPUT: true; the input reads as it did. -/
def alarmMovesSpec : ChangeSpec := { name := "alarmMoves", fn := fun _ => fun
  | [d1, d2, d3, d4, d5] => { results := [.lit (.bool true)], args := [d1, d2, d3, d4, d5] }
  | _ => none }
def alarmMovesRow : OpenClaim := { program := "ytpcnofbjeficiaa", sum := "090a2fedfb67b257c7eb677ed5e51b25117debd48b607a538573c5f42f42ebef", func := "clusterkernel/clusterkernellaw15.AlarmMoves", spec := "alarmMoves", apart := false }
def AlarmMovesSaid : Prop := alarmMovesRow.holds Try.pinned (OpenSpec.ofChange alarmMovesSpec)

/-- ITS FALSE NEIGHBOUR: 'it returns false'. Refute it at one input. -/
def alarmMovesWrong : ChangeSpec := { name := "alarmMoves", fn := fun _ => fun
  | [d1, d2, d3, d4, d5] => { results := [.lit (.bool false)], args := [d1, d2, d3, d4, d5] }
  | _ => none }
def AlarmMovesWrongFalsely : Prop := alarmMovesRow.holds Try.pinned (OpenSpec.ofChange alarmMovesWrong)

/-- 'clusterkernellaw15.AlarmAdds': WHATEVER THE INPUT: true; the input reads as it did. -/
def alarmAddsSpec : ChangeSpec := { name := "alarmAdds", fn := fun _ => fun
  | [d1, d2, d3] => { results := [.lit (.bool true)], args := [d1, d2, d3] }
  | _ => none }
def alarmAddsRow : OpenClaim := { program := "ytpcnofbjeficiaa", sum := "090a2fedfb67b257c7eb677ed5e51b25117debd48b607a538573c5f42f42ebef", func := "clusterkernel/clusterkernellaw15.AlarmAdds", spec := "alarmAdds", apart := false }
def AlarmAddsSaid : Prop := alarmAddsRow.holds Try.pinned (OpenSpec.ofChange alarmAddsSpec)

/-- ITS FALSE NEIGHBOUR: 'it returns false'. Refute it at one input. -/
def alarmAddsWrong : ChangeSpec := { name := "alarmAdds", fn := fun _ => fun
  | [d1, d2, d3] => { results := [.lit (.bool false)], args := [d1, d2, d3] }
  | _ => none }
def AlarmAddsWrongFalsely : Prop := alarmAddsRow.holds Try.pinned (OpenSpec.ofChange alarmAddsWrong)

/-- 'clusterkernellaw15.AlarmAgain': WHATEVER THE INPUT: true; the input reads as it did. -/
def alarmAgainSpec : ChangeSpec := { name := "alarmAgain", fn := fun _ => fun
  | [d1, d2, d3] => { results := [.lit (.bool true)], args := [d1, d2, d3] }
  | _ => none }
def alarmAgainRow : OpenClaim := { program := "ytpcnofbjeficiaa", sum := "090a2fedfb67b257c7eb677ed5e51b25117debd48b607a538573c5f42f42ebef", func := "clusterkernel/clusterkernellaw15.AlarmAgain", spec := "alarmAgain", apart := false }
def AlarmAgainSaid : Prop := alarmAgainRow.holds Try.pinned (OpenSpec.ofChange alarmAgainSpec)

/-- ITS FALSE NEIGHBOUR: 'it returns false'. Refute it at one input. -/
def alarmAgainWrong : ChangeSpec := { name := "alarmAgain", fn := fun _ => fun
  | [d1, d2, d3] => { results := [.lit (.bool false)], args := [d1, d2, d3] }
  | _ => none }
def AlarmAgainWrongFalsely : Prop := alarmAgainRow.holds Try.pinned (OpenSpec.ofChange alarmAgainWrong)

/- THE SECOND FORM. 'bulk': how many values and letters a reading holds, each counted each time it is reached (what is shared counts as often as it is met; a slice's spare places count too). A statement '..UptoSaid' is the law's where the arguments, and the package variables that the reading takes, are together of bulk at most 1048576: NARROWER than '..Said'. Prove '..Said' where nothing that the law and all that it calls make is longer than what came in: it says more and counts as full. Else prove '..UptoSaid'. A law counts once. -/
mutual
def uptoBulk {H : Type} : DataW H → Nat
  | .lit (.string bytes) => bytes.length + 1
  | .lit _ => 1
  | .nil => 1
  | .ptr d => uptoBulk d + 1
  | .slice elems spare => uptoBulkAll elems + uptoBulkAll spare + 1
  | .agg parts => uptoBulkAll parts + 1
  | .iface _ d => uptoBulk d + 1
  | .map entries => uptoBulkEntries entries + 1
  | .held _ => 1
def uptoBulkAll {H : Type} : List (DataW H) → Nat
  | [] => 0
  | d :: r => uptoBulk d + uptoBulkAll r
def uptoBulkEntries {H : Type} : List (Lit × DataW H) → Nat
  | [] => 0
  | x :: r => uptoBulkEntry x + uptoBulkEntries r
def uptoBulkEntry {H : Type} : Lit × DataW H → Nat
  | (.string bytes, d) => bytes.length + uptoBulk d + 1
  | (_, d) => uptoBulk d + 1
 end
def uptoSmall : (H : Type) → List (DataW H) → Bool := fun _ ds => decide (uptoBulkAll ds ≤ 1048576)
def OpenSpec.upto (s : _root_.Go.ChangeSpec) : _root_.Go.OpenSpec := { _root_.Go.OpenSpec.ofChange s with cond := some uptoSmall }

/-- 'clusterkernellaw17.DeviceMoves', WHERE WHAT IT READS IS OF BULK AT MOST 1048576: true; the input reads as it did. -/
def deviceMovesUptoRow : OpenClaim := { program := "ytpcnofbjeficiaa", sum := "090a2fedfb67b257c7eb677ed5e51b25117debd48b607a538573c5f42f42ebef", func := "clusterkernel/clusterkernellaw17.DeviceMoves", spec := "deviceMoves", unfollowed := true, recurses := true, apart := false, narrowed := true }
def DeviceMovesUptoSaid : Prop := deviceMovesUptoRow.holds Try.pinned (OpenSpec.upto deviceMovesSpec)

/-- 'clusterkernellaw17.DeviceTells', WHERE WHAT IT READS IS OF BULK AT MOST 1048576: true; the input reads as it did. -/
def deviceTellsUptoRow : OpenClaim := { program := "ytpcnofbjeficiaa", sum := "090a2fedfb67b257c7eb677ed5e51b25117debd48b607a538573c5f42f42ebef", func := "clusterkernel/clusterkernellaw17.DeviceTells", spec := "deviceTells", unfollowed := true, recurses := true, apart := false, narrowed := true }
def DeviceTellsUptoSaid : Prop := deviceTellsUptoRow.holds Try.pinned (OpenSpec.upto deviceTellsSpec)

/-- 'clusterkernellaw14.SignalMoves', WHERE WHAT IT READS IS OF BULK AT MOST 1048576: true; the input reads as it did. -/
def signalMovesUptoRow : OpenClaim := { program := "ytpcnofbjeficiaa", sum := "090a2fedfb67b257c7eb677ed5e51b25117debd48b607a538573c5f42f42ebef", func := "clusterkernel/clusterkernellaw14.SignalMoves", spec := "signalMoves", apart := false, narrowed := true }
def SignalMovesUptoSaid : Prop := signalMovesUptoRow.holds Try.pinned (OpenSpec.upto signalMovesSpec)

/-- 'clusterkernellaw14.SignalTwice', WHERE WHAT IT READS IS OF BULK AT MOST 1048576: true; the input reads as it did. -/
def signalTwiceUptoRow : OpenClaim := { program := "ytpcnofbjeficiaa", sum := "090a2fedfb67b257c7eb677ed5e51b25117debd48b607a538573c5f42f42ebef", func := "clusterkernel/clusterkernellaw14.SignalTwice", spec := "signalTwice", apart := false, narrowed := true }
def SignalTwiceUptoSaid : Prop := signalTwiceUptoRow.holds Try.pinned (OpenSpec.upto signalTwiceSpec)

/-- 'clusterkernellaw14.SignalSets', WHERE WHAT IT READS IS OF BULK AT MOST 1048576: true; the input reads as it did. -/
def signalSetsUptoRow : OpenClaim := { program := "ytpcnofbjeficiaa", sum := "090a2fedfb67b257c7eb677ed5e51b25117debd48b607a538573c5f42f42ebef", func := "clusterkernel/clusterkernellaw14.SignalSets", spec := "signalSets", apart := false, narrowed := true }
def SignalSetsUptoSaid : Prop := signalSetsUptoRow.holds Try.pinned (OpenSpec.upto signalSetsSpec)

/-- 'clusterkernellaw15.AlarmMoves', WHERE WHAT IT READS IS OF BULK AT MOST 1048576: true; the input reads as it did. -/
def alarmMovesUptoRow : OpenClaim := { program := "ytpcnofbjeficiaa", sum := "090a2fedfb67b257c7eb677ed5e51b25117debd48b607a538573c5f42f42ebef", func := "clusterkernel/clusterkernellaw15.AlarmMoves", spec := "alarmMoves", apart := false, narrowed := true }
def AlarmMovesUptoSaid : Prop := alarmMovesUptoRow.holds Try.pinned (OpenSpec.upto alarmMovesSpec)

/-- 'clusterkernellaw15.AlarmAdds', WHERE WHAT IT READS IS OF BULK AT MOST 1048576: true; the input reads as it did. -/
def alarmAddsUptoRow : OpenClaim := { program := "ytpcnofbjeficiaa", sum := "090a2fedfb67b257c7eb677ed5e51b25117debd48b607a538573c5f42f42ebef", func := "clusterkernel/clusterkernellaw15.AlarmAdds", spec := "alarmAdds", apart := false, narrowed := true }
def AlarmAddsUptoSaid : Prop := alarmAddsUptoRow.holds Try.pinned (OpenSpec.upto alarmAddsSpec)

/-- 'clusterkernellaw15.AlarmAgain', WHERE WHAT IT READS IS OF BULK AT MOST 1048576: true; the input reads as it did. -/
def alarmAgainUptoRow : OpenClaim := { program := "ytpcnofbjeficiaa", sum := "090a2fedfb67b257c7eb677ed5e51b25117debd48b607a538573c5f42f42ebef", func := "clusterkernel/clusterkernellaw15.AlarmAgain", spec := "alarmAgain", apart := false, narrowed := true }
def AlarmAgainUptoSaid : Prop := alarmAgainUptoRow.holds Try.pinned (OpenSpec.upto alarmAgainSpec)

end Rows
end Go.Proofs.Ytpcnofbjeficiaa
