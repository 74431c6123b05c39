/-
  No cell of these rows narrows 'for every input' (looked for: loops, veiled, ifaces, maps, wideKeys, modest, calm, conditions, laid).
  DERIVED. THE GIVEN ROWS OF THIS SEAT. 7 by the template 'for every input the law returns true; each argument reads behind the call as it read before'; 0 by the template 'total and deterministic' (their statements: YtkkmbhlklcdomaaTotals.lean).
  GIVEN WITH THE SEED: the statements are not yours to turn. If you find one false, say at which input.
  Laid BY PROGRAM, IN A SANDBOX (cutbox-rows.mjs): the forced cells as the released guide's own fill.sh prints them over the translation b8696fc3c8c553dc… (all of the seat's roots in one cut). By AI agents, Wed Nov 11 2026. No macro, syntax, notation, axiom, sorry.
-/
import Derived.Test.YtkkmbhlklcdomaaChecked
import GoSem.Claim
import GoSem.ClaimJoined
import GoSem.ClaimMapViews
import Derived.JoinedTies
import Derived.KernelRfl
namespace Go.Proofs.Ytkkmbhlklcdomaa
/- THE CELL 'sum', in the pinned program and in every row, IS THE sha256 OF THE DUMP (.gsa) THAT YtkkmbhlklcdomaaProg.lean LOADS. Nothing in Lean hashes anything: it is a label: what it is worth is what the hold of that sum in a sandbox is worth. -/
noncomputable def Try.pinned : Pinned := { name := "ytkkmbhlklcdomaa", sum := "b8696fc3c8c553dc97200a63c0091c93767fee35d284507ed6845a6b14fa8c94", checked := Try.checked }
namespace Rows
def none {H : Type} : Left H := { results := [], args := [] }

/-- 'clusterkernellaw17.DeviceMoves': WHATEVER THE INPUT: true; the input reads as it did. -/
def deviceMovesSpec : ChangeSpec := { name := "deviceMoves", fn := fun _ => fun
  | [d1, d2, d3, d4] => { results := [.lit (.bool true)], args := [d1, d2, d3, d4] }
  | _ => none }
def deviceMovesRow : OpenClaim := { program := "ytkkmbhlklcdomaa", sum := "b8696fc3c8c553dc97200a63c0091c93767fee35d284507ed6845a6b14fa8c94", func := "clusterkernel/clusterkernellaw17.DeviceMoves", spec := "deviceMoves", unfollowed := true, recurses := true, apart := false }
def DeviceMovesSaid : Prop := deviceMovesRow.holds Try.pinned (OpenSpec.ofChange deviceMovesSpec)

/-- ITS FALSE NEIGHBOUR: 'it returns false'. Refute it at one input. -/
def deviceMovesWrong : ChangeSpec := { name := "deviceMoves", fn := fun _ => fun
  | [d1, d2, d3, d4] => { results := [.lit (.bool false)], args := [d1, d2, d3, d4] }
  | _ => none }
def DeviceMovesWrongFalsely : Prop := deviceMovesRow.holds Try.pinned (OpenSpec.ofChange deviceMovesWrong)

/-- 'clusterkernellaw06.PageOrder': WHATEVER THE INPUT: true; the input reads as it did. -/
def pageOrderSpec : ChangeSpec := { name := "pageOrder", fn := fun _ => fun
  | [d1, d2, d3, d4, d5] => { results := [.lit (.bool true)], args := [d1, d2, d3, d4, d5] }
  | _ => none }
def pageOrderRow : OpenClaim := { program := "ytkkmbhlklcdomaa", sum := "b8696fc3c8c553dc97200a63c0091c93767fee35d284507ed6845a6b14fa8c94", func := "clusterkernel/clusterkernellaw06.PageOrder", spec := "pageOrder", unfollowed := true, recurses := true, apart := false }
def PageOrderSaid : Prop := pageOrderRow.holds Try.pinned (OpenSpec.ofChange pageOrderSpec)

/-- ITS FALSE NEIGHBOUR: 'it returns false'. Refute it at one input. -/
def pageOrderWrong : ChangeSpec := { name := "pageOrder", fn := fun _ => fun
  | [d1, d2, d3, d4, d5] => { results := [.lit (.bool false)], args := [d1, d2, d3, d4, d5] }
  | _ => none }
def PageOrderWrongFalsely : Prop := pageOrderRow.holds Try.pinned (OpenSpec.ofChange pageOrderWrong)

/-- 'clusterkernellaw06.PageWords': WHATEVER THE INPUT: true; the input reads as it did. -/
def pageWordsSpec : ChangeSpec := { name := "pageWords", fn := fun _ => fun
  | [d1, d2, d3, d4, d5] => { results := [.lit (.bool true)], args := [d1, d2, d3, d4, d5] }
  | _ => none }
def pageWordsRow : OpenClaim := { program := "ytkkmbhlklcdomaa", sum := "b8696fc3c8c553dc97200a63c0091c93767fee35d284507ed6845a6b14fa8c94", func := "clusterkernel/clusterkernellaw06.PageWords", spec := "pageWords", unfollowed := true, recurses := true, apart := false }
def PageWordsSaid : Prop := pageWordsRow.holds Try.pinned (OpenSpec.ofChange pageWordsSpec)

/-- ITS FALSE NEIGHBOUR: 'it returns false'. Refute it at one input. -/
def pageWordsWrong : ChangeSpec := { name := "pageWords", fn := fun _ => fun
  | [d1, d2, d3, d4, d5] => { results := [.lit (.bool false)], args := [d1, d2, d3, d4, d5] }
  | _ => none }
def PageWordsWrongFalsely : Prop := pageWordsRow.holds Try.pinned (OpenSpec.ofChange pageWordsWrong)

/-- 'clusterkernellaw06.PageKeeps': WHATEVER THE INPUT: true; the input reads as it did. -/
def pageKeepsSpec : ChangeSpec := { name := "pageKeeps", fn := fun _ => fun
  | [d1, d2, d3, d4, d5] => { results := [.lit (.bool true)], args := [d1, d2, d3, d4, d5] }
  | _ => none }
def pageKeepsRow : OpenClaim := { program := "ytkkmbhlklcdomaa", sum := "b8696fc3c8c553dc97200a63c0091c93767fee35d284507ed6845a6b14fa8c94", func := "clusterkernel/clusterkernellaw06.PageKeeps", spec := "pageKeeps", unfollowed := true, recurses := true, apart := false }
def PageKeepsSaid : Prop := pageKeepsRow.holds Try.pinned (OpenSpec.ofChange pageKeepsSpec)

/-- ITS FALSE NEIGHBOUR: 'it returns false'. Refute it at one input. -/
def pageKeepsWrong : ChangeSpec := { name := "pageKeeps", fn := fun _ => fun
  | [d1, d2, d3, d4, d5] => { results := [.lit (.bool false)], args := [d1, d2, d3, d4, d5] }
  | _ => none }
def PageKeepsWrongFalsely : Prop := pageKeepsRow.holds Try.pinned (OpenSpec.ofChange pageKeepsWrong)

/-- 'clusterkernellaw13.SemaphoreMoves': WHATEVER THE INPUT: true; the input reads as it did. -/
def semaphoreMovesSpec : ChangeSpec := { name := "semaphoreMoves", fn := fun _ => fun
  | [d1, d2, d3, d4] => { results := [.lit (.bool true)], args := [d1, d2, d3, d4] }
  | _ => none }
def semaphoreMovesRow : OpenClaim := { program := "ytkkmbhlklcdomaa", sum := "b8696fc3c8c553dc97200a63c0091c93767fee35d284507ed6845a6b14fa8c94", func := "clusterkernel/clusterkernellaw13.SemaphoreMoves", spec := "semaphoreMoves", unfollowed := true, recurses := true, apart := false }
def SemaphoreMovesSaid : Prop := semaphoreMovesRow.holds Try.pinned (OpenSpec.ofChange semaphoreMovesSpec)

/-- ITS FALSE NEIGHBOUR: 'it returns false'. Refute it at one input. -/
def semaphoreMovesWrong : ChangeSpec := { name := "semaphoreMoves", fn := fun _ => fun
  | [d1, d2, d3, d4] => { results := [.lit (.bool false)], args := [d1, d2, d3, d4] }
  | _ => none }
def SemaphoreMovesWrongFalsely : Prop := semaphoreMovesRow.holds Try.pinned (OpenSpec.ofChange semaphoreMovesWrong)

/-- 'clusterkernellaw13.SemaphoreCounts': WHATEVER THE INPUT: true; the input reads as it did. -/
def semaphoreCountsSpec : ChangeSpec := { name := "semaphoreCounts", fn := fun _ => fun
  | [d1, d2] => { results := [.lit (.bool true)], args := [d1, d2] }
  | _ => none }
def semaphoreCountsRow : OpenClaim := { program := "ytkkmbhlklcdomaa", sum := "b8696fc3c8c553dc97200a63c0091c93767fee35d284507ed6845a6b14fa8c94", func := "clusterkernel/clusterkernellaw13.SemaphoreCounts", spec := "semaphoreCounts", unfollowed := true, recurses := true, apart := false }
def SemaphoreCountsSaid : Prop := semaphoreCountsRow.holds Try.pinned (OpenSpec.ofChange semaphoreCountsSpec)

/-- ITS FALSE NEIGHBOUR: 'it returns false'. Refute it at one input. -/
def semaphoreCountsWrong : ChangeSpec := { name := "semaphoreCounts", fn := fun _ => fun
  | [d1, d2] => { results := [.lit (.bool false)], args := [d1, d2] }
  | _ => none }
def SemaphoreCountsWrongFalsely : Prop := semaphoreCountsRow.holds Try.pinned (OpenSpec.ofChange semaphoreCountsWrong)

/-- 'clusterkernellaw13.SemaphoreUndoes': WHATEVER THE INPUT: true; the input reads as it did. -/
def semaphoreUndoesSpec : ChangeSpec := { name := "semaphoreUndoes", fn := fun _ => fun
  | [d] => { results := [.lit (.bool true)], args := [d] }
  | _ => none }
def semaphoreUndoesRow : OpenClaim := { program := "ytkkmbhlklcdomaa", sum := "b8696fc3c8c553dc97200a63c0091c93767fee35d284507ed6845a6b14fa8c94", func := "clusterkernel/clusterkernellaw13.SemaphoreUndoes", spec := "semaphoreUndoes", unfollowed := true, recurses := true, apart := false }
def SemaphoreUndoesSaid : Prop := semaphoreUndoesRow.holds Try.pinned (OpenSpec.ofChange semaphoreUndoesSpec)

/-- ITS FALSE NEIGHBOUR: 'it returns false'. Refute it at one input. -/
def semaphoreUndoesWrong : ChangeSpec := { name := "semaphoreUndoes", fn := fun _ => fun
  | [d] => { results := [.lit (.bool false)], args := [d] }
  | _ => none }
def SemaphoreUndoesWrongFalsely : Prop := semaphoreUndoesRow.holds Try.pinned (OpenSpec.ofChange semaphoreUndoesWrong)

/- THE SECOND FORM. 'bulk': how many values and letters a reading holds, each counted each time it is reached (what is shared counts as often as it is met; a slice's spare places count too). A statement '..UptoSaid' is the law's where the arguments, and the package variables that the reading takes, are together of bulk at most 1048576: NARROWER than '..Said'. Prove '..Said' where nothing that the law and all that it calls make is longer than what came in: it says more and counts as full. Else prove '..UptoSaid'. A law counts once. -/
mutual
def uptoBulk {H : Type} : DataW H → Nat
  | .lit (.string bytes) => bytes.length + 1
  | .lit _ => 1
  | .nil => 1
  | .ptr d => uptoBulk d + 1
  | .slice elems spare => uptoBulkAll elems + uptoBulkAll spare + 1
  | .agg parts => uptoBulkAll parts + 1
  | .iface _ d => uptoBulk d + 1
  | .map entries => uptoBulkEntries entries + 1
  | .held _ => 1
def uptoBulkAll {H : Type} : List (DataW H) → Nat
  | [] => 0
  | d :: r => uptoBulk d + uptoBulkAll r
def uptoBulkEntries {H : Type} : List (Lit × DataW H) → Nat
  | [] => 0
  | x :: r => uptoBulkEntry x + uptoBulkEntries r
def uptoBulkEntry {H : Type} : Lit × DataW H → Nat
  | (.string bytes, d) => bytes.length + uptoBulk d + 1
  | (_, d) => uptoBulk d + 1
 end
def uptoSmall : (H : Type) → List (DataW H) → Bool := fun _ ds => decide (uptoBulkAll ds ≤ 1048576)
def OpenSpec.upto (s : _root_.Go.ChangeSpec) : _root_.Go.OpenSpec := { _root_.Go.OpenSpec.ofChange s with cond := some uptoSmall }

/-- 'clusterkernellaw17.DeviceMoves', WHERE WHAT IT READS IS OF BULK AT MOST 1048576: true; the input reads as it did. -/
def deviceMovesUptoRow : OpenClaim := { program := "ytkkmbhlklcdomaa", sum := "b8696fc3c8c553dc97200a63c0091c93767fee35d284507ed6845a6b14fa8c94", func := "clusterkernel/clusterkernellaw17.DeviceMoves", spec := "deviceMoves", unfollowed := true, recurses := true, apart := false, narrowed := true }
def DeviceMovesUptoSaid : Prop := deviceMovesUptoRow.holds Try.pinned (OpenSpec.upto deviceMovesSpec)

/-- 'clusterkernellaw06.PageOrder', WHERE WHAT IT READS IS OF BULK AT MOST 1048576: true; the input reads as it did. -/
def pageOrderUptoRow : OpenClaim := { program := "ytkkmbhlklcdomaa", sum := "b8696fc3c8c553dc97200a63c0091c93767fee35d284507ed6845a6b14fa8c94", func := "clusterkernel/clusterkernellaw06.PageOrder", spec := "pageOrder", unfollowed := true, recurses := true, apart := false, narrowed := true }
def PageOrderUptoSaid : Prop := pageOrderUptoRow.holds Try.pinned (OpenSpec.upto pageOrderSpec)

/-- 'clusterkernellaw06.PageWords', WHERE WHAT IT READS IS OF BULK AT MOST 1048576: true; the input reads as it did. -/
def pageWordsUptoRow : OpenClaim := { program := "ytkkmbhlklcdomaa", sum := "b8696fc3c8c553dc97200a63c0091c93767fee35d284507ed6845a6b14fa8c94", func := "clusterkernel/clusterkernellaw06.PageWords", spec := "pageWords", unfollowed := true, recurses := true, apart := false, narrowed := true }
def PageWordsUptoSaid : Prop := pageWordsUptoRow.holds Try.pinned (OpenSpec.upto pageWordsSpec)

/-- 'clusterkernellaw06.PageKeeps', WHERE WHAT IT READS IS OF BULK AT MOST 1048576: true; the input reads as it did. -/
def pageKeepsUptoRow : OpenClaim := { program := "ytkkmbhlklcdomaa", sum := "b8696fc3c8c553dc97200a63c0091c93767fee35d284507ed6845a6b14fa8c94", func := "clusterkernel/clusterkernellaw06.PageKeeps", spec := "pageKeeps", unfollowed := true, recurses := true, apart := false, narrowed := true }
def PageKeepsUptoSaid : Prop := pageKeepsUptoRow.holds Try.pinned (OpenSpec.upto pageKeepsSpec)

/-- 'clusterkernellaw13.SemaphoreMoves', WHERE WHAT IT READS IS OF BULK AT MOST 1048576: true; the input reads as it did. -/
def semaphoreMovesUptoRow : OpenClaim := { program := "ytkkmbhlklcdomaa", sum := "b8696fc3c8c553dc97200a63c0091c93767fee35d284507ed6845a6b14fa8c94", func := "clusterkernel/clusterkernellaw13.SemaphoreMoves", spec := "semaphoreMoves", unfollowed := true, recurses := true, apart := false, narrowed := true }
def SemaphoreMovesUptoSaid : Prop := semaphoreMovesUptoRow.holds Try.pinned (OpenSpec.upto semaphoreMovesSpec)

/-- 'clusterkernellaw13.SemaphoreCounts', WHERE WHAT IT READS IS OF BULK AT MOST 1048576: true; the input reads as it did. -/
def semaphoreCountsUptoRow : OpenClaim := { program := "ytkkmbhlklcdomaa", sum := "b8696fc3c8c553dc97200a63c0091c93767fee35d284507ed6845a6b14fa8c94", func := "clusterkernel/clusterkernellaw13.SemaphoreCounts", spec := "semaphoreCounts", unfollowed := true, recurses := true, apart := false, narrowed := true }
def SemaphoreCountsUptoSaid : Prop := semaphoreCountsUptoRow.holds Try.pinned (OpenSpec.upto semaphoreCountsSpec)

/-- 'clusterkernellaw13.SemaphoreUndoes', WHERE WHAT IT READS IS OF BULK AT MOST 1048576: true; the input reads as it did. -/
def semaphoreUndoesUptoRow : OpenClaim := { program := "ytkkmbhlklcdomaa", sum := "b8696fc3c8c553dc97200a63c0091c93767fee35d284507ed6845a6b14fa8c94", func := "clusterkernel/clusterkernellaw13.SemaphoreUndoes", spec := "semaphoreUndoes", unfollowed := true, recurses := true, apart := false, narrowed := true }
def SemaphoreUndoesUptoSaid : Prop := semaphoreUndoesUptoRow.holds Try.pinned (OpenSpec.upto semaphoreUndoesSpec)

end Rows
end Go.Proofs.Ytkkmbhlklcdomaa
