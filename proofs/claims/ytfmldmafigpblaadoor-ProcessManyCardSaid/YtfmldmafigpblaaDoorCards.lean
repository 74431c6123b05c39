/-
  DERIVED. GIVEN WITH THE SEED: THE CARDS: each row of YtfmldmafigpblaaDoorRows.lean that lists a variable, with what it lists TIED to the program's text (the seventh form; the later family's looks); each row that meets fmt, with fmt's text TOLD by the authors' own Lean function (tested against real Go, not proved from fmt's source: count such statements apart). THE CARD IS WHAT COUNTS. Prove the row's statement (the work); the ties are given (YtfmldmafigpblaaDoorTie.lean); close each card by the builder's one call (the guide's Derived/Test/ToyasCard.lean, 'card_holds'). Laid BY PROGRAM, IN A SANDBOX (cutbox-door.mjs). By AI agents, Wed Nov 11 2026. No macro, syntax, notation, axiom, sorry.
-/
import Derived.Test.YtfmldmafigpblaaDoorRows
import GoSem.ClaimSeven
namespace Go.Proofs.YtfmldmafigpblaaDoor
namespace Rows

/-- THE TIED CARD OF 'clusterkernellaw16.ProcessMany'. -/
def processManyCard : Claim7 := { stood := { row := processManyRow, standIns := [], harness := (true, "0b698203b4b7e58b7fbe68f685ba32a8398e3f8ac0ee3779c80a2e69ffc45f1a"), looks := false }, kinds := [], alts := [], laidByText := true, laidKinds := [.widerDeep], laidTests := true, laidLooks := .later }
def ProcessManyCardSaid : Prop := Claim7.holds Tryd.pinned (.plain (OpenSpec.ofChange processManySpec)) processManyCard

/-- THE SECOND FORM's CARD OF 'clusterkernellaw16.ProcessMany'. -/
def processManyUptoCard : Claim7 := { stood := { row := processManyUptoRow, standIns := [], harness := (true, "0b698203b4b7e58b7fbe68f685ba32a8398e3f8ac0ee3779c80a2e69ffc45f1a"), looks := false }, kinds := [], alts := [], laidByText := true, laidKinds := [.widerDeep], laidTests := true, laidLooks := .later }
def ProcessManyUptoCardSaid : Prop := Claim7.holds Tryd.pinned (.plain (OpenSpec.upto processManySpec)) processManyUptoCard
end Rows
end Go.Proofs.YtfmldmafigpblaaDoor
