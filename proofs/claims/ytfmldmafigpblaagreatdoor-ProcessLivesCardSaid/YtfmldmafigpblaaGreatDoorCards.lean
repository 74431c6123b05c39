/-
  DERIVED. GIVEN WITH THE SEED: THE CARDS: each row of YtfmldmafigpblaaGreatDoorRows.lean that lists a variable, with what it lists TIED to the program's text (the seventh form; the later family's looks); each row that meets fmt, with fmt's text TOLD by the authors' own Lean function (tested against real Go, not proved from fmt's source: count such statements apart). THE CARD IS WHAT COUNTS. Prove the row's statement (the work); the ties are given (YtfmldmafigpblaaGreatDoorTie.lean); close each card by the builder's one call (the guide's Derived/Test/ToyasCard.lean, 'card_holds'). Laid BY PROGRAM, IN A SANDBOX (cutbox-door.mjs). By AI agents, Wed Nov 11 2026. No macro, syntax, notation, axiom, sorry.
-/
import Derived.Test.YtfmldmafigpblaaGreatDoorRows
import GoSem.ClaimSeven
namespace Go.Proofs.YtfmldmafigpblaaGreatDoor
namespace Rows

/-- THE TIED CARD OF 'clusterkernellaw16.ProcessReaps'. -/
def processReapsCard : Claim7 := { stood := { row := processReapsRow, standIns := [], harness := (true, "9f4d7a7714056ca5bc84ccda30fe682feef5480c2c73a034eba5ab3c47b0052d"), looks := false }, kinds := [], alts := [], laidByText := true, laidKinds := [.widerDeep], laidTests := true, laidLooks := .later }
def ProcessReapsCardSaid : Prop := Claim7.holds Tryz.pinned (.plain (OpenSpec.ofChange processReapsSpec)) processReapsCard

/-- THE TIED CARD OF 'clusterkernellaw16.ProcessLives'. -/
def processLivesCard : Claim7 := { stood := { row := processLivesRow, standIns := [], harness := (true, "9f4d7a7714056ca5bc84ccda30fe682feef5480c2c73a034eba5ab3c47b0052d"), looks := false }, kinds := [], alts := [], laidByText := true, laidKinds := [.widerDeep], laidTests := true, laidLooks := .later }
def ProcessLivesCardSaid : Prop := Claim7.holds Tryz.pinned (.plain (OpenSpec.ofChange processLivesSpec)) processLivesCard

/-- THE TIED CARD OF 'clusterkernellaw16.ProcessFamily'. -/
def processFamilyCard : Claim7 := { stood := { row := processFamilyRow, standIns := [], harness := (true, "9f4d7a7714056ca5bc84ccda30fe682feef5480c2c73a034eba5ab3c47b0052d"), looks := false }, kinds := [], alts := [], laidByText := true, laidKinds := [.widerDeep], laidTests := true, laidLooks := .later }
def ProcessFamilyCardSaid : Prop := Claim7.holds Tryz.pinned (.plain (OpenSpec.ofChange processFamilySpec)) processFamilyCard

/-- THE SECOND FORM's CARD OF 'clusterkernellaw16.ProcessReaps'. -/
def processReapsUptoCard : Claim7 := { stood := { row := processReapsUptoRow, standIns := [], harness := (true, "9f4d7a7714056ca5bc84ccda30fe682feef5480c2c73a034eba5ab3c47b0052d"), looks := false }, kinds := [], alts := [], laidByText := true, laidKinds := [.widerDeep], laidTests := true, laidLooks := .later }
def ProcessReapsUptoCardSaid : Prop := Claim7.holds Tryz.pinned (.plain (OpenSpec.upto processReapsSpec)) processReapsUptoCard

/-- THE SECOND FORM's CARD OF 'clusterkernellaw16.ProcessLives'. -/
def processLivesUptoCard : Claim7 := { stood := { row := processLivesUptoRow, standIns := [], harness := (true, "9f4d7a7714056ca5bc84ccda30fe682feef5480c2c73a034eba5ab3c47b0052d"), looks := false }, kinds := [], alts := [], laidByText := true, laidKinds := [.widerDeep], laidTests := true, laidLooks := .later }
def ProcessLivesUptoCardSaid : Prop := Claim7.holds Tryz.pinned (.plain (OpenSpec.upto processLivesSpec)) processLivesUptoCard

/-- THE SECOND FORM's CARD OF 'clusterkernellaw16.ProcessFamily'. -/
def processFamilyUptoCard : Claim7 := { stood := { row := processFamilyUptoRow, standIns := [], harness := (true, "9f4d7a7714056ca5bc84ccda30fe682feef5480c2c73a034eba5ab3c47b0052d"), looks := false }, kinds := [], alts := [], laidByText := true, laidKinds := [.widerDeep], laidTests := true, laidLooks := .later }
def ProcessFamilyUptoCardSaid : Prop := Claim7.holds Tryz.pinned (.plain (OpenSpec.upto processFamilySpec)) processFamilyUptoCard
end Rows
end Go.Proofs.YtfmldmafigpblaaGreatDoor
