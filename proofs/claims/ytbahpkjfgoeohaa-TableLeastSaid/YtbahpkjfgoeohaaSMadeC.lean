/- Made objects: pages. -/
import Derived.Test.YtbahpkjfgoeohaaSMadeA
namespace Go.Proofs.Ytbahpkjfgoeohaa
open Go.Lift
set_option linter.unusedSimpArgs false
set_option linter.unusedVariables false
set_option maxRecDepth 10000
/-- A page with words. -/
def pg (id : Int) (ws : List Int) : GObject := { (default : GObject) with ID := id, Kind := 2, Words := ws }
end Go.Proofs.Ytbahpkjfgoeohaa
