/- Made objects: ports, channels. -/
import Derived.Test.YtbahpkjfgoeohaaSMadeA
import Derived.Test.YtbahpkjfgoeohaaSLift2
namespace Go.Proofs.Ytbahpkjfgoeohaa
open Go.Lift
set_option linter.unusedSimpArgs false
set_option linter.unusedVariables false
set_option maxRecDepth 10000
end Go.Proofs.Ytbahpkjfgoeohaa
