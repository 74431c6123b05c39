/- Devices: the reference. -/
import Derived.Test.YtbahpkjfgoeohaaSBlank
import Derived.Test.YtbahpkjfgoeohaaSRef06
namespace Go.Proofs.Ytbahpkjfgoeohaa
open Go.Lift
set_option linter.unusedSimpArgs false
set_option linter.unusedVariables false
set_option maxRecDepth 10000
def devOk (o : GObject) : Bool := o.Kind == 9 && !(o.ID == 0) && onlyB o 2048
def devDo (o : GObject) (v : Int) : Int × GObject × Int := if devOk o then (o.Count, { o with Count := IntKind.i64.wrap (o.Count + v) }, 0) else (0, default, 1)
def r3o (x : Int × GObject × Int) : SV := .tup [.int .i64 x.1, .agg x.2.1.c, .int .i64 x.2.2]
end Go.Proofs.Ytbahpkjfgoeohaa
