/- What the blank fields of objects are. -/
import Derived.Test.YtbahpkjfgoeohaaUBase
namespace Go.Proofs.Ytbahpkjfgoeohaa
open Go.Lift
set_option linter.unusedSimpArgs false
set_option linter.unusedVariables false
set_option maxRecDepth 10000
def mk (b : Bool) (m s : Int) : Int := if b then bitI .or .i64 s m else s
def okB (u m : Int) (b : Bool) : Bool := !b || (bitI .andNot .i64 m u == 0)
def onlyB (o : GObject) (u : Int) : Bool :=
  okB u 1 (!(o.Refs == 0)) && okB u 2 (!blankP o.Process) && okB u 4 (!o.Words.isEmpty) && okB u 8 (!o.Data.isEmpty) && okB u 16 (!(o.Offset == 0)) && okB u 32 (!(o.Target == 0)) && okB u 64 (!(o.Readers == 0)) && okB u 128 (!(o.Writers == 0)) &&
  okB u 256 (!o.Backlog.isEmpty) && okB u 512 (!(o.Queues.x0.isEmpty && o.Queues.x1.isEmpty)) && okB u 1024 (!(o.Ends == default)) && okB u 2048 (!(o.Count == 0)) && okB u 4096 (!o.Names.isEmpty)
end Go.Proofs.Ytbahpkjfgoeohaa
