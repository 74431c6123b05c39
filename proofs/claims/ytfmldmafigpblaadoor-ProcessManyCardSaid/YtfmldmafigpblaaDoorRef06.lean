/- What the reference says of blank fields. -/
import Derived.Test.YtfmldmafigpblaaDoorBase
namespace Go.Proofs.YtfmldmafigpblaaDoor
open Go.Lift
set_option linter.unusedSimpArgs false
set_option linter.unusedVariables false
set_option maxRecDepth 10000


def bareB (o : GObject) : Bool := o.Refs == 0 && o.Words.isEmpty && o.Data.isEmpty && o.Offset == 0 && o.Target == 0 && o.Readers == 0 && o.Writers == 0 && o.Backlog.isEmpty && o.Queues.x0.isEmpty && o.Queues.x1.isEmpty && o.Ends == default && o.Count == 0 && o.Names.isEmpty && blankP o.Process
end Go.Proofs.YtfmldmafigpblaaDoor
