/- The bounds within which the statements look at their inputs. -/
import Derived.Test.YtbahpkjfgoeohaaSBase
namespace Go.Proofs.Ytbahpkjfgoeohaa
open Go.Lift
set_option linter.unusedSimpArgs false
set_option linter.unusedVariables false
set_option maxRecDepth 10000
def keepP (p : GProgram) : Bool := p.Strings.all (fun s => !decide (200 < s.length)) && (decide (p.Code.length ≤ 300) && decide (p.Strings.length ≤ 40))
def keepN (n : GName) : Bool := !(decide (200 < n.Path.length) || decide (20 < n.IDs.length))
def keepO (o : GObject) : Bool := o.Names.all keepN && (decide (o.Process.Children.length ≤ 40) && keepP o.Process.Program && decide (o.Process.Pages.length ≤ 20) && decide (o.Process.Table.length ≤ 20) && decide (o.Words.length ≤ 20) && decide (o.Data.length ≤ 5000) && decide (o.Backlog.length ≤ 12) &&
  decide (o.Queues.x0.length ≤ 80) && decide (o.Queues.x1.length ≤ 80) && decide (o.Names.length ≤ 30))
end Go.Proofs.Ytbahpkjfgoeohaa
