/- What the readings of objects say. -/
import Derived.Test.YtbahpkjfgoeohaaUTopBase
namespace Go.Proofs.Ytbahpkjfgoeohaa
set_option linter.unusedSimpArgs false
set_option linter.unusedVariables false
open Go.Lift Go.ChangeShapes Go.WideShapes Go.ChangeAt Go.RowKit
theorem okN {o : GObject} (h : GObject.ok o) : o.Names.length ≤ 9223372036854775807 := Nat.le_trans h.2.2.2.2.2.2.2.2.2.2.2.2.2.2.1.1 (by decide)
theorem okS {o : GObject} (h : GObject.ok o) : o.Process.Program.Strings.length ≤ 9223372036854775807 := Nat.le_trans h.2.2.2.1.2.2.2.1.2.1.1 (by decide)
end Go.Proofs.Ytbahpkjfgoeohaa
