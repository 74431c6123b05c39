/- Copies of lists, programs and processes. -/
import Derived.Test.YtnnabccfagojhaaBase
namespace Go.Proofs.Ytnnabccfagojhaa
open Go.Lift
set_option linter.unusedSimpArgs false
set_option linter.unusedVariables false
set_option maxRecDepth 10000
theorem nil_of {α : Type} {l : List α} {h : RowH} (e : (l.length == 0 && orc h) = true) : l = [] := by
  cases l with
  | nil => rfl
  | cons a l => simp at e
end Go.Proofs.Ytnnabccfagojhaa
