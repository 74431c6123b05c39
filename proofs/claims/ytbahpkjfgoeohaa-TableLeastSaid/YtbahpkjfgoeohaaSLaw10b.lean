-- SG
/- TableCounts: the walk. -/
import Derived.Test.YtbahpkjfgoeohaaSMadeT
import Derived.Test.YtbahpkjfgoeohaaSKeep
import Derived.Test.YtbahpkjfgoeohaaSSame
namespace Go.Proofs.Ytbahpkjfgoeohaa
open Go.Lift
set_option linter.unusedSimpArgs false
set_option linter.unusedVariables false
set_option maxRecDepth 10000
theorem slSet_small {o : GObject} (h : smallO o) (s : GSlot) (n : Int) : smallO (slSet o s n) := by
  obtain ⟨h1, h2, h3, h4, h5, h6, h7, h8⟩ := h
  unfold slSet
  repeat' split
  all_goals exact ⟨h1, h2, h3, h4, h5, h6, h7, h8⟩
end Go.Proofs.Ytbahpkjfgoeohaa
