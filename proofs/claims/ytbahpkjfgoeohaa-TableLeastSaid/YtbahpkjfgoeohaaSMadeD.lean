/- Made objects: what the reference does with names. -/
import Derived.Test.YtbahpkjfgoeohaaSMadeB
import Derived.Test.YtbahpkjfgoeohaaSFin
namespace Go.Proofs.Ytbahpkjfgoeohaa
open Go.Lift
set_option linter.unusedSimpArgs false
set_option linter.unusedVariables false
set_option maxRecDepth 10000
def smallN (n : GName) : Prop := n.IDs.length ≤ 1000000 ∧ n.Path.length ≤ 1000000
theorem n2t (o : GName) (s : SV) : (putL o.c 2 [s]).take 3 = putL o.c 2 [s] := rfl
theorem n2l (o : GName) (s : SV) : (putL o.c 2 [s]).length = 3 := rfl
theorem n2s (o : GName) (i : Nat) (h : RowH) (e a n : Nat) : solids (putL o.c 2 [.row i h e a n]) = true := by simp [putL, GName.c, solids, SV.solid]
theorem n2d (o : GName) (s : SV) : putL (GName.c default) 0 (putL o.c 2 [s]) = putL o.c 2 [s] := putL_app (by simp only [GName.len, n2l]; decide) rfl
theorem n2g0 (o : GName) (s d : SV) : (putL o.c 2 [s]).getD 0 d = o.c.getD 0 d := rfl
theorem n2g1 (o : GName) (s d : SV) : (putL o.c 2 [s]).getD 1 d = o.c.getD 1 d := rfl
theorem n2g2 (o : GName) (s d : SV) : (putL o.c 2 [s]).getD 2 d = s := rfl
attribute [push_cast] n2t n2l n2s n2d n2g0 n2g1 n2g2
def smallO' (o : GObject) : Prop := smallO o
end Go.Proofs.Ytbahpkjfgoeohaa
