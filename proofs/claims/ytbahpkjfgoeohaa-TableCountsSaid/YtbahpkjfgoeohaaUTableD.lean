-- SG
/- Tables of descriptors: clear. -/
import Derived.Test.YtbahpkjfgoeohaaUTableC
namespace Go.Proofs.Ytbahpkjfgoeohaa
open Go.Lift
set_option linter.unusedSimpArgs false
set_option linter.unusedVariables false
set_option maxRecDepth 10000
def stripN (l : List GSlot) : Nat → Nat
  | 0 => 0
  | n + 1 => if ((l.getD n default).Kind == 0) = true then stripN l n else n + 1
def strip (l : List GSlot) : List GSlot := l.take (stripN l l.length)
def tbClear (t : List GSlot) (i : Int) : List GSlot × Int :=
  if (!tbOk t) = true then ([], 1) else if ((tbGet t i).2 != 0) = true then ([], (tbGet t i).2) else (strip (t.set i.toNat default), 0)
def sl2t (x : List GSlot × Int) : SV := .tup [slL 4 GSlot.c default x.1, .int .i64 x.2]
attribute [push_cast] sl3 sl2t
end Go.Proofs.Ytbahpkjfgoeohaa
