/- Address spaces that are made from others. -/
import Derived.Test.YtbahpkjfgoeohaaUSpace
import Derived.Test.YtbahpkjfgoeohaaULift2
namespace Go.Proofs.Ytbahpkjfgoeohaa
open Go.Lift
set_option linter.unusedSimpArgs false
set_option linter.unusedVariables false
set_option maxRecDepth 10000
theorem LFz.rowS {α : Type} {B : List Own} {i e n E : Nat} {h : RowH} {xs : List (List SV)} {cells : α → List SV} {d : α} {l : List α} {r r' : List SV} (hB : getD' B i = .row h E e xs) (hx : xs = l.map cells) (hn : n = l.length) (hr : LFz 0 B r r') :
    LFz 0 B (.row i h e 0 n :: r) (slL e cells d l :: r') := LFz.row hB hx hn hr
def clP (n : Nat) (h : RowH) (i : Nat) : SV := .row i h 2 0 n
attribute [push_cast] clP
def shr (id : Int) : GPageRef := ⟨id, true⟩
def spAtt (l : List GPageRef) (ids : List Int) : List GPageRef × Int × Int :=
  if (!spOk l) = true then ([], 0, 1) else if ((ids.length : Int) == 0) = true then ([], 0, 2) else if decide (16 < (l.length : Int) + ids.length) = true then ([], 0, 3)
  else if (!spOk (l ++ ids.map shr)) = true then ([], 0, 1) else (l ++ ids.map shr, (l.length : Int) * 16, 0)
def r3t (x : List GPageRef × Int × Int) : SV := .tup [slL 2 GPageRef.c default x.1, .int .i64 x.2.1, .int .i64 x.2.2]
def spPriv (l : List GPageRef) : List Int := if (!spOk l) = true then [] else (l.filter fun p => !p.Shared).map GPageRef.ID
end Go.Proofs.Ytbahpkjfgoeohaa
