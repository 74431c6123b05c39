/- Address spaces with other private pages. -/
import Derived.Test.YtbahpkjfgoeohaaSSpaceB
namespace Go.Proofs.Ytbahpkjfgoeohaa
open Go.Lift
set_option linter.unusedSimpArgs false
set_option linter.unusedVariables false
set_option maxRecDepth 10000
/-- How many pages are private. -/
def np (l : List GPageRef) : Nat := (l.filter fun p => !p.Shared).length
/-- Private pages get other identifiers. -/
def newP (p : GPageRef) (r : List Int) : GPageRef := if p.Shared = true then p else { p with ID := r.getD 0 default }
def replL : List GPageRef → List Int → List GPageRef
  | [], _ => []
  | p :: t, r => newP p r :: replL t (if p.Shared = true then r else r.drop 1)
def spRepl (l : List GPageRef) (ids : List Int) : List GPageRef × Int :=
  if (!spOk l) = true then ([], 1) else if ((ids.length : Int) != ((spPriv l).length : Int)) = true then ([], 2) else if (!spOk (replL l ids)) = true then ([], 1) else (replL l ids, 0)
def r2t (x : List GPageRef × Int) : SV := .tup [slL 2 GPageRef.c default x.1, .int .i64 x.2]
end Go.Proofs.Ytbahpkjfgoeohaa
