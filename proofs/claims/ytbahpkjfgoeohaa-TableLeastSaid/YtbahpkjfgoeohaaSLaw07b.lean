-- SG
/- SpaceFinds: the walk. -/
import Derived.Test.YtbahpkjfgoeohaaSLaw07
namespace Go.Proofs.Ytbahpkjfgoeohaa
open Go.Lift
set_option linter.unusedSimpArgs false
set_option linter.unusedVariables false
set_option maxRecDepth 10000
attribute [push_cast] r3s r2t r3t
@[push_cast] def spC (x : List GPageRef) : List SV := [slL 2 GPageRef.c default x]
theorem two_rng {a b : Int} (h1 : -9223372036854775808 ≤ a ∧ a ≤ 9223372036854775807) (h2 : -9223372036854775808 ≤ b ∧ b ≤ 9223372036854775807) (i : Nat) : -9223372036854775808 ≤ [a, b].getD i default ∧ [a, b].getD i default ≤ 9223372036854775807 := by
  match i with
  | 0 => exact h1
  | 1 => exact h2
  | _ + 2 => show -9223372036854775808 ≤ (0 : Int) ∧ (0 : Int) ≤ 9223372036854775807; decide
end Go.Proofs.Ytbahpkjfgoeohaa
