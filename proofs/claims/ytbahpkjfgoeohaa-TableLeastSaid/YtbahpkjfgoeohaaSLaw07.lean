/- The walks of the laws on address spaces. -/
import Derived.Test.YtbahpkjfgoeohaaSSpaceC
namespace Go.Proofs.Ytbahpkjfgoeohaa
open Go.Lift
set_option linter.unusedSimpArgs false
set_option linter.unusedVariables false
set_option maxRecDepth 10000
theorem i64_rng (n : Int) : -9223372036854775808 ≤ IntKind.i64.wrap n ∧ IntKind.i64.wrap n ≤ 9223372036854775807 := by
  rw [IntKind.wrap_i64]; omega
theorem and_rng (a b : Int) : -9223372036854775808 ≤ bitI .and .i64 a b ∧ bitI .and .i64 a b ≤ 9223372036854775807 := i64_rng _
theorem EV_frzRow {α : Type} {P : Program} {n' : Nat} {t : Slots} {B : List Own} {Q : Post} {c : Code} (d i : Nat) {h : RowH} {E e n : Nat} {xs : List (List SV)} {cells : α → List SV} {df : α} {l : List α}
    (hd : lkp t d = .row i h e 0 n) (hB : getD' B i = .row h E e xs) (hx : xs = l.map cells) (hn : n = l.length) (hk : EV P n' c ((d, .sl false e l.length (elt cells df l)) :: t) (B.set i .gone) Q) : EV P n' c t B Q := by
  have hil : i < B.length := getD'_lt hB
  subst hx hn
  refine EV_frzI d i hil ?_ ?_ hk
  · rw [hd]; simp [frzKT, frzKA, frzKC, hB]
  · rw [hd]
    simp only [frzT, frzA, frzC, beq_self_eq_true, hB]
    refine SLe.sl (fun h => h) (.inr rfl) fun k hk => ?_
    simp [List.getD, hk, elt]
end Go.Proofs.Ytbahpkjfgoeohaa
