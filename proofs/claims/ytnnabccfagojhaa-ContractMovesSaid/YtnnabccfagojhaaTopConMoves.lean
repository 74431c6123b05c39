/-
  ContractMoves, for every input that can be read as data: the law returns true, never panics, and its arguments read behind the call as they read before; no further condition.
-/
import Derived.Test.YtnnabccfagojhaaLaw37d
import Derived.Test.YtnnabccfagojhaaTopBase
namespace Go.Proofs.Ytnnabccfagojhaa
set_option linter.unusedSimpArgs false
open Go.Lift Go.ChangeShapes Go.WideShapes Go.ChangeAt Go.RowKit
set_option linter.unusedVariables false
set_option maxRecDepth 100000 in
theorem contractMoves_lifted (os : Os) (started : os.Started) (H : Type) (enc : TypeId × Value → H) :
    ReturnsInHanded {} Try.checked os 9 .any (Rows.contractMovesSpec.pre6 enc Try.prog Try.f9 Rows.contractMovesRow.domain false) (Rows.contractMovesSpec.post enc Try.prog Try.f9 false true false false) := by
  refine true_top (C := Try.checked) (tb := 4) (ts := [22, 25, 27, 23, 3, 3, 3]) Try.own started (by kernel_rfl) Try.func9 Try.laidOut (of_decide_eq_true (by kernel_rfl)) (by kernel_rfl) Try.underlying4 rfl ?_
    (ChangeSpec.witness6 (enc := enc) (C := Try.checked) false ⟨#[], #[Go.Value.slice none 0 0, Go.Value.slice none 0 0, Go.Value.agg #[Go.Value.int (Go.IntKind.i64) 0, Go.Value.int (Go.IntKind.i64) 0, Go.Value.int (Go.IntKind.i64) 0], Go.Value.int (Go.IntKind.u64) 0, Go.Value.int (Go.IntKind.i64) 0, Go.Value.int (Go.IntKind.i64) 0, Go.Value.int (Go.IntKind.i64) 0], []⟩ 8 (by kernel_rfl) (by kernel_rfl) (by kernel_rfl) (by kernel_rfl)) (by kernel_rfl) (RA.cons rv_22 (RA.cons rv_25 (RA.cons rv_27 (RA.cons rv_23 (RA.cons rv_3 (RA.cons rv_3 (RA.cons rv_3 RA.nil))))))) ?_
  · intro ds hds
    rw [show Try.f9.params.size = 7 by kernel_rfl] at hds
    match ds, hds with
    | [d1, d2, d3, d4, d5, d6, d7], _ => rfl
  · rintro _ ⟨x0, _, h0, ⟨x1, _, h1, ⟨x2, _, h2, ⟨x3, _, h3, ⟨x4, _, h4, ⟨x5, _, h5, ⟨x6, _, h6, rfl, rfl⟩, rfl⟩, rfl⟩, rfl⟩, rfl⟩, rfl⟩, rfl⟩
    exact ec_ContractMoves x0 x1 x2 x3 x4 x5 x6 (Nat.le_trans h0.1 (by decide))
theorem contractMoves_holds : Rows.ContractMovesSaid :=
  OpenClaim.holds_of_wide 9 Try.f9 rfl rfl rfl rfl rfl rfl rfl ⟨rfl, rfl, rfl, rfl, rfl⟩ rfl rfl rfl rfl rfl (by kernel_rfl) Try.func9 (by kernel_rfl)
    (of_decide_eq_true (by kernel_rfl)) (by unfold Func.isWrapper; first | (rw [if_pos (by decide +kernel)]; kernel_rfl) | (rw [if_neg (by decide +kernel)]; exact ⟨rfl, rfl⟩))
    (fun os started H enc _ => contractMoves_lifted os started H enc)

end Go.Proofs.Ytnnabccfagojhaa
