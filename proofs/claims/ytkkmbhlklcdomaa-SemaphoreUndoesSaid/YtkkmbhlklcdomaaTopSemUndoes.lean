/-
  SemaphoreUndoes, for every input that can be read as data: the law returns true, never panics, and its arguments read behind the call as they read before; no further condition.
-/
import Derived.Test.YtkkmbhlklcdomaaLaw13
import Derived.Test.YtkkmbhlklcdomaaTopBase
namespace Go.Proofs.Ytkkmbhlklcdomaa
open Go.Lift Go.ChangeShapes Go.WideShapes Go.ChangeAt Go.RowKit
set_option linter.unusedVariables false
set_option maxRecDepth 100000 in
theorem semaphoreUndoes_lifted (os : Os) (started : os.Started) (H : Type) (enc : TypeId × Value → H) :
    ReturnsInHanded {} Try.checked os 9 .any (Rows.semaphoreUndoesSpec.pre6 enc Try.prog Try.f9 Rows.semaphoreUndoesRow.domain false) (Rows.semaphoreUndoesSpec.post enc Try.prog Try.f9 false true false false) := by
  refine true_top (C := Try.checked) (tb := 4) (ts := [67]) Try.own started (by kernel_rfl) Try.func9 Try.laidOut (of_decide_eq_true (by kernel_rfl)) (by kernel_rfl) Try.underlying4 rfl ?_
    (ChangeSpec.witness6 (enc := enc) (C := Try.checked) false ⟨#[], #[Go.Value.int (Go.IntKind.u32) 0], []⟩ 8 (by kernel_rfl) (by kernel_rfl) (by kernel_rfl) (by kernel_rfl)) (by kernel_rfl) (RA.cons rv_67 RA.nil) ?_
  · intro ds hds
    rw [show Try.f9.params.size = 1 by kernel_rfl] at hds
    match ds, hds with
    | [d1], _ => rfl
  · rintro _ ⟨x0, _, h0, rfl, rfl⟩
    exact ec_semaphoreUndoes x0 (u32_wf h0).1
theorem semaphoreUndoes_holds : Rows.SemaphoreUndoesSaid :=
  OpenClaim.holds_of_wide 9 Try.f9 rfl rfl rfl rfl rfl rfl rfl ⟨rfl, rfl, rfl, rfl, rfl⟩ rfl rfl rfl rfl rfl (by kernel_rfl) Try.func9 (by kernel_rfl)
    (of_decide_eq_true (by kernel_rfl)) (by unfold Func.isWrapper; first | (rw [if_pos (by decide +kernel)]; kernel_rfl) | (rw [if_neg (by decide +kernel)]; exact ⟨rfl, rfl⟩))
    (fun os started H enc _ => semaphoreUndoes_lifted os started H enc)

end Go.Proofs.Ytkkmbhlklcdomaa
