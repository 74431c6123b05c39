/-
  TableLeast, for every input that can be read as data: the law returns true, never panics, and its arguments read behind the call as they read before; no further condition.
-/
import Derived.Test.YtbahpkjfgoeohaaSLaw10f
import Derived.Test.YtbahpkjfgoeohaaSTopBase
namespace Go.Proofs.Ytbahpkjfgoeohaa
set_option linter.unusedSimpArgs false
open Go.Lift Go.ChangeShapes Go.WideShapes Go.ChangeAt Go.RowKit
set_option linter.unusedVariables false
set_option maxRecDepth 100000 in
theorem tableLeast_lifted (os : Os) (started : os.Started) (H : Type) (enc : TypeId × Value → H) :
    ReturnsInHanded {} Try.checked os 11 .any (Rows.tableLeastSpec.pre6 enc Try.prog Try.f11 Rows.tableLeastRow.domain false) (Rows.tableLeastSpec.post enc Try.prog Try.f11 false true false false) := by
  refine true_top (C := Try.checked) (tb := 4) (ts := [22]) Try.own started (by kernel_rfl) Try.func11 Try.laidOut (of_decide_eq_true (by kernel_rfl)) (by kernel_rfl) Try.underlying4 rfl ?_
    (ChangeSpec.witness6 (enc := enc) (C := Try.checked) false ⟨#[], #[Go.Value.slice none 0 0], []⟩ 8 (by kernel_rfl) (by kernel_rfl) (by kernel_rfl) (by kernel_rfl)) (by kernel_rfl) (RA.cons rv_22 RA.nil) ?_
  · intro ds hds
    rw [show Try.f11.params.size = 1 by kernel_rfl] at hds
    match ds, hds with
    | [d1], _ => rfl
  · rintro _ ⟨x0, _, h0, rfl, rfl⟩
    exact ec_TableLeast x0 (Nat.le_trans h0.1 (by decide)) (fun y hy => u8_wf (h0.2 y hy))
theorem tableLeast_holds : Rows.TableLeastSaid :=
  OpenClaim.holds_of_wide 11 Try.f11 rfl rfl rfl rfl rfl rfl rfl ⟨rfl, rfl, rfl, rfl, rfl⟩ rfl rfl rfl rfl rfl (by kernel_rfl) Try.func11 (by kernel_rfl)
    (of_decide_eq_true (by kernel_rfl)) (by unfold Func.isWrapper; first | (rw [if_pos (by decide +kernel)]; kernel_rfl) | (rw [if_neg (by decide +kernel)]; exact ⟨rfl, rfl⟩))
    (fun os started H enc _ => tableLeast_lifted os started H enc)

end Go.Proofs.Ytbahpkjfgoeohaa
