/-
  FileKeeps, for every input that can be read as data: the law returns true, never panics, and its arguments read behind the call as they read before; no further condition.
-/
import Derived.Test.YtapfhnlomclnbaaLaw08
import Derived.Test.YtapfhnlomclnbaaTopBase
namespace Go.Proofs.Ytapfhnlomclnbaa
set_option linter.unusedSimpArgs false
open Go.Lift Go.ChangeShapes Go.WideShapes Go.ChangeAt Go.RowKit
set_option linter.unusedVariables false
set_option maxRecDepth 100000 in
theorem fileKeeps_lifted (os : Os) (started : os.Started) (H : Type) (enc : TypeId × Value → H) :
    ReturnsInHanded {} Try.checked os 4 .any (Rows.fileKeepsSpec.pre6 enc Try.prog Try.f4 Rows.fileKeepsRow.domain false) (Rows.fileKeepsSpec.post enc Try.prog Try.f4 false true false false) := by
  refine true_top (C := Try.checked) (tb := 4) (ts := [36, 5, 5, 5]) Try.own started (by kernel_rfl) Try.func4 Try.laidOut (of_decide_eq_true (by kernel_rfl)) (by kernel_rfl) Try.underlying4 rfl ?_
    (ChangeSpec.witness6 (enc := enc) (C := Try.checked) false ⟨#[], #[Go.Value.slice none 0 0, Go.Value.int (Go.IntKind.u8) 0, Go.Value.int (Go.IntKind.u8) 0, Go.Value.int (Go.IntKind.u8) 0], []⟩ 8 (by kernel_rfl) (by kernel_rfl) (by kernel_rfl) (by kernel_rfl)) (by kernel_rfl) (RA.cons rv_36 (RA.cons rv_5 (RA.cons rv_5 (RA.cons rv_5 RA.nil)))) ?_
  · intro ds hds
    rw [show Try.f4.params.size = 4 by kernel_rfl] at hds
    match ds, hds with
    | [d1, d2, d3, d4], _ => rfl
  · rintro _ ⟨x0, _, h0, ⟨x1, _, h1, ⟨x2, _, h2, ⟨x3, _, h3, rfl, rfl⟩, rfl⟩, rfl⟩, rfl⟩
    exact ec_fileKeeps x0 x1 x2 x3 (fun y hy => u8_wf (h0.2 y hy)) (u8_wf h1) (u8_wf h2)
theorem fileKeeps_holds : Rows.FileKeepsSaid :=
  OpenClaim.holds_of_wide 4 Try.f4 rfl rfl rfl rfl rfl rfl rfl ⟨rfl, rfl, rfl, rfl, rfl⟩ rfl rfl rfl rfl rfl (by kernel_rfl) Try.func4 (by kernel_rfl)
    (of_decide_eq_true (by kernel_rfl)) (by unfold Func.isWrapper; first | (rw [if_pos (by decide +kernel)]; kernel_rfl) | (rw [if_neg (by decide +kernel)]; exact ⟨rfl, rfl⟩))
    (fun os started H enc _ => fileKeeps_lifted os started H enc)

end Go.Proofs.Ytapfhnlomclnbaa
