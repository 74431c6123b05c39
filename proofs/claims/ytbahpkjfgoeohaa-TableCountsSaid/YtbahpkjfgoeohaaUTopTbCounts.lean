/-
  TableCounts, for every input that can be read as data: the law returns true, never panics, and its arguments read behind the call as they read before; no further condition.
-/
import Derived.Test.YtbahpkjfgoeohaaULaw10b
import Derived.Test.YtbahpkjfgoeohaaUTopObj
import Derived.Test.YtbahpkjfgoeohaaUTopBase
namespace Go.Proofs.Ytbahpkjfgoeohaa
set_option linter.unusedSimpArgs false
open Go.Lift Go.ChangeShapes Go.WideShapes Go.ChangeAt Go.RowKit
set_option linter.unusedVariables false
set_option maxRecDepth 100000 in
theorem tableCounts_lifted (os : Os) (started : os.Started) (H : Type) (enc : TypeId × Value → H) :
    ReturnsInHanded {} Try.checked os 8 .any (Rows.tableCountsSpec.pre6 enc Try.prog Try.f8 Rows.tableCountsRow.domain false) (Rows.tableCountsSpec.post enc Try.prog Try.f8 false true false false) := by
  refine true_top (C := Try.checked) (tb := 4) (ts := [65, 67, 22]) Try.own started (by kernel_rfl) Try.func8 Try.laidOut (of_decide_eq_true (by kernel_rfl)) (by kernel_rfl) Try.underlying4 rfl ?_
    (ChangeSpec.witness6 (enc := enc) (C := Try.checked) false ⟨#[], #[Go.Value.agg   #[Go.Value.int (Go.IntKind.u64) 0, Go.Value.int (Go.IntKind.i64) 0, Go.Value.int (Go.IntKind.i64) 0,     Go.Value.int (Go.IntKind.i64) 0, Go.Value.int (Go.IntKind.u64) 0, Go.Value.slice none 0 0, Go.Value.slice none 0 0,     Go.Value.slice none 0 0, Go.Value.int (Go.IntKind.i64) 0, Go.Value.int (Go.IntKind.i64) 0,     Go.Value.int (Go.IntKind.i64) 0, Go.Value.int (Go.IntKind.i64) 0, Go.Value.int (Go.IntKind.i64) 0,     Go.Value.int (Go.IntKind.i64) 0, Go.Value.int (Go.IntKind.i64) 0, Go.Value.int (Go.IntKind.i64) 0,     Go.Value.int (Go.IntKind.i64) 0, Go.Value.int (Go.IntKind.i64) 0, Go.Value.slice none 0 0, Go.Value.slice none 0 0,     Go.Value.int (Go.IntKind.i64) 0, Go.Value.int (Go.IntKind.i64) 0, Go.Value.int (Go.IntKind.i64) 0,     Go.Value.slice none 0 0, Go.Value.slice none 0 0, Go.Value.int (Go.IntKind.i64) 0, Go.Value.int (Go.IntKind.u64) 0,     Go.Value.int (Go.IntKind.i64) 0, Go.Value.int (Go.IntKind.i64) 0, Go.Value.slice none 0 0, Go.Value.slice none 0 0,     Go.Value.slice none 0 0, Go.Value.int (Go.IntKind.i64) 0, Go.Value.int (Go.IntKind.i64) 0,     Go.Value.int (Go.IntKind.i64) 0, Go.Value.slice none 0 0], Go.Value.agg   #[Go.Value.int (Go.IntKind.i64) 0, Go.Value.int (Go.IntKind.u64) 0, Go.Value.int (Go.IntKind.u64) 0,     Go.Value.int (Go.IntKind.i64) 0], Go.Value.slice none 0 0], []⟩ 8 (by kernel_rfl) (by kernel_rfl) (by kernel_rfl) (by kernel_rfl)) (by kernel_rfl) (RA.cons rv_65 (RA.cons rv_67 (RA.cons rv_22 RA.nil))) ?_
  · intro ds hds
    rw [show Try.f8.params.size = 3 by kernel_rfl] at hds
    match ds, hds with
    | [d1, d2, d3], _ => rfl
  · rintro _ ⟨x0, _, h0, ⟨x1, _, h1, ⟨x2, _, h2, rfl, rfl⟩, rfl⟩, rfl⟩
    exact ec_TableCounts x0 x1 x2 (fun y hy => u8_wf (h2.2 y hy)) (okN h0) (okS h0)
theorem tableCounts_holds : Rows.TableCountsSaid :=
  OpenClaim.holds_of_wide 8 Try.f8 rfl rfl rfl rfl rfl rfl rfl ⟨rfl, rfl, rfl, rfl, rfl⟩ rfl rfl rfl rfl rfl (by kernel_rfl) Try.func8 (by kernel_rfl)
    (of_decide_eq_true (by kernel_rfl)) (by unfold Func.isWrapper; first | (rw [if_pos (by decide +kernel)]; kernel_rfl) | (rw [if_neg (by decide +kernel)]; exact ⟨rfl, rfl⟩))
    (fun os started H enc _ => tableCounts_lifted os started H enc)

end Go.Proofs.Ytbahpkjfgoeohaa
