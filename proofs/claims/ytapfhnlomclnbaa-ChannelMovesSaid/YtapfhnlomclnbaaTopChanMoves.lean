/-
  ChannelMoves, for every input that can be read as data: the law returns true, never panics, and its arguments read behind the call as they read before; no further condition.
-/
import Derived.Test.YtapfhnlomclnbaaLaw12c
import Derived.Test.YtapfhnlomclnbaaTopObj
namespace Go.Proofs.Ytapfhnlomclnbaa
set_option linter.unusedSimpArgs false
open Go.Lift Go.ChangeShapes Go.WideShapes Go.ChangeAt Go.RowKit
set_option linter.unusedVariables false
set_option maxRecDepth 100000 in
theorem channelMoves_lifted (os : Os) (started : os.Started) (H : Type) (enc : TypeId × Value → H) :
    ReturnsInHanded {} Try.checked os 10 .any (Rows.channelMovesSpec.pre6 enc Try.prog Try.f10 Rows.channelMovesRow.domain false) (Rows.channelMovesSpec.post enc Try.prog Try.f10 false true false false) := by
  refine true_top (C := Try.checked) (tb := 4) (ts := [41, 36, 3, 5, 22]) Try.own started (by kernel_rfl) Try.func10 Try.laidOut (of_decide_eq_true (by kernel_rfl)) (by kernel_rfl) Try.underlying4 rfl ?_
    (ChangeSpec.witness6 (enc := enc) (C := Try.checked) false ⟨#[], #[Go.Value.agg   #[Go.Value.int (Go.IntKind.u64) 0, Go.Value.int (Go.IntKind.i64) 0, Go.Value.int (Go.IntKind.i64) 0,     Go.Value.int (Go.IntKind.i64) 0, Go.Value.int (Go.IntKind.u64) 0, Go.Value.slice none 0 0, Go.Value.slice none 0 0,     Go.Value.slice none 0 0, Go.Value.int (Go.IntKind.i64) 0, Go.Value.int (Go.IntKind.i64) 0,     Go.Value.int (Go.IntKind.i64) 0, Go.Value.int (Go.IntKind.i64) 0, Go.Value.int (Go.IntKind.i64) 0,     Go.Value.int (Go.IntKind.i64) 0, Go.Value.int (Go.IntKind.i64) 0, Go.Value.int (Go.IntKind.i64) 0,     Go.Value.int (Go.IntKind.i64) 0, Go.Value.int (Go.IntKind.i64) 0, Go.Value.slice none 0 0, Go.Value.slice none 0 0,     Go.Value.int (Go.IntKind.i64) 0, Go.Value.int (Go.IntKind.i64) 0, Go.Value.int (Go.IntKind.i64) 0,     Go.Value.slice none 0 0, Go.Value.slice none 0 0, Go.Value.int (Go.IntKind.i64) 0, Go.Value.int (Go.IntKind.u64) 0,     Go.Value.int (Go.IntKind.i64) 0, Go.Value.int (Go.IntKind.i64) 0, Go.Value.slice none 0 0, Go.Value.slice none 0 0,     Go.Value.slice none 0 0, Go.Value.int (Go.IntKind.i64) 0, Go.Value.int (Go.IntKind.i64) 0,     Go.Value.int (Go.IntKind.i64) 0, Go.Value.slice none 0 0], Go.Value.slice none 0 0, Go.Value.int (Go.IntKind.i64) 0, Go.Value.int (Go.IntKind.u8) 0, Go.Value.int (Go.IntKind.u64) 0], []⟩ 8 (by kernel_rfl) (by kernel_rfl) (by kernel_rfl) (by kernel_rfl)) (by kernel_rfl) (RA.cons rv_41 (RA.cons rv_36 (RA.cons rv_3 (RA.cons rv_5 (RA.cons rv_22 RA.nil))))) ?_
  · intro ds hds
    rw [show Try.f10.params.size = 5 by kernel_rfl] at hds
    match ds, hds with
    | [d1, d2, d3, d4, d5], _ => rfl
  · rintro _ ⟨x0, _, h0, ⟨x1, _, h1, ⟨x2, _, h2, ⟨x3, _, h3, ⟨x4, _, h4, rfl, rfl⟩, rfl⟩, rfl⟩, rfl⟩, rfl⟩
    exact ec_channelMoves x0 x1 x2 x3 x4 (fun y hy => u8_wf (h1.2 y hy)) (okN h0) (okS h0)
theorem channelMoves_holds : Rows.ChannelMovesSaid :=
  OpenClaim.holds_of_wide 10 Try.f10 rfl rfl rfl rfl rfl rfl rfl ⟨rfl, rfl, rfl, rfl, rfl⟩ rfl rfl rfl rfl rfl (by kernel_rfl) Try.func10 (by kernel_rfl)
    (of_decide_eq_true (by kernel_rfl)) (by unfold Func.isWrapper; first | (rw [if_pos (by decide +kernel)]; kernel_rfl) | (rw [if_neg (by decide +kernel)]; exact ⟨rfl, rfl⟩))
    (fun os started H enc _ => channelMoves_lifted os started H enc)

end Go.Proofs.Ytapfhnlomclnbaa
