/-
  SignalMoves, for every input that can be read as data: the law returns true, never panics, and its arguments read behind the call as they read before; no further condition.
-/
import Derived.Test.YtpcnofbjeficiaaLaw14b
import Derived.Test.YtpcnofbjeficiaaRead
namespace Go.Proofs.Ytpcnofbjeficiaa
open Go.Lift Go.ChangeShapes Go.WideShapes Go.ChangeAt Go.RowKit
set_option linter.unusedVariables false
theorem u8_lo2 {n : Int} (h : (Lit.int .u8 n).wf = true) : 0 ≤ n := by
  have h1 : IntKind.u8.min = 0 := rfl
  simp only [Lit.wf, Bool.and_eq_true, decide_eq_true_eq] at h
  omega
theorem i64_wf {n : Int} (h : (Lit.int .i64 n).wf = true) : -9223372036854775808 ≤ n ∧ n ≤ 9223372036854775807 := by
  have h1 : IntKind.i64.min = -9223372036854775808 := rfl
  have h2 : IntKind.i64.max = 9223372036854775807 := rfl
  simp only [Lit.wf, Bool.and_eq_true, decide_eq_true_eq] at h
  omega
set_option maxRecDepth 100000 in
theorem signalMoves_lifted (os : Os) (started : os.Started) (H : Type) (enc : TypeId × Value → H) :
    ReturnsInHanded {} Try.checked os 5 .any (Rows.signalMovesSpec.pre6 enc Try.prog Try.f5 Rows.signalMovesRow.domain false) (Rows.signalMovesSpec.post enc Try.prog Try.f5 false true false false) := by
  refine true_top (C := Try.checked) (tb := 4) (ts := [34, 2, 2, 5]) Try.own started (by kernel_rfl) Try.func5 Try.laidOut (of_decide_eq_true (by kernel_rfl)) (by kernel_rfl) Try.underlying4 rfl ?_
    (ChangeSpec.witness6 (enc := enc) (C := Try.checked) false ⟨#[], #[Go.Value.agg   #[Go.Value.int (Go.IntKind.i64) 0, Go.Value.int (Go.IntKind.u64) 0, Go.Value.slice none 0 0, Go.Value.slice none 0 0,     Go.Value.slice none 0 0, Go.Value.int (Go.IntKind.i64) 0, Go.Value.int (Go.IntKind.i64) 0,     Go.Value.int (Go.IntKind.i64) 0, Go.Value.int (Go.IntKind.i64) 0, Go.Value.int (Go.IntKind.i64) 0,     Go.Value.int (Go.IntKind.i64) 0, Go.Value.int (Go.IntKind.i64) 0, Go.Value.int (Go.IntKind.i64) 0,     Go.Value.int (Go.IntKind.i64) 0, Go.Value.int (Go.IntKind.i64) 0, Go.Value.slice none 0 0, Go.Value.slice none 0 0,     Go.Value.int (Go.IntKind.i64) 0, Go.Value.int (Go.IntKind.i64) 0, Go.Value.int (Go.IntKind.i64) 0], Go.Value.int (Go.IntKind.i64) 0, Go.Value.int (Go.IntKind.i64) 0, Go.Value.int (Go.IntKind.u8) 0], []⟩ 8 (by kernel_rfl) (by kernel_rfl) (by kernel_rfl) (by kernel_rfl)) (by kernel_rfl) (RA.cons rv_34 (RA.cons rv_2 (RA.cons rv_2 (RA.cons rv_5 RA.nil)))) ?_
  · intro ds hds
    rw [show Try.f5.params.size = 4 by kernel_rfl] at hds
    match ds, hds with
    | [d1, d2, d3, d4], _ => rfl
  · rintro _ ⟨x0, _, h0, ⟨x1, _, h1, ⟨x2, _, h2, ⟨x3, _, h3, rfl, rfl⟩, rfl⟩, rfl⟩, rfl⟩
    exact ec_signalMoves x0 x1 x2 x3 (Nat.le_trans h0.2.2.2.1.2.1.1 (by decide)) (u8_lo2 h3) (i64_wf h2)
theorem signalMoves_holds : Rows.SignalMovesSaid :=
  OpenClaim.holds_of_wide 5 Try.f5 rfl rfl rfl rfl rfl rfl rfl ⟨rfl, rfl, rfl, rfl, rfl⟩ rfl rfl rfl rfl rfl (by kernel_rfl) Try.func5 (by kernel_rfl)
    (of_decide_eq_true (by kernel_rfl)) (by unfold Func.isWrapper; first | (rw [if_pos (by decide +kernel)]; kernel_rfl) | (rw [if_neg (by decide +kernel)]; exact ⟨rfl, rfl⟩))
    (fun os started H enc _ => signalMoves_lifted os started H enc)

end Go.Proofs.Ytpcnofbjeficiaa
