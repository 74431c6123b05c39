/-
  SignalTwice, for every input that can be read as data: the law returns true, never panics, and its arguments read behind the call as they read before; no further condition.
-/
import Derived.Test.YtpcnofbjeficiaaLaw14
import Derived.Test.YtpcnofbjeficiaaRead
namespace Go.Proofs.Ytpcnofbjeficiaa
open Go.Lift Go.ChangeShapes Go.WideShapes Go.ChangeAt Go.RowKit
set_option linter.unusedVariables false
theorem u8_lo {n : Int} (h : (Lit.int .u8 n).wf = true) : 0 ≤ n := by
  have h1 : IntKind.u8.min = 0 := rfl
  simp only [Lit.wf, Bool.and_eq_true, decide_eq_true_eq] at h
  omega
set_option maxRecDepth 100000 in
theorem signalTwice_lifted (os : Os) (started : os.Started) (H : Type) (enc : TypeId × Value → H) :
    ReturnsInHanded {} Try.checked os 6 .any (Rows.signalTwiceSpec.pre6 enc Try.prog Try.f6 Rows.signalTwiceRow.domain false) (Rows.signalTwiceSpec.post enc Try.prog Try.f6 false true false false) := by
  refine true_top (C := Try.checked) (tb := 4) (ts := [5, 5]) Try.own started (by kernel_rfl) Try.func6 Try.laidOut (of_decide_eq_true (by kernel_rfl)) (by kernel_rfl) Try.underlying4 rfl ?_
    (ChangeSpec.witness6 (enc := enc) (C := Try.checked) false ⟨#[], #[Go.Value.int (Go.IntKind.u8) 0, Go.Value.int (Go.IntKind.u8) 0], []⟩ 8 (by kernel_rfl) (by kernel_rfl) (by kernel_rfl) (by kernel_rfl)) (by kernel_rfl) (RA.cons rv_5 (RA.cons rv_5 RA.nil)) ?_
  · intro ds hds
    rw [show Try.f6.params.size = 2 by kernel_rfl] at hds
    match ds, hds with
    | [d1, d2], _ => rfl
  · rintro _ ⟨x0, _, h0, ⟨x1, _, h1, rfl, rfl⟩, rfl⟩
    exact ec_signalTwice x0 x1 (u8_lo h0) (u8_lo h1)
theorem signalTwice_holds : Rows.SignalTwiceSaid :=
  OpenClaim.holds_of_wide 6 Try.f6 rfl rfl rfl rfl rfl rfl rfl ⟨rfl, rfl, rfl, rfl, rfl⟩ rfl rfl rfl rfl rfl (by kernel_rfl) Try.func6 (by kernel_rfl)
    (of_decide_eq_true (by kernel_rfl)) (by unfold Func.isWrapper; first | (rw [if_pos (by decide +kernel)]; kernel_rfl) | (rw [if_neg (by decide +kernel)]; exact ⟨rfl, rfl⟩))
    (fun os started H enc _ => signalTwice_lifted os started H enc)

end Go.Proofs.Ytpcnofbjeficiaa
