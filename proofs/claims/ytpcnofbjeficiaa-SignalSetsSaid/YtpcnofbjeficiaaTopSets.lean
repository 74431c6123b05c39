/-
  SignalSets, for every input that can be read as data: the law returns true, never panics, and its argument reads behind the call as it read before; no further condition.
-/
import Derived.Test.YtpcnofbjeficiaaLaw14
import Derived.Test.YtpcnofbjeficiaaRead
namespace Go.Proofs.Ytpcnofbjeficiaa
open Go.Lift Go.ChangeShapes Go.WideShapes Go.ChangeAt Go.RowKit
set_option linter.unusedVariables false
theorem u8_lo' {n : Int} (h : (Lit.int .u8 n).wf = true) : 0 ≤ n := by
  have h1 : IntKind.u8.min = 0 := rfl
  simp only [Lit.wf, Bool.and_eq_true, decide_eq_true_eq] at h
  omega
set_option maxRecDepth 100000 in
theorem signalSets_lifted (os : Os) (started : os.Started) (H : Type) (enc : TypeId × Value → H) :
    ReturnsInHanded {} Try.checked os 7 .any (Rows.signalSetsSpec.pre6 enc Try.prog Try.f7 Rows.signalSetsRow.domain false) (Rows.signalSetsSpec.post enc Try.prog Try.f7 false true false false) := by
  refine true_top (C := Try.checked) (tb := 4) (ts := [36]) Try.own started (by kernel_rfl) Try.func7 Try.laidOut (of_decide_eq_true (by kernel_rfl)) (by kernel_rfl) Try.underlying4 rfl ?_
    (ChangeSpec.witness6 (enc := enc) (C := Try.checked) false ⟨#[], #[Go.Value.slice none 0 0], []⟩ 8 (by kernel_rfl) (by kernel_rfl) (by kernel_rfl) (by kernel_rfl)) (by kernel_rfl) (RA.cons rv_36 RA.nil) ?_
  · intro ds hds
    rw [show Try.f7.params.size = 1 by kernel_rfl] at hds
    match ds, hds with
    | [d1], _ => rfl
  · rintro _ ⟨x0, _, h0, rfl, rfl⟩
    exact ec_signalSets x0 (Nat.le_trans h0.1 (by decide)) fun n hn => u8_lo' (h0.2 n hn)
theorem signalSets_holds : Rows.SignalSetsSaid :=
  OpenClaim.holds_of_wide 7 Try.f7 rfl rfl rfl rfl rfl rfl rfl ⟨rfl, rfl, rfl, rfl, rfl⟩ rfl rfl rfl rfl rfl (by kernel_rfl) Try.func7 (by kernel_rfl)
    (of_decide_eq_true (by kernel_rfl)) (by unfold Func.isWrapper; first | (rw [if_pos (by decide +kernel)]; kernel_rfl) | (rw [if_neg (by decide +kernel)]; exact ⟨rfl, rfl⟩))
    (fun os started H enc _ => signalSets_lifted os started H enc)

end Go.Proofs.Ytpcnofbjeficiaa
