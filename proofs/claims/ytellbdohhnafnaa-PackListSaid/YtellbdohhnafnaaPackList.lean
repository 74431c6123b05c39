/-
  PackList, for every input that can be read as data: the law returns true, never panics, and its argument reads behind the call as it read before; no further condition.
-/
import Derived.Test.YtellbdohhnafnaaPList
import Derived.Test.YtellbdohhnafnaaLiftR
namespace Go.Proofs.Ytellbdohhnafnaa
open Go.Lift Go.ChangeShapes Go.WideShapes Go.ChangeAt Go.RowKit
set_option linter.unusedVariables false
theorem Try.own : ownKnob Try.prog.godebug = none := by kernel_rfl
theorem Try.laidOut : laidOutB Try.prog = true := by kernel_rfl
theorem Try.cells2 : Try.prog.cellsOf 2 = 1 := by kernel_rfl
theorem i64_wf {l : List Int} (h : ∀ n ∈ l, (Lit.int .i64 n).wf = true) : ∀ n ∈ l, -9223372036854775808 ≤ n ∧ n ≤ 9223372036854775807 := fun n hn => by
  have := h n hn
  have h1 : IntKind.i64.min = -9223372036854775808 := rfl
  have h2 : IntKind.i64.max = 9223372036854775807 := rfl
  simp only [Lit.wf, Bool.and_eq_true, decide_eq_true_eq] at this
  omega
set_option maxRecDepth 100000 in
theorem packList_lifted (os : Os) (started : os.Started) (H : Type) (enc : TypeId × Value → H) :
    ReturnsInHanded {} Try.checked os 6 .any (Rows.packListSpec.pre6 enc Try.prog Try.f6 Rows.packListRow.domain false) (Rows.packListSpec.post enc Try.prog Try.f6 false true false false) := by
  refine true_lifted (C := Try.checked) (tb := 4) Try.own started (by kernel_rfl) Try.func6 Try.laidOut ?_ (by kernel_rfl) Try.underlying4 rfl ?_
    (ChangeSpec.witness6 (enc := enc) (C := Try.checked) false ⟨#[], #[.slice none 0 0], []⟩ 8 (by kernel_rfl) (by kernel_rfl) (by kernel_rfl) (by kernel_rfl)) ?_
  · exact of_decide_eq_true (by kernel_rfl)
  · intro ds hds
    rw [show Try.f6.params.size = 1 by kernel_rfl] at hds
    match ds, hds with
    | [d1], _ => rfl
  · intro W base args ds p hval0 hlt hsz hA0
    have hval : ∀ (j : Nat) t v, Try.f6.params[j]? = some t → args[j]? = some v → Value.okWide Try.prog W .any base t v := hval0
    have hA : DataW.TrodAll enc Try.prog W 0 (fun _ => true) true Try.f6.params.toList args.toList ds p := hA0
    rw [Try.params6] at hA hval
    obtain ⟨v0, d0, rfl, rfl, t0⟩ := trodAll_one hA
    obtain ⟨b, e0, w0, n0⟩ := den_ints Try.underlying40 Try.underlying2 Try.cells2 (hval 0 40 v0 rfl rfl) t0 hlt
    exact ⟨_, denL1 e0, ec_packList b n0 (i64_wf w0)⟩
theorem packList_holds : Rows.PackListSaid :=
  OpenClaim.holds_of_wide 6 Try.f6 rfl rfl rfl rfl rfl rfl rfl ⟨rfl, rfl, rfl, rfl, rfl⟩ rfl rfl rfl rfl rfl (by kernel_rfl) Try.func6 (by kernel_rfl)
    (of_decide_eq_true (by kernel_rfl)) (by unfold Func.isWrapper; first | (rw [if_pos (by decide +kernel)]; kernel_rfl) | (rw [if_neg (by decide +kernel)]; exact ⟨rfl, rfl⟩))
    (fun os started H enc _ => packList_lifted os started H enc)
end Go.Proofs.Ytellbdohhnafnaa
