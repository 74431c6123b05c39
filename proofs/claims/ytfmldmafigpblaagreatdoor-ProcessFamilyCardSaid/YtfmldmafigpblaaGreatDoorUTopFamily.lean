/-
  ProcessFamily, for every input that can be read as data, with the package variable of the forms as the program's text lays it: the law returns true, never panics, and its arguments read behind the call as they read before; no further condition.
-/
import Derived.Test.YtfmldmafigpblaaGreatDoorU12
import Derived.Test.YtfmldmafigpblaaGreatDoorU14
section
namespace Go.Proofs.YtfmldmafigpblaaGreatDoor
set_option linter.unusedSimpArgs false
set_option linter.unusedVariables false
open Go.Lift Go.ChangeShapes Go.WideShapes Go.ChangeAt Go.RowKit
def processFamily_args : Array Value := #[Go.Value.slice none 0 0, Go.Value.int (Go.IntKind.i64) 0, Go.Value.bool false]
set_option maxRecDepth 100000 in
theorem processFamily_contract (H : Type) (enc : TypeId × Value → H) (W : World) (base : Nat) (args : Array Value) (ds gs : List (DataW H)) (before : List MemPlace)
    (hval : ∀ (j : Nat) t v, Tryz.f5.params[j]? = some t → args[j]? = some v → Value.okWide Tryz.prog W .any base t v)
    (hW : DataW.Whole enc Tryz.prog Tryz.f5.params.toList Rows.processFamilySpec.vars false W args.toList ds gs before) (hL : laidMetH Tryz.prog Rows.processFamilyRow.laid W) (hs : 0 < W.heap.size) :
    Calls Tryz.prog 5 args W fun e W' => ∃ v, e = .returned v ∧ Rows.processFamilySpec.post enc Tryz.prog Tryz.f5 false true false false W args v W' := by
  have hW' := hW
  obtain ⟨p, q, hA, hV, rfl, _, _⟩ := hW
  obtain ⟨rfl, rfl⟩ := trodVars_none hV
  have hlt := hW'.lt
  simp only [List.append_nil] at hlt
  have hps : Tryz.f5.params.toList = [36, 2, 4] := by kernel_rfl
  rw [hps] at hA
  obtain ⟨l, ⟨x0, _, hx0, ⟨x1, _, hx1, ⟨x2, _, hx2, rfl, rfl⟩, rfl⟩, rfl⟩, h2, h3⟩ := (RA.cons rv_36 (RA.cons rv_2 (RA.cons rv_4 RA.nil))) H enc W base args.toList ds p (fun j t v a b => hval j t v (by rw [← hps] at a; simpa using a) (by simpa using b)) hA hlt
  obtain ⟨_, hcall⟩ := ec_Family x0 x1 x2 (fun y hy => u8_wf (hx0.2 y hy))
  refine (hcall (old W) W args (sat_old W (forms_den hL hs)) ⟨by simpa using h2.symm, fun i c hi => by simpa using h3 i c hi⟩).mono ?_
  rintro e W' ⟨v, r, X', B', rfl, ⟨rfl, rfl⟩, _, hr, hext⟩
  cases hr
  have hb := hext.below
  have hdl := (trodAll_len hA).2
  match ds, hdl with
  | [d1, d2, d3], _ =>
    refine ⟨_, rfl, [d1, d2, d3], [], _, [], p, [], hW', ?_, ?_, ?_, hb.frame _, fun h => by cases h⟩
    · show DataW.TrodAll enc Tryz.prog W' _ _ _ Tryz.f5.resultTypes.toList _ [.lit (.bool true)] []
      rw [show Tryz.f5.resultTypes = #[4] by kernel_rfl]
      exact trodAll_mk1 (Lift.shut_bool Tryz.underlying4 true)
    · show DataW.TrodAll enc Tryz.prog W' 0 _ true Tryz.f5.params.toList args.toList [d1, d2, d3] p
      rw [hps]
      exact trodAll_below Tryz.laidOut hb (by rw [← hps]; exact of_decide_eq_true (by kernel_rfl)) hA hlt
    · rfl
theorem processFamily_met (os : Os) : laidMet Tryz.prog Rows.processFamilyRow.laid ((cardWorld os).forCall (fun _ _ => 0) ⟨#[], processFamily_args, []⟩).memory :=
  laidMet_of_run' 8 (by kernel_rfl) (by kernel_rfl)
theorem processFamily_reads (os : Os) {H : Type} (enc : TypeId × Value → H) : (DataW.whole enc Tryz.prog ((cardWorld os).forCall (fun _ _ => 0) ⟨#[], processFamily_args, []⟩).memory Tryz.f5.params.toList Rows.processFamilySpec.vars false processFamily_args.toList 8).isSome = true := by kernel_rfl
set_option maxRecDepth 100000 in
theorem processFamily_lifted (os : Os) (started : os.Started) (H : Type) (enc : TypeId × Value → H) (F : Stop.Interp) :
    ReturnsInHanded {} Tryz.checked os 5 .any ((OpenSpec.ofChange Rows.processFamilySpec).preRow enc Tryz.prog Tryz.f5 Rows.processFamilyRow.domain false Rows.processFamilyRow.laid) (((OpenSpec.ofChange Rows.processFamilySpec).at F).post enc Tryz.prog Tryz.f5 false true false false) := by
  obtain ⟨x, hx⟩ := Option.isSome_iff_exists.1 (processFamily_reads os enc)
  refine returnsInHanded_of_row (C := Tryz.checked) (s := OpenSpec.ofChange Rows.processFamilySpec) Tryz.own started (by kernel_rfl) Tryz.func5
    (witness_row_at (enc := enc) (C := Tryz.checked) false (cardWorld os) processFamily_args rfl (by kernel_rfl) (by kernel_rfl) (by kernel_rfl)
      (OpenSpec.preRow_of_cond 8 hx rfl (fun k hk => by cases hk) (by kernel_rfl) (processFamily_met os))) ?_
  intro W base args ds gs before hval hW _ _ _ hL _ _
  exact processFamily_contract H enc W base args ds gs before hval hW hL (heap_pos hL)
theorem processFamily_said : Rows.ProcessFamilySaid :=
  OpenClaim.holds_of_cond 5 Tryz.f5 rfl rfl rfl rfl rfl rfl rfl ⟨rfl, rfl, rfl, rfl, rfl⟩ rfl rfl rfl rfl rfl (by kernel_rfl) Tryz.func5 (by kernel_rfl)
    (of_decide_eq_true (by kernel_rfl)) (by unfold Func.isWrapper; first | (rw [if_pos (by decide +kernel)]; kernel_rfl) | (rw [if_neg (by decide +kernel)]; exact ⟨rfl, rfl⟩))
    (fun os started H enc _ F => by rw [OpenClaim.pre_eq_preRow]; exact processFamily_lifted os started H enc F)
theorem processFamily_wants : ([36, 2, 4] : List TypeId).all (fun t => !Tryz.prog.wantsStandIn t) = true := by kernel_rfl
theorem processFamily_plain (f : FuncId) (fn : Func) (hf : Tryz.pinned.checked.prog.funcNamed "clusterkernel/clusterkernellaw16.ProcessFamily" = some f) (hfn : Tryz.pinned.checked.prog.funcs[f]? = some fn) :
    false = Tryz.pinned.checked.prog.looks [] ∧ ∀ (j : Nat) t, fn.params[j]? = some t → Tryz.pinned.checked.prog.wantsStandIn t = false := by
  obtain rfl : f = 5 := Option.some.inj ((show Tryz.prog.funcNamed "clusterkernel/clusterkernellaw16.ProcessFamily" = some 5 by kernel_rfl).symm.trans hf) |>.symm
  obtain rfl : fn = Tryz.f5 := (Option.some.inj (Tryz.func5.symm.trans hfn)).symm
  refine ⟨by kernel_rfl, fun j t ht => ?_⟩
  rw [Tryz.params5] at ht
  have hm : t ∈ ([36, 2, 4] : List TypeId) := by simpa using Array.mem_of_getElem? ht
  have h1 := List.all_eq_true.1 processFamily_wants t hm
  have h2 : Tryz.prog.wantsStandIn t = false := by simpa using h1
  exact h2
theorem processFamily_holds : Rows.ProcessFamilyCardSaid :=
  Claim7.holds_tied_plain_at .later [] _ _ _ _ processFamily_said (fun _ h => by cases h) (by kernel_rfl) (fun _ h => by cases h) processFamily_row_tie rfl ⟨rfl, rfl⟩ (by kernel_rfl) rfl processFamily_plain (by kernel_rfl)

end Go.Proofs.YtfmldmafigpblaaGreatDoor
end
