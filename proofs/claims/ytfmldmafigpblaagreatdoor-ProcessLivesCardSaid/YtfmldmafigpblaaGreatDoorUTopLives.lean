/-
  ProcessLives, for every input that can be read as data, with the package variable of the forms as the program's text lays it: the law returns true, never panics, and its arguments read behind the call as they read before; no further condition.
-/
import Derived.Test.YtfmldmafigpblaaGreatDoorU12
import Derived.Test.YtfmldmafigpblaaGreatDoorU15
section
namespace Go.Proofs.YtfmldmafigpblaaGreatDoor
set_option linter.unusedSimpArgs false
set_option linter.unusedVariables false
open Go.Lift Go.ChangeShapes Go.WideShapes Go.ChangeAt Go.RowKit
theorem obN5 {o : GObject} (h : GObject.ok o) : o.Names.length ≤ 9223372036854775807 := Nat.le_trans h.2.2.2.2.2.2.2.2.2.2.2.2.2.2.1.1 (by decide)
theorem obS5 {o : GObject} (h : GObject.ok o) : o.Process.Program.Strings.length ≤ 9223372036854775807 := Nat.le_trans h.2.2.2.1.2.2.2.1.2.1.1 (by decide)
theorem obP5 {o : GObject} (h : GObject.ok o) : pendO o := i64_wf' h.2.2.2.1.2.2.2.2.2.2.2.1
theorem prS5 {p : GProgram} (h : GProgram.ok p) : p.Strings.length ≤ 9223372036854775807 := Nat.le_trans h.2.1.1 (by decide)
def processLives_args : Array Value := #[Go.Value.agg   #[Go.Value.int (Go.IntKind.u64) 0, Go.Value.int (Go.IntKind.i64) 0, Go.Value.int (Go.IntKind.i64) 0,     Go.Value.int (Go.IntKind.i64) 0, Go.Value.int (Go.IntKind.u64) 0, Go.Value.slice none 0 0, Go.Value.slice none 0 0,     Go.Value.slice none 0 0, Go.Value.int (Go.IntKind.i64) 0, Go.Value.int (Go.IntKind.i64) 0,     Go.Value.int (Go.IntKind.i64) 0, Go.Value.int (Go.IntKind.i64) 0, Go.Value.int (Go.IntKind.i64) 0,     Go.Value.int (Go.IntKind.i64) 0, Go.Value.int (Go.IntKind.i64) 0, Go.Value.int (Go.IntKind.i64) 0,     Go.Value.int (Go.IntKind.i64) 0, Go.Value.int (Go.IntKind.i64) 0, Go.Value.slice none 0 0, Go.Value.slice none 0 0,     Go.Value.int (Go.IntKind.i64) 0, Go.Value.int (Go.IntKind.i64) 0, Go.Value.int (Go.IntKind.i64) 0,     Go.Value.slice none 0 0, Go.Value.slice none 0 0, Go.Value.int (Go.IntKind.i64) 0, Go.Value.int (Go.IntKind.u64) 0,     Go.Value.int (Go.IntKind.i64) 0, Go.Value.int (Go.IntKind.i64) 0, Go.Value.slice none 0 0, Go.Value.slice none 0 0,     Go.Value.slice none 0 0, Go.Value.int (Go.IntKind.i64) 0, Go.Value.int (Go.IntKind.i64) 0,     Go.Value.int (Go.IntKind.i64) 0, Go.Value.slice none 0 0], Go.Value.slice none 0 0, Go.Value.int (Go.IntKind.u64) 0, Go.Value.slice none 0 0, Go.Value.int (Go.IntKind.i64) 0, Go.Value.agg #[Go.Value.slice none 0 0, Go.Value.slice none 0 0, Go.Value.int (Go.IntKind.i64) 0]]
set_option maxRecDepth 100000 in
theorem processLives_contract (H : Type) (enc : TypeId × Value → H) (W : World) (base : Nat) (args : Array Value) (ds gs : List (DataW H)) (before : List MemPlace)
    (hval : ∀ (j : Nat) t v, Tryz.f4.params[j]? = some t → args[j]? = some v → Value.okWide Tryz.prog W .any base t v)
    (hW : DataW.Whole enc Tryz.prog Tryz.f4.params.toList Rows.processLivesSpec.vars false W args.toList ds gs before) (hL : laidMetH Tryz.prog Rows.processLivesRow.laid W) (hs : 0 < W.heap.size) :
    Calls Tryz.prog 4 args W fun e W' => ∃ v, e = .returned v ∧ Rows.processLivesSpec.post enc Tryz.prog Tryz.f4 false true false false W args v W' := by
  have hW' := hW
  obtain ⟨p, q, hA, hV, rfl, _, _⟩ := hW
  obtain ⟨rfl, rfl⟩ := trodVars_none hV
  have hlt := hW'.lt
  simp only [List.append_nil] at hlt
  have hps : Tryz.f4.params.toList = [41, 36, 22, 23, 2, 27] := by kernel_rfl
  rw [hps] at hA
  obtain ⟨l, ⟨x0, _, hx0, ⟨x1, _, hx1, ⟨x2, _, hx2, ⟨x3, _, hx3, ⟨x4, _, hx4, ⟨x5, _, hx5, rfl, rfl⟩, rfl⟩, rfl⟩, rfl⟩, rfl⟩, rfl⟩, h2, h3⟩ := (RA.cons rv_41 (RA.cons rv_36 (RA.cons rv_22 (RA.cons rv_23 (RA.cons rv_2 (RA.cons rv_27 RA.nil)))))) H enc W base args.toList ds p (fun j t v a b => hval j t v (by rw [← hps] at a; simpa using a) (by simpa using b)) hA hlt
  obtain ⟨_, hcall⟩ := ec_Lives x0 x1 x2 x3 x4 x5 (obN5 hx0) (obS5 hx0) (obP5 hx0) (prS5 hx5) (fun y hy => u8_wf (hx1.2 y hy))
  refine (hcall (old W) W args (sat_old W (forms_den hL hs)) ⟨by simpa using h2.symm, fun i c hi => by simpa using h3 i c hi⟩).mono ?_
  rintro e W' ⟨v, r, X', B', rfl, ⟨rfl, rfl⟩, _, hr, hext⟩
  cases hr
  have hb := hext.below
  have hdl := (trodAll_len hA).2
  match ds, hdl with
  | [d1, d2, d3, d4, d5, d6], _ =>
    refine ⟨_, rfl, [d1, d2, d3, d4, d5, d6], [], _, [], p, [], hW', ?_, ?_, ?_, hb.frame _, fun h => by cases h⟩
    · show DataW.TrodAll enc Tryz.prog W' _ _ _ Tryz.f4.resultTypes.toList _ [.lit (.bool true)] []
      rw [show Tryz.f4.resultTypes = #[4] by kernel_rfl]
      exact trodAll_mk1 (Lift.shut_bool Tryz.underlying4 true)
    · show DataW.TrodAll enc Tryz.prog W' 0 _ true Tryz.f4.params.toList args.toList [d1, d2, d3, d4, d5, d6] p
      rw [hps]
      exact trodAll_below Tryz.laidOut hb (by rw [← hps]; exact of_decide_eq_true (by kernel_rfl)) hA hlt
    · rfl
theorem processLives_met (os : Os) : laidMet Tryz.prog Rows.processLivesRow.laid ((cardWorld os).forCall (fun _ _ => 0) ⟨#[], processLives_args, []⟩).memory :=
  laidMet_of_run' 8 (by kernel_rfl) (by kernel_rfl)
theorem processLives_reads (os : Os) {H : Type} (enc : TypeId × Value → H) : (DataW.whole enc Tryz.prog ((cardWorld os).forCall (fun _ _ => 0) ⟨#[], processLives_args, []⟩).memory Tryz.f4.params.toList Rows.processLivesSpec.vars false processLives_args.toList 8).isSome = true := by kernel_rfl
set_option maxRecDepth 100000 in
theorem processLives_lifted (os : Os) (started : os.Started) (H : Type) (enc : TypeId × Value → H) (F : Stop.Interp) :
    ReturnsInHanded {} Tryz.checked os 4 .any ((OpenSpec.ofChange Rows.processLivesSpec).preRow enc Tryz.prog Tryz.f4 Rows.processLivesRow.domain false Rows.processLivesRow.laid) (((OpenSpec.ofChange Rows.processLivesSpec).at F).post enc Tryz.prog Tryz.f4 false true false false) := by
  obtain ⟨x, hx⟩ := Option.isSome_iff_exists.1 (processLives_reads os enc)
  refine returnsInHanded_of_row (C := Tryz.checked) (s := OpenSpec.ofChange Rows.processLivesSpec) Tryz.own started (by kernel_rfl) Tryz.func4
    (witness_row_at (enc := enc) (C := Tryz.checked) false (cardWorld os) processLives_args rfl (by kernel_rfl) (by kernel_rfl) (by kernel_rfl)
      (OpenSpec.preRow_of_cond 8 hx rfl (fun k hk => by cases hk) (by kernel_rfl) (processLives_met os))) ?_
  intro W base args ds gs before hval hW _ _ _ hL _ _
  exact processLives_contract H enc W base args ds gs before hval hW hL (heap_pos hL)
theorem processLives_said : Rows.ProcessLivesSaid :=
  OpenClaim.holds_of_cond 4 Tryz.f4 rfl rfl rfl rfl rfl rfl rfl ⟨rfl, rfl, rfl, rfl, rfl⟩ rfl rfl rfl rfl rfl (by kernel_rfl) Tryz.func4 (by kernel_rfl)
    (of_decide_eq_true (by kernel_rfl)) (by unfold Func.isWrapper; first | (rw [if_pos (by decide +kernel)]; kernel_rfl) | (rw [if_neg (by decide +kernel)]; exact ⟨rfl, rfl⟩))
    (fun os started H enc _ F => by rw [OpenClaim.pre_eq_preRow]; exact processLives_lifted os started H enc F)
theorem processLives_wants : ([41, 36, 22, 23, 2, 27] : List TypeId).all (fun t => !Tryz.prog.wantsStandIn t) = true := by kernel_rfl
theorem processLives_plain (f : FuncId) (fn : Func) (hf : Tryz.pinned.checked.prog.funcNamed "clusterkernel/clusterkernellaw16.ProcessLives" = some f) (hfn : Tryz.pinned.checked.prog.funcs[f]? = some fn) :
    false = Tryz.pinned.checked.prog.looks [] ∧ ∀ (j : Nat) t, fn.params[j]? = some t → Tryz.pinned.checked.prog.wantsStandIn t = false := by
  obtain rfl : f = 4 := Option.some.inj ((show Tryz.prog.funcNamed "clusterkernel/clusterkernellaw16.ProcessLives" = some 4 by kernel_rfl).symm.trans hf) |>.symm
  obtain rfl : fn = Tryz.f4 := (Option.some.inj (Tryz.func4.symm.trans hfn)).symm
  refine ⟨by kernel_rfl, fun j t ht => ?_⟩
  rw [Tryz.params4] at ht
  have hm : t ∈ ([41, 36, 22, 23, 2, 27] : List TypeId) := by simpa using Array.mem_of_getElem? ht
  have h1 := List.all_eq_true.1 processLives_wants t hm
  have h2 : Tryz.prog.wantsStandIn t = false := by simpa using h1
  exact h2
theorem processLives_holds : Rows.ProcessLivesCardSaid :=
  Claim7.holds_tied_plain_at .later [] _ _ _ _ processLives_said (fun _ h => by cases h) (by kernel_rfl) (fun _ h => by cases h) processLives_row_tie rfl ⟨rfl, rfl⟩ (by kernel_rfl) rfl processLives_plain (by kernel_rfl)

end Go.Proofs.YtfmldmafigpblaaGreatDoor
end
