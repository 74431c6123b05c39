/-
  ProcessMany: the card. The package variable with the forms is read from the row's list; the walk's contract does the rest.
-/
import Derived.Test.YtfmldmafigpblaaDoorProcF
import Derived.Test.YtfmldmafigpblaaDoorTopBase
import Derived.Test.YtfmldmafigpblaaDoorCards
import Derived.Test.YtfmldmafigpblaaDoorTie
import Derived.WalkKit
import Derived.ProofKit
import Derived.OpenShut
import Derived.Deep.DeepHandedRow
import Derived.Lib.LaidTab
namespace Go.Proofs.YtfmldmafigpblaaDoor
set_option linter.unusedSimpArgs false
set_option linter.unusedVariables false
open Go.Lift Go.ChangeShapes Go.WideShapes Go.ChangeAt Go.RowKit
theorem gForms : Tryd.prog.globalNamed "clusterkernel/code.forms" = some 0 := by kernel_rfl
theorem gFormsType : (Tryd.prog.globals[0]?).map (·.type) = some 96 := by kernel_rfl
theorem cells96 : Tryd.prog.cellsOf 96 = 26 := by kernel_rfl
theorem cells95 : Tryd.prog.cellsOf 95 = 2 := by kernel_rfl
theorem cells9 : Tryd.prog.cellsOf 9 = 1 := by kernel_rfl
/-- A string that is read. -/
theorem str_cell {H : Type} {enc : TypeId × Value → H} {P : Program} {w : World} {base : Nat} {sp : Nat → Bool} {held : Bool} {fuel : Nat} {t : TypeId} {cs : List Value} {l : List UInt8} {p : List MemPlace}
    (ht : P.underlying t = some .string) (h : DataW.trod enc P w base sp held fuel t cs = some (.lit (.string l), p)) : cs = [.string ⟨l.toArray⟩] := by
  cases fuel with
  | zero => simp [DataW.trod] at h
  | succ fuel =>
    simp only [DataW.trod, ht] at h
    split at h <;> simp_all
    obtain ⟨_, h⟩ := h
    rw [← h.1]
theorem laid_eq {H : Type} : (Rows.laid_clusterkernel_code_forms : DataW H) = .agg ((List.range 13).map fun i : Nat => .agg [.lit (.string (nmOf i)), .lit (.string (opnd i))]) := rfl
theorem gv_len : (GV 0).length = 26 := rfl
theorem gv_even {i : Nat} (h : i < 13) : (GV 0)[i * 2]? = some (.str (nmOf i)) := by
  match i, h with
  | 0, _ | 1, _ | 2, _ | 3, _ | 4, _ | 5, _ | 6, _ | 7, _ | 8, _ | 9, _ | 10, _ | 11, _ | 12, _ => rfl
theorem gv_odd {i : Nat} (h : i < 13) : (GV 0)[i * 2 + 1]? = some (.str (opnd i)) := by
  match i, h with
  | 0, _ | 1, _ | 2, _ | 3, _ | 4, _ | 5, _ | 6, _ | 7, _ | 8, _ | 9, _ | 10, _ | 11, _ | 12, _ => rfl
theorem form_cells {H : Type} {enc : TypeId × Value → H} {w : World} {base : Nat} {sp : Nat → Bool} {held : Bool} {fuel : Nat} {cs : List Value} {p : List MemPlace}
    (h : DataW.trod enc Tryd.prog w base sp held fuel 96 cs = some (Rows.laid_clusterkernel_code_forms, p)) {i : Nat} (hi : i < 13) :
    cs[i * 2]? = some (.string ⟨(nmOf i).toArray⟩) ∧ cs[i * 2 + 1]? = some (.string ⟨(opnd i).toArray⟩) := by
  obtain ⟨xs, m, -, hx, hl, hxl, hat⟩ := DataW.trod_array Tryd.underlying96 h
  have h1 := congrArg Prod.fst hx
  simp only [laid_eq, DataW.agg.injEq] at h1
  have h2 : (xs.map (·.1))[i]? = some (.agg [.lit (.string (nmOf i)), .lit (.string (opnd i))]) := by rw [← h1]; simp [hi]
  obtain ⟨x, hx1, hx2⟩ : ∃ x, xs[i]? = some x ∧ x.1 = .agg [.lit (.string (nmOf i)), .lit (.string (opnd i))] := by simpa [List.getElem?_map, Option.map_eq_some_iff] using h2
  have h3 := hat i hi
  rw [hx1, cells95] at h3
  obtain ⟨ys, m2, -, hy, hl2, hyl, hat2⟩ := DataW.trod_struct Tryd.underlying95 h3
  have h4 : x.1 = .agg (ys.map (·.1)) := congrArg Prod.fst hy
  rw [hx2, DataW.agg.injEq] at h4
  match ys, h4 with
  | [y0, y1], h4 =>
    simp only [List.map_cons, List.map_nil, List.cons.injEq, and_true] at h4
    have a0 := hat2 0 _ rfl
    have a1 := hat2 1 _ rfl
    simp only [cells9, List.getElem?_cons_zero, List.getElem?_cons_succ, List.drop_zero] at a0 a1
    have b0 := str_cell Tryd.underlying9 (a0.trans (congrArg some (Prod.ext h4.1.symm rfl : y0 = (_, y0.2))))
    have b1 := str_cell Tryd.underlying9 (a1.trans (congrArg some (Prod.ext h4.2.symm rfl : y1 = (_, y1.2))))
    constructor
    · have := congrArg (fun l : List Value => l[0]?) b0
      simp [List.getElem?_take, List.getElem?_drop] at this
      exact this.2
    · have := congrArg (fun l : List Value => l[0]?) b1
      simp [List.getElem?_take, List.getElem?_drop] at this
      exact this.2
/-- What the row's list gives: the package variable's memory. -/
theorem forms_den {W : World} (h : laidMetH Tryd.prog Rows.processManyRow.laid W) (hs : 0 < W.heap.size) (g : Nat) (hg : GV g ≠ []) : Den (old W) W (.xp (GV g)) (.pointer (some ⟨g, 0, none⟩)) := by
  obtain rfl : g = 0 := by
    cases g with
    | zero => rfl
    | succ g => exact absurd rfl hg
  obtain ⟨ps, ⟨g', t', cs, fuel, p, q, hg', ht', hvar, hd, _, _⟩, _⟩ : laidMet Tryd.prog [("clusterkernel/code.forms", Rows.laid_clusterkernel_code_forms)] W := h
  obtain rfl := Option.some.inj (gForms.symm.trans hg')
  obtain rfl := Option.some.inj (gFormsType.symm.trans ht')
  have hc : ∀ j, j < 26 → ∃ v, cs.toList[j]? = some v ∧ ∃ l, (GV 0)[j]? = some (.str l) ∧ v = .string ⟨l.toArray⟩ := by
    intro j hj
    rcases Nat.mod_two_eq_zero_or_one j with h2 | h2
    · obtain ⟨i, rfl⟩ : ∃ i, j = i * 2 := ⟨j / 2, by omega⟩
      exact ⟨_, (form_cells hd (by omega)).1, _, gv_even (by omega), rfl⟩
    · obtain ⟨i, rfl⟩ : ∃ i, j = i * 2 + 1 := ⟨j / 2, by omega⟩
      exact ⟨_, (form_cells hd (by omega)).2, _, gv_odd (by omega), rfl⟩
  refine .xp (fun j => cs.getD j undef) hs (fun j hj => ?_) fun j c hj => ?_
  · obtain ⟨v, h1, _⟩ := hc j (by rw [gv_len] at hj; exact hj)
    have h1' : cs[j]? = some v := by simpa using h1
    rw [Nat.zero_add]
    have := World.var?_cell gForms hvar j
    rw [this, h1']
    simp [Array.getD_eq_getD_getElem?, h1']
  · have hj' : j < 26 := by
      have := (List.getElem?_eq_some_iff.1 hj).1
      rwa [gv_len] at this
    obtain ⟨v, h1, l, h2, rfl⟩ := hc j hj'
    rw [h2] at hj
    obtain rfl := Option.some.inj hj
    have h1' : cs[j]? = some (.string ⟨l.toArray⟩) := by simpa using h1
    have : cs.getD j undef = .string ⟨l.toArray⟩ := by simp [Array.getD_eq_getD_getElem?, h1']
    rw [this]
    exact .str l
set_option maxRecDepth 100000 in
theorem many_contract (H : Type) (enc : TypeId × Value → H) (W : World) (base : Nat) (args : Array Value) (ds gs : List (DataW H)) (before : List MemPlace)
    (hval : ∀ (j : Nat) t v, Tryd.f3.params[j]? = some t → args[j]? = some v → Value.okWide Tryd.prog W .any base t v)
    (hW : DataW.Whole enc Tryd.prog Tryd.f3.params.toList Rows.processManySpec.vars false W args.toList ds gs before) (hL : laidMetH Tryd.prog Rows.processManyRow.laid W) (hs : 0 < W.heap.size) :
    Calls Tryd.prog 3 args W fun e W' => ∃ v, e = .returned v ∧ Rows.processManySpec.post enc Tryd.prog Tryd.f3 false true false false W args v W' := by
  have hW' := hW
  obtain ⟨p, q, hA, hV, rfl, _, _⟩ := hW
  obtain ⟨rfl, rfl⟩ := trodVars_none hV
  have hlt := hW'.lt
  simp only [List.append_nil] at hlt
  have hps : Tryd.f3.params.toList = [22] := by kernel_rfl
  rw [hps] at hA
  obtain ⟨l, ⟨x0, _, h0, rfl, rfl⟩, h2, h3⟩ := (RA.cons rv_22 RA.nil) H enc W base args.toList ds p (fun j t v a b => hval j t v (by rw [← hps] at a; simpa using a) (by simpa using b)) hA hlt
  obtain ⟨_, hcall⟩ := ec_Many x0 (Nat.le_trans h0.1 (by decide)) (fun y hy => u8_wf (h0.2 y hy))
  refine (hcall (old W) W args (sat_old W (forms_den hL hs)) ⟨by simpa using h2.symm, fun i c hi => by simpa using h3 i c hi⟩).mono ?_
  rintro e W' ⟨v, r, X', B', rfl, ⟨rfl, rfl⟩, _, hr, hext⟩
  cases hr
  have hb := hext.below
  have hdl := (trodAll_len hA).2
  match ds, hdl with
  | [d], _ =>
    refine ⟨_, rfl, [d], [], _, [], p, [], hW', ?_, ?_, ?_, hb.frame _, fun h => by cases h⟩
    · show DataW.TrodAll enc Tryd.prog W' _ _ _ Tryd.f3.resultTypes.toList _ [.lit (.bool true)] []
      rw [show Tryd.f3.resultTypes = #[4] by kernel_rfl]
      exact trodAll_mk1 (Lift.shut_bool Tryd.underlying4 true)
    · show DataW.TrodAll enc Tryd.prog W' 0 _ true Tryd.f3.params.toList args.toList [d] p
      rw [hps]
      exact trodAll_below Tryd.laidOut hb (by rw [← hps]; exact of_decide_eq_true (by kernel_rfl)) hA hlt
    · rfl
/-- A world for the witness: the package variable holds what its initialiser lays. -/
noncomputable def manyWorld (os : Os) : World :=
  { World.holding Tryd.prog os ⟨#[], #[], []⟩ with heap := (World.holding Tryd.prog os ⟨#[], #[], []⟩).heap.modify 0 fun
      | .cells _ t frozen => .cells ((List.range 13).flatMap fun i : Nat => [Value.string ⟨(nmOf i).toArray⟩, Value.string ⟨(opnd i).toArray⟩]).toArray t frozen
      | o => o }
theorem many_met (os : Os) : laidMet Tryd.prog Rows.processManyRow.laid ((manyWorld os).forCall (fun _ _ => 0) ⟨#[], #[.slice none 0 0], []⟩).memory :=
  laidMet_of_run' 8 (by kernel_rfl) (by kernel_rfl)
theorem many_reads (os : Os) {H : Type} (enc : TypeId × Value → H) : ∃ places, DataW.whole enc Tryd.prog ((manyWorld os).forCall (fun _ _ => 0) ⟨#[], #[.slice none 0 0], []⟩).memory Tryd.f3.params.toList Rows.processManySpec.vars false #[Value.slice none 0 0].toList 8 = some ([.nil], [], places) :=
  ⟨[], by kernel_rfl⟩
theorem heap_pos {W : World} (h : laidMetH Tryd.prog Rows.processManyRow.laid W) : 0 < W.heap.size := by
  obtain ⟨ps, ⟨g', t', cs, fuel, p, q, hg', ht', hvar, hd, _, _⟩, _⟩ : laidMet Tryd.prog [("clusterkernel/code.forms", Rows.laid_clusterkernel_code_forms)] W := h
  obtain rfl := Option.some.inj (gForms.symm.trans hg')
  obtain rfl := Option.some.inj (gFormsType.symm.trans ht')
  have h1 := World.var?_cell gForms hvar 0
  have h2 := (form_cells hd (i := 0) (by decide)).1
  have h3 : cs[0]? = some (.string ⟨(nmOf ((0 : Nat) : Int)).toArray⟩) := by simpa using h2
  rw [h3] at h1
  by_cases hp : 0 < W.heap.size
  · exact hp
  · exfalso
    have hz : W.heap[0]? = none := Array.getElem?_eq_none (by omega)
    simp [World.cell?, hz] at h1
set_option maxRecDepth 100000 in
theorem many_lifted (os : Os) (started : os.Started) (H : Type) (enc : TypeId × Value → H) (F : Stop.Interp) :
    ReturnsInHanded {} Tryd.checked os 3 .any ((OpenSpec.ofChange Rows.processManySpec).preRow enc Tryd.prog Tryd.f3 Rows.processManyRow.domain false Rows.processManyRow.laid) (((OpenSpec.ofChange Rows.processManySpec).at F).post enc Tryd.prog Tryd.f3 false true false false) := by
  obtain ⟨places, hx⟩ := many_reads os enc
  refine returnsInHanded_of_row (C := Tryd.checked) (s := OpenSpec.ofChange Rows.processManySpec) Tryd.own started (by kernel_rfl) Tryd.func3
    (witness_row_at (enc := enc) (C := Tryd.checked) false (manyWorld os) #[.slice none 0 0] rfl (by kernel_rfl) (by kernel_rfl) (by kernel_rfl)
      (OpenSpec.preRow_of_cond 8 hx (by kernel_rfl) (fun k hk => by cases hk) (by kernel_rfl) (many_met os))) ?_
  intro W base args ds gs before hval hW _ _ _ hL _ _
  exact many_contract H enc W base args ds gs before hval hW hL (heap_pos hL)
theorem many_said : Rows.ProcessManySaid :=
  OpenClaim.holds_of_cond 3 Tryd.f3 rfl rfl rfl rfl rfl rfl rfl ⟨rfl, rfl, rfl, rfl, rfl⟩ rfl rfl rfl rfl rfl (by kernel_rfl) Tryd.func3 (by kernel_rfl)
    (of_decide_eq_true (by kernel_rfl)) (by unfold Func.isWrapper; first | (rw [if_pos (by decide +kernel)]; kernel_rfl) | (rw [if_neg (by decide +kernel)]; exact ⟨rfl, rfl⟩))
    (fun os started H enc _ F => by rw [OpenClaim.pre_eq_preRow]; exact many_lifted os started H enc F)
/-- What the card asks besides. -/
theorem many_plain (f : FuncId) (fn : Func) (hf : Tryd.pinned.checked.prog.funcNamed "clusterkernel/clusterkernellaw16.ProcessMany" = some f) (hfn : Tryd.pinned.checked.prog.funcs[f]? = some fn) :
    false = Tryd.pinned.checked.prog.looks [] ∧ ∀ (j : Nat) t, fn.params[j]? = some t → Tryd.pinned.checked.prog.wantsStandIn t = false := by
  obtain rfl : f = 3 := Option.some.inj ((show Tryd.prog.funcNamed "clusterkernel/clusterkernellaw16.ProcessMany" = some 3 by kernel_rfl).symm.trans hf) |>.symm
  obtain rfl : fn = Tryd.f3 := (Option.some.inj (Tryd.func3.symm.trans hfn)).symm
  refine ⟨by kernel_rfl, fun j t ht => ?_⟩
  rw [Tryd.params3] at ht
  obtain rfl : t = 22 := by simpa using Array.mem_of_getElem? ht
  exact (show Tryd.prog.wantsStandIn 22 = false by kernel_rfl)
/-- The card. -/
theorem processMany_holds : Rows.ProcessManyCardSaid :=
  Claim7.holds_tied_plain_at .later [] _ _ _ _ many_said (fun _ h => by cases h) (by kernel_rfl) (fun _ h => by cases h) processMany_row_tie rfl ⟨rfl, rfl⟩ (by kernel_rfl) rfl many_plain (by kernel_rfl)
end Go.Proofs.YtfmldmafigpblaaDoor
