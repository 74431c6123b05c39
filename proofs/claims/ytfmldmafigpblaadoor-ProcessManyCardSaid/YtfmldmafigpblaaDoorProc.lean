/- Processes: their relatives, validity. -/
import Derived.Test.YtfmldmafigpblaaDoorCodeB
import Derived.Test.YtfmldmafigpblaaDoorTable
import Derived.Test.YtfmldmafigpblaaDoorSignal
import Derived.Test.YtfmldmafigpblaaDoorIds
namespace Go.Proofs.YtfmldmafigpblaaDoor
open Go.Lift
set_option linter.unusedSimpArgs false
set_option linter.unusedVariables false
set_option maxRecDepth 10000
theorem wrap1 {i n : Nat} (hi : i < n) (hn : n ≤ 1000000) : IntKind.i64.wrap ((i : Int) + 1) = ((i + 1 : Nat) : Int) := by rw [i64_in' (by omega)]; omega
/-- A child's identifier is possible. -/
def famP (id : Int) (l : List Int) (i : Nat) : Bool := !(l.getD i default == 0) && !(l.getD i default == id) && !decide (l.getD i default ∈ l.take i)
def famL (id : Int) (l : List Int) : Bool := (List.range l.length).all (famP id l)
def famB (o : GObject) : Bool := famL o.ID o.Process.Children && (o.Process.Parent != o.ID && decide ((o.Process.Children.length : Int) ≤ 32))
theorem rangeAll_no {p : Nat → Bool} {n i : Nat} (h : i < n) (hp : p i = false) : (List.range n).all p = false := by
  simp only [List.all_eq_false]
  exact ⟨i, by simpa using h, by simp [hp]⟩
theorem rangeAll_step {p : Nat → Bool} {i : Nat} (h : (List.range i).all p = true) (hp : p i = true) : (List.range (i + 1)).all p = true := by rw [List.range_succ, List.all_append, h]; simp [hp]
theorem ec_family (o : GObject) (ho : o.Process.Children.length ≤ 1000000) : EC Tryd.prog 20 [.agg o.c] [] fun r N => N = [] ∧ r = .bool (famB o) := by
  refine EC.finK ?_
  (refine EC.enterK E_ok call_20 Tryd.func20 rfl (by simp [Tryd.ntmps20]) ?_; simp only [Tryd.ntmps20, Tryd.results20, push_cast, bne_self_eq_false, simprocAttr])
  intro fr fr1
  refine EV_loopK E_ok [9, 10, 1, 3] (fun i : Nat => [(11, .int .i64 i)]) (fun B _ => B) (fun i => i ≤ o.Process.Children.length ∧ (List.range i).all (famP o.ID o.Process.Children) = true) (fun i => o.Process.Children.length - i) 0 ⟨Nat.zero_le _, rfl⟩ ?_
  rintro i ⟨hi, hx⟩
  have hsub := sub_elt0 (fl := false) (e := 1) (c := intC .u64) (d := default) hi
  simp only [hsub, push_cast, bne_self_eq_false, simprocAttr]
  refine ⟨fun h => ⟨⟨by omega, h⟩, fun g => ⟨g, by omega, hi⟩, fun g => ?_, fun g => ?_⟩, fun h => Lt.bool ?_⟩
  · have hlt : i < o.Process.Children.length := by omega
    have hp := fun e : famP o.ID o.Process.Children i = false => rangeAll_no (p := famP o.ID o.Process.Children) hlt e
    (refine EC.useK E_ok (ec_contains_u64 _ _ (by simp; omega)) ?_; simp only [wrap1 hlt ho, g, push_cast, bne_self_eq_false, simprocAttr])
    simp only [Bool.or_eq_false_iff] at g
    refine ⟨fun e => Lt.bool ?_, fun e => NX_mk (i + 1) ⟨by omega, rangeAll_step hx ?_⟩⟩
    · rw [famB, famL, hp (by rw [famP, g.1, g.2, decide_eq_true e]; rfl), Bool.false_and]
    · rw [famP, g.1, g.2, e]; rfl
  · have hlt : i < o.Process.Children.length := by omega
    have hp := fun e : famP o.ID o.Process.Children i = false => rangeAll_no (p := famP o.ID o.Process.Children) hlt e
    rw [Bool.not_eq_false'] at g
    (repeat (refine EOK_run (m := 0) E_ok ?_; simp only [wrap1 hlt ho, g, push_cast, bne_self_eq_false, simprocAttr]))
    refine Lt.bool ?_
    rw [famB, famL, hp, Bool.false_and]
    rw [famP, ← Bool.not_or, g]; rfl
  · have e : i = o.Process.Children.length := by simp at h; omega
    subst e
    rw [famB, famL, hx, Bool.true_and]
/-- A process is valid. -/
def prB (o : GObject) : Bool :=
  if o.Kind != 1 || o.ID == 0 || !onlyB o 2 || !famB o then false
  else if o.Process.State == 3 then o.Process.Parent != 0 && restB o.Process
  else if o.Process.State == 1 || o.Process.State == 2 then chkE o.Process.Program == 0 && spOk o.Process.Pages && tbOk o.Process.Table && sigOk o.Process.Pending && decide (0 ≤ o.Process.Alarm) && decide (o.Process.Alarm ≤ 1073741824) && (o.Process.State == 2 || o.Process.Status == 0)
  else false
set_option maxHeartbeats 1000000 in
theorem ec_pr_Valid (o : GObject) (ho : smallO o) : EC Tryd.prog 9 [.agg o.c] [] fun r N => N = [] ∧ r = .bool (prB o) := by
  refine EC.finK ?_
  (refine EC.enterK E_ok call_9 Tryd.func9 rfl (by simp [Tryd.ntmps9]) ?_; simp only [Tryd.ntmps9, Tryd.results9, push_cast, bne_self_eq_false, simprocAttr])
  (repeat' (first | (refine EOK_run (m := 0) E_ok ?_; simp only [push_cast, bne_self_eq_false, simprocAttr]) | (refine EC.useK E_ok (ec_blank_Only o 2 ho) ?_; simp only [push_cast, bne_self_eq_false, simprocAttr]) | (refine EC.useK E_ok (ec_family o ho.1.1) ?_; simp only [push_cast, bne_self_eq_false, simprocAttr]) | (refine EC.useK E_ok (ec_blank_Rest _ ho.1) ?_; simp only [push_cast, bne_self_eq_false, simprocAttr]) | (refine EC.useKP E_ok (ec_Check _ ho.1.2.1 ho.1.2.2.1) ?_; intro x hx; simp only [push_cast, bne_self_eq_false, simprocAttr]) | (refine EC.useK E_ok (ec_space_Valid _ ho.1.2.2.2.1) ?_; simp only [push_cast, bne_self_eq_false, simprocAttr]) | (refine EC.useK E_ok (ec_table_Valid _ ho.1.2.2.2.2) ?_; simp only [push_cast, bne_self_eq_false, simprocAttr]) | (refine EC.useK E_ok (ec_signal_Valid _) ?_; simp only [push_cast, bne_self_eq_false, simprocAttr]) | apply Lt.bool | apply Lt.int | apply Lt.t2 | apply Lt.t3 | apply Lt.t4 | apply Lt.aggO | apply FzA.aggO | apply FzA.boolE | apply FzA.intE | apply Lt.str | (with_reducible intro _) | with_reducible apply And.intro | exact trivial)) <;> (first | rfl | omega | contradiction | (simp [prB, *]; done) | (simp_all [prB]; done) | skip)
end Go.Proofs.YtfmldmafigpblaaDoor
