/-
  Readings of arguments. Printed by a program of ours (gen_read.py).
-/
import Derived.Test.YtnnabccfagojhaaEnv
import Derived.Test.YtnnabccfagojhaaLiftW
namespace Go.Proofs.Ytnnabccfagojhaa
open Go.Lift
set_option linter.unusedSimpArgs false
set_option linter.unusedVariables false
set_option maxRecDepth 100000
theorem Try.own : ownKnob Try.prog.godebug = none := by kernel_rfl
theorem Try.laidOut : laidOutB Try.prog = true := by kernel_rfl
theorem rd_3 : RD Try.prog 3 ((intC .i64)) (fun x => (Lit.int .i64 x).wf = true) := RD.int Try.underlying3
theorem rv_3 : RDV Try.prog 3 (fun n => .int .i64 n) (fun x => (Lit.int .i64 x).wf = true) := RDV.cell (by kernel_rfl) rd_3
theorem rd_22 : RD Try.prog 22 (fun l => [slL 1 (intC .i64) default l]) (fun x => (x.length ≤ maxLen ∧ ∀ z0 ∈ x, (Lit.int .i64 z0).wf = true)) := RD.slice (c := (intC .i64)) Try.underlying22 (show Try.prog.cellsOf 3 = 1 by kernel_rfl) (by decide) (fun _ => rfl) rd_3
theorem rv_22 : RDV Try.prog 22 (fun l => slL 1 (intC .i64) default l) (fun x => (x.length ≤ maxLen ∧ ∀ z0 ∈ x, (Lit.int .i64 z0).wf = true)) := RDV.cell (by kernel_rfl) rd_22
theorem rd_23 : RD Try.prog 23 ((intC .u64)) (fun x => (Lit.int .u64 x).wf = true) := RD.int Try.underlying23
theorem rv_23 : RDV Try.prog 23 (fun n => .int .u64 n) (fun x => (Lit.int .u64 x).wf = true) := RDV.cell (by kernel_rfl) rd_23
theorem rd_5 : RD Try.prog 5 ((intC .u8)) (fun x => (Lit.int .u8 x).wf = true) := RD.int Try.underlying5
theorem rv_5 : RDV Try.prog 5 (fun n => .int .u8 n) (fun x => (Lit.int .u8 x).wf = true) := RDV.cell (by kernel_rfl) rd_5
theorem rd_39 : RD Try.prog 39 (fun l => [slL 1 (intC .u8) default l]) (fun x => (x.length ≤ maxLen ∧ ∀ z0 ∈ x, (Lit.int .u8 z0).wf = true)) := RD.slice (c := (intC .u8)) Try.underlying39 (show Try.prog.cellsOf 5 = 1 by kernel_rfl) (by decide) (fun _ => rfl) rd_5
theorem rv_39 : RDV Try.prog 39 (fun l => slL 1 (intC .u8) default l) (fun x => (x.length ≤ maxLen ∧ ∀ z0 ∈ x, (Lit.int .u8 z0).wf = true)) := RDV.cell (by kernel_rfl) rd_39
def GAddress.ok (y : GAddress) : Prop := (Lit.int .i64 y.From).wf = true ∧ (Lit.int .u64 y.Process).wf = true ∧ (Lit.int .i64 y.To).wf = true ∧ True
theorem rd_80 : RD Try.prog 80 (GAddress.c) (GAddress.ok) := by
  have h := RD.struct (t := 80) (fs := [(3, 1), (23, 1), (3, 1)]) (by kernel_rfl) (RDF.cons rd_3 (RDF.cons rd_23 (RDF.cons rd_3 RDF.nil)))
  refine RD.map (d := GAddress.c) (W2 := GAddress.ok) ?f ?c ?w h
  case f => exact fun x => ⟨x.1, x.2.1, x.2.2.1⟩
  case c => exact fun _ => rfl
  case w => exact fun _ h => h
theorem rv_80 : RDV Try.prog 80 (fun x => .agg (GAddress.c x)) (GAddress.ok) := RDV.agg (by kernel_rfl) rd_80
theorem rd_65 : RD Try.prog 65 (fun l => [slL 3 GAddress.c default l]) (fun x => (x.length ≤ maxLen ∧ ∀ z0 ∈ x, GAddress.ok z0)) := RD.slice (c := GAddress.c) Try.underlying65 (show Try.prog.cellsOf 80 = 3 by kernel_rfl) (by decide) (fun _ => rfl) rd_80
theorem rv_65 : RDV Try.prog 65 (fun l => slL 3 GAddress.c default l) (fun x => (x.length ≤ maxLen ∧ ∀ z0 ∈ x, GAddress.ok z0)) := RDV.cell (by kernel_rfl) rd_65
def GContract.ok (y : GContract) : Prop := (Lit.int .u64 y.Process).wf = true ∧ (Lit.int .i64 y.From).wf = true ∧ (Lit.int .i64 y.To).wf = true ∧ (Lit.int .i64 y.State).wf = true ∧ (Lit.int .i64 y.Left).wf = true ∧ True
theorem rd_31 : RD Try.prog 31 (GContract.c) (GContract.ok) := by
  have h := RD.struct (t := 31) (fs := [(23, 1), (3, 1), (3, 1), (3, 1), (3, 1)]) (by kernel_rfl) (RDF.cons rd_23 (RDF.cons rd_3 (RDF.cons rd_3 (RDF.cons rd_3 (RDF.cons rd_3 RDF.nil)))))
  refine RD.map (d := GContract.c) (W2 := GContract.ok) ?f ?c ?w h
  case f => exact fun x => ⟨x.1, x.2.1, x.2.2.1, x.2.2.2.1, x.2.2.2.2.1⟩
  case c => exact fun _ => rfl
  case w => exact fun _ h => h
theorem rv_31 : RDV Try.prog 31 (fun x => .agg (GContract.c x)) (GContract.ok) := RDV.agg (by kernel_rfl) rd_31
theorem rd_25 : RD Try.prog 25 (fun l => [slL 5 GContract.c default l]) (fun x => (x.length ≤ maxLen ∧ ∀ z0 ∈ x, GContract.ok z0)) := RD.slice (c := GContract.c) Try.underlying25 (show Try.prog.cellsOf 31 = 5 by kernel_rfl) (by decide) (fun _ => rfl) rd_31
theorem rv_25 : RDV Try.prog 25 (fun l => slL 5 GContract.c default l) (fun x => (x.length ≤ maxLen ∧ ∀ z0 ∈ x, GContract.ok z0)) := RDV.cell (by kernel_rfl) rd_25
def GTerms.ok (y : GTerms) : Prop := (Lit.int .i64 y.High).wf = true ∧ (Lit.int .i64 y.Low).wf = true ∧ (Lit.int .i64 y.Rounds).wf = true ∧ True
theorem rd_27 : RD Try.prog 27 (GTerms.c) (GTerms.ok) := by
  have h := RD.struct (t := 27) (fs := [(3, 1), (3, 1), (3, 1)]) (by kernel_rfl) (RDF.cons rd_3 (RDF.cons rd_3 (RDF.cons rd_3 RDF.nil)))
  refine RD.map (d := GTerms.c) (W2 := GTerms.ok) ?f ?c ?w h
  case f => exact fun x => ⟨x.1, x.2.1, x.2.2.1⟩
  case c => exact fun _ => rfl
  case w => exact fun _ h => h
theorem rv_27 : RDV Try.prog 27 (fun x => .agg (GTerms.c x)) (GTerms.ok) := RDV.agg (by kernel_rfl) rd_27
end Go.Proofs.Ytnnabccfagojhaa
