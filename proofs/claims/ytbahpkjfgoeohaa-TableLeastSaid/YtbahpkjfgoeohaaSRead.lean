/-
  Readings of arguments. Printed by a program of ours (gen_read.py).
-/
import Derived.Test.YtbahpkjfgoeohaaSEnv
import Derived.Test.YtbahpkjfgoeohaaSLift2
namespace Go.Proofs.Ytbahpkjfgoeohaa
open Go.Lift
set_option linter.unusedSimpArgs false
set_option linter.unusedVariables false
set_option maxRecDepth 100000
theorem Try.own : ownKnob Try.prog.godebug = none := by kernel_rfl
theorem Try.laidOut : laidOutB Try.prog = true := by kernel_rfl
theorem rd_5 : RD Try.prog 5 ((intC .u8)) (fun x => (Lit.int .u8 x).wf = true) := RD.int Try.underlying5
theorem rv_5 : RDV Try.prog 5 (fun n => .int .u8 n) (fun x => (Lit.int .u8 x).wf = true) := RDV.cell (by kernel_rfl) rd_5
theorem rd_22 : RD Try.prog 22 (fun l => [slL 1 (intC .u8) default l]) (fun x => (x.length ≤ maxLen ∧ ∀ z0 ∈ x, (Lit.int .u8 z0).wf = true)) := RD.slice (c := (intC .u8)) Try.underlying22 (show Try.prog.cellsOf 5 = 1 by kernel_rfl) (by decide) (fun _ => rfl) rd_5
theorem rv_22 : RDV Try.prog 22 (fun l => slL 1 (intC .u8) default l) (fun x => (x.length ≤ maxLen ∧ ∀ z0 ∈ x, (Lit.int .u8 z0).wf = true)) := RDV.cell (by kernel_rfl) rd_22
theorem rd_2 : RD Try.prog 2 ((intC .i64)) (fun x => (Lit.int .i64 x).wf = true) := RD.int Try.underlying2
theorem rv_2 : RDV Try.prog 2 (fun n => .int .i64 n) (fun x => (Lit.int .i64 x).wf = true) := RDV.cell (by kernel_rfl) rd_2
theorem rd_26 : RD Try.prog 26 ((intC .u64)) (fun x => (Lit.int .u64 x).wf = true) := RD.int Try.underlying26
def GPageRef.ok (y : GPageRef) : Prop := (Lit.int .u64 y.ID).wf = true ∧ True ∧ True
theorem rd_3 : RD Try.prog 3 ((intC .i64)) (fun x => (Lit.int .i64 x).wf = true) := RD.int Try.underlying3
def GInstr.ok (y : GInstr) : Prop := (Lit.int .i64 y.Op).wf = true ∧ (Lit.int .i64 y.A).wf = true ∧ (Lit.int .i64 y.B).wf = true ∧ (Lit.int .i64 y.C).wf = true ∧ True
def GProgram.ok (y : GProgram) : Prop := (y.Code.length ≤ maxLen ∧ ∀ z0 ∈ y.Code, GInstr.ok z0) ∧ (y.Strings.length ≤ maxLen ∧ ∀ z0 ∈ y.Strings, z0.length ≤ maxLen) ∧ (Lit.int .i64 y.Pages).wf = true ∧ True
def A8i64.ok (y : A8i64) : Prop := (Lit.int .i64 y.x0).wf = true ∧ (Lit.int .i64 y.x1).wf = true ∧ (Lit.int .i64 y.x2).wf = true ∧ (Lit.int .i64 y.x3).wf = true ∧ (Lit.int .i64 y.x4).wf = true ∧ (Lit.int .i64 y.x5).wf = true ∧ (Lit.int .i64 y.x6).wf = true ∧ (Lit.int .i64 y.x7).wf = true ∧ True
def GCPU.ok (y : GCPU) : Prop := (Lit.int .i64 y.PC).wf = true ∧ A8i64.ok y.Regs ∧ True
def GSlot.ok (y : GSlot) : Prop := (Lit.int .i64 y.Kind).wf = true ∧ (Lit.int .u64 y.Description).wf = true ∧ (Lit.int .u64 y.Target).wf = true ∧ (Lit.int .i64 y.End).wf = true ∧ True
theorem rd_67 : RD Try.prog 67 (GSlot.c) (GSlot.ok) := by
  have h := RD.struct (t := 67) (fs := [(3, 1), (26, 1), (26, 1), (3, 1)]) (by kernel_rfl) (RDF.cons rd_3 (RDF.cons rd_26 (RDF.cons rd_26 (RDF.cons rd_3 RDF.nil))))
  refine RD.map (d := GSlot.c) (W2 := GSlot.ok) ?f ?c ?w h
  case f => exact fun x => ⟨x.1, x.2.1, x.2.2.1, x.2.2.2.1⟩
  case c => exact fun _ => rfl
  case w => exact fun _ h => h
theorem rv_67 : RDV Try.prog 67 (fun x => .agg (GSlot.c x)) (GSlot.ok) := RDV.agg (by kernel_rfl) rd_67
theorem rd_58 : RD Try.prog 58 (fun l => [slL 4 GSlot.c default l]) (fun x => (x.length ≤ maxLen ∧ ∀ z0 ∈ x, GSlot.ok z0)) := RD.slice (c := GSlot.c) Try.underlying58 (show Try.prog.cellsOf 67 = 4 by kernel_rfl) (by decide) (fun _ => rfl) rd_67
theorem rv_58 : RDV Try.prog 58 (fun l => slL 4 GSlot.c default l) (fun x => (x.length ≤ maxLen ∧ ∀ z0 ∈ x, GSlot.ok z0)) := RDV.cell (by kernel_rfl) rd_58
def GProcess.ok (y : GProcess) : Prop := (Lit.int .i64 y.State).wf = true ∧ (Lit.int .u64 y.Parent).wf = true ∧ (y.Children.length ≤ maxLen ∧ ∀ z0 ∈ y.Children, (Lit.int .u64 z0).wf = true) ∧ GProgram.ok y.Program ∧ GCPU.ok y.CPU ∧ (y.Pages.length ≤ maxLen ∧ ∀ z0 ∈ y.Pages, GPageRef.ok z0) ∧ (y.Table.length ≤ maxLen ∧ ∀ z0 ∈ y.Table, GSlot.ok z0) ∧ (Lit.int .i64 y.Pending).wf = true ∧ (Lit.int .i64 y.Alarm).wf = true ∧ (Lit.int .i64 y.Status).wf = true ∧ True
def A2Lu8.ok (y : A2Lu8) : Prop := (y.x0.length ≤ maxLen ∧ ∀ z0 ∈ y.x0, (Lit.int .u8 z0).wf = true) ∧ (y.x1.length ≤ maxLen ∧ ∀ z0 ∈ y.x1, (Lit.int .u8 z0).wf = true) ∧ True
def A2i64.ok (y : A2i64) : Prop := (Lit.int .i64 y.x0).wf = true ∧ (Lit.int .i64 y.x1).wf = true ∧ True
def GName.ok (y : GName) : Prop := y.Path.length ≤ maxLen ∧ (Lit.int .i64 y.Kind).wf = true ∧ (y.IDs.length ≤ maxLen ∧ ∀ z0 ∈ y.IDs, (Lit.int .u64 z0).wf = true) ∧ True
def GObject.ok (y : GObject) : Prop := (Lit.int .u64 y.ID).wf = true ∧ (Lit.int .i64 y.Kind).wf = true ∧ (Lit.int .i64 y.Refs).wf = true ∧ GProcess.ok y.Process ∧ (y.Words.length ≤ maxLen ∧ ∀ z0 ∈ y.Words, (Lit.int .i64 z0).wf = true) ∧ (y.Data.length ≤ maxLen ∧ ∀ z0 ∈ y.Data, (Lit.int .u8 z0).wf = true) ∧ (Lit.int .i64 y.Offset).wf = true ∧ (Lit.int .u64 y.Target).wf = true ∧ (Lit.int .i64 y.Readers).wf = true ∧ (Lit.int .i64 y.Writers).wf = true ∧ (y.Backlog.length ≤ maxLen ∧ ∀ z0 ∈ y.Backlog, (Lit.int .u64 z0).wf = true) ∧ A2Lu8.ok y.Queues ∧ A2i64.ok y.Ends ∧ (Lit.int .i64 y.Count).wf = true ∧ (y.Names.length ≤ maxLen ∧ ∀ z0 ∈ y.Names, GName.ok z0) ∧ True
end Go.Proofs.Ytbahpkjfgoeohaa
