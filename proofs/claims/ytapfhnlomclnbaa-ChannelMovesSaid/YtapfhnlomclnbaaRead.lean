/-
  Readings of arguments. Printed by a program of ours (gen_read.py).
-/
import Derived.Test.YtapfhnlomclnbaaEnv
import Derived.Test.YtapfhnlomclnbaaLiftW
namespace Go.Proofs.Ytapfhnlomclnbaa
open Go.Lift
set_option linter.unusedSimpArgs false
set_option linter.unusedVariables false
set_option maxRecDepth 100000
theorem Try.own : ownKnob Try.prog.godebug = none := by kernel_rfl
theorem Try.laidOut : laidOutB Try.prog = true := by kernel_rfl
theorem rd_22 : RD Try.prog 22 ((intC .u64)) (fun x => (Lit.int .u64 x).wf = true) := RD.int Try.underlying22
theorem rv_22 : RDV Try.prog 22 (fun n => .int .u64 n) (fun x => (Lit.int .u64 x).wf = true) := RDV.cell (by kernel_rfl) rd_22
theorem rd_3 : RD Try.prog 3 ((intC .i64)) (fun x => (Lit.int .i64 x).wf = true) := RD.int Try.underlying3
theorem rv_3 : RDV Try.prog 3 (fun n => .int .i64 n) (fun x => (Lit.int .i64 x).wf = true) := RDV.cell (by kernel_rfl) rd_3
theorem rd_23 : RD Try.prog 23 (fun l => [slL 1 (intC .u64) default l]) (fun x => (x.length ≤ maxLen ∧ ∀ z0 ∈ x, (Lit.int .u64 z0).wf = true)) := RD.slice (c := (intC .u64)) Try.underlying23 (show Try.prog.cellsOf 22 = 1 by kernel_rfl) (by decide) (fun _ => rfl) rd_22
theorem rv_23 : RDV Try.prog 23 (fun l => slL 1 (intC .u64) default l) (fun x => (x.length ≤ maxLen ∧ ∀ z0 ∈ x, (Lit.int .u64 z0).wf = true)) := RDV.cell (by kernel_rfl) rd_23
def GInstr.ok (y : GInstr) : Prop := (Lit.int .i64 y.Op).wf = true ∧ (Lit.int .i64 y.A).wf = true ∧ (Lit.int .i64 y.B).wf = true ∧ (Lit.int .i64 y.C).wf = true ∧ True
theorem rd_102 : RD Try.prog 102 (GInstr.c) (GInstr.ok) := by
  have h := RD.struct (t := 102) (fs := [(3, 1), (3, 1), (3, 1), (3, 1)]) (by kernel_rfl) (RDF.cons rd_3 (RDF.cons rd_3 (RDF.cons rd_3 (RDF.cons rd_3 RDF.nil))))
  refine RD.map (d := GInstr.c) (W2 := GInstr.ok) ?f ?c ?w h
  case f => exact fun x => ⟨x.1, x.2.1, x.2.2.1, x.2.2.2.1⟩
  case c => exact fun _ => rfl
  case w => exact fun _ h => h
theorem rv_102 : RDV Try.prog 102 (fun x => .agg (GInstr.c x)) (GInstr.ok) := RDV.agg (by kernel_rfl) rd_102
theorem rd_24 : RD Try.prog 24 (fun l => [slL 4 GInstr.c default l]) (fun x => (x.length ≤ maxLen ∧ ∀ z0 ∈ x, GInstr.ok z0)) := RD.slice (c := GInstr.c) Try.underlying24 (show Try.prog.cellsOf 102 = 4 by kernel_rfl) (by decide) (fun _ => rfl) rd_102
theorem rv_24 : RDV Try.prog 24 (fun l => slL 4 GInstr.c default l) (fun x => (x.length ≤ maxLen ∧ ∀ z0 ∈ x, GInstr.ok z0)) := RDV.cell (by kernel_rfl) rd_24
theorem rd_9 : RD Try.prog 9 (strC) (fun x => x.length ≤ maxLen) := RD.str Try.underlying9
theorem rv_9 : RDV Try.prog 9 (fun s => .str s) (fun x => x.length ≤ maxLen) := RDV.cell (by kernel_rfl) rd_9
theorem rd_25 : RD Try.prog 25 (fun l => [slL 1 strC default l]) (fun x => (x.length ≤ maxLen ∧ ∀ z0 ∈ x, z0.length ≤ maxLen)) := RD.slice (c := strC) Try.underlying25 (show Try.prog.cellsOf 9 = 1 by kernel_rfl) (by decide) (fun _ => rfl) rd_9
theorem rv_25 : RDV Try.prog 25 (fun l => slL 1 strC default l) (fun x => (x.length ≤ maxLen ∧ ∀ z0 ∈ x, z0.length ≤ maxLen)) := RDV.cell (by kernel_rfl) rd_25
def GProgram.ok (y : GProgram) : Prop := (y.Code.length ≤ maxLen ∧ ∀ z0 ∈ y.Code, GInstr.ok z0) ∧ (y.Strings.length ≤ maxLen ∧ ∀ z0 ∈ y.Strings, z0.length ≤ maxLen) ∧ (Lit.int .i64 y.Pages).wf = true ∧ True
theorem rd_27 : RD Try.prog 27 (GProgram.c) (GProgram.ok) := by
  have h := RD.struct (t := 27) (fs := [(24, 1), (25, 1), (3, 1)]) (by kernel_rfl) (RDF.cons rd_24 (RDF.cons rd_25 (RDF.cons rd_3 RDF.nil)))
  refine RD.map (d := GProgram.c) (W2 := GProgram.ok) ?f ?c ?w h
  case f => exact fun x => ⟨x.1, x.2.1, x.2.2.1⟩
  case c => exact fun _ => rfl
  case w => exact fun _ h => h
theorem rv_27 : RDV Try.prog 27 (fun x => .agg (GProgram.c x)) (GProgram.ok) := RDV.agg (by kernel_rfl) rd_27
theorem rd_2 : RD Try.prog 2 ((intC .i64)) (fun x => (Lit.int .i64 x).wf = true) := RD.int Try.underlying2
theorem rv_2 : RDV Try.prog 2 (fun n => .int .i64 n) (fun x => (Lit.int .i64 x).wf = true) := RDV.cell (by kernel_rfl) rd_2
def A8i64.ok (y : A8i64) : Prop := (Lit.int .i64 y.x0).wf = true ∧ (Lit.int .i64 y.x1).wf = true ∧ (Lit.int .i64 y.x2).wf = true ∧ (Lit.int .i64 y.x3).wf = true ∧ (Lit.int .i64 y.x4).wf = true ∧ (Lit.int .i64 y.x5).wf = true ∧ (Lit.int .i64 y.x6).wf = true ∧ (Lit.int .i64 y.x7).wf = true ∧ True
theorem rd_28 : RD Try.prog 28 (A8i64.c) (A8i64.ok) := by
  have h := RD.struct (t := 28) (fs := [(2, 1), (2, 1), (2, 1), (2, 1), (2, 1), (2, 1), (2, 1), (2, 1)]) (by kernel_rfl) (RDF.cons rd_2 (RDF.cons rd_2 (RDF.cons rd_2 (RDF.cons rd_2 (RDF.cons rd_2 (RDF.cons rd_2 (RDF.cons rd_2 (RDF.cons rd_2 RDF.nil))))))))
  refine RD.map (d := A8i64.c) (W2 := A8i64.ok) ?f ?c ?w h
  case f => exact fun x => ⟨x.1, x.2.1, x.2.2.1, x.2.2.2.1, x.2.2.2.2.1, x.2.2.2.2.2.1, x.2.2.2.2.2.2.1, x.2.2.2.2.2.2.2.1⟩
  case c => exact fun _ => rfl
  case w => exact fun _ h => h
theorem rv_28 : RDV Try.prog 28 (fun x => .agg (A8i64.c x)) (A8i64.ok) := RDV.agg (by kernel_rfl) rd_28
def GCPU.ok (y : GCPU) : Prop := (Lit.int .i64 y.PC).wf = true ∧ A8i64.ok y.Regs ∧ True
theorem rd_30 : RD Try.prog 30 (GCPU.c) (GCPU.ok) := by
  have h := RD.struct (t := 30) (fs := [(3, 1), (28, 8)]) (by kernel_rfl) (RDF.cons rd_3 (RDF.cons rd_28 RDF.nil))
  refine RD.map (d := GCPU.c) (W2 := GCPU.ok) ?f ?c ?w h
  case f => exact fun x => ⟨x.1, x.2.1⟩
  case c => exact fun _ => rfl
  case w => exact fun _ h => h
theorem rv_30 : RDV Try.prog 30 (fun x => .agg (GCPU.c x)) (GCPU.ok) := RDV.agg (by kernel_rfl) rd_30
theorem rd_4 : RD Try.prog 4 (boolC) (fun x => True) := RD.bool Try.underlying4
theorem rv_4 : RDV Try.prog 4 (fun b => .bool b) (fun x => True) := RDV.cell (by kernel_rfl) rd_4
def GPageRef.ok (y : GPageRef) : Prop := (Lit.int .u64 y.ID).wf = true ∧ True ∧ True
theorem rd_104 : RD Try.prog 104 (GPageRef.c) (GPageRef.ok) := by
  have h := RD.struct (t := 104) (fs := [(22, 1), (4, 1)]) (by kernel_rfl) (RDF.cons rd_22 (RDF.cons rd_4 RDF.nil))
  refine RD.map (d := GPageRef.c) (W2 := GPageRef.ok) ?f ?c ?w h
  case f => exact fun x => ⟨x.1, x.2.1⟩
  case c => exact fun _ => rfl
  case w => exact fun _ h => h
theorem rv_104 : RDV Try.prog 104 (fun x => .agg (GPageRef.c x)) (GPageRef.ok) := RDV.agg (by kernel_rfl) rd_104
theorem rd_31 : RD Try.prog 31 (fun l => [slL 2 GPageRef.c default l]) (fun x => (x.length ≤ maxLen ∧ ∀ z0 ∈ x, GPageRef.ok z0)) := RD.slice (c := GPageRef.c) Try.underlying31 (show Try.prog.cellsOf 104 = 2 by kernel_rfl) (by decide) (fun _ => rfl) rd_104
theorem rv_31 : RDV Try.prog 31 (fun l => slL 2 GPageRef.c default l) (fun x => (x.length ≤ maxLen ∧ ∀ z0 ∈ x, GPageRef.ok z0)) := RDV.cell (by kernel_rfl) rd_31
def GSlot.ok (y : GSlot) : Prop := (Lit.int .i64 y.Kind).wf = true ∧ (Lit.int .u64 y.Description).wf = true ∧ (Lit.int .u64 y.Target).wf = true ∧ (Lit.int .i64 y.End).wf = true ∧ True
theorem rd_106 : RD Try.prog 106 (GSlot.c) (GSlot.ok) := by
  have h := RD.struct (t := 106) (fs := [(3, 1), (22, 1), (22, 1), (3, 1)]) (by kernel_rfl) (RDF.cons rd_3 (RDF.cons rd_22 (RDF.cons rd_22 (RDF.cons rd_3 RDF.nil))))
  refine RD.map (d := GSlot.c) (W2 := GSlot.ok) ?f ?c ?w h
  case f => exact fun x => ⟨x.1, x.2.1, x.2.2.1, x.2.2.2.1⟩
  case c => exact fun _ => rfl
  case w => exact fun _ h => h
theorem rv_106 : RDV Try.prog 106 (fun x => .agg (GSlot.c x)) (GSlot.ok) := RDV.agg (by kernel_rfl) rd_106
theorem rd_32 : RD Try.prog 32 (fun l => [slL 4 GSlot.c default l]) (fun x => (x.length ≤ maxLen ∧ ∀ z0 ∈ x, GSlot.ok z0)) := RD.slice (c := GSlot.c) Try.underlying32 (show Try.prog.cellsOf 106 = 4 by kernel_rfl) (by decide) (fun _ => rfl) rd_106
theorem rv_32 : RDV Try.prog 32 (fun l => slL 4 GSlot.c default l) (fun x => (x.length ≤ maxLen ∧ ∀ z0 ∈ x, GSlot.ok z0)) := RDV.cell (by kernel_rfl) rd_32
def GProcess.ok (y : GProcess) : Prop := (Lit.int .i64 y.State).wf = true ∧ (Lit.int .u64 y.Parent).wf = true ∧ (y.Children.length ≤ maxLen ∧ ∀ z0 ∈ y.Children, (Lit.int .u64 z0).wf = true) ∧ GProgram.ok y.Program ∧ GCPU.ok y.CPU ∧ (y.Pages.length ≤ maxLen ∧ ∀ z0 ∈ y.Pages, GPageRef.ok z0) ∧ (y.Table.length ≤ maxLen ∧ ∀ z0 ∈ y.Table, GSlot.ok z0) ∧ (Lit.int .i64 y.Pending).wf = true ∧ (Lit.int .i64 y.Alarm).wf = true ∧ (Lit.int .i64 y.Status).wf = true ∧ True
theorem rd_34 : RD Try.prog 34 (GProcess.c) (GProcess.ok) := by
  have h := RD.struct (t := 34) (fs := [(3, 1), (22, 1), (23, 1), (27, 3), (30, 9), (31, 1), (32, 1), (2, 1), (2, 1), (2, 1)]) (by kernel_rfl) (RDF.cons rd_3 (RDF.cons rd_22 (RDF.cons rd_23 (RDF.cons rd_27 (RDF.cons rd_30 (RDF.cons rd_31 (RDF.cons rd_32 (RDF.cons rd_2 (RDF.cons rd_2 (RDF.cons rd_2 RDF.nil))))))))))
  refine RD.map (d := GProcess.c) (W2 := GProcess.ok) ?f ?c ?w h
  case f => exact fun x => ⟨x.1, x.2.1, x.2.2.1, x.2.2.2.1, x.2.2.2.2.1, x.2.2.2.2.2.1, x.2.2.2.2.2.2.1, x.2.2.2.2.2.2.2.1, x.2.2.2.2.2.2.2.2.1, x.2.2.2.2.2.2.2.2.2.1⟩
  case c => exact fun _ => rfl
  case w => exact fun _ h => h
theorem rv_34 : RDV Try.prog 34 (fun x => .agg (GProcess.c x)) (GProcess.ok) := RDV.agg (by kernel_rfl) rd_34
theorem rd_35 : RD Try.prog 35 (fun l => [slL 1 (intC .i64) default l]) (fun x => (x.length ≤ maxLen ∧ ∀ z0 ∈ x, (Lit.int .i64 z0).wf = true)) := RD.slice (c := (intC .i64)) Try.underlying35 (show Try.prog.cellsOf 2 = 1 by kernel_rfl) (by decide) (fun _ => rfl) rd_2
theorem rv_35 : RDV Try.prog 35 (fun l => slL 1 (intC .i64) default l) (fun x => (x.length ≤ maxLen ∧ ∀ z0 ∈ x, (Lit.int .i64 z0).wf = true)) := RDV.cell (by kernel_rfl) rd_35
theorem rd_5 : RD Try.prog 5 ((intC .u8)) (fun x => (Lit.int .u8 x).wf = true) := RD.int Try.underlying5
theorem rv_5 : RDV Try.prog 5 (fun n => .int .u8 n) (fun x => (Lit.int .u8 x).wf = true) := RDV.cell (by kernel_rfl) rd_5
theorem rd_36 : RD Try.prog 36 (fun l => [slL 1 (intC .u8) default l]) (fun x => (x.length ≤ maxLen ∧ ∀ z0 ∈ x, (Lit.int .u8 z0).wf = true)) := RD.slice (c := (intC .u8)) Try.underlying36 (show Try.prog.cellsOf 5 = 1 by kernel_rfl) (by decide) (fun _ => rfl) rd_5
theorem rv_36 : RDV Try.prog 36 (fun l => slL 1 (intC .u8) default l) (fun x => (x.length ≤ maxLen ∧ ∀ z0 ∈ x, (Lit.int .u8 z0).wf = true)) := RDV.cell (by kernel_rfl) rd_36
def A2Lu8.ok (y : A2Lu8) : Prop := (y.x0.length ≤ maxLen ∧ ∀ z0 ∈ y.x0, (Lit.int .u8 z0).wf = true) ∧ (y.x1.length ≤ maxLen ∧ ∀ z0 ∈ y.x1, (Lit.int .u8 z0).wf = true) ∧ True
theorem rd_37 : RD Try.prog 37 (A2Lu8.c) (A2Lu8.ok) := by
  have h := RD.struct (t := 37) (fs := [(36, 1), (36, 1)]) (by kernel_rfl) (RDF.cons rd_36 (RDF.cons rd_36 RDF.nil))
  refine RD.map (d := A2Lu8.c) (W2 := A2Lu8.ok) ?f ?c ?w h
  case f => exact fun x => ⟨x.1, x.2.1⟩
  case c => exact fun _ => rfl
  case w => exact fun _ h => h
theorem rv_37 : RDV Try.prog 37 (fun x => .agg (A2Lu8.c x)) (A2Lu8.ok) := RDV.agg (by kernel_rfl) rd_37
def A2i64.ok (y : A2i64) : Prop := (Lit.int .i64 y.x0).wf = true ∧ (Lit.int .i64 y.x1).wf = true ∧ True
theorem rd_38 : RD Try.prog 38 (A2i64.c) (A2i64.ok) := by
  have h := RD.struct (t := 38) (fs := [(3, 1), (3, 1)]) (by kernel_rfl) (RDF.cons rd_3 (RDF.cons rd_3 RDF.nil))
  refine RD.map (d := A2i64.c) (W2 := A2i64.ok) ?f ?c ?w h
  case f => exact fun x => ⟨x.1, x.2.1⟩
  case c => exact fun _ => rfl
  case w => exact fun _ h => h
theorem rv_38 : RDV Try.prog 38 (fun x => .agg (A2i64.c x)) (A2i64.ok) := RDV.agg (by kernel_rfl) rd_38
def GName.ok (y : GName) : Prop := y.Path.length ≤ maxLen ∧ (Lit.int .i64 y.Kind).wf = true ∧ (y.IDs.length ≤ maxLen ∧ ∀ z0 ∈ y.IDs, (Lit.int .u64 z0).wf = true) ∧ True
theorem rd_77 : RD Try.prog 77 (GName.c) (GName.ok) := by
  have h := RD.struct (t := 77) (fs := [(9, 1), (3, 1), (23, 1)]) (by kernel_rfl) (RDF.cons rd_9 (RDF.cons rd_3 (RDF.cons rd_23 RDF.nil)))
  refine RD.map (d := GName.c) (W2 := GName.ok) ?f ?c ?w h
  case f => exact fun x => ⟨x.1, x.2.1, x.2.2.1⟩
  case c => exact fun _ => rfl
  case w => exact fun _ h => h
theorem rv_77 : RDV Try.prog 77 (fun x => .agg (GName.c x)) (GName.ok) := RDV.agg (by kernel_rfl) rd_77
theorem rd_39 : RD Try.prog 39 (fun l => [slL 3 GName.c default l]) (fun x => (x.length ≤ maxLen ∧ ∀ z0 ∈ x, GName.ok z0)) := RD.slice (c := GName.c) Try.underlying39 (show Try.prog.cellsOf 77 = 3 by kernel_rfl) (by decide) (fun _ => rfl) rd_77
theorem rv_39 : RDV Try.prog 39 (fun l => slL 3 GName.c default l) (fun x => (x.length ≤ maxLen ∧ ∀ z0 ∈ x, GName.ok z0)) := RDV.cell (by kernel_rfl) rd_39
def GObject.ok (y : GObject) : Prop := (Lit.int .u64 y.ID).wf = true ∧ (Lit.int .i64 y.Kind).wf = true ∧ (Lit.int .i64 y.Refs).wf = true ∧ GProcess.ok y.Process ∧ (y.Words.length ≤ maxLen ∧ ∀ z0 ∈ y.Words, (Lit.int .i64 z0).wf = true) ∧ (y.Data.length ≤ maxLen ∧ ∀ z0 ∈ y.Data, (Lit.int .u8 z0).wf = true) ∧ (Lit.int .i64 y.Offset).wf = true ∧ (Lit.int .u64 y.Target).wf = true ∧ (Lit.int .i64 y.Readers).wf = true ∧ (Lit.int .i64 y.Writers).wf = true ∧ (y.Backlog.length ≤ maxLen ∧ ∀ z0 ∈ y.Backlog, (Lit.int .u64 z0).wf = true) ∧ A2Lu8.ok y.Queues ∧ A2i64.ok y.Ends ∧ (Lit.int .i64 y.Count).wf = true ∧ (y.Names.length ≤ maxLen ∧ ∀ z0 ∈ y.Names, GName.ok z0) ∧ True
theorem rd_41 : RD Try.prog 41 (GObject.c) (GObject.ok) := by
  have h := RD.struct (t := 41) (fs := [(22, 1), (3, 1), (3, 1), (34, 20), (35, 1), (36, 1), (3, 1), (22, 1), (3, 1), (3, 1), (23, 1), (37, 2), (38, 2), (2, 1), (39, 1)]) (by kernel_rfl) (RDF.cons rd_22 (RDF.cons rd_3 (RDF.cons rd_3 (RDF.cons rd_34 (RDF.cons rd_35 (RDF.cons rd_36 (RDF.cons rd_3 (RDF.cons rd_22 (RDF.cons rd_3 (RDF.cons rd_3 (RDF.cons rd_23 (RDF.cons rd_37 (RDF.cons rd_38 (RDF.cons rd_2 (RDF.cons rd_39 RDF.nil)))))))))))))))
  refine RD.map (d := GObject.c) (W2 := GObject.ok) ?f ?c ?w h
  case f => exact fun x => ⟨x.1, x.2.1, x.2.2.1, x.2.2.2.1, x.2.2.2.2.1, x.2.2.2.2.2.1, x.2.2.2.2.2.2.1, x.2.2.2.2.2.2.2.1, x.2.2.2.2.2.2.2.2.1, x.2.2.2.2.2.2.2.2.2.1, x.2.2.2.2.2.2.2.2.2.2.1, x.2.2.2.2.2.2.2.2.2.2.2.1, x.2.2.2.2.2.2.2.2.2.2.2.2.1, x.2.2.2.2.2.2.2.2.2.2.2.2.2.1, x.2.2.2.2.2.2.2.2.2.2.2.2.2.2.1⟩
  case c => exact fun _ => rfl
  case w => exact fun _ h => h
theorem rv_41 : RDV Try.prog 41 (fun x => .agg (GObject.c x)) (GObject.ok) := RDV.agg (by kernel_rfl) rd_41
end Go.Proofs.Ytapfhnlomclnbaa
