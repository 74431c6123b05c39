/-
  Readings of arguments. Printed by a program of ours (gen_read.py).
-/
import Derived.Test.YtbahpkjfgoeohaaEnv
import Derived.Test.YtbahpkjfgoeohaaLiftW
namespace Go.Proofs.Ytbahpkjfgoeohaa
open Go.Lift
set_option linter.unusedSimpArgs false
set_option linter.unusedVariables false
set_option maxRecDepth 100000
theorem Try.own : ownKnob Try.prog.godebug = none := by kernel_rfl
theorem Try.laidOut : laidOutB Try.prog = true := by kernel_rfl
theorem rd_5 : RD Try.prog 5 ((intC .u8)) (fun x => (Lit.int .u8 x).wf = true) := RD.int Try.underlying5
theorem rv_5 : RDV Try.prog 5 (fun n => .int .u8 n) (fun x => (Lit.int .u8 x).wf = true) := RDV.cell (by kernel_rfl) rd_5
theorem rd_22 : RD Try.prog 22 (fun l => [slL 1 (intC .u8) default l]) (fun x => (x.length ≤ maxLen ∧ ∀ z0 ∈ x, (Lit.int .u8 z0).wf = true)) := RD.slice (c := (intC .u8)) Try.underlying22 (show Try.prog.cellsOf 5 = 1 by kernel_rfl) (by decide) (fun _ => rfl) rd_5
theorem rv_22 : RDV Try.prog 22 (fun l => slL 1 (intC .u8) default l) (fun x => (x.length ≤ maxLen ∧ ∀ z0 ∈ x, (Lit.int .u8 z0).wf = true)) := RDV.cell (by kernel_rfl) rd_22
theorem rd_2 : RD Try.prog 2 ((intC .i64)) (fun x => (Lit.int .i64 x).wf = true) := RD.int Try.underlying2
theorem rv_2 : RDV Try.prog 2 (fun n => .int .i64 n) (fun x => (Lit.int .i64 x).wf = true) := RDV.cell (by kernel_rfl) rd_2
theorem rd_26 : RD Try.prog 26 ((intC .u64)) (fun x => (Lit.int .u64 x).wf = true) := RD.int Try.underlying26
theorem rv_26 : RDV Try.prog 26 (fun n => .int .u64 n) (fun x => (Lit.int .u64 x).wf = true) := RDV.cell (by kernel_rfl) rd_26
theorem rd_4 : RD Try.prog 4 (boolC) (fun x => True) := RD.bool Try.underlying4
theorem rv_4 : RDV Try.prog 4 (fun b => .bool b) (fun x => True) := RDV.cell (by kernel_rfl) rd_4
def GPageRef.ok (y : GPageRef) : Prop := (Lit.int .u64 y.ID).wf = true ∧ True ∧ True
theorem rd_31 : RD Try.prog 31 (GPageRef.c) (GPageRef.ok) := by
  have h := RD.struct (t := 31) (fs := [(26, 1), (4, 1)]) (by kernel_rfl) (RDF.cons rd_26 (RDF.cons rd_4 RDF.nil))
  refine RD.map (d := GPageRef.c) (W2 := GPageRef.ok) ?f ?c ?w h
  case f => exact fun x => ⟨x.1, x.2.1⟩
  case c => exact fun _ => rfl
  case w => exact fun _ h => h
theorem rv_31 : RDV Try.prog 31 (fun x => .agg (GPageRef.c x)) (GPageRef.ok) := RDV.agg (by kernel_rfl) rd_31
theorem rd_24 : RD Try.prog 24 (fun l => [slL 2 GPageRef.c default l]) (fun x => (x.length ≤ maxLen ∧ ∀ z0 ∈ x, GPageRef.ok z0)) := RD.slice (c := GPageRef.c) Try.underlying24 (show Try.prog.cellsOf 31 = 2 by kernel_rfl) (by decide) (fun _ => rfl) rd_31
theorem rv_24 : RDV Try.prog 24 (fun l => slL 2 GPageRef.c default l) (fun x => (x.length ≤ maxLen ∧ ∀ z0 ∈ x, GPageRef.ok z0)) := RDV.cell (by kernel_rfl) rd_24
theorem rd_41 : RD Try.prog 41 (fun l => [slL 1 (intC .u64) default l]) (fun x => (x.length ≤ maxLen ∧ ∀ z0 ∈ x, (Lit.int .u64 z0).wf = true)) := RD.slice (c := (intC .u64)) Try.underlying41 (show Try.prog.cellsOf 26 = 1 by kernel_rfl) (by decide) (fun _ => rfl) rd_26
theorem rv_41 : RDV Try.prog 41 (fun l => slL 1 (intC .u64) default l) (fun x => (x.length ≤ maxLen ∧ ∀ z0 ∈ x, (Lit.int .u64 z0).wf = true)) := RDV.cell (by kernel_rfl) rd_41
theorem rd_3 : RD Try.prog 3 ((intC .i64)) (fun x => (Lit.int .i64 x).wf = true) := RD.int Try.underlying3
theorem rv_3 : RDV Try.prog 3 (fun n => .int .i64 n) (fun x => (Lit.int .i64 x).wf = true) := RDV.cell (by kernel_rfl) rd_3
def GInstr.ok (y : GInstr) : Prop := (Lit.int .i64 y.Op).wf = true ∧ (Lit.int .i64 y.A).wf = true ∧ (Lit.int .i64 y.B).wf = true ∧ (Lit.int .i64 y.C).wf = true ∧ True
theorem rd_142 : RD Try.prog 142 (GInstr.c) (GInstr.ok) := by
  have h := RD.struct (t := 142) (fs := [(3, 1), (3, 1), (3, 1), (3, 1)]) (by kernel_rfl) (RDF.cons rd_3 (RDF.cons rd_3 (RDF.cons rd_3 (RDF.cons rd_3 RDF.nil))))
  refine RD.map (d := GInstr.c) (W2 := GInstr.ok) ?f ?c ?w h
  case f => exact fun x => ⟨x.1, x.2.1, x.2.2.1, x.2.2.2.1⟩
  case c => exact fun _ => rfl
  case w => exact fun _ h => h
theorem rv_142 : RDV Try.prog 142 (fun x => .agg (GInstr.c x)) (GInstr.ok) := RDV.agg (by kernel_rfl) rd_142
theorem rd_51 : RD Try.prog 51 (fun l => [slL 4 GInstr.c default l]) (fun x => (x.length ≤ maxLen ∧ ∀ z0 ∈ x, GInstr.ok z0)) := RD.slice (c := GInstr.c) Try.underlying51 (show Try.prog.cellsOf 142 = 4 by kernel_rfl) (by decide) (fun _ => rfl) rd_142
theorem rv_51 : RDV Try.prog 51 (fun l => slL 4 GInstr.c default l) (fun x => (x.length ≤ maxLen ∧ ∀ z0 ∈ x, GInstr.ok z0)) := RDV.cell (by kernel_rfl) rd_51
theorem rd_9 : RD Try.prog 9 (strC) (fun x => x.length ≤ maxLen) := RD.str Try.underlying9
theorem rv_9 : RDV Try.prog 9 (fun s => .str s) (fun x => x.length ≤ maxLen) := RDV.cell (by kernel_rfl) rd_9
theorem rd_52 : RD Try.prog 52 (fun l => [slL 1 strC default l]) (fun x => (x.length ≤ maxLen ∧ ∀ z0 ∈ x, z0.length ≤ maxLen)) := RD.slice (c := strC) Try.underlying52 (show Try.prog.cellsOf 9 = 1 by kernel_rfl) (by decide) (fun _ => rfl) rd_9
theorem rv_52 : RDV Try.prog 52 (fun l => slL 1 strC default l) (fun x => (x.length ≤ maxLen ∧ ∀ z0 ∈ x, z0.length ≤ maxLen)) := RDV.cell (by kernel_rfl) rd_52
def GProgram.ok (y : GProgram) : Prop := (y.Code.length ≤ maxLen ∧ ∀ z0 ∈ y.Code, GInstr.ok z0) ∧ (y.Strings.length ≤ maxLen ∧ ∀ z0 ∈ y.Strings, z0.length ≤ maxLen) ∧ (Lit.int .i64 y.Pages).wf = true ∧ True
theorem rd_54 : RD Try.prog 54 (GProgram.c) (GProgram.ok) := by
  have h := RD.struct (t := 54) (fs := [(51, 1), (52, 1), (3, 1)]) (by kernel_rfl) (RDF.cons rd_51 (RDF.cons rd_52 (RDF.cons rd_3 RDF.nil)))
  refine RD.map (d := GProgram.c) (W2 := GProgram.ok) ?f ?c ?w h
  case f => exact fun x => ⟨x.1, x.2.1, x.2.2.1⟩
  case c => exact fun _ => rfl
  case w => exact fun _ h => h
theorem rv_54 : RDV Try.prog 54 (fun x => .agg (GProgram.c x)) (GProgram.ok) := RDV.agg (by kernel_rfl) rd_54
def A8i64.ok (y : A8i64) : Prop := (Lit.int .i64 y.x0).wf = true ∧ (Lit.int .i64 y.x1).wf = true ∧ (Lit.int .i64 y.x2).wf = true ∧ (Lit.int .i64 y.x3).wf = true ∧ (Lit.int .i64 y.x4).wf = true ∧ (Lit.int .i64 y.x5).wf = true ∧ (Lit.int .i64 y.x6).wf = true ∧ (Lit.int .i64 y.x7).wf = true ∧ True
theorem rd_55 : RD Try.prog 55 (A8i64.c) (A8i64.ok) := by
  have h := RD.struct (t := 55) (fs := [(2, 1), (2, 1), (2, 1), (2, 1), (2, 1), (2, 1), (2, 1), (2, 1)]) (by kernel_rfl) (RDF.cons rd_2 (RDF.cons rd_2 (RDF.cons rd_2 (RDF.cons rd_2 (RDF.cons rd_2 (RDF.cons rd_2 (RDF.cons rd_2 (RDF.cons rd_2 RDF.nil))))))))
  refine RD.map (d := A8i64.c) (W2 := A8i64.ok) ?f ?c ?w h
  case f => exact fun x => ⟨x.1, x.2.1, x.2.2.1, x.2.2.2.1, x.2.2.2.2.1, x.2.2.2.2.2.1, x.2.2.2.2.2.2.1, x.2.2.2.2.2.2.2.1⟩
  case c => exact fun _ => rfl
  case w => exact fun _ h => h
theorem rv_55 : RDV Try.prog 55 (fun x => .agg (A8i64.c x)) (A8i64.ok) := RDV.agg (by kernel_rfl) rd_55
def GCPU.ok (y : GCPU) : Prop := (Lit.int .i64 y.PC).wf = true ∧ A8i64.ok y.Regs ∧ True
theorem rd_57 : RD Try.prog 57 (GCPU.c) (GCPU.ok) := by
  have h := RD.struct (t := 57) (fs := [(3, 1), (55, 8)]) (by kernel_rfl) (RDF.cons rd_3 (RDF.cons rd_55 RDF.nil))
  refine RD.map (d := GCPU.c) (W2 := GCPU.ok) ?f ?c ?w h
  case f => exact fun x => ⟨x.1, x.2.1⟩
  case c => exact fun _ => rfl
  case w => exact fun _ h => h
theorem rv_57 : RDV Try.prog 57 (fun x => .agg (GCPU.c x)) (GCPU.ok) := RDV.agg (by kernel_rfl) rd_57
def GSlot.ok (y : GSlot) : Prop := (Lit.int .i64 y.Kind).wf = true ∧ (Lit.int .u64 y.Description).wf = true ∧ (Lit.int .u64 y.Target).wf = true ∧ (Lit.int .i64 y.End).wf = true ∧ True
theorem rd_67 : RD Try.prog 67 (GSlot.c) (GSlot.ok) := by
  have h := RD.struct (t := 67) (fs := [(3, 1), (26, 1), (26, 1), (3, 1)]) (by kernel_rfl) (RDF.cons rd_3 (RDF.cons rd_26 (RDF.cons rd_26 (RDF.cons rd_3 RDF.nil))))
  refine RD.map (d := GSlot.c) (W2 := GSlot.ok) ?f ?c ?w h
  case f => exact fun x => ⟨x.1, x.2.1, x.2.2.1, x.2.2.2.1⟩
  case c => exact fun _ => rfl
  case w => exact fun _ h => h
theorem rv_67 : RDV Try.prog 67 (fun x => .agg (GSlot.c x)) (GSlot.ok) := RDV.agg (by kernel_rfl) rd_67
theorem rd_58 : RD Try.prog 58 (fun l => [slL 4 GSlot.c default l]) (fun x => (x.length ≤ maxLen ∧ ∀ z0 ∈ x, GSlot.ok z0)) := RD.slice (c := GSlot.c) Try.underlying58 (show Try.prog.cellsOf 67 = 4 by kernel_rfl) (by decide) (fun _ => rfl) rd_67
theorem rv_58 : RDV Try.prog 58 (fun l => slL 4 GSlot.c default l) (fun x => (x.length ≤ maxLen ∧ ∀ z0 ∈ x, GSlot.ok z0)) := RDV.cell (by kernel_rfl) rd_58
def GProcess.ok (y : GProcess) : Prop := (Lit.int .i64 y.State).wf = true ∧ (Lit.int .u64 y.Parent).wf = true ∧ (y.Children.length ≤ maxLen ∧ ∀ z0 ∈ y.Children, (Lit.int .u64 z0).wf = true) ∧ GProgram.ok y.Program ∧ GCPU.ok y.CPU ∧ (y.Pages.length ≤ maxLen ∧ ∀ z0 ∈ y.Pages, GPageRef.ok z0) ∧ (y.Table.length ≤ maxLen ∧ ∀ z0 ∈ y.Table, GSlot.ok z0) ∧ (Lit.int .i64 y.Pending).wf = true ∧ (Lit.int .i64 y.Alarm).wf = true ∧ (Lit.int .i64 y.Status).wf = true ∧ True
theorem rd_60 : RD Try.prog 60 (GProcess.c) (GProcess.ok) := by
  have h := RD.struct (t := 60) (fs := [(3, 1), (26, 1), (41, 1), (54, 3), (57, 9), (24, 1), (58, 1), (2, 1), (2, 1), (2, 1)]) (by kernel_rfl) (RDF.cons rd_3 (RDF.cons rd_26 (RDF.cons rd_41 (RDF.cons rd_54 (RDF.cons rd_57 (RDF.cons rd_24 (RDF.cons rd_58 (RDF.cons rd_2 (RDF.cons rd_2 (RDF.cons rd_2 RDF.nil))))))))))
  refine RD.map (d := GProcess.c) (W2 := GProcess.ok) ?f ?c ?w h
  case f => exact fun x => ⟨x.1, x.2.1, x.2.2.1, x.2.2.2.1, x.2.2.2.2.1, x.2.2.2.2.2.1, x.2.2.2.2.2.2.1, x.2.2.2.2.2.2.2.1, x.2.2.2.2.2.2.2.2.1, x.2.2.2.2.2.2.2.2.2.1⟩
  case c => exact fun _ => rfl
  case w => exact fun _ h => h
theorem rv_60 : RDV Try.prog 60 (fun x => .agg (GProcess.c x)) (GProcess.ok) := RDV.agg (by kernel_rfl) rd_60
theorem rd_38 : RD Try.prog 38 (fun l => [slL 1 (intC .i64) default l]) (fun x => (x.length ≤ maxLen ∧ ∀ z0 ∈ x, (Lit.int .i64 z0).wf = true)) := RD.slice (c := (intC .i64)) Try.underlying38 (show Try.prog.cellsOf 2 = 1 by kernel_rfl) (by decide) (fun _ => rfl) rd_2
theorem rv_38 : RDV Try.prog 38 (fun l => slL 1 (intC .i64) default l) (fun x => (x.length ≤ maxLen ∧ ∀ z0 ∈ x, (Lit.int .i64 z0).wf = true)) := RDV.cell (by kernel_rfl) rd_38
def A2Lu8.ok (y : A2Lu8) : Prop := (y.x0.length ≤ maxLen ∧ ∀ z0 ∈ y.x0, (Lit.int .u8 z0).wf = true) ∧ (y.x1.length ≤ maxLen ∧ ∀ z0 ∈ y.x1, (Lit.int .u8 z0).wf = true) ∧ True
theorem rd_61 : RD Try.prog 61 (A2Lu8.c) (A2Lu8.ok) := by
  have h := RD.struct (t := 61) (fs := [(22, 1), (22, 1)]) (by kernel_rfl) (RDF.cons rd_22 (RDF.cons rd_22 RDF.nil))
  refine RD.map (d := A2Lu8.c) (W2 := A2Lu8.ok) ?f ?c ?w h
  case f => exact fun x => ⟨x.1, x.2.1⟩
  case c => exact fun _ => rfl
  case w => exact fun _ h => h
theorem rv_61 : RDV Try.prog 61 (fun x => .agg (A2Lu8.c x)) (A2Lu8.ok) := RDV.agg (by kernel_rfl) rd_61
def A2i64.ok (y : A2i64) : Prop := (Lit.int .i64 y.x0).wf = true ∧ (Lit.int .i64 y.x1).wf = true ∧ True
theorem rd_62 : RD Try.prog 62 (A2i64.c) (A2i64.ok) := by
  have h := RD.struct (t := 62) (fs := [(3, 1), (3, 1)]) (by kernel_rfl) (RDF.cons rd_3 (RDF.cons rd_3 RDF.nil))
  refine RD.map (d := A2i64.c) (W2 := A2i64.ok) ?f ?c ?w h
  case f => exact fun x => ⟨x.1, x.2.1⟩
  case c => exact fun _ => rfl
  case w => exact fun _ h => h
theorem rv_62 : RDV Try.prog 62 (fun x => .agg (A2i64.c x)) (A2i64.ok) := RDV.agg (by kernel_rfl) rd_62
def GName.ok (y : GName) : Prop := y.Path.length ≤ maxLen ∧ (Lit.int .i64 y.Kind).wf = true ∧ (y.IDs.length ≤ maxLen ∧ ∀ z0 ∈ y.IDs, (Lit.int .u64 z0).wf = true) ∧ True
theorem rd_105 : RD Try.prog 105 (GName.c) (GName.ok) := by
  have h := RD.struct (t := 105) (fs := [(9, 1), (3, 1), (41, 1)]) (by kernel_rfl) (RDF.cons rd_9 (RDF.cons rd_3 (RDF.cons rd_41 RDF.nil)))
  refine RD.map (d := GName.c) (W2 := GName.ok) ?f ?c ?w h
  case f => exact fun x => ⟨x.1, x.2.1, x.2.2.1⟩
  case c => exact fun _ => rfl
  case w => exact fun _ h => h
theorem rv_105 : RDV Try.prog 105 (fun x => .agg (GName.c x)) (GName.ok) := RDV.agg (by kernel_rfl) rd_105
theorem rd_63 : RD Try.prog 63 (fun l => [slL 3 GName.c default l]) (fun x => (x.length ≤ maxLen ∧ ∀ z0 ∈ x, GName.ok z0)) := RD.slice (c := GName.c) Try.underlying63 (show Try.prog.cellsOf 105 = 3 by kernel_rfl) (by decide) (fun _ => rfl) rd_105
theorem rv_63 : RDV Try.prog 63 (fun l => slL 3 GName.c default l) (fun x => (x.length ≤ maxLen ∧ ∀ z0 ∈ x, GName.ok z0)) := RDV.cell (by kernel_rfl) rd_63
def GObject.ok (y : GObject) : Prop := (Lit.int .u64 y.ID).wf = true ∧ (Lit.int .i64 y.Kind).wf = true ∧ (Lit.int .i64 y.Refs).wf = true ∧ GProcess.ok y.Process ∧ (y.Words.length ≤ maxLen ∧ ∀ z0 ∈ y.Words, (Lit.int .i64 z0).wf = true) ∧ (y.Data.length ≤ maxLen ∧ ∀ z0 ∈ y.Data, (Lit.int .u8 z0).wf = true) ∧ (Lit.int .i64 y.Offset).wf = true ∧ (Lit.int .u64 y.Target).wf = true ∧ (Lit.int .i64 y.Readers).wf = true ∧ (Lit.int .i64 y.Writers).wf = true ∧ (y.Backlog.length ≤ maxLen ∧ ∀ z0 ∈ y.Backlog, (Lit.int .u64 z0).wf = true) ∧ A2Lu8.ok y.Queues ∧ A2i64.ok y.Ends ∧ (Lit.int .i64 y.Count).wf = true ∧ (y.Names.length ≤ maxLen ∧ ∀ z0 ∈ y.Names, GName.ok z0) ∧ True
theorem rd_65 : RD Try.prog 65 (GObject.c) (GObject.ok) := by
  have h := RD.struct (t := 65) (fs := [(26, 1), (3, 1), (3, 1), (60, 20), (38, 1), (22, 1), (3, 1), (26, 1), (3, 1), (3, 1), (41, 1), (61, 2), (62, 2), (2, 1), (63, 1)]) (by kernel_rfl) (RDF.cons rd_26 (RDF.cons rd_3 (RDF.cons rd_3 (RDF.cons rd_60 (RDF.cons rd_38 (RDF.cons rd_22 (RDF.cons rd_3 (RDF.cons rd_26 (RDF.cons rd_3 (RDF.cons rd_3 (RDF.cons rd_41 (RDF.cons rd_61 (RDF.cons rd_62 (RDF.cons rd_2 (RDF.cons rd_63 RDF.nil)))))))))))))))
  refine RD.map (d := GObject.c) (W2 := GObject.ok) ?f ?c ?w h
  case f => exact fun x => ⟨x.1, x.2.1, x.2.2.1, x.2.2.2.1, x.2.2.2.2.1, x.2.2.2.2.2.1, x.2.2.2.2.2.2.1, x.2.2.2.2.2.2.2.1, x.2.2.2.2.2.2.2.2.1, x.2.2.2.2.2.2.2.2.2.1, x.2.2.2.2.2.2.2.2.2.2.1, x.2.2.2.2.2.2.2.2.2.2.2.1, x.2.2.2.2.2.2.2.2.2.2.2.2.1, x.2.2.2.2.2.2.2.2.2.2.2.2.2.1, x.2.2.2.2.2.2.2.2.2.2.2.2.2.2.1⟩
  case c => exact fun _ => rfl
  case w => exact fun _ h => h
theorem rv_65 : RDV Try.prog 65 (fun x => .agg (GObject.c x)) (GObject.ok) := RDV.agg (by kernel_rfl) rd_65
end Go.Proofs.Ytbahpkjfgoeohaa
