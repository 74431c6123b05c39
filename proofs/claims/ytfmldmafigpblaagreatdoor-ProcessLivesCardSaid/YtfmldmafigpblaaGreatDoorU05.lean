/- Part 5: Read, Base, Ref06, Blank, Fin, Fin2, Clone, Dice, MadeA, MadeB, MadeC, MadeD, MadeP, Signal, SigEq, Alarm, Space. -/
import Derived.Test.YtfmldmafigpblaaGreatDoorU03
import Derived.Test.YtfmldmafigpblaaGreatDoorU04
section
namespace Go.Proofs.YtfmldmafigpblaaGreatDoor
open Go.Lift
set_option linter.unusedSimpArgs false
set_option linter.unusedVariables false
set_option maxRecDepth 100000
theorem Tryz.own : ownKnob Tryz.prog.godebug = none := by kernel_rfl
theorem Tryz.laidOut : laidOutB Tryz.prog = true := by kernel_rfl
theorem rd_22 : RD Tryz.prog 22 ((intC .u64)) (fun x => (Lit.int .u64 x).wf = true) := RD.int Tryz.underlying22
theorem rv_22 : RDV Tryz.prog 22 (fun n => .int .u64 n) (fun x => (Lit.int .u64 x).wf = true) := RDV.cell (by kernel_rfl) rd_22
theorem rd_3 : RD Tryz.prog 3 ((intC .i64)) (fun x => (Lit.int .i64 x).wf = true) := RD.int Tryz.underlying3
theorem rd_23 : RD Tryz.prog 23 (fun l => [slL 1 (intC .u64) default l]) (fun x => (x.length ≤ maxLen ∧ ∀ z0 ∈ x, (Lit.int .u64 z0).wf = true)) := RD.slice (c := (intC .u64)) Tryz.underlying23 (show Tryz.prog.cellsOf 22 = 1 by kernel_rfl) (by decide) (fun _ => rfl) rd_22
theorem rv_23 : RDV Tryz.prog 23 (fun l => slL 1 (intC .u64) default l) (fun x => (x.length ≤ maxLen ∧ ∀ z0 ∈ x, (Lit.int .u64 z0).wf = true)) := RDV.cell (by kernel_rfl) rd_23
def GInstr.ok (y : GInstr) : Prop := (Lit.int .i64 y.Op).wf = true ∧ (Lit.int .i64 y.A).wf = true ∧ (Lit.int .i64 y.B).wf = true ∧ (Lit.int .i64 y.C).wf = true ∧ True
theorem rd_106 : RD Tryz.prog 106 (GInstr.c) (GInstr.ok) := by
  have h := RD.struct (t := 106) (fs := [(3, 1), (3, 1), (3, 1), (3, 1)]) (by kernel_rfl) (RDF.cons rd_3 (RDF.cons rd_3 (RDF.cons rd_3 (RDF.cons rd_3 RDF.nil))))
  refine RD.map (d := GInstr.c) (W2 := GInstr.ok) ?f ?c ?w h
  case f => exact fun x => ⟨x.1, x.2.1, x.2.2.1, x.2.2.2.1⟩
  case c => exact fun _ => rfl
  case w => exact fun _ h => h
theorem rd_24 : RD Tryz.prog 24 (fun l => [slL 4 GInstr.c default l]) (fun x => (x.length ≤ maxLen ∧ ∀ z0 ∈ x, GInstr.ok z0)) := RD.slice (c := GInstr.c) Tryz.underlying24 (show Tryz.prog.cellsOf 106 = 4 by kernel_rfl) (by decide) (fun _ => rfl) rd_106
theorem rd_9 : RD Tryz.prog 9 (strC) (fun x => x.length ≤ maxLen) := RD.str Tryz.underlying9
theorem rd_25 : RD Tryz.prog 25 (fun l => [slL 1 strC default l]) (fun x => (x.length ≤ maxLen ∧ ∀ z0 ∈ x, z0.length ≤ maxLen)) := RD.slice (c := strC) Tryz.underlying25 (show Tryz.prog.cellsOf 9 = 1 by kernel_rfl) (by decide) (fun _ => rfl) rd_9
def GProgram.ok (y : GProgram) : Prop := (y.Code.length ≤ maxLen ∧ ∀ z0 ∈ y.Code, GInstr.ok z0) ∧ (y.Strings.length ≤ maxLen ∧ ∀ z0 ∈ y.Strings, z0.length ≤ maxLen) ∧ (Lit.int .i64 y.Pages).wf = true ∧ True
theorem rd_27 : RD Tryz.prog 27 (GProgram.c) (GProgram.ok) := by
  have h := RD.struct (t := 27) (fs := [(24, 1), (25, 1), (3, 1)]) (by kernel_rfl) (RDF.cons rd_24 (RDF.cons rd_25 (RDF.cons rd_3 RDF.nil)))
  refine RD.map (d := GProgram.c) (W2 := GProgram.ok) ?f ?c ?w h
  case f => exact fun x => ⟨x.1, x.2.1, x.2.2.1⟩
  case c => exact fun _ => rfl
  case w => exact fun _ h => h
theorem rv_27 : RDV Tryz.prog 27 (fun x => .agg (GProgram.c x)) (GProgram.ok) := RDV.agg (by kernel_rfl) rd_27
theorem rd_2 : RD Tryz.prog 2 ((intC .i64)) (fun x => (Lit.int .i64 x).wf = true) := RD.int Tryz.underlying2
theorem rv_2 : RDV Tryz.prog 2 (fun n => .int .i64 n) (fun x => (Lit.int .i64 x).wf = true) := RDV.cell (by kernel_rfl) rd_2
def A8i64.ok (y : A8i64) : Prop := (Lit.int .i64 y.x0).wf = true ∧ (Lit.int .i64 y.x1).wf = true ∧ (Lit.int .i64 y.x2).wf = true ∧ (Lit.int .i64 y.x3).wf = true ∧ (Lit.int .i64 y.x4).wf = true ∧ (Lit.int .i64 y.x5).wf = true ∧ (Lit.int .i64 y.x6).wf = true ∧ (Lit.int .i64 y.x7).wf = true ∧ True
theorem rd_28 : RD Tryz.prog 28 (A8i64.c) (A8i64.ok) := by
  have h := RD.struct (t := 28) (fs := [(2, 1), (2, 1), (2, 1), (2, 1), (2, 1), (2, 1), (2, 1), (2, 1)]) (by kernel_rfl) (RDF.cons rd_2 (RDF.cons rd_2 (RDF.cons rd_2 (RDF.cons rd_2 (RDF.cons rd_2 (RDF.cons rd_2 (RDF.cons rd_2 (RDF.cons rd_2 RDF.nil))))))))
  refine RD.map (d := A8i64.c) (W2 := A8i64.ok) ?f ?c ?w h
  case f => exact fun x => ⟨x.1, x.2.1, x.2.2.1, x.2.2.2.1, x.2.2.2.2.1, x.2.2.2.2.2.1, x.2.2.2.2.2.2.1, x.2.2.2.2.2.2.2.1⟩
  case c => exact fun _ => rfl
  case w => exact fun _ h => h
def GCPU.ok (y : GCPU) : Prop := (Lit.int .i64 y.PC).wf = true ∧ A8i64.ok y.Regs ∧ True
theorem rd_30 : RD Tryz.prog 30 (GCPU.c) (GCPU.ok) := by
  have h := RD.struct (t := 30) (fs := [(3, 1), (28, 8)]) (by kernel_rfl) (RDF.cons rd_3 (RDF.cons rd_28 RDF.nil))
  refine RD.map (d := GCPU.c) (W2 := GCPU.ok) ?f ?c ?w h
  case f => exact fun x => ⟨x.1, x.2.1⟩
  case c => exact fun _ => rfl
  case w => exact fun _ h => h
theorem rd_4 : RD Tryz.prog 4 (boolC) (fun x => True) := RD.bool Tryz.underlying4
theorem rv_4 : RDV Tryz.prog 4 (fun b => .bool b) (fun x => True) := RDV.cell (by kernel_rfl) rd_4
def GPageRef.ok (y : GPageRef) : Prop := (Lit.int .u64 y.ID).wf = true ∧ True ∧ True
theorem rd_85 : RD Tryz.prog 85 (GPageRef.c) (GPageRef.ok) := by
  have h := RD.struct (t := 85) (fs := [(22, 1), (4, 1)]) (by kernel_rfl) (RDF.cons rd_22 (RDF.cons rd_4 RDF.nil))
  refine RD.map (d := GPageRef.c) (W2 := GPageRef.ok) ?f ?c ?w h
  case f => exact fun x => ⟨x.1, x.2.1⟩
  case c => exact fun _ => rfl
  case w => exact fun _ h => h
theorem rd_31 : RD Tryz.prog 31 (fun l => [slL 2 GPageRef.c default l]) (fun x => (x.length ≤ maxLen ∧ ∀ z0 ∈ x, GPageRef.ok z0)) := RD.slice (c := GPageRef.c) Tryz.underlying31 (show Tryz.prog.cellsOf 85 = 2 by kernel_rfl) (by decide) (fun _ => rfl) rd_85
def GSlot.ok (y : GSlot) : Prop := (Lit.int .i64 y.Kind).wf = true ∧ (Lit.int .u64 y.Description).wf = true ∧ (Lit.int .u64 y.Target).wf = true ∧ (Lit.int .i64 y.End).wf = true ∧ True
theorem rd_108 : RD Tryz.prog 108 (GSlot.c) (GSlot.ok) := by
  have h := RD.struct (t := 108) (fs := [(3, 1), (22, 1), (22, 1), (3, 1)]) (by kernel_rfl) (RDF.cons rd_3 (RDF.cons rd_22 (RDF.cons rd_22 (RDF.cons rd_3 RDF.nil))))
  refine RD.map (d := GSlot.c) (W2 := GSlot.ok) ?f ?c ?w h
  case f => exact fun x => ⟨x.1, x.2.1, x.2.2.1, x.2.2.2.1⟩
  case c => exact fun _ => rfl
  case w => exact fun _ h => h
theorem rd_32 : RD Tryz.prog 32 (fun l => [slL 4 GSlot.c default l]) (fun x => (x.length ≤ maxLen ∧ ∀ z0 ∈ x, GSlot.ok z0)) := RD.slice (c := GSlot.c) Tryz.underlying32 (show Tryz.prog.cellsOf 108 = 4 by kernel_rfl) (by decide) (fun _ => rfl) rd_108
def GProcess.ok (y : GProcess) : Prop := (Lit.int .i64 y.State).wf = true ∧ (Lit.int .u64 y.Parent).wf = true ∧ (y.Children.length ≤ maxLen ∧ ∀ z0 ∈ y.Children, (Lit.int .u64 z0).wf = true) ∧ GProgram.ok y.Program ∧ GCPU.ok y.CPU ∧ (y.Pages.length ≤ maxLen ∧ ∀ z0 ∈ y.Pages, GPageRef.ok z0) ∧ (y.Table.length ≤ maxLen ∧ ∀ z0 ∈ y.Table, GSlot.ok z0) ∧ (Lit.int .i64 y.Pending).wf = true ∧ (Lit.int .i64 y.Alarm).wf = true ∧ (Lit.int .i64 y.Status).wf = true ∧ True
theorem rd_34 : RD Tryz.prog 34 (GProcess.c) (GProcess.ok) := by
  have h := RD.struct (t := 34) (fs := [(3, 1), (22, 1), (23, 1), (27, 3), (30, 9), (31, 1), (32, 1), (2, 1), (2, 1), (2, 1)]) (by kernel_rfl) (RDF.cons rd_3 (RDF.cons rd_22 (RDF.cons rd_23 (RDF.cons rd_27 (RDF.cons rd_30 (RDF.cons rd_31 (RDF.cons rd_32 (RDF.cons rd_2 (RDF.cons rd_2 (RDF.cons rd_2 RDF.nil))))))))))
  refine RD.map (d := GProcess.c) (W2 := GProcess.ok) ?f ?c ?w h
  case f => exact fun x => ⟨x.1, x.2.1, x.2.2.1, x.2.2.2.1, x.2.2.2.2.1, x.2.2.2.2.2.1, x.2.2.2.2.2.2.1, x.2.2.2.2.2.2.2.1, x.2.2.2.2.2.2.2.2.1, x.2.2.2.2.2.2.2.2.2.1⟩
  case c => exact fun _ => rfl
  case w => exact fun _ h => h
theorem rd_35 : RD Tryz.prog 35 (fun l => [slL 1 (intC .i64) default l]) (fun x => (x.length ≤ maxLen ∧ ∀ z0 ∈ x, (Lit.int .i64 z0).wf = true)) := RD.slice (c := (intC .i64)) Tryz.underlying35 (show Tryz.prog.cellsOf 2 = 1 by kernel_rfl) (by decide) (fun _ => rfl) rd_2
theorem rd_5 : RD Tryz.prog 5 ((intC .u8)) (fun x => (Lit.int .u8 x).wf = true) := RD.int Tryz.underlying5
theorem rd_36 : RD Tryz.prog 36 (fun l => [slL 1 (intC .u8) default l]) (fun x => (x.length ≤ maxLen ∧ ∀ z0 ∈ x, (Lit.int .u8 z0).wf = true)) := RD.slice (c := (intC .u8)) Tryz.underlying36 (show Tryz.prog.cellsOf 5 = 1 by kernel_rfl) (by decide) (fun _ => rfl) rd_5
theorem rv_36 : RDV Tryz.prog 36 (fun l => slL 1 (intC .u8) default l) (fun x => (x.length ≤ maxLen ∧ ∀ z0 ∈ x, (Lit.int .u8 z0).wf = true)) := RDV.cell (by kernel_rfl) rd_36
def A2Lu8.ok (y : A2Lu8) : Prop := (y.x0.length ≤ maxLen ∧ ∀ z0 ∈ y.x0, (Lit.int .u8 z0).wf = true) ∧ (y.x1.length ≤ maxLen ∧ ∀ z0 ∈ y.x1, (Lit.int .u8 z0).wf = true) ∧ True
theorem rd_37 : RD Tryz.prog 37 (A2Lu8.c) (A2Lu8.ok) := by
  have h := RD.struct (t := 37) (fs := [(36, 1), (36, 1)]) (by kernel_rfl) (RDF.cons rd_36 (RDF.cons rd_36 RDF.nil))
  refine RD.map (d := A2Lu8.c) (W2 := A2Lu8.ok) ?f ?c ?w h
  case f => exact fun x => ⟨x.1, x.2.1⟩
  case c => exact fun _ => rfl
  case w => exact fun _ h => h
def A2i64.ok (y : A2i64) : Prop := (Lit.int .i64 y.x0).wf = true ∧ (Lit.int .i64 y.x1).wf = true ∧ True
theorem rd_38 : RD Tryz.prog 38 (A2i64.c) (A2i64.ok) := by
  have h := RD.struct (t := 38) (fs := [(3, 1), (3, 1)]) (by kernel_rfl) (RDF.cons rd_3 (RDF.cons rd_3 RDF.nil))
  refine RD.map (d := A2i64.c) (W2 := A2i64.ok) ?f ?c ?w h
  case f => exact fun x => ⟨x.1, x.2.1⟩
  case c => exact fun _ => rfl
  case w => exact fun _ h => h
def GName.ok (y : GName) : Prop := y.Path.length ≤ maxLen ∧ (Lit.int .i64 y.Kind).wf = true ∧ (y.IDs.length ≤ maxLen ∧ ∀ z0 ∈ y.IDs, (Lit.int .u64 z0).wf = true) ∧ True
theorem rd_70 : RD Tryz.prog 70 (GName.c) (GName.ok) := by
  have h := RD.struct (t := 70) (fs := [(9, 1), (3, 1), (23, 1)]) (by kernel_rfl) (RDF.cons rd_9 (RDF.cons rd_3 (RDF.cons rd_23 RDF.nil)))
  refine RD.map (d := GName.c) (W2 := GName.ok) ?f ?c ?w h
  case f => exact fun x => ⟨x.1, x.2.1, x.2.2.1⟩
  case c => exact fun _ => rfl
  case w => exact fun _ h => h
theorem rd_39 : RD Tryz.prog 39 (fun l => [slL 3 GName.c default l]) (fun x => (x.length ≤ maxLen ∧ ∀ z0 ∈ x, GName.ok z0)) := RD.slice (c := GName.c) Tryz.underlying39 (show Tryz.prog.cellsOf 70 = 3 by kernel_rfl) (by decide) (fun _ => rfl) rd_70
def GObject.ok (y : GObject) : Prop := (Lit.int .u64 y.ID).wf = true ∧ (Lit.int .i64 y.Kind).wf = true ∧ (Lit.int .i64 y.Refs).wf = true ∧ GProcess.ok y.Process ∧ (y.Words.length ≤ maxLen ∧ ∀ z0 ∈ y.Words, (Lit.int .i64 z0).wf = true) ∧ (y.Data.length ≤ maxLen ∧ ∀ z0 ∈ y.Data, (Lit.int .u8 z0).wf = true) ∧ (Lit.int .i64 y.Offset).wf = true ∧ (Lit.int .u64 y.Target).wf = true ∧ (Lit.int .i64 y.Readers).wf = true ∧ (Lit.int .i64 y.Writers).wf = true ∧ (y.Backlog.length ≤ maxLen ∧ ∀ z0 ∈ y.Backlog, (Lit.int .u64 z0).wf = true) ∧ A2Lu8.ok y.Queues ∧ A2i64.ok y.Ends ∧ (Lit.int .i64 y.Count).wf = true ∧ (y.Names.length ≤ maxLen ∧ ∀ z0 ∈ y.Names, GName.ok z0) ∧ True
theorem rd_41 : RD Tryz.prog 41 (GObject.c) (GObject.ok) := by
  have h := RD.struct (t := 41) (fs := [(22, 1), (3, 1), (3, 1), (34, 20), (35, 1), (36, 1), (3, 1), (22, 1), (3, 1), (3, 1), (23, 1), (37, 2), (38, 2), (2, 1), (39, 1)]) (by kernel_rfl) (RDF.cons rd_22 (RDF.cons rd_3 (RDF.cons rd_3 (RDF.cons rd_34 (RDF.cons rd_35 (RDF.cons rd_36 (RDF.cons rd_3 (RDF.cons rd_22 (RDF.cons rd_3 (RDF.cons rd_3 (RDF.cons rd_23 (RDF.cons rd_37 (RDF.cons rd_38 (RDF.cons rd_2 (RDF.cons rd_39 RDF.nil)))))))))))))))
  refine RD.map (d := GObject.c) (W2 := GObject.ok) ?f ?c ?w h
  case f => exact fun x => ⟨x.1, x.2.1, x.2.2.1, x.2.2.2.1, x.2.2.2.2.1, x.2.2.2.2.2.1, x.2.2.2.2.2.2.1, x.2.2.2.2.2.2.2.1, x.2.2.2.2.2.2.2.2.1, x.2.2.2.2.2.2.2.2.2.1, x.2.2.2.2.2.2.2.2.2.2.1, x.2.2.2.2.2.2.2.2.2.2.2.1, x.2.2.2.2.2.2.2.2.2.2.2.2.1, x.2.2.2.2.2.2.2.2.2.2.2.2.2.1, x.2.2.2.2.2.2.2.2.2.2.2.2.2.2.1⟩
  case c => exact fun _ => rfl
  case w => exact fun _ h => h
theorem rv_41 : RDV Tryz.prog 41 (fun x => .agg (GObject.c x)) (GObject.ok) := RDV.agg (by kernel_rfl) rd_41
end Go.Proofs.YtfmldmafigpblaaGreatDoor
end
section
namespace Go.Proofs.YtfmldmafigpblaaGreatDoor
open Go.Lift
set_option linter.unusedSimpArgs false
set_option linter.unusedVariables false
set_option maxRecDepth 10000
theorem Tryz.follows : Tryz.prog.follows .mixedOrders = true := by kernel_rfl
theorem fol : Tryz.prog.follows .mixedOrders = true := Tryz.follows
theorem len0 {α : Type} (l : List α) : ((l.length : Int) == 0) = l.isEmpty := by
  cases l with
  | nil => rfl
  | cons a l => simp; omega
theorem lenP {α : Type} (l : List α) : decide (0 < (l.length : Int)) = !l.isEmpty := by cases l <;> simp
theorem bne_eq (a b : Int) : (a != b) = !(a == b) := rfl
def smallP (p : GProcess) : Prop := p.Children.length ≤ 1000000 ∧ p.Program.Code.length ≤ 1000000 ∧ p.Program.Strings.length ≤ 1000000 ∧ p.Pages.length ≤ 1000000 ∧ p.Table.length ≤ 1000000
def smallO (o : GObject) : Prop := smallP o.Process ∧ o.Words.length ≤ 1000000 ∧ o.Data.length ≤ 1000000 ∧ o.Backlog.length ≤ 1000000 ∧ o.Queues.x0.length ≤ 1000000 ∧ o.Queues.x1.length ≤ 1000000 ∧ o.Names.length ≤ 1000000 ∧
  (∀ n ∈ o.Names, n.IDs.length ≤ 1000000 ∧ n.Path.length ≤ 1000000)
def restB (p : GProcess) : Bool := p.Children.isEmpty && p.Program.Code.isEmpty && p.Program.Strings.isEmpty && p.Pages.isEmpty && p.Table.isEmpty && p.Program.Pages == 0 && p.CPU == default && p.Pending == 0 && p.Alarm == 0
def blankP (p : GProcess) : Bool := p.State == 0 && p.Parent == 0 && p.Status == 0 && restB p
theorem take_eq_succ {α : Type} [Inhabited α] {a b : List α} {i : Nat} (h1 : i < a.length) (h2 : i < b.length) (h : a.take i = b.take i) (he : a.getD i default = b.getD i default) : a.take (i + 1) = b.take (i + 1) := by
  rw [List.take_succ_eq_append_getElem h1, List.take_succ_eq_append_getElem h2, h]
  simp [List.getD, h1, h2] at he
  rw [he]
theorem take_eq_all {α : Type} {a b : List α} (hl : a.length = b.length) (h : a.take a.length = b.take a.length) : a = b := by
  rw [List.take_length, hl, List.take_length] at h; exact h
theorem getD_ne {α : Type} [Inhabited α] {a b : List α} {i : Nat} (h : ¬a.getD i default = b.getD i default) : ¬a = b := fun e => h (e ▸ rfl)
theorem all_succ {α : Type} [Inhabited α] {l : List α} {p : α → Bool} {i : Nat} (hi : i < l.length) (h : (l.take i).all p = true) (hp : p (l.getD i default) = true) : (l.take (i + 1)).all p = true := by
  rw [List.take_succ_eq_append_getElem hi, List.all_append, h]
  simpa [List.getD, hi] using hp
theorem all_fail {α : Type} [Inhabited α] {l : List α} {p : α → Bool} {i : Nat} (hi : i < l.length) (hp : p (l.getD i default) = false) : l.all p = false := by
  apply Bool.eq_false_iff.2
  intro h
  have := List.all_eq_true.1 h l[i] (List.getElem_mem hi)
  simp [List.getD, hi] at hp
  rw [hp] at this; cases this
theorem getD_mem {α : Type} [Inhabited α] {l : List α} {i : Nat} (hi : i < l.length) : l.getD i default ∈ l := by
  rw [show l.getD i default = l[i] by simp [List.getD, hi]]; exact List.getElem_mem hi
end Go.Proofs.YtfmldmafigpblaaGreatDoor
end
section
namespace Go.Proofs.YtfmldmafigpblaaGreatDoor
open Go.Lift
set_option linter.unusedSimpArgs false
set_option linter.unusedVariables false
set_option maxRecDepth 10000


theorem ec_ref06_blank (p : GProcess) : EC Tryz.prog 75 [.agg p.c] [] fun r B => B = [] ∧ r = .bool (blankP p) := by
  refine EC.fin (nA E_ok call_75 Tryz.func75 Tryz.ntmps75 Tryz.results75 ?_)
  (repeat (first | refine stepA ?_ | refine regA E_ok fun fr => ⟨?_⟩))
  ((try refine sC ?_); refine sF ?_; refine SLe.of_eq ?_; (simp only [len0]; congr 1; simp only [blankP, restB]; ac_rfl))
def bareB (o : GObject) : Bool := o.Refs == 0 && o.Words.isEmpty && o.Data.isEmpty && o.Offset == 0 && o.Target == 0 && o.Readers == 0 && o.Writers == 0 && o.Backlog.isEmpty && o.Queues.x0.isEmpty && o.Queues.x1.isEmpty && o.Ends == default && o.Count == 0 && o.Names.isEmpty && blankP o.Process
theorem ec_ref06_Bare (o : GObject) : EC Tryz.prog 49 [.agg o.c] [] fun r B => B = [] ∧ r = .bool (bareB o) := by
  refine EC.fin (nA E_ok call_49 Tryz.func49 Tryz.ntmps49 Tryz.results49 ?_)
  have c := ec_ref06_blank o.Process
  (repeat (first | refine stepA ?_ | refine regA E_ok fun fr => ⟨?_⟩))
  (try refine regA E_ok fun fr => ⟨?_⟩)

  refine ⟨fun hg => ?_, fun hg => ?_⟩
  · (refine EC.use (c) ?_; (try simp only [hg]); refine gA E_ok fun fr => ⟨?_⟩)
    (repeat (first | refine stepA ?_ | refine regA E_ok fun fr => ⟨?_⟩))
    ((try refine sC ?_); refine sF ?_; refine SLe.of_eq ?_; (simp only [len0] at hg ⊢; simp only [bareB, hg, Bool.true_and]))
  · ((try simp only [hg]); refine gA E_ok fun fr => ⟨?_⟩)
    (repeat (first | refine stepA ?_ | refine regA E_ok fun fr => ⟨?_⟩))
    ((try refine sC ?_); refine sF ?_; refine SLe.of_eq ?_; (simp only [len0] at hg ⊢; simp only [bareB, hg, Bool.false_and]))
end Go.Proofs.YtfmldmafigpblaaGreatDoor
end
section
namespace Go.Proofs.YtfmldmafigpblaaGreatDoor
open Go.Lift
set_option linter.unusedSimpArgs false
set_option linter.unusedVariables false
set_option maxRecDepth 10000
theorem ec_blank_Rest (p : GProcess) (hp : smallP p) : EC Tryz.prog 45 [.agg p.c] [] fun r B => B = [] ∧ r = .bool (restB p) := by
  obtain ⟨h1, h2, h3, h4, h5⟩ := hp
  refine EC.fin (nA E_ok call_45 Tryz.func45 Tryz.ntmps45 Tryz.results45 ?_)
  (repeat (first | refine stepA ?_ | refine regA E_ok fun fr => ⟨?_⟩))
  have e : ((p.Children.length : Int) + p.Program.Code.length + p.Program.Strings.length + p.Pages.length + p.Table.length == 0) = (p.Children.isEmpty && p.Program.Code.isEmpty && p.Program.Strings.isEmpty && p.Pages.isEmpty && p.Table.isEmpty) := by
    apply Bool.eq_iff_iff.2
    simp only [← len0, Bool.and_eq_true, beq_iff_eq]
    omega
  ((try refine sC ?_); refine sF ?_; refine SLe.of_eq ?_; (rw [e]; (try rfl)))
theorem ec_blank_None (p : GProcess) (hp : smallP p) : EC Tryz.prog 69 [.agg p.c] [] fun r B => B = [] ∧ r = .bool (blankP p) := by
  refine EC.fin (nA E_ok call_69 Tryz.func69 Tryz.ntmps69 Tryz.results69 ?_)
  have c := ec_blank_Rest p hp
  (repeat (first | refine stepA ?_ | refine regA E_ok fun fr => ⟨?_⟩))
  (try refine regA E_ok fun fr => ⟨?_⟩)
  refine ⟨fun hg => ?_, fun hg => ?_⟩
  · (refine EC.use (c) ?_; (try simp only [hg]); refine gA E_ok fun fr => ⟨?_⟩)
    (repeat (first | refine stepA ?_ | refine regA E_ok fun fr => ⟨?_⟩))
    ((try refine sC ?_); refine sF ?_; refine SLe.of_eq ?_; simp [blankP, hg])
  · ((try simp only [hg]); refine gA E_ok fun fr => ⟨?_⟩)
    (repeat (first | refine stepA ?_ | refine regA E_ok fun fr => ⟨?_⟩))
    ((try refine sC ?_); refine sF ?_; refine SLe.of_eq ?_; simp [blankP, hg])
def mk (b : Bool) (m s : Int) : Int := if b then bitI .or .i64 s m else s
theorem ec_mark (h : RowH) (b : Bool) (m s : Int) : EC Tryz.prog 68 [.int .i64 m, .bool b, .rptr 0 h 1 0 0] [.row h 3 1 [[.int .i64 s]]] fun r B => r = .tup [] ∧ B = [.row h 3 1 [[.int .i64 (mk b m s)]]] := by
  refine EC.close 1 (nA E_ok call_68 Tryz.func68 Tryz.ntmps68 Tryz.results68 ?_)
  (repeat (first | refine stepA ?_ | refine regA E_ok fun fr => ⟨?_⟩))
  (apply EV_cond; exact rfl; all_goals intro h)
  · (repeat (first | refine stepA ?_ | refine regA E_ok fun fr => ⟨?_⟩))
    (try refine sC ?_)
    exact ⟨trivial, rfl, by rw [h]; rfl⟩
  · (repeat (first | refine stepA ?_ | refine regA E_ok fun fr => ⟨?_⟩))
    (try refine sC ?_)
    exact ⟨trivial, rfl, by rw [h]; rfl⟩
def okB (u m : Int) (b : Bool) : Bool := !b || (bitI .andNot .i64 m u == 0)
def onlyB (o : GObject) (u : Int) : Bool :=
  okB u 1 (!(o.Refs == 0)) && okB u 2 (!blankP o.Process) && okB u 4 (!o.Words.isEmpty) && okB u 8 (!o.Data.isEmpty) && okB u 16 (!(o.Offset == 0)) && okB u 32 (!(o.Target == 0)) && okB u 64 (!(o.Readers == 0)) && okB u 128 (!(o.Writers == 0)) &&
  okB u 256 (!o.Backlog.isEmpty) && okB u 512 (!(o.Queues.x0.isEmpty && o.Queues.x1.isEmpty)) && okB u 1024 (!(o.Ends == default)) && okB u 2048 (!(o.Count == 0)) && okB u 4096 (!o.Names.isEmpty)
theorem ofInt_wrap (v : BitVec 64) : BitVec.ofInt 64 (IntKind.i64.wrap (v.toNat : Int)) = v := by
  have hv := v.isLt
  apply BitVec.eq_of_toInt_eq
  rw [BitVec.toInt_ofInt]
  simp only [IntKind.wrap, IntKind.bits, IntKind.signed, BitVec.toInt, Int.bmod, Bool.true_and, decide_eq_true_eq, Nat.reducePow, Int.reducePow, Nat.reduceSub] at hv ⊢
  split <;> split <;> split <;> omega
theorem wrap0 (v : BitVec 64) : (IntKind.i64.wrap (v.toNat : Int) == 0) = (v == 0#64) := by
  apply Bool.eq_iff_iff.2
  simp only [beq_iff_eq]
  constructor
  · intro h
    have := ofInt_wrap v
    rw [h] at this
    rw [← this]; rfl
  · rintro rfl; rfl
theorem bitI_andNot (x u : Int) : bitI .andNot .i64 x u = IntKind.i64.wrap (((BitVec.ofInt 64 x &&& ~~~BitVec.ofInt 64 u).toNat : Nat) : Int) := rfl
theorem bitI_or (x u : Int) : bitI .or .i64 x u = IntKind.i64.wrap (((BitVec.ofInt 64 x ||| BitVec.ofInt 64 u).toNat : Nat) : Int) := rfl
theorem andNot0 (u : Int) : (bitI .andNot .i64 0 u == 0) = true := by
  rw [bitI_andNot, wrap0, show BitVec.ofInt 64 0 = 0#64 from rfl]; simp
theorem mk_ok (b : Bool) (m s u : Int) : (bitI .andNot .i64 (mk b m s) u == 0) = ((bitI .andNot .i64 s u == 0) && okB u m b) := by
  cases b with
  | false => simp [mk, okB]
  | true =>
    simp only [mk, okB, if_true, Bool.not_true, Bool.false_or, bitI_andNot, bitI_or, wrap0, ofInt_wrap]
    apply Bool.eq_iff_iff.2
    simp only [beq_iff_eq, Bool.and_eq_true]
    generalize BitVec.ofInt 64 s = x
    generalize BitVec.ofInt 64 m = y
    generalize BitVec.ofInt 64 u = z
    have e : (x ||| y) &&& ~~~z = (x &&& ~~~z) ||| (y &&& ~~~z) := by
      ext i
      simp [Bool.and_or_distrib_right]
    rw [e, BitVec.or_eq_zero_iff]
theorem ec_blank_Only (o : GObject) (u : Int) (ho : smallO o) : EC Tryz.prog 43 [.agg o.c, .int .i64 u] [] fun r B => B = [] ∧ r = .bool (onlyB o u) := by
  obtain ⟨hp, h1, h2, h3, h4, h5, h6, h7⟩ := ho
  refine EC.fin (nA E_ok call_43 Tryz.func43 Tryz.ntmps43 Tryz.results43 ?_)
  have c := ec_blank_None o.Process hp
  (repeat (first | refine stepA ?_ | refine regA E_ok fun fr => ⟨?_⟩))
  (try refine regA E_ok fun fr => ⟨?_⟩)
  (refine aX 1 (ec_mark _ _ _ _) rfl ?_; (try simp only [hg]); refine gA E_ok fun fr => ⟨?_⟩)
  (repeat (first | refine stepA ?_ | refine regA E_ok fun fr => ⟨?_⟩))
  (try refine regA E_ok fun fr => ⟨?_⟩)
  (refine EC.use (c) ?_; (try simp only [hg]); refine gA E_ok fun fr => ⟨?_⟩)
  (refine aX 1 (ec_mark _ _ _ _) rfl ?_; (try simp only [hg]); refine gA E_ok fun fr => ⟨?_⟩)
  (repeat (first | refine stepA ?_ | refine regA E_ok fun fr => ⟨?_⟩))
  (try refine regA E_ok fun fr => ⟨?_⟩)
  (refine aX 1 (ec_mark _ _ _ _) rfl ?_; (try simp only [hg]); refine gA E_ok fun fr => ⟨?_⟩)
  (repeat (first | refine stepA ?_ | refine regA E_ok fun fr => ⟨?_⟩))
  (try refine regA E_ok fun fr => ⟨?_⟩)
  (refine aX 1 (ec_mark _ _ _ _) rfl ?_; (try simp only [hg]); refine gA E_ok fun fr => ⟨?_⟩)
  (repeat (first | refine stepA ?_ | refine regA E_ok fun fr => ⟨?_⟩))
  (try refine regA E_ok fun fr => ⟨?_⟩)
  (refine aX 1 (ec_mark _ _ _ _) rfl ?_; (try simp only [hg]); refine gA E_ok fun fr => ⟨?_⟩)
  (repeat (first | refine stepA ?_ | refine regA E_ok fun fr => ⟨?_⟩))
  (try refine regA E_ok fun fr => ⟨?_⟩)
  (refine aX 1 (ec_mark _ _ _ _) rfl ?_; (try simp only [hg]); refine gA E_ok fun fr => ⟨?_⟩)
  (repeat (first | refine stepA ?_ | refine regA E_ok fun fr => ⟨?_⟩))
  (try refine regA E_ok fun fr => ⟨?_⟩)
  (refine aX 1 (ec_mark _ _ _ _) rfl ?_; (try simp only [hg]); refine gA E_ok fun fr => ⟨?_⟩)
  (repeat (first | refine stepA ?_ | refine regA E_ok fun fr => ⟨?_⟩))
  (try refine regA E_ok fun fr => ⟨?_⟩)
  (refine aX 1 (ec_mark _ _ _ _) rfl ?_; (try simp only [hg]); refine gA E_ok fun fr => ⟨?_⟩)
  (repeat (first | refine stepA ?_ | refine regA E_ok fun fr => ⟨?_⟩))
  (try refine regA E_ok fun fr => ⟨?_⟩)
  (refine aX 1 (ec_mark _ _ _ _) rfl ?_; (try simp only [hg]); refine gA E_ok fun fr => ⟨?_⟩)
  (repeat (first | refine stepA ?_ | refine regA E_ok fun fr => ⟨?_⟩))
  (try refine regA E_ok fun fr => ⟨?_⟩)
  (refine aX 1 (ec_mark _ _ _ _) rfl ?_; (try simp only [hg]); refine gA E_ok fun fr => ⟨?_⟩)
  (repeat (first | refine stepA ?_ | refine regA E_ok fun fr => ⟨?_⟩))
  (try refine regA E_ok fun fr => ⟨?_⟩)
  (refine aX 1 (ec_mark _ _ _ _) rfl ?_; (try simp only [hg]); refine gA E_ok fun fr => ⟨?_⟩)
  (repeat (first | refine stepA ?_ | refine regA E_ok fun fr => ⟨?_⟩))
  (try refine regA E_ok fun fr => ⟨?_⟩)
  (refine aX 1 (ec_mark _ _ _ _) rfl ?_; (try simp only [hg]); refine gA E_ok fun fr => ⟨?_⟩)
  (repeat (first | refine stepA ?_ | refine regA E_ok fun fr => ⟨?_⟩))
  (try refine regA E_ok fun fr => ⟨?_⟩)
  (refine aX 1 (ec_mark _ _ _ _) rfl ?_; (try simp only [hg]); refine gA E_ok fun fr => ⟨?_⟩)
  (repeat (first | refine stepA ?_ | refine regA E_ok fun fr => ⟨?_⟩))
  have e1 : decide (0 < (o.Queues.x0.length : Int) + o.Queues.x1.length) = !(o.Queues.x0.isEmpty && o.Queues.x1.isEmpty) := by
    apply Bool.eq_iff_iff.2
    simp only [← len0, Bool.not_eq_true', Bool.and_eq_false_iff, decide_eq_true_eq, beq_eq_false_iff_ne]
    omega
  ((try refine sC ?_); refine sF ?_; refine SLe.of_eq ?_; (simp only [mk_ok, e1, lenP, bne, andNot0, Bool.true_and]; (try rfl)))
end Go.Proofs.YtfmldmafigpblaaGreatDoor
end
section
namespace Go.Proofs.YtfmldmafigpblaaGreatDoor
open Go.Lift
set_option linter.unusedSimpArgs false
set_option linter.unusedVariables false
variable {B : List Own}
def FzC (B : List Own) (s r : SV) : Prop := frzKC (fromM 0) B s ∧ SLe (frzC (fromM 0) B s) r
def FzL (B : List Own) (cs ds : List SV) : Prop := frzKL (fromM 0) B cs ∧ LLe (frzL (fromM 0) B cs) ds
def FzA (B : List Own) (s r : SV) : Prop := frzKA (fromM 0) B s ∧ SLe (frzA (fromM 0) B s) r
theorem FzC.row {α : Type} {i e n E : Nat} {h : RowH} {xs : List (List SV)} {cells : α → List SV} {d : α} {l : List α} (hB : getD' B i = .row h E e xs) (hx : xs = l.map cells) (hn : n = l.length) : FzC B (.row i h e 0 n) (slL e cells d l) := by
  subst hx hn
  unfold FzC
  simp only [frzKC, frzC, fromM, Nat.zero_le, decide_true, hB]
  refine ⟨⟨trivial, trivial, by simp⟩, SLe.sl (fun h => h) (.inr rfl) fun k hk => ?_⟩
  simp [List.getD, hk]
theorem FzC.part {α : Type} {i e lo n E : Nat} {h : RowH} {xs : List (List SV)} {cells : α → List SV} {d : α} {l m : List α} (hB : getD' B i = .row h E e xs) (hx : xs = l.map cells) (hn : n = m.length) (hm : (l.drop lo).take n = m) (hl : lo + n ≤ l.length) : FzC B (.row i h e lo n) (slL e cells d m) := by
  subst hx hn
  unfold FzC
  simp only [frzKC, frzC, fromM, Nat.zero_le, decide_true, hB]
  refine ⟨⟨trivial, trivial, by simpa using hl⟩, SLe.sl (fun h => h) (.inr rfl) fun k hk => ?_⟩
  have h1 : lo + k < l.length := by omega
  rw [show m.getD k d = m[k] by simp [List.getD, hk]]
  have h2 : m[k]? = l[lo + k]? := by rw [← hm]; simp [hk]
  rw [List.getElem?_eq_getElem hk, List.getElem?_eq_getElem h1] at h2
  simp only [Option.some.injEq] at h2
  simp [List.getD, h1, h2]
theorem FzC.nil {α : Type} {e e' : Nat} {fl : Bool} {cells : α → List SV} {d : α} {f : Nat → List SV} : FzC B (.sl fl e' 0 f) (slL e cells d []) := ⟨trivial, sle_nilL⟩
theorem FzC.sl {e n : Nat} {fl : Bool} {f : Nat → List SV} : FzC B (.sl fl e n f) (.sl fl e n f) := ⟨trivial, SLe.refl _⟩
theorem FzC.slL {α : Type} {e : Nat} {cells : α → List SV} {d : α} {l : List α} : FzC B (slL e cells d l) (slL e cells d l) := ⟨trivial, SLe.refl _⟩
theorem FzC.int {k : IntKind} {n : Int} : FzC B (.int k n) (.int k n) := ⟨trivial, SLe.refl _⟩
theorem FzL.obj {cs : List SV} (hk : ∀ sel B, frzKL sel B cs = True) (hz : ∀ sel B, frzL sel B cs = cs) : FzL B cs cs := ⟨by rw [hk]; trivial, by rw [hz]; exact LLe.refl _⟩
theorem FzL.put {cs ds r : List SV} {s s' : SV} (h : FzL B cs ds) (j : Nat) (hs : FzC B s s') (e : putL ds j [s'] = r) : FzL B (putL cs j [s]) r := by
  refine ⟨frzKL_put _ _ _ _ _ h.1 ⟨hs.1, trivial⟩, ?_⟩
  rw [frzL_put]
  exact LLe.put h.2 j hs.2 e
theorem FzA.agg {cs ds : List SV} (h : FzL B cs ds) : FzA B (.agg cs) (.agg ds) := ⟨h.1, SLe.agg h.2⟩
theorem FzA.int {k : IntKind} {n : Int} : FzA B (.int k n) (.int k n) := ⟨trivial, SLe.refl _⟩
theorem FzA.bool {b : Bool} : FzA B (.bool b) (.bool b) := ⟨trivial, SLe.refl _⟩
theorem FzA.row {α : Type} {i e n E : Nat} {h : RowH} {xs : List (List SV)} {cells : α → List SV} {d : α} {l : List α} (hB : getD' B i = .row h E e xs) (hx : xs = l.map cells) (hn : n = l.length) : FzA B (.row i h e 0 n) (slL e cells d l) := FzC.row hB hx hn
theorem FzA.part {α : Type} {i e lo n E : Nat} {h : RowH} {xs : List (List SV)} {cells : α → List SV} {d : α} {l m : List α} (hB : getD' B i = .row h E e xs) (hx : xs = l.map cells) (hn : n = m.length) (hm : (l.drop lo).take n = m) (hl : lo + n ≤ l.length) : FzA B (.row i h e lo n) (slL e cells d m) := FzC.part hB hx hn hm hl
theorem FzA.nil {α : Type} {e e' : Nat} {fl : Bool} {cells : α → List SV} {d : α} {f : Nat → List SV} : FzA B (.sl fl e' 0 f) (Go.Lift.slL e cells d []) := ⟨trivial, sle_nilL⟩
theorem FzA.slL {α : Type} {e : Nat} {cells : α → List SV} {d : α} {l : List α} : FzA B (Go.Lift.slL e cells d l) (Go.Lift.slL e cells d l) := ⟨trivial, SLe.refl _⟩
theorem fin_agg {cs ds : List SV} (h : FzL B cs ds) : frzKT (fromM 0) B (.agg cs) ∧ SLe (frzT (fromM 0) B (.agg cs)) (.agg ds) := ⟨h.1, SLe.agg h.2⟩
theorem fin_rowT {α : Type} {i e n E : Nat} {h : RowH} {xs : List (List SV)} {cells : α → List SV} {d : α} {l : List α} (hB : getD' B i = .row h E e xs) (hx : xs = l.map cells) (hn : n = l.length) : frzKT (fromM 0) B (.row i h e 0 n) ∧ SLe (frzT (fromM 0) B (.row i h e 0 n)) (Go.Lift.slL e cells d l) := FzC.row hB hx hn
theorem fin_t2 {a b c d : SV} (h1 : FzA B a c) (h2 : FzA B b d) : frzKT (fromM 0) B (.tup [a, b]) ∧ SLe (frzT (fromM 0) B (.tup [a, b])) (.tup [c, d]) := ⟨⟨h1.1, h2.1, trivial⟩, SLe.tup (.cons h1.2 (.cons h2.2 .nil))⟩
theorem fin_t3 {a b c d e f : SV} (h1 : FzA B a d) (h2 : FzA B b e) (h3 : FzA B c f) : frzKT (fromM 0) B (.tup [a, b, c]) ∧ SLe (frzT (fromM 0) B (.tup [a, b, c])) (.tup [d, e, f]) := ⟨⟨h1.1, h2.1, h3.1, trivial⟩, SLe.tup (.cons h1.2 (.cons h2.2 (.cons h3.2 .nil)))⟩
theorem FzL.O (x : GObject) : FzL B x.c x.c := FzL.obj (fun s B => by rw [GObject.fk]) (fun s B => by rw [GObject.fz])
theorem EC_pick {P : Program} {f : Nat} {args : List SV} {Q : SV → List Own → Prop} (i : Nat) (h : EC P f args [] fun r B' => ∃ r', SLe r r' ∧ Q r' [getD' B' i]) : EC P f args [] Q := by
  refine ⟨h.1, fun X w vs hs hd => (h.2 X w vs hs hd).mono ?_⟩
  rintro e w' ⟨v, r, X', B', he, ⟨r', hr, hq⟩, h1, h2, h3⟩
  have key : ∀ k, getD' [getD' B' i] k = if k = 0 then getD' B' i else .gone := fun k => getD'_one
  have kb : ∀ k b, b ∈ (getD' [getD' B' i] k).blocks → k = 0 ∧ b ∈ (getD' B' i).blocks := fun k b hb => by
    rw [key] at hb
    split at hb
    · exact ⟨by assumption, hb⟩
    · simp [Own.blocks] at hb
  exact ⟨v, r', X', _, he, hq, ⟨fun a b c h4 h5 => (kb a c h4).1.trans (kb b c h5).1.symm, fun a b h4 => h1.lt i b (kb a b h4).2, h1.xg, fun b hx ⟨a, ha⟩ => h1.apart b hx ⟨i, (kb a b ha).2⟩, fun a => by
      rw [key]; split
      · exact h1.ok i
      · trivial⟩, hr _ _ _ h2,
    ⟨h3.os, h3.tape, h3.output, h3.size, h3.block, h3.xin, h3.xout, fun b ⟨a, ha⟩ => h3.own b ⟨i, (kb a b ha).2⟩⟩⟩
end Go.Proofs.YtfmldmafigpblaaGreatDoor
end
section
namespace Go.Proofs.YtfmldmafigpblaaGreatDoor
open Go.Lift
set_option linter.unusedSimpArgs false
set_option linter.unusedVariables false
variable {B : List Own}
def Lt (B : List Own) (s r : SV) : Prop := frzKT (fromM 0) B s ∧ SLe (frzT (fromM 0) B s) r
theorem EC.finK {P : Program} {f : Nat} {args : List SV} {R : SV} (h : EC P f args [] fun r B' => Lt B' r R) : EC P f args [] fun r N => N = [] ∧ r = R := EC.fin h
theorem EC.finKP {P : Program} {f : Nat} {args : List SV} {σ : Type} {C : σ → Prop} {R : σ → SV} (h : EC P f args [] fun r B' => ∃ x, C x ∧ Lt B' r (R x)) : EC P f args [] fun r N => N = [] ∧ ∃ x, C x ∧ r = R x :=
  EC.finP (h.mono fun r B' ⟨x, h1, h2, h3⟩ => ⟨h2, x, h1, h3⟩)
theorem Lt.bool {p q : Bool} (h : p = q) : Lt B (.bool p) (.bool q) := by subst h; exact ⟨trivial, SLe.refl _⟩
theorem Lt.int {k : IntKind} {p q : Int} (h : p = q) : Lt B (.int k p) (.int k q) := by subst h; exact ⟨trivial, SLe.refl _⟩
theorem Lt.str {p q : List UInt8} (h : p = q) : Lt B (.str p) (.str q) := by subst h; exact ⟨trivial, SLe.refl _⟩
theorem Lt.agg {cs ds : List SV} (h : FzL B cs ds) : Lt B (.agg cs) (.agg ds) := fin_agg h
theorem Lt.t0 : Lt B (.tup []) (.tup []) := ⟨trivial, SLe.refl _⟩
theorem Lt.t2 {a b c d : SV} (h1 : FzA B a c) (h2 : FzA B b d) : Lt B (.tup [a, b]) (.tup [c, d]) := fin_t2 h1 h2
theorem Lt.t3 {a b c d e f : SV} (h1 : FzA B a d) (h2 : FzA B b e) (h3 : FzA B c f) : Lt B (.tup [a, b, c]) (.tup [d, e, f]) := fin_t3 h1 h2 h3
theorem Lt.t4 {a b c d e f g h : SV} (h1 : FzA B a e) (h2 : FzA B b f) (h3 : FzA B c g) (h4 : FzA B d h) : Lt B (.tup [a, b, c, d]) (.tup [e, f, g, h]) :=
  ⟨⟨h1.1, h2.1, h3.1, h4.1, trivial⟩, SLe.tup (.cons h1.2 (.cons h2.2 (.cons h3.2 (.cons h4.2 .nil))))⟩
theorem FzA.boolE {p q : Bool} (h : p = q) : FzA B (.bool p) (.bool q) := by subst h; exact FzA.bool
theorem FzA.intE {k : IntKind} {p q : Int} (h : p = q) : FzA B (.int k p) (.int k q) := by subst h; exact FzA.int
theorem FzA.aggO {x y : GObject} (h : x = y) : FzA B (.agg x.c) (.agg y.c) := by subst h; exact FzA.agg (FzL.O x)
theorem Lt.aggO {x y : GObject} (h : x = y) : Lt B (.agg x.c) (.agg y.c) := by subst h; exact Lt.agg (FzL.O x)
theorem Lt.row {α : Type} {i e n E : Nat} {h : RowH} {xs : List (List SV)} {cells : α → List SV} {d : α} {l : List α} (hB : getD' B i = .row h E e xs) (hx : xs = l.map cells) (hn : n = l.length) : Lt B (.row i h e 0 n) (.sl false e l.length (elt cells d l)) := fin_rowT hB hx hn
theorem putO {x : GObject} {L : List SV} (h : L.length = 36) : putL x.c 0 L = L := putL_app (by rw [h, GObject.len]; decide) (by rw [List.drop_of_length_le (by rw [h, GObject.len]; decide)]; simp)
theorem take36 {L : List SV} (h : L.length = 36) : L.take 36 = L := List.take_of_length_le (by omega)
theorem solids_put {cs ys : List SV} {o : Nat} (h : solids cs = true ∧ solids ys = true) : solids (putL cs o ys) = true := putL_sol cs ys o h.1 h.2
attribute [push_cast] take36 putO solids_put
end Go.Proofs.YtfmldmafigpblaaGreatDoor
end
section
namespace Go.Proofs.YtfmldmafigpblaaGreatDoor
open Go.Lift
set_option linter.unusedSimpArgs false
set_option linter.unusedVariables false
set_option maxRecDepth 10000
theorem nil_of {α : Type} {l : List α} {h : RowH} (e : (l.length == 0 && orc h) = true) : l = [] := by
  cases l with
  | nil => rfl
  | cons a l => simp at e
theorem ec_clone_u8 (l : List Int) (hl : l.length ≤ 1000000) : EC Tryz.prog 85 [slL 1 (intC .u8) default l] [] fun r B => B = [] ∧ r = slL 1 (intC .u8) default l := by
  refine EC.fin (nA E_ok call_85 Tryz.func85 Tryz.ntmps85 Tryz.results85 ?_)
  (repeat (first | refine stepA ?_ | refine regA E_ok fun fr => ⟨?_⟩))
  (apply EV_cond; exact rfl; all_goals intro h)
  · have e := nil_of h
    subst e
    (repeat (first | refine stepA ?_ | refine regA E_ok fun fr => ⟨?_⟩))
    (try refine sC ?_)
    exact ⟨trivial, sle_nilL⟩
  · (repeat (first | refine stepA ?_ | refine regA E_ok fun fr => ⟨?_⟩))
    (try refine sC ?_)
    exact fin_row rfl rfl
theorem ec_clone_u64 (l : List Int) (hl : l.length ≤ 1000000) : EC Tryz.prog 86 [slL 1 (intC .u64) default l] [] fun r B => B = [] ∧ r = slL 1 (intC .u64) default l := by
  refine EC.fin (nA E_ok call_86 Tryz.func86 Tryz.ntmps86 Tryz.results86 ?_)
  (repeat (first | refine stepA ?_ | refine regA E_ok fun fr => ⟨?_⟩))
  (apply EV_cond; exact rfl; all_goals intro h)
  · have e := nil_of h
    subst e
    (repeat (first | refine stepA ?_ | refine regA E_ok fun fr => ⟨?_⟩))
    (try refine sC ?_)
    exact ⟨trivial, sle_nilL⟩
  · (repeat (first | refine stepA ?_ | refine regA E_ok fun fr => ⟨?_⟩))
    (try refine sC ?_)
    exact fin_row rfl rfl
theorem ec_clone_PageRef (l : List GPageRef) (hl : l.length ≤ 1000000) : EC Tryz.prog 67 [slL 2 GPageRef.c default l] [] fun r B => B = [] ∧ r = slL 2 GPageRef.c default l := by
  refine EC.fin (nA E_ok call_67 Tryz.func67 Tryz.ntmps67 Tryz.results67 ?_)
  (repeat (first | refine stepA ?_ | refine regA E_ok fun fr => ⟨?_⟩))
  (apply EV_cond; exact rfl; all_goals intro h)
  · have e := nil_of h
    subst e
    (repeat (first | refine stepA ?_ | refine regA E_ok fun fr => ⟨?_⟩))
    (try refine sC ?_)
    exact ⟨trivial, sle_nilL⟩
  · (repeat (first | refine stepA ?_ | refine regA E_ok fun fr => ⟨?_⟩))
    (try refine sC ?_)
    exact fin_row rfl rfl
theorem ec_clone_Slot (l : List GSlot) (hl : l.length ≤ 1000000) : EC Tryz.prog 108 [slL 4 GSlot.c default l] [] fun r B => B = [] ∧ r = slL 4 GSlot.c default l := by
  refine EC.fin (nA E_ok call_108 Tryz.func108 Tryz.ntmps108 Tryz.results108 ?_)
  (repeat (first | refine stepA ?_ | refine regA E_ok fun fr => ⟨?_⟩))
  (apply EV_cond; exact rfl; all_goals intro h)
  · have e := nil_of h
    subst e
    (repeat (first | refine stepA ?_ | refine regA E_ok fun fr => ⟨?_⟩))
    (try refine sC ?_)
    exact ⟨trivial, sle_nilL⟩
  · (repeat (first | refine stepA ?_ | refine regA E_ok fun fr => ⟨?_⟩))
    (try refine sC ?_)
    exact fin_row rfl rfl
theorem ec_clone_Instr (l : List GInstr) (hl : l.length ≤ 1000000) : EC Tryz.prog 61 [slL 4 GInstr.c default l] [] fun r B => B = [] ∧ r = slL 4 GInstr.c default l := by
  refine EC.fin (nA E_ok call_61 Tryz.func61 Tryz.ntmps61 Tryz.results61 ?_)
  (repeat (first | refine stepA ?_ | refine regA E_ok fun fr => ⟨?_⟩))
  (apply EV_cond; exact rfl; all_goals intro h)
  · have e := nil_of h
    subst e
    (repeat (first | refine stepA ?_ | refine regA E_ok fun fr => ⟨?_⟩))
    (try refine sC ?_)
    exact ⟨trivial, sle_nilL⟩
  · (repeat (first | refine stepA ?_ | refine regA E_ok fun fr => ⟨?_⟩))
    (try refine sC ?_)
    exact fin_row rfl rfl
theorem ec_clone_str (l : List (List UInt8)) (hl : l.length ≤ 1000000) : EC Tryz.prog 62 [slL 1 strC default l] [] fun r B => B = [] ∧ r = slL 1 strC default l := by
  refine EC.fin (nA E_ok call_62 Tryz.func62 Tryz.ntmps62 Tryz.results62 ?_)
  (repeat (first | refine stepA ?_ | refine regA E_ok fun fr => ⟨?_⟩))
  (apply EV_cond; exact rfl; all_goals intro h)
  · have e := nil_of h
    subst e
    (repeat (first | refine stepA ?_ | refine regA E_ok fun fr => ⟨?_⟩))
    (try refine sC ?_)
    exact ⟨trivial, sle_nilL⟩
  · (repeat (first | refine stepA ?_ | refine regA E_ok fun fr => ⟨?_⟩))
    (try refine sC ?_)
    exact fin_row rfl rfl
theorem ec_clone_Program (p : GProgram) (h1 : p.Code.length ≤ 1000000) (h2 : p.Strings.length ≤ 1000000) : EC Tryz.prog 34 [.agg p.c] [] fun r B => B = [] ∧ r = .agg p.c := by
  refine EC.fin (nA E_ok call_34 Tryz.func34 Tryz.ntmps34 Tryz.results34 ?_)
  (repeat (first | refine stepA ?_ | refine regA E_ok fun fr => ⟨?_⟩))
  (refine dD E_ok [7, 9] [false, false] [0, 1, 3, 4, 2, 6, 5, 7, 8, 9] fol fun R hR => ?_; (repeat intro rh); (try refine sB ⟨?_⟩); (repeat ((with_reducible apply And.intro); exact sdB)); (repeat intro rh); (repeat ((with_reducible apply And.intro); exact sdB)); (try apply_assumption -exfalso))
  (refine EC.use (ec_clone_Instr p.Code h1) ?_; (try simp only [hg]); refine dR E_ok [6, 5, 7, 8, 9] ?_; (repeat intro rh); (try refine sB ⟨?_⟩); (repeat ((with_reducible apply And.intro); exact sdB)); (first | apply_assumption -exfalso | (try simp only [thenP])))
  (refine EC.use (ec_clone_str p.Strings h2) ?_; (try simp only [hg]); refine dR E_ok [7, 8, 9] ?_; (repeat intro rh); (try refine sB ⟨?_⟩); (repeat ((with_reducible apply And.intro); exact sdB)); (first | apply_assumption -exfalso | (try simp only [thenP])))
  (repeat (first | refine stepA ?_ | refine regA E_ok fun fr => ⟨?_⟩))
  ((try refine sC ?_); refine sF ?_; refine SLe.of_eq ?_; rfl)
theorem ec_clone_Process (p : GProcess) (hp : smallP p) : EC Tryz.prog 83 [.agg p.c] [] fun r B => B = [] ∧ r = .agg p.c := by
  obtain ⟨h1, h2, h3, h4, h5⟩ := hp
  refine EC.fin (nA E_ok call_83 Tryz.func83 Tryz.ntmps83 Tryz.results83 ?_)
  (repeat (first | refine stepA ?_ | refine regA E_ok fun fr => ⟨?_⟩))
  (refine dD E_ok [10, 12, 14] [false, false] [0, 1, 3, 4, 6, 7, 2, 9, 5, 8, 10, 11, 12, 13, 14] fol fun R hR => ?_; (repeat intro rh); (try refine sB ⟨?_⟩); (repeat ((with_reducible apply And.intro); exact sdB)); (repeat intro rh); (repeat ((with_reducible apply And.intro); exact sdB)); (try apply_assumption -exfalso))
  (refine EC.use (ec_clone_u64 p.Children h1) ?_; (try simp only [hg]); refine dR E_ok [9, 5, 8, 10, 11, 12, 13, 14] ?_; (repeat intro rh); (try refine sB ⟨?_⟩); (repeat ((with_reducible apply And.intro); exact sdB)); (first | apply_assumption -exfalso | (try simp only [thenP])))
  (refine EC.use (ec_clone_PageRef p.Pages h4) ?_; (try simp only [hg]); refine dR E_ok [8, 10, 11, 12, 13, 14] ?_; (repeat intro rh); (try refine sB ⟨?_⟩); (repeat ((with_reducible apply And.intro); exact sdB)); (first | apply_assumption -exfalso | (try simp only [thenP])))
  (refine EC.use (ec_clone_Slot p.Table h5) ?_; (try simp only [hg]); refine dR E_ok [10, 11, 12, 13, 14] ?_; (repeat intro rh); (try refine sB ⟨?_⟩); (repeat ((with_reducible apply And.intro); exact sdB)); (first | apply_assumption -exfalso | (try simp only [thenP])))
  (repeat (first | refine stepA ?_ | refine regA E_ok fun fr => ⟨?_⟩))
  (try refine regA E_ok fun fr => ⟨?_⟩)
  (refine EC.use (ec_clone_Program p.Program h2 h3) ?_; (try simp only [hg]); refine gA E_ok fun fr => ⟨?_⟩)
  (repeat (first | refine stepA ?_ | refine regA E_ok fun fr => ⟨?_⟩))
  ((try refine sC ?_); refine sF ?_; refine SLe.of_eq ?_; rfl)
end Go.Proofs.YtfmldmafigpblaaGreatDoor
end
section
namespace Go.Proofs.YtfmldmafigpblaaGreatDoor
open Go.Lift
set_option linter.unusedSimpArgs false
set_option linter.unusedVariables false
set_option maxRecDepth 10000
def wfD (d : GDice) : Prop := d.l.length ≤ 400 ∧ ∀ y ∈ d.l, 0 ≤ y ∧ y ≤ 255
abbrev dRow (h : RowH) (d : GDice) : Own := .row h 103 1 [GDice.c d]
theorem tmod_le {y n : Int} (hy : 0 ≤ y) (hn : 0 ≤ n) : y.tmod n ≤ y := by
  obtain ⟨a, rfl⟩ := Int.eq_ofNat_of_zero_le hy
  obtain ⟨b, rfl⟩ := Int.eq_ofNat_of_zero_le hn
  rw [show ((a : Int).tmod b) = ((a % b : Nat) : Int) from rfl]
  exact_mod_cast Nat.mod_le a b
theorem ec_dice_New (l : List Int) : EC Tryz.prog 53 [.sl false 1 l.length (elt (intC .u8) default l)] [] fun r N => ∃ h, r = .rptr 0 h 1 0 0 ∧ N = [dRow h { l := l.take 400 }] := by
  refine EC.close 1 (nA E_ok call_53 Tryz.func53 Tryz.ntmps53 Tryz.results53 ?_)
  (repeat (first | refine stepA ?_ | refine regA E_ok fun fr => ⟨?_⟩))
  (try refine regA E_ok fun fr => ⟨?_⟩)
  obtain ⟨k, hk, hke, hkt⟩ : ∃ k : Nat, k ≤ l.length ∧ min2I (l.length : Int) 400 = (k : Int) ∧ l.take k = l.take 400 := by
    refine ⟨min l.length 400, Nat.min_le_left _ _, by simp only [min2I]; split <;> omega, ?_⟩
    by_cases h : l.length ≤ 400
    · rw [Nat.min_eq_left h, List.take_length, List.take_of_length_le h]
    · rw [Nat.min_eq_right (by omega)]
  simp only [hke, Int.toNat_natCast]
  rw [sub_elt0 hk, hkt]
  rw [GDice.p0]
  (repeat' first | (with_reducible apply And.intro) | omega | exact GDice.sol _)
  (try (refine sT ?_; (try apply_assumption -exfalso)))
  (first | apply_assumption -exfalso | (try refine sT ?_))
  (repeat (first | refine stepA ?_ | refine regA E_ok fun fr => ⟨?_⟩))
  (try refine sC ?_)
  refine sF ?_
  exact ⟨trivial, _, rfl, rfl⟩
theorem ec_Next (h : RowH) (d : GDice) (n : Int) (hd : wfD d) : EC Tryz.prog 26 [.rptr 0 h 1 0 0, .int .i64 n] [dRow h d] fun r N => ∃ x : Int × GDice, (0 ≤ x.1 ∧ x.1 ≤ 255 ∧ (1 ≤ n → x.1 < n) ∧ wfD x.2) ∧ r = .int .i64 x.1 ∧ N = [dRow h x.2] := by
  refine EC.finE (nA E_ok call_26 Tryz.func26 Tryz.ntmps26 Tryz.results26 ?_)
  (repeat (first | refine stepA ?_ | refine regA E_ok fun fr => ⟨?_⟩))
  (apply EV_cond; exact rfl; all_goals intro h)
  · (repeat (first | refine stepA ?_ | refine regA E_ok fun fr => ⟨?_⟩))
    (try refine sC ?_)
    refine sF ?_
    refine ⟨(0, d), ⟨by simp, by simp, by simp; omega, hd⟩, SLe.refl _, rfl⟩
  · obtain ⟨l⟩ := d
    cases l with
    | nil => simp at h
    | cons y l =>
    have hy := hd.2 y (by simp)
    have hn : 2 ≤ n := by simp at h; omega
    have hm : y.tmod n < n := Int.tmod_lt_of_pos y (by omega)
    have hm0 : 0 ≤ y.tmod n := Int.tmod_nonneg n hy.1
    have hm1 : y.tmod n ≤ y := tmod_le hy.1 (by omega)
    have h2 : wfD { l := l } := ⟨by have := hd.1; simp at this ⊢; omega, fun z hz => hd.2 z (by simp [hz])⟩
    (repeat (first | refine stepA ?_ | refine regA E_ok fun fr => ⟨?_⟩))
    have e1 : IntKind.i64.wrap y = y := i64_in' (by omega)
    have e2 : SV.sl false 1 l.length (sub (elt (intC .u8) default (y :: l)) (l.length + 1) 1 l.length) = .sl false 1 l.length (elt (intC .u8) default l) := by
      have := sub_eltD (fl := false) (e := 1) (c := intC .u8) (d := default) (l := y :: l) (lo := 1)
      simpa using this
    (try simp only [e1, e2])
    rw [GDice.p0]
    (repeat (first | refine stepA ?_ | refine regA E_ok fun fr => ⟨?_⟩))
    (try refine sC ?_)
    refine sF ?_
    refine ⟨(y.tmod n, { l := l }), ⟨hm0, by omega, fun _ => hm, h2⟩, SLe.refl _, rfl⟩
theorem lit_get (l : List Int) (k : Nat) (hk : k < l.length) : ((l.map (fun x => [SV.int .i64 x])).getD k []).getD 0 .any = .int .i64 (l.getD k 0) := by
  simp [List.getD, hk]
theorem ec_word (h : RowH) (d : GDice) (hd : wfD d) : EC Tryz.prog 115 [.rptr 0 h 1 0 0] [dRow h d] fun r N => ∃ x : Int × GDice, wfD x.2 ∧ r = .int .i64 x.1 ∧ N = [dRow h x.2] := by
  refine EC.finE (nA E_ok call_115 Tryz.func115 Tryz.ntmps115 Tryz.results115 ?_)
  (repeat (first | refine stepA ?_ | refine regA E_ok fun fr => ⟨?_⟩))
  (try refine regA E_ok fun fr => ⟨?_⟩)
  (refine aE 0 (ec_Next _ _ _ hd) rfl ?_; rintro ⟨n1, d1⟩ ⟨h1, h2, h3, hd1⟩; (try simp only [hg]); refine gA E_ok fun fr => ⟨?_⟩)
  have e := lit_get [0, 1, 2, 3, 1, 0, 5, 16, -1, 200, 14, 9] n1.toNat (by simp at h1 h3 ⊢; omega)
  simp only [List.map_cons, List.map_nil] at e
  simp only [e]
  (repeat (first | refine stepA ?_ | refine regA E_ok fun fr => ⟨?_⟩))
  (try refine sC ?_)
  refine sF ?_
  exact ⟨([0, 1, 2, 3, 1, 0, 5, 16, -1, 200, 14, 9].getD n1.toNat 0, d1), hd1, SLe.of_eq rfl, rfl⟩
theorem sle_row1 {α : Type} {e : Nat} {cells : α → List SV} {d : α} {l : List α} : SLe (.sl false e l.length fun k => (l.map cells).getD k []) (slL e cells d l) := by
  refine SLe.sl (fun h => h) (.inr rfl) fun k hk => ?_
  simp [List.getD, hk]
end Go.Proofs.YtfmldmafigpblaaGreatDoor
end
section
namespace Go.Proofs.YtfmldmafigpblaaGreatDoor
open Go.Lift
set_option linter.unusedSimpArgs false
set_option linter.unusedVariables false
set_option maxRecDepth 10000
theorem o23t (o : GObject) (s : SV) : (putL o.c 23 [s]).take 36 = putL o.c 23 [s] := rfl
theorem o23l (o : GObject) (s : SV) : (putL o.c 23 [s]).length = 36 := rfl
theorem o23s (o : GObject) (i : Nat) (h : RowH) (e a n : Nat) : solids (putL o.c 23 [.row i h e a n]) = true := by simp [putL, GObject.c, solids, SV.solid]
theorem o23d (o : GObject) (s : SV) : putL (GObject.c default) 0 (putL o.c 23 [s]) = putL o.c 23 [s] := putL_app (by simp only [GObject.len, o23l]; decide) rfl
attribute [push_cast] o23t o23l o23s o23d
theorem o24t (o : GObject) (s : SV) : (putL o.c 24 [s]).take 36 = putL o.c 24 [s] := rfl
theorem o24l (o : GObject) (s : SV) : (putL o.c 24 [s]).length = 36 := rfl
theorem o24s (o : GObject) (i : Nat) (h : RowH) (e a n : Nat) : solids (putL o.c 24 [.row i h e a n]) = true := by simp [putL, GObject.c, solids, SV.solid]
theorem o24d (o : GObject) (s : SV) : putL (GObject.c default) 0 (putL o.c 24 [s]) = putL o.c 24 [s] := putL_app (by simp only [GObject.len, o24l]; decide) rfl
attribute [push_cast] o24t o24l o24s o24d
theorem o29t (o : GObject) (s : SV) : (putL o.c 29 [s]).take 36 = putL o.c 29 [s] := rfl
theorem o29l (o : GObject) (s : SV) : (putL o.c 29 [s]).length = 36 := rfl
theorem o29s (o : GObject) (i : Nat) (h : RowH) (e a n : Nat) : solids (putL o.c 29 [.row i h e a n]) = true := by simp [putL, GObject.c, solids, SV.solid]
theorem o29d (o : GObject) (s : SV) : putL (GObject.c default) 0 (putL o.c 29 [s]) = putL o.c 29 [s] := putL_app (by simp only [GObject.len, o29l]; decide) rfl
attribute [push_cast] o29t o29l o29s o29d
theorem o30t (o : GObject) (s : SV) : (putL o.c 30 [s]).take 36 = putL o.c 30 [s] := rfl
theorem o30l (o : GObject) (s : SV) : (putL o.c 30 [s]).length = 36 := rfl
theorem o30s (o : GObject) (i : Nat) (h : RowH) (e a n : Nat) : solids (putL o.c 30 [.row i h e a n]) = true := by simp [putL, GObject.c, solids, SV.solid]
theorem o30d (o : GObject) (s : SV) : putL (GObject.c default) 0 (putL o.c 30 [s]) = putL o.c 30 [s] := putL_app (by simp only [GObject.len, o30l]; decide) rfl
attribute [push_cast] o30t o30l o30s o30d
theorem o31t (o : GObject) (s : SV) : (putL o.c 31 [s]).take 36 = putL o.c 31 [s] := rfl
theorem o31l (o : GObject) (s : SV) : (putL o.c 31 [s]).length = 36 := rfl
theorem o31s (o : GObject) (i : Nat) (h : RowH) (e a n : Nat) : solids (putL o.c 31 [.row i h e a n]) = true := by simp [putL, GObject.c, solids, SV.solid]
theorem o31d (o : GObject) (s : SV) : putL (GObject.c default) 0 (putL o.c 31 [s]) = putL o.c 31 [s] := putL_app (by simp only [GObject.len, o31l]; decide) rfl
attribute [push_cast] o31t o31l o31s o31d
theorem o35t (o : GObject) (s : SV) : (putL o.c 35 [s]).take 36 = putL o.c 35 [s] := rfl
theorem o35l (o : GObject) (s : SV) : (putL o.c 35 [s]).length = 36 := rfl
theorem o35s (o : GObject) (i : Nat) (h : RowH) (e a n : Nat) : solids (putL o.c 35 [.row i h e a n]) = true := by simp [putL, GObject.c, solids, SV.solid]
theorem o35d (o : GObject) (s : SV) : putL (GObject.c default) 0 (putL o.c 35 [s]) = putL o.c 35 [s] := putL_app (by simp only [GObject.len, o35l]; decide) rfl
attribute [push_cast] o35t o35l o35s o35d
theorem ec_ref08_New (id : Int) : EC Tryz.prog 162 [.int .u64 id] [] fun r B => B = [] ∧ r = .agg (GObject.c { (default : GObject) with ID := id, Kind := 3 }) := by
  refine EC.fin (nA E_ok call_162 Tryz.func162 Tryz.ntmps162 Tryz.results162 ?_)
  (repeat (first | refine stepA ?_ | refine regA E_ok fun fr => ⟨?_⟩))
  ((try refine sC ?_); refine sF ?_; refine SLe.of_eq ?_; rfl)
theorem ec_ref08_Opened (id t : Int) : EC Tryz.prog 163 [.int .u64 id, .int .u64 t] [] fun r B => B = [] ∧ r = .agg (GObject.c { (default : GObject) with ID := id, Kind := 4, Refs := 1, Target := t }) := by
  refine EC.fin (nA E_ok call_163 Tryz.func163 Tryz.ntmps163 Tryz.results163 ?_)
  (repeat (first | refine stepA ?_ | refine regA E_ok fun fr => ⟨?_⟩))
  ((try refine sC ?_); refine sF ?_; refine SLe.of_eq ?_; rfl)
theorem ec_ref11_New (id : Int) : EC Tryz.prog 145 [.int .u64 id] [] fun r B => B = [] ∧ r = .agg (GObject.c { (default : GObject) with ID := id, Kind := 5, Readers := 1, Writers := 1 }) := by
  refine EC.fin (nA E_ok call_145 Tryz.func145 Tryz.ntmps145 Tryz.results145 ?_)
  (repeat (first | refine stepA ?_ | refine regA E_ok fun fr => ⟨?_⟩))
  ((try refine sC ?_); refine sF ?_; refine SLe.of_eq ?_; rfl)
theorem ec_ref12_NewPort (id : Int) : EC Tryz.prog 166 [.int .u64 id] [] fun r B => B = [] ∧ r = .agg (GObject.c { (default : GObject) with ID := id, Kind := 6, Refs := 1 }) := by
  refine EC.fin (nA E_ok call_166 Tryz.func166 Tryz.ntmps166 Tryz.results166 ?_)
  (repeat (first | refine stepA ?_ | refine regA E_ok fun fr => ⟨?_⟩))
  ((try refine sC ?_); refine sF ?_; refine SLe.of_eq ?_; rfl)
theorem ec_ref12_New (id : Int) : EC Tryz.prog 176 [.int .u64 id] [] fun r B => B = [] ∧ r = .agg (GObject.c { (default : GObject) with ID := id, Kind := 7, Ends := ⟨1, 1⟩ }) := by
  refine EC.fin (nA E_ok call_176 Tryz.func176 Tryz.ntmps176 Tryz.results176 ?_)
  (repeat (first | refine stepA ?_ | refine regA E_ok fun fr => ⟨?_⟩))
  ((try refine sC ?_); refine sF ?_; refine SLe.of_eq ?_; rfl)
theorem ec_ref09_New : EC Tryz.prog 94 [] [] fun r B => B = [] ∧ r = .agg (GObject.c { (default : GObject) with ID := 1, Kind := 10 }) := by
  refine EC.fin (nA E_ok call_94 Tryz.func94 Tryz.ntmps94 Tryz.results94 ?_)
  (repeat (first | refine stepA ?_ | refine regA E_ok fun fr => ⟨?_⟩))
  ((try refine sC ?_); refine sF ?_; refine SLe.of_eq ?_; rfl)
def semNew (id n : Int) : GObject × Int := if id == 0 then (default, 1) else if decide (n < 0) || decide (1073741824 < n) then (default, 2) else ({ (default : GObject) with ID := id, Kind := 8, Count := n }, 0)
theorem ec_ref13_New (id n : Int) : EC Tryz.prog 167 [.int .u64 id, .int .i64 n] [] fun r B => B = [] ∧ r = .tup [.agg (semNew id n).1.c, .int .i64 (semNew id n).2] := by
  refine EC.fin (nA E_ok call_167 Tryz.func167 Tryz.ntmps167 Tryz.results167 ?_)
  (repeat (first | refine stepA ?_ | refine regA E_ok fun fr => ⟨?_⟩))
  (apply EV_cond; exact rfl; all_goals intro h)
  · (repeat (first | refine stepA ?_ | refine regA E_ok fun fr => ⟨?_⟩))
    ((try refine sC ?_); refine sF ?_; refine SLe.of_eq ?_; (simp [semNew, h]))
  have h0 := h
  clear h
  (repeat (first | refine stepA ?_ | refine regA E_ok fun fr => ⟨?_⟩))
  (apply EV_cond; exact rfl; all_goals intro h)
  · (repeat (first | refine stepA ?_ | refine regA E_ok fun fr => ⟨?_⟩))
    ((try refine sC ?_); refine sF ?_; refine SLe.of_eq ?_; (simp only [semNew, h0, h, Bool.false_eq_true, if_false, if_true]))
  · (repeat (first | refine stepA ?_ | refine regA E_ok fun fr => ⟨?_⟩))
    ((try refine sC ?_); refine sF ?_; refine SLe.of_eq ?_; (simp only [semNew, h0, h, Bool.false_eq_true, if_false, if_true]))
theorem sle_row2 {α : Type} {e n : Nat} {xs : List (List SV)} {cells : α → List SV} {d : α} {l : List α} (hx : xs = l.map cells) (hn : n = l.length) : SLe (.sl false e n fun k => xs.getD k []) (slL e cells d l) := by
  subst hx hn; exact sle_row1
end Go.Proofs.YtfmldmafigpblaaGreatDoor
end
section
namespace Go.Proofs.YtfmldmafigpblaaGreatDoor
open Go.Lift
set_option linter.unusedSimpArgs false
set_option linter.unusedVariables false
set_option maxRecDepth 10000
end Go.Proofs.YtfmldmafigpblaaGreatDoor
end
section
namespace Go.Proofs.YtfmldmafigpblaaGreatDoor
open Go.Lift
set_option linter.unusedSimpArgs false
set_option linter.unusedVariables false
set_option maxRecDepth 10000
theorem EC_tail {P : Program} {f : Nat} {args : List SV} {Q : SV → List Own → Prop} (h : EC P f args [] fun r B' => ∃ o B1, B' = o :: B1 ∧ Q r B1) : EC P f args [] Q := by
  refine ⟨h.1, fun X w vs hs hd => (h.2 X w vs hs hd).mono ?_⟩
  rintro e w' ⟨v, r, X', _, he, ⟨o, B1, rfl, hq⟩, h1, h2, h3⟩
  exact ⟨v, r, X', B1, he, hq, ⟨fun i j b h4 h5 => Nat.succ.inj (h1.inj (i + 1) (j + 1) b h4 h5), fun i b h4 => h1.lt (i + 1) b h4, h1.xg, fun b hx ⟨i, hi⟩ => h1.apart b hx ⟨i + 1, hi⟩, fun i => h1.ok (i + 1)⟩, h2,
    ⟨h3.os, h3.tape, h3.output, h3.size, h3.block, h3.xin, h3.xout, fun b ⟨i, hi⟩ => h3.own b ⟨i + 1, hi⟩⟩⟩
def pg (id : Int) (ws : List Int) : GObject := { (default : GObject) with ID := id, Kind := 2, Words := ws }
end Go.Proofs.YtfmldmafigpblaaGreatDoor
end
section
namespace Go.Proofs.YtfmldmafigpblaaGreatDoor
open Go.Lift
set_option linter.unusedSimpArgs false
set_option linter.unusedVariables false
set_option maxRecDepth 10000
def smallN (n : GName) : Prop := n.IDs.length ≤ 1000000 ∧ n.Path.length ≤ 1000000
theorem getD_mem' {l : List GName} {i : Nat} (hi : i < l.length) : l[i]?.getD default ∈ l := by
  rw [show l[i]?.getD default = l[i] by simp [hi]]; exact List.getElem_mem hi
theorem n2t (o : GName) (s : SV) : (putL o.c 2 [s]).take 3 = putL o.c 2 [s] := rfl
theorem n2l (o : GName) (s : SV) : (putL o.c 2 [s]).length = 3 := rfl
theorem n2s (o : GName) (i : Nat) (h : RowH) (e a n : Nat) : solids (putL o.c 2 [.row i h e a n]) = true := by simp [putL, GName.c, solids, SV.solid]
theorem n2d (o : GName) (s : SV) : putL (GName.c default) 0 (putL o.c 2 [s]) = putL o.c 2 [s] := putL_app (by simp only [GName.len, n2l]; decide) rfl
theorem n2g0 (o : GName) (s d : SV) : (putL o.c 2 [s]).getD 0 d = o.c.getD 0 d := rfl
theorem n2g1 (o : GName) (s d : SV) : (putL o.c 2 [s]).getD 1 d = o.c.getD 1 d := rfl
theorem n2g2 (o : GName) (s d : SV) : (putL o.c 2 [s]).getD 2 d = s := rfl
attribute [push_cast] n2t n2l n2s n2d n2g0 n2g1 n2g2
theorem ec_ref09_Path (s : List UInt8) (hs : s.length ≤ 1000000) : EC Tryz.prog 125 [.str s] [] fun r N => N = [] ∧ ∃ b : Bool, True ∧ r = .bool b := by
  refine EC.finP (nA E_ok call_125 Tryz.func125 Tryz.ntmps125 Tryz.results125 ?_)
  (repeat (first | refine stepA ?_ | refine regA E_ok fun fr => ⟨?_⟩))
  (apply EV_cond; exact rfl; all_goals intro h)
  · (repeat (first | refine stepA ?_ | refine regA E_ok fun fr => ⟨?_⟩))
    (try refine sC ?_)
    refine sF ?_
    exact ⟨_, SLe.refl _⟩
  have h1 : 2 ≤ s.length ∧ s.length ≤ 128 := by simp at h; omega
  clear h
  (repeat (first | refine stepA ?_ | refine regA E_ok fun fr => ⟨?_⟩))
  refine EV_loopL [0] (fun i : Nat => [(3, .int .i64 i)]) (fun i => 1 ≤ i ∧ i ≤ s.length) (fun i => s.length - i) 1 ⟨by decide, by omega⟩ ⟨rfl, trivial⟩ ?_
  rintro i ⟨hi, hi2⟩
  refine sK ?_
  (repeat (first | refine stepA ?_ | refine regA E_ok fun fr => ⟨?_⟩))
  (apply EV_cond; exact rfl; all_goals intro h)
  · have hlt : i < s.length := by simp at h; omega
    clear h
    (repeat (first | refine stepA ?_ | refine regA E_ok fun fr => ⟨?_⟩))
    (apply EV_cond; exact rfl; all_goals intro h)
    · (repeat (first | refine stepA ?_ | refine regA E_ok fun fr => ⟨?_⟩))
      (try refine sC ?_)
      refine sF ?_
      exact ⟨_, SLe.refl _⟩
    · (repeat (first | refine stepA ?_ | refine regA E_ok fun fr => ⟨?_⟩))
      ((try refine sT ?_); first | refine nxA (i + 1) ?_ ?_ | refine nxB (i + 1) ?_ ?_)
      · omega
      · omega
  · (repeat (first | refine stepA ?_ | refine regA E_ok fun fr => ⟨?_⟩))
    (try refine sC ?_)
    refine sF ?_
    exact ⟨_, SLe.refl _⟩
theorem ec_ref09_copied (n : GName) (hn : smallN n) : EC Tryz.prog 126 [.agg n.c] [] fun r N => N = [] ∧ r = .agg n.c := by
  refine EC.fin (nA E_ok call_126 Tryz.func126 Tryz.ntmps126 Tryz.results126 ?_)
  obtain ⟨h1, h2⟩ := hn
  (repeat (first | refine stepA ?_ | refine regA E_ok fun fr => ⟨?_⟩))
  (try refine sC ?_)
  exact fin_agg ((FzL.obj (cs := n.c) (fun s B => by rw [GName.fk]) (fun s B => by rw [GName.fz])).put 2 (FzC.row (cells := intC .u64) (d := default) rfl rfl rfl) (GName.p2 _ _))
theorem ec_ref09_entry (n : GName) (hn : smallN n) : EC Tryz.prog 110 [.agg n.c] [] fun r N => N = [] ∧ ∃ b : Bool, True ∧ r = .bool b := by
  obtain ⟨hids, hp⟩ := hn
  refine EC.finP (nA E_ok call_110 Tryz.func110 Tryz.ntmps110 Tryz.results110 ?_)
  (repeat (first | refine stepA ?_ | refine regA E_ok fun fr => ⟨?_⟩))
  by_cases k3 : n.Kind = 3
  · simp only [k3]
    (apply EV_cond; exact rfl; all_goals intro h)
    rotate_left 1
    · exfalso; revert h; decide
    clear h
    (repeat (first | refine stepA ?_ | refine regA E_ok fun fr => ⟨?_⟩))
    (apply EV_cond; exact rfl; all_goals intro h)
    rotate_left 1
    · exfalso; revert h; decide
    clear h
    (repeat (first | refine stepA ?_ | refine regA E_ok fun fr => ⟨?_⟩))
    (apply EV_cond; exact rfl; all_goals intro h)
    · (repeat (first | refine stepA ?_ | refine regA E_ok fun fr => ⟨?_⟩))
      (try refine sC ?_)
      refine sF ?_
      exact ⟨_, SLe.refl _⟩
    clear h
    (repeat (first | refine stepA ?_ | refine regA E_ok fun fr => ⟨?_⟩))
    refine EV_loopL [1, 29, 30] (fun i : Nat => [(31, .int .i64 i)]) (fun i => i ≤ n.IDs.length) (fun i => n.IDs.length - i) 0 (Nat.zero_le _) ⟨rfl, trivial⟩ ?_
    intro i hi
    refine sK ?_
    (repeat (first | refine stepA ?_ | refine regA E_ok fun fr => ⟨?_⟩))
    (apply EV_cond; exact rfl; all_goals intro h)
    · have hlt : i < n.IDs.length := by simp at h; omega
      (repeat (first | refine stepA ?_ | refine regA E_ok fun fr => ⟨?_⟩))
      (apply EV_cond; exact rfl; all_goals intro h)
      · (repeat (first | refine stepA ?_ | refine regA E_ok fun fr => ⟨?_⟩))
        (try refine sC ?_)
        refine sF ?_
        exact ⟨_, SLe.refl _⟩
      · (repeat (first | refine stepA ?_ | refine regA E_ok fun fr => ⟨?_⟩))
        ((try refine sT ?_); first | refine nxA (i + 1) ?_ ?_ | refine nxB (i + 1) ?_ ?_)
        · omega
        · omega
    · (repeat (first | refine stepA ?_ | refine regA E_ok fun fr => ⟨?_⟩))
      (try refine regA E_ok fun fr => ⟨?_⟩)
      (refine EC.useP (ec_ref09_Path n.Path hp) ?_; rintro b -; (try simp only [hg]); refine gA E_ok fun fr => ⟨?_⟩)
      (repeat (first | refine stepA ?_ | refine regA E_ok fun fr => ⟨?_⟩))
      (try refine sC ?_)
      refine sF ?_
      exact ⟨_, SLe.refl _⟩
  by_cases k6 : n.Kind = 6
  · simp only [k6]
    (apply EV_cond; exact rfl; all_goals intro h)
    · exfalso; revert h; decide
    clear h
    (repeat (first | refine stepA ?_ | refine regA E_ok fun fr => ⟨?_⟩))
    (apply EV_cond; exact rfl; all_goals intro h)
    rotate_left 1
    · exfalso; revert h; decide
    clear h
    (repeat (first | refine stepA ?_ | refine regA E_ok fun fr => ⟨?_⟩))
    (apply EV_cond; exact rfl; all_goals intro h)
    rotate_left 1
    · exfalso; revert h; decide
    clear h
    (repeat (first | refine stepA ?_ | refine regA E_ok fun fr => ⟨?_⟩))
    (apply EV_cond; exact rfl; all_goals intro h)
    · (repeat (first | refine stepA ?_ | refine regA E_ok fun fr => ⟨?_⟩))
      (try refine sC ?_)
      refine sF ?_
      exact ⟨_, SLe.refl _⟩
    clear h
    (repeat (first | refine stepA ?_ | refine regA E_ok fun fr => ⟨?_⟩))
    refine EV_loopL [1, 29, 30] (fun i : Nat => [(31, .int .i64 i)]) (fun i => i ≤ n.IDs.length) (fun i => n.IDs.length - i) 0 (Nat.zero_le _) ⟨rfl, trivial⟩ ?_
    intro i hi
    refine sK ?_
    (repeat (first | refine stepA ?_ | refine regA E_ok fun fr => ⟨?_⟩))
    (apply EV_cond; exact rfl; all_goals intro h)
    · have hlt : i < n.IDs.length := by simp at h; omega
      (repeat (first | refine stepA ?_ | refine regA E_ok fun fr => ⟨?_⟩))
      (apply EV_cond; exact rfl; all_goals intro h)
      · (repeat (first | refine stepA ?_ | refine regA E_ok fun fr => ⟨?_⟩))
        (try refine sC ?_)
        refine sF ?_
        exact ⟨_, SLe.refl _⟩
      · (repeat (first | refine stepA ?_ | refine regA E_ok fun fr => ⟨?_⟩))
        ((try refine sT ?_); first | refine nxA (i + 1) ?_ ?_ | refine nxB (i + 1) ?_ ?_)
        · omega
        · omega
    · (repeat (first | refine stepA ?_ | refine regA E_ok fun fr => ⟨?_⟩))
      (try refine regA E_ok fun fr => ⟨?_⟩)
      (refine EC.useP (ec_ref09_Path n.Path hp) ?_; rintro b -; (try simp only [hg]); refine gA E_ok fun fr => ⟨?_⟩)
      (repeat (first | refine stepA ?_ | refine regA E_ok fun fr => ⟨?_⟩))
      (try refine sC ?_)
      refine sF ?_
      exact ⟨_, SLe.refl _⟩
  by_cases k8 : n.Kind = 8
  · simp only [k8]
    (apply EV_cond; exact rfl; all_goals intro h)
    · exfalso; revert h; decide
    clear h
    (repeat (first | refine stepA ?_ | refine regA E_ok fun fr => ⟨?_⟩))
    (apply EV_cond; exact rfl; all_goals intro h)
    · exfalso; revert h; decide
    clear h
    (repeat (first | refine stepA ?_ | refine regA E_ok fun fr => ⟨?_⟩))
    (apply EV_cond; exact rfl; all_goals intro h)
    rotate_left 1
    · exfalso; revert h; decide
    clear h
    (repeat (first | refine stepA ?_ | refine regA E_ok fun fr => ⟨?_⟩))
    (apply EV_cond; exact rfl; all_goals intro h)
    rotate_left 1
    · exfalso; revert h; decide
    clear h
    (repeat (first | refine stepA ?_ | refine regA E_ok fun fr => ⟨?_⟩))
    (apply EV_cond; exact rfl; all_goals intro h)
    · (repeat (first | refine stepA ?_ | refine regA E_ok fun fr => ⟨?_⟩))
      (try refine sC ?_)
      refine sF ?_
      exact ⟨_, SLe.refl _⟩
    clear h
    (repeat (first | refine stepA ?_ | refine regA E_ok fun fr => ⟨?_⟩))
    refine EV_loopL [1, 29, 30] (fun i : Nat => [(31, .int .i64 i)]) (fun i => i ≤ n.IDs.length) (fun i => n.IDs.length - i) 0 (Nat.zero_le _) ⟨rfl, trivial⟩ ?_
    intro i hi
    refine sK ?_
    (repeat (first | refine stepA ?_ | refine regA E_ok fun fr => ⟨?_⟩))
    (apply EV_cond; exact rfl; all_goals intro h)
    · have hlt : i < n.IDs.length := by simp at h; omega
      (repeat (first | refine stepA ?_ | refine regA E_ok fun fr => ⟨?_⟩))
      (apply EV_cond; exact rfl; all_goals intro h)
      · (repeat (first | refine stepA ?_ | refine regA E_ok fun fr => ⟨?_⟩))
        (try refine sC ?_)
        refine sF ?_
        exact ⟨_, SLe.refl _⟩
      · (repeat (first | refine stepA ?_ | refine regA E_ok fun fr => ⟨?_⟩))
        ((try refine sT ?_); first | refine nxA (i + 1) ?_ ?_ | refine nxB (i + 1) ?_ ?_)
        · omega
        · omega
    · (repeat (first | refine stepA ?_ | refine regA E_ok fun fr => ⟨?_⟩))
      (try refine regA E_ok fun fr => ⟨?_⟩)
      (refine EC.useP (ec_ref09_Path n.Path hp) ?_; rintro b -; (try simp only [hg]); refine gA E_ok fun fr => ⟨?_⟩)
      (repeat (first | refine stepA ?_ | refine regA E_ok fun fr => ⟨?_⟩))
      (try refine sC ?_)
      refine sF ?_
      exact ⟨_, SLe.refl _⟩
  by_cases k9 : n.Kind = 9
  · simp only [k9]
    (apply EV_cond; exact rfl; all_goals intro h)
    · exfalso; revert h; decide
    clear h
    (repeat (first | refine stepA ?_ | refine regA E_ok fun fr => ⟨?_⟩))
    (apply EV_cond; exact rfl; all_goals intro h)
    · exfalso; revert h; decide
    clear h
    (repeat (first | refine stepA ?_ | refine regA E_ok fun fr => ⟨?_⟩))
    (apply EV_cond; exact rfl; all_goals intro h)
    · exfalso; revert h; decide
    clear h
    (repeat (first | refine stepA ?_ | refine regA E_ok fun fr => ⟨?_⟩))
    (apply EV_cond; exact rfl; all_goals intro h)
    rotate_left 1
    · exfalso; revert h; decide
    clear h
    (repeat (first | refine stepA ?_ | refine regA E_ok fun fr => ⟨?_⟩))
    (apply EV_cond; exact rfl; all_goals intro h)
    · (repeat (first | refine stepA ?_ | refine regA E_ok fun fr => ⟨?_⟩))
      (try refine sC ?_)
      refine sF ?_
      exact ⟨_, SLe.refl _⟩
    clear h
    (repeat (first | refine stepA ?_ | refine regA E_ok fun fr => ⟨?_⟩))
    refine EV_loopL [1, 29, 30] (fun i : Nat => [(31, .int .i64 i)]) (fun i => i ≤ n.IDs.length) (fun i => n.IDs.length - i) 0 (Nat.zero_le _) ⟨rfl, trivial⟩ ?_
    intro i hi
    refine sK ?_
    (repeat (first | refine stepA ?_ | refine regA E_ok fun fr => ⟨?_⟩))
    (apply EV_cond; exact rfl; all_goals intro h)
    · have hlt : i < n.IDs.length := by simp at h; omega
      (repeat (first | refine stepA ?_ | refine regA E_ok fun fr => ⟨?_⟩))
      (apply EV_cond; exact rfl; all_goals intro h)
      · (repeat (first | refine stepA ?_ | refine regA E_ok fun fr => ⟨?_⟩))
        (try refine sC ?_)
        refine sF ?_
        exact ⟨_, SLe.refl _⟩
      · (repeat (first | refine stepA ?_ | refine regA E_ok fun fr => ⟨?_⟩))
        ((try refine sT ?_); first | refine nxA (i + 1) ?_ ?_ | refine nxB (i + 1) ?_ ?_)
        · omega
        · omega
    · (repeat (first | refine stepA ?_ | refine regA E_ok fun fr => ⟨?_⟩))
      (try refine regA E_ok fun fr => ⟨?_⟩)
      (refine EC.useP (ec_ref09_Path n.Path hp) ?_; rintro b -; (try simp only [hg]); refine gA E_ok fun fr => ⟨?_⟩)
      (repeat (first | refine stepA ?_ | refine regA E_ok fun fr => ⟨?_⟩))
      (try refine sC ?_)
      refine sF ?_
      exact ⟨_, SLe.refl _⟩
  by_cases k2 : n.Kind = 2
  · simp only [k2]
    (apply EV_cond; exact rfl; all_goals intro h)
    · exfalso; revert h; decide
    clear h
    (repeat (first | refine stepA ?_ | refine regA E_ok fun fr => ⟨?_⟩))
    (apply EV_cond; exact rfl; all_goals intro h)
    · exfalso; revert h; decide
    clear h
    (repeat (first | refine stepA ?_ | refine regA E_ok fun fr => ⟨?_⟩))
    (apply EV_cond; exact rfl; all_goals intro h)
    · exfalso; revert h; decide
    clear h
    (repeat (first | refine stepA ?_ | refine regA E_ok fun fr => ⟨?_⟩))
    (apply EV_cond; exact rfl; all_goals intro h)
    · exfalso; revert h; decide
    clear h
    (repeat (first | refine stepA ?_ | refine regA E_ok fun fr => ⟨?_⟩))
    (apply EV_cond; exact rfl; all_goals intro h)
    rotate_left 1
    · exfalso; revert h; decide
    clear h
    (repeat (first | refine stepA ?_ | refine regA E_ok fun fr => ⟨?_⟩))
    (apply EV_cond; exact rfl; all_goals intro h)
    · (repeat (first | refine stepA ?_ | refine regA E_ok fun fr => ⟨?_⟩))
      (try refine sC ?_)
      refine sF ?_
      exact ⟨_, SLe.refl _⟩
    clear h
    (repeat (first | refine stepA ?_ | refine regA E_ok fun fr => ⟨?_⟩))
    refine EV_loopL [1, 29, 30] (fun i : Nat => [(31, .int .i64 i)]) (fun i => i ≤ n.IDs.length) (fun i => n.IDs.length - i) 0 (Nat.zero_le _) ⟨rfl, trivial⟩ ?_
    intro i hi
    refine sK ?_
    (repeat (first | refine stepA ?_ | refine regA E_ok fun fr => ⟨?_⟩))
    (apply EV_cond; exact rfl; all_goals intro h)
    · have hlt : i < n.IDs.length := by simp at h; omega
      (repeat (first | refine stepA ?_ | refine regA E_ok fun fr => ⟨?_⟩))
      (apply EV_cond; exact rfl; all_goals intro h)
      · (repeat (first | refine stepA ?_ | refine regA E_ok fun fr => ⟨?_⟩))
        (try refine sC ?_)
        refine sF ?_
        exact ⟨_, SLe.refl _⟩
      · (repeat (first | refine stepA ?_ | refine regA E_ok fun fr => ⟨?_⟩))
        ((try refine sT ?_); first | refine nxA (i + 1) ?_ ?_ | refine nxB (i + 1) ?_ ?_)
        · omega
        · omega
    · (repeat (first | refine stepA ?_ | refine regA E_ok fun fr => ⟨?_⟩))
      (try refine regA E_ok fun fr => ⟨?_⟩)
      (refine EC.useP (ec_ref09_Path n.Path hp) ?_; rintro b -; (try simp only [hg]); refine gA E_ok fun fr => ⟨?_⟩)
      (repeat (first | refine stepA ?_ | refine regA E_ok fun fr => ⟨?_⟩))
      (try refine sC ?_)
      refine sF ?_
      exact ⟨_, SLe.refl _⟩
  · (apply EV_cond; exact rfl; all_goals intro h)
    · exfalso; rw [show (n.Kind == 3) = false by simp; omega] at h; cases h
    clear h
    (repeat (first | refine stepA ?_ | refine regA E_ok fun fr => ⟨?_⟩))
    (apply EV_cond; exact rfl; all_goals intro h)
    · exfalso; rw [show (n.Kind == 6) = false by simp; omega] at h; cases h
    clear h
    (repeat (first | refine stepA ?_ | refine regA E_ok fun fr => ⟨?_⟩))
    (apply EV_cond; exact rfl; all_goals intro h)
    · exfalso; rw [show (n.Kind == 8) = false by simp; omega] at h; cases h
    clear h
    (repeat (first | refine stepA ?_ | refine regA E_ok fun fr => ⟨?_⟩))
    (apply EV_cond; exact rfl; all_goals intro h)
    · exfalso; rw [show (n.Kind == 9) = false by simp; omega] at h; cases h
    clear h
    (repeat (first | refine stepA ?_ | refine regA E_ok fun fr => ⟨?_⟩))
    (apply EV_cond; exact rfl; all_goals intro h)
    · exfalso; rw [show (n.Kind == 2) = false by simp; omega] at h; cases h
    clear h
    (repeat (first | refine stepA ?_ | refine regA E_ok fun fr => ⟨?_⟩))
    (try refine sC ?_)
    refine sF ?_
    exact ⟨_, SLe.refl _⟩
theorem ec_ref09_Valid (o : GObject) (hl : o.Names.length ≤ 1000000) (hn : ∀ n ∈ o.Names, smallN n) : EC Tryz.prog 109 [.agg o.c] [] fun r N => N = [] ∧ ∃ b : Bool, True ∧ r = .bool b := by
  refine EC.finP (nA E_ok call_109 Tryz.func109 Tryz.ntmps109 Tryz.results109 ?_)
  (repeat (first | refine stepA ?_ | refine regA E_ok fun fr => ⟨?_⟩))
  (apply EV_cond; exact rfl; all_goals intro h)
  · (repeat (first | refine stepA ?_ | refine regA E_ok fun fr => ⟨?_⟩))
    (try refine sC ?_)
    refine sF ?_
    exact ⟨_, SLe.refl _⟩
  clear h
  (repeat (first | refine stepA ?_ | refine regA E_ok fun fr => ⟨?_⟩))
  refine EV_loopL [1, 20, 21] (fun i : Nat => [(22, .int .i64 i)]) (fun i => i ≤ o.Names.length) (fun i => o.Names.length - i) 0 (Nat.zero_le _) ⟨rfl, trivial⟩ ?_
  intro i hi
  refine sK ?_
  (repeat (first | refine stepA ?_ | refine regA E_ok fun fr => ⟨?_⟩))
  (apply EV_cond; exact rfl; all_goals intro h)
  · have hlt : i < o.Names.length := by simp at h; omega
    clear h
    (repeat (first | refine stepA ?_ | refine regA E_ok fun fr => ⟨?_⟩))
    (refine dD E_ok [] [false, false] [0, 1, 2, 3, 4, 5, 6, 7, 8, 9, 10, 11, 12, 13, 14, 15, 16, 17, 18] fol fun R hR => ?_; (repeat intro rh); (try refine sB ⟨?_⟩); (repeat ((with_reducible apply And.intro); exact sdB)); (repeat intro rh); (repeat ((with_reducible apply And.intro); exact sdB)); (try apply_assumption -exfalso))
    (refine EC.useP (ec_ref09_entry _ (hn _ (getD_mem hlt))) ?_; rintro b -; (try simp only [hg]); refine dR E_ok [2, 3, 4, 5, 6, 7, 8, 9, 10, 11, 12, 13, 14, 15, 16, 17, 18] ?_; (repeat intro rh); (try refine sB ⟨?_⟩); (repeat ((with_reducible apply And.intro); exact sdB)); (first | apply_assumption -exfalso | (try simp only [thenP])))
    refine ⟨fun hb => ⟨hb, by simp at hb; omega, by simp at hb; omega⟩, fun hb => ⟨hb, fun h2 => by simp [hb]; omega⟩, fun hb => by simpa using hb, ?_⟩
    (first | apply_assumption -exfalso | (try refine sT ?_))
    (repeat (first | refine stepA ?_ | refine regA E_ok fun fr => ⟨?_⟩))
    (apply EV_cond; exact rfl; all_goals intro h)
    · (repeat (first | refine stepA ?_ | refine regA E_ok fun fr => ⟨?_⟩))
      (try refine sC ?_)
      refine sF ?_
      exact ⟨_, SLe.refl _⟩
    · (repeat (first | refine stepA ?_ | refine regA E_ok fun fr => ⟨?_⟩))
      ((try refine sT ?_); first | refine nxA (i + 1) ?_ ?_ | refine nxB (i + 1) ?_ ?_)
      · omega
      · omega
  · (repeat (first | refine stepA ?_ | refine regA E_ok fun fr => ⟨?_⟩))
    (try refine regA E_ok fun fr => ⟨?_⟩)
    (refine EC.uses (ec_ref06_Bare { o with Names := [] }) (.cons (SLe.agg (by (repeat (first | exact LLe.refl _ | apply cL_u8_c0 | apply GObject.l5 | apply GObject.l6 | apply GObject.l7 | apply GObject.l18 | apply GObject.l19 | apply GObject.l23 | apply GObject.l24 | apply GObject.l29 | apply GObject.l30 | apply GObject.l31 | apply GObject.l35 | exact SLe.refl _ | exact sle_nilL)))) .nil) ?_; (try simp only [hg]); refine gA E_ok fun fr => ⟨?_⟩)
    (repeat (first | refine stepA ?_ | refine regA E_ok fun fr => ⟨?_⟩))
    (try refine sC ?_)
    refine sF ?_
    exact ⟨_, SLe.refl _⟩
end Go.Proofs.YtfmldmafigpblaaGreatDoor
end
section
namespace Go.Proofs.YtfmldmafigpblaaGreatDoor
open Go.Lift
set_option linter.unusedSimpArgs false
set_option linter.unusedVariables false
set_option maxRecDepth 10000
end Go.Proofs.YtfmldmafigpblaaGreatDoor
end
section
namespace Go.Proofs.YtfmldmafigpblaaGreatDoor
open Go.Lift
set_option linter.unusedSimpArgs false
set_option linter.unusedVariables false
set_option maxRecDepth 10000
def shl1 (s : Int) : Int := IntKind.i64.wrap (1 * 2 ^ (min s.toNat 64))
def sigRaise (p : GProcess) (s : Int) : GProcess × Int :=
  if (decide (s < 1) || decide (31 < s)) = true then (default, 2) else if (!(p.State == 1) && !(p.State == 2)) = true then (default, 6) else
  if (!(s == 9)) = true then ({ p with Pending := bitI .or .i64 p.Pending (shl1 s) }, 0) else if (p.State == 1) = true then ({ p with State := 2, Status := -9 }, 0) else (p, 0)
def r2p (x : GProcess × Int) : SV := .tup [.agg x.1.c, .int .i64 x.2]
def rp2 (x : Int × GProcess) : SV := .tup [.int .i64 x.1, .agg x.2.c]
theorem ec_ref14_Raise (p : GProcess) (s : Int) : EC Tryz.prog 124 [.agg p.c, .int .i64 s] [] fun r B => B = [] ∧ r = r2p (sigRaise p s) := by
  refine EC.fin (nA E_ok call_124 Tryz.func124 Tryz.ntmps124 Tryz.results124 ?_)
  (repeat (first | refine stepA ?_ | refine regA E_ok fun fr => ⟨?_⟩))
  (apply EV_cond; exact rfl; all_goals intro h)
  · (repeat (first | refine stepA ?_ | refine regA E_ok fun fr => ⟨?_⟩))
    ((try refine sC ?_); refine sF ?_; refine SLe.of_eq ?_; (simp only [sigRaise, h, if_true, r2p]))
  (repeat (first | refine stepA ?_ | refine regA E_ok fun fr => ⟨?_⟩))
  have h1 := h
  clear h
  (apply EV_cond; exact rfl; all_goals intro h)
  · (repeat (first | refine stepA ?_ | refine regA E_ok fun fr => ⟨?_⟩))
    simp only [bne_eq] at h
    ((try refine sC ?_); refine sF ?_; refine SLe.of_eq ?_; (simp only [sigRaise, h1, h, if_true, if_false, r2p, Bool.false_eq_true]))
  (repeat (first | refine stepA ?_ | refine regA E_ok fun fr => ⟨?_⟩))
  simp only [bne_eq] at h
  have h2 := h
  clear h
  have hs : 1 ≤ s ∧ s ≤ 31 := by simp at h1; omega
  (apply EV_cond; exact rfl; all_goals intro h)
  · (repeat (first | refine stepA ?_ | refine regA E_ok fun fr => ⟨?_⟩))
    (refine dD E_ok [6] [false, false] [0, 1, 2, 3, 4, 5, 6] fol fun R hR => ?_; (repeat intro rh); (try refine sB ⟨?_⟩); (repeat ((with_reducible apply And.intro); exact sdB)); (repeat intro rh); (repeat ((with_reducible apply And.intro); exact sdB)); (try apply_assumption -exfalso))
    (repeat (first | refine stepA ?_ | refine regA E_ok fun fr => ⟨?_⟩))
    simp only [bne_eq] at h
    ((try refine sC ?_); refine sF ?_; refine SLe.of_eq ?_; (simp only [sigRaise, h1, h2, h, if_true, if_false, r2p, Bool.false_eq_true]; (try rfl)))
  (repeat (first | refine stepA ?_ | refine regA E_ok fun fr => ⟨?_⟩))
  simp only [bne_eq] at h
  have h3 := h
  clear h
  (apply EV_cond; exact rfl; all_goals intro h)
  · (repeat (first | refine stepA ?_ | refine regA E_ok fun fr => ⟨?_⟩))
    ((try refine sC ?_); refine sF ?_; refine SLe.of_eq ?_; (simp only [sigRaise, h1, h2, h3, if_false, Bool.false_eq_true]; simp only [h, if_true, if_false, r2p, Bool.false_eq_true]))
  · (repeat (first | refine stepA ?_ | refine regA E_ok fun fr => ⟨?_⟩))
    ((try refine sC ?_); refine sF ?_; refine SLe.of_eq ?_; (simp only [sigRaise, h1, h2, h3, if_false, Bool.false_eq_true]; simp only [h, if_true, if_false, r2p, Bool.false_eq_true]))
theorem ec_ref14_Take (p : GProcess) : EC Tryz.prog 142 [.agg p.c] [] fun r B => B = [] ∧ r = rp2 (p.Pending, { p with Pending := 0 }) := by
  refine EC.fin (nA E_ok call_142 Tryz.func142 Tryz.ntmps142 Tryz.results142 ?_)
  (repeat (first | refine stepA ?_ | refine regA E_ok fun fr => ⟨?_⟩))
  (refine dD E_ok [] [false, true] [0, 1, 2, 3] fol fun R hR => ?_; (repeat intro rh); (try refine sB ⟨?_⟩); (repeat ((with_reducible apply And.intro); exact sdB)); (repeat intro rh); (repeat ((with_reducible apply And.intro); exact sdB)); (try apply_assumption -exfalso))
  (repeat (first | refine stepA ?_ | refine regA E_ok fun fr => ⟨?_⟩))
  ((try refine sC ?_); refine sF ?_; refine SLe.of_eq ?_; rfl)
def sigOk (x : Int) : Bool := bitI .andNot .i64 x 4294966782 == 0
theorem ec_signal_Valid (x : Int) : EC Tryz.prog 48 [.int .i64 x] [] fun r B => B = [] ∧ r = .bool (sigOk x) := by
  refine EC.fin (nA E_ok call_48 Tryz.func48 Tryz.ntmps48 Tryz.results48 ?_)
  (repeat (first | refine stepA ?_ | refine regA E_ok fun fr => ⟨?_⟩))
  ((try refine sC ?_); refine sF ?_; refine SLe.of_eq ?_; rfl)
def sigOk' (x : Int) : Bool := decide (0 ≤ x) && decide (x < 4294967296) && bitI .and .i64 x 1 == 0 && bitI .and .i64 (x.fdiv 512) 1 == 0
theorem ec_ref14_Valid (x : Int) : EC Tryz.prog 51 [.int .i64 x] [] fun r B => B = [] ∧ r = .bool (sigOk' x) := by
  refine EC.fin (nA E_ok call_51 Tryz.func51 Tryz.ntmps51 Tryz.results51 ?_)
  (repeat (first | refine stepA ?_ | refine regA E_ok fun fr => ⟨?_⟩))
  ((try refine sC ?_); refine sF ?_; refine SLe.of_eq ?_; rfl)
end Go.Proofs.YtfmldmafigpblaaGreatDoor
end
section
namespace Go.Proofs.YtfmldmafigpblaaGreatDoor
open Go.Lift
set_option linter.unusedSimpArgs false
set_option linter.unusedVariables false
set_option maxRecDepth 10000
theorem pend_bits : ∀ i, i < 64 → (BitVec.ofInt 64 4294966782).getLsbD i = (decide (i < 32) && !decide (i = 0) && !decide (i = 9)) := by decide
theorem toInt_of (x : Int) (h : -9223372036854775808 ≤ x ∧ x ≤ 9223372036854775807) : (BitVec.ofInt 64 x).toInt = x := by
  rw [BitVec.toInt_ofInt, Int.bmod_eq_of_le (by omega) (by omega)]
theorem bitI_and1 (x : Int) : (bitI .and .i64 x 1 == 0) = !(BitVec.ofInt 64 x).getLsbD 0 := by
  rw [show bitI .and .i64 x 1 = IntKind.i64.wrap (((BitVec.ofInt 64 x &&& BitVec.ofInt 64 1).toNat : Nat) : Int) from rfl, wrap0]
  apply Bool.eq_iff_iff.2
  simp only [beq_iff_eq, Bool.not_eq_true']
  constructor
  · intro h
    have := congrArg (fun v => v.getLsbD 0) h
    simpa using this
  · intro h
    apply BitVec.eq_of_getLsbD_eq
    intro i hi
    rw [BitVec.getLsbD_and]
    by_cases h0 : i = 0
    · subst h0; rw [h, Bool.false_and, BitVec.getLsbD_zero]
    · have : (BitVec.ofInt 64 1).getLsbD i = false := by
        rw [show BitVec.ofInt 64 1 = 1#64 from rfl, BitVec.getLsbD_one]; simp [h0]
      rw [this, Bool.and_false, BitVec.getLsbD_zero]
theorem sigOk_eq (x : Int) (h : -9223372036854775808 ≤ x ∧ x ≤ 9223372036854775807) : sigOk x = sigOk' x := by
  unfold sigOk sigOk'
  rw [bitI_andNot, wrap0, bitI_and1, bitI_and1]
  have hx := toInt_of x h
  generalize hv : BitVec.ofInt 64 x = v at *
  have hc := pend_bits
  generalize hcv : BitVec.ofInt 64 4294966782 = c at *
  have e9 : (BitVec.ofInt 64 (x.fdiv 512)).getLsbD 0 = v.getLsbD 9 := by
    have e : BitVec.ofInt 64 (x.fdiv 512) = v.sshiftRight 9 := by
      apply BitVec.eq_of_toInt_eq
      rw [BitVec.toInt_sshiftRight, hx, Int.shiftRight_eq_div_pow, Int.fdiv_eq_ediv_of_nonneg _ (by decide), toInt_of _ (by omega)]
      rfl
    rw [e, BitVec.getLsbD_sshiftRight]
    simp
  rw [e9]
  apply Bool.eq_iff_iff.2
  simp only [beq_iff_eq, Bool.and_eq_true, decide_eq_true_eq, Bool.not_eq_true']
  constructor
  · intro h1
    have hb : ∀ i, i < 64 → v.getLsbD i = true → (decide (i < 32) && !decide (i = 0) && !decide (i = 9)) = true := by
      intro i hi hvi
      rw [← hc i hi]
      have := congrArg (fun u => u.getLsbD i) h1
      simp only [BitVec.getLsbD_and, BitVec.getLsbD_not, hvi, hi, decide_true, Bool.true_and, BitVec.getLsbD_zero] at this
      simpa using this
    have hlt : v.toNat < 2 ^ 32 := by
      apply Nat.lt_pow_two_of_testBit
      intro i hi
      by_cases h64 : i < 64
      · cases hvi : v.getLsbD i with
        | false => exact hvi
        | true => have := hb i h64 hvi; simp at this; omega
      · exact Nat.testBit_lt_two_pow (Nat.lt_of_lt_of_le v.isLt (Nat.pow_le_pow_right (by decide) (by omega)))
    have hti : v.toInt = v.toNat := by rw [BitVec.toInt_eq_toNat_cond]; split <;> omega
    refine ⟨⟨⟨by omega, by omega⟩, ?_⟩, ?_⟩
    · cases hvi : v.getLsbD 0 with
      | false => rfl
      | true => have := hb 0 (by decide) hvi; simp at this
    · cases hvi : v.getLsbD 9 with
      | false => rfl
      | true => have := hb 9 (by decide) hvi; simp at this
  · rintro ⟨⟨⟨h1, h2⟩, h3⟩, h4⟩
    have hlt : v.toNat < 2 ^ 32 := by
      rw [BitVec.toInt_eq_toNat_cond] at hx
      have := v.isLt
      split at hx <;> omega
    apply BitVec.eq_of_getLsbD_eq
    intro i hi
    simp only [BitVec.getLsbD_and, BitVec.getLsbD_not, hi, decide_true, Bool.true_and, BitVec.getLsbD_zero]
    rw [hc i hi]
    cases hvi : v.getLsbD i with
    | false => rfl
    | true =>
      have hi32 : i < 32 := by
        rcases Nat.lt_or_ge i 32 with h | h
        · exact h
        · have : v.getLsbD i = false := Nat.testBit_lt_two_pow (Nat.lt_of_lt_of_le hlt (Nat.pow_le_pow_right (by decide) h))
          rw [this] at hvi; cases hvi
      have h0 : i ≠ 0 := by rintro rfl; rw [h3] at hvi; cases hvi
      have h9 : i ≠ 9 := by rintro rfl; rw [h4] at hvi; cases hvi
      simp [hi32, h0, h9]
end Go.Proofs.YtfmldmafigpblaaGreatDoor
end
section
namespace Go.Proofs.YtfmldmafigpblaaGreatDoor
open Go.Lift
set_option linter.unusedSimpArgs false
set_option linter.unusedVariables false
set_option maxRecDepth 10000
def wrongB (n : Int) : Bool := decide (n < 0) || decide (1073741824 < n)
def almSet (p : GProcess) (t : Int) : Int × GProcess × Int := if wrongB t = true then (0, default, 2) else (p.Alarm, { p with Alarm := t }, 0)
def almTick (p : GProcess) (n : Int) : GProcess × Int := if wrongB n = true then (default, 2) else if (p.Alarm == 0 || (!(p.State == 1) && !(p.State == 2))) = true then (p, 0) else
  if decide (n < p.Alarm) = true then ({ p with Alarm := IntKind.i64.wrap (p.Alarm - n) }, 0) else sigRaise { p with Alarm := 0 } 14
def r3alm (x : Int × GProcess × Int) : SV := .tup [.int .i64 x.1, .agg x.2.1.c, .int .i64 x.2.2]
theorem ec_ref15_Set (p : GProcess) (t : Int) : EC Tryz.prog 150 [.agg p.c, .int .i64 t] [] fun r B => B = [] ∧ r = r3alm (almSet p t) := by
  refine EC.fin (nA E_ok call_150 Tryz.func150 Tryz.ntmps150 Tryz.results150 ?_)
  (repeat (first | refine stepA ?_ | refine regA E_ok fun fr => ⟨?_⟩))
  (apply EV_cond; exact rfl; all_goals intro h)
  · (repeat (first | refine stepA ?_ | refine regA E_ok fun fr => ⟨?_⟩))
    ((try refine sC ?_); refine sF ?_; refine SLe.of_eq ?_; (simp only [almSet, wrongB, h, if_true, r3alm]))
  (repeat (first | refine stepA ?_ | refine regA E_ok fun fr => ⟨?_⟩))
  (refine dD E_ok [] [false, true] [0, 1, 2, 3, 4] fol fun R hR => ?_; (repeat intro rh); (try refine sB ⟨?_⟩); (repeat ((with_reducible apply And.intro); exact sdB)); (repeat intro rh); (repeat ((with_reducible apply And.intro); exact sdB)); (try apply_assumption -exfalso))
  (repeat (first | refine stepA ?_ | refine regA E_ok fun fr => ⟨?_⟩))
  ((try refine sC ?_); refine sF ?_; refine SLe.of_eq ?_; (simp only [almSet, wrongB, h, if_false, r3alm, Bool.false_eq_true]))
theorem ec_ref15_Tick (p : GProcess) (n : Int) : EC Tryz.prog 107 [.agg p.c, .int .i64 n] [] fun r B => B = [] ∧ r = r2p (almTick p n) := by
  refine EC.fin (nA E_ok call_107 Tryz.func107 Tryz.ntmps107 Tryz.results107 ?_)
  (repeat (first | refine stepA ?_ | refine regA E_ok fun fr => ⟨?_⟩))
  (apply EV_cond; exact rfl; all_goals intro h)
  · (repeat (first | refine stepA ?_ | refine regA E_ok fun fr => ⟨?_⟩))
    ((try refine sC ?_); refine sF ?_; refine SLe.of_eq ?_; (simp only [almTick, wrongB, h, if_true, r2p]))
  (repeat (first | refine stepA ?_ | refine regA E_ok fun fr => ⟨?_⟩))
  have h0 : wrongB n = false := h
  clear h
  (apply EV_cond; exact rfl; all_goals intro h)
  · simp only [bne_eq] at h
    (repeat (first | refine stepA ?_ | refine regA E_ok fun fr => ⟨?_⟩))
    ((try refine sC ?_); refine sF ?_; refine SLe.of_eq ?_; (simp only [almTick, h0, h, if_true, if_false, Bool.false_eq_true, r2p]))
  · simp only [bne_eq] at h
    have h2 := h
    clear h
    (repeat (first | refine stepA ?_ | refine regA E_ok fun fr => ⟨?_⟩))
    (apply EV_cond; exact rfl; all_goals intro h)
    · (repeat (first | refine stepA ?_ | refine regA E_ok fun fr => ⟨?_⟩))
      ((try refine sC ?_); refine sF ?_; refine SLe.of_eq ?_; (simp only [almTick, h0, h2, h, if_true, if_false, Bool.false_eq_true, r2p]))
    · have cR := ec_ref14_Raise { p with Alarm := 0 } 14
      simp only [r2p] at cR
      (repeat (first | refine stepA ?_ | refine regA E_ok fun fr => ⟨?_⟩))
      (try refine regA E_ok fun fr => ⟨?_⟩)
      (refine EC.use (cR) ?_; (try simp only [hg]); refine gA E_ok fun fr => ⟨?_⟩)
      (repeat (first | refine stepA ?_ | refine regA E_ok fun fr => ⟨?_⟩))
      ((try refine sC ?_); refine sF ?_; refine SLe.of_eq ?_; (simp only [almTick, h0, h2, h, if_true, if_false, Bool.false_eq_true, r2p]))
end Go.Proofs.YtfmldmafigpblaaGreatDoor
end
section
namespace Go.Proofs.YtfmldmafigpblaaGreatDoor
open Go.Lift
set_option linter.unusedSimpArgs false
set_option linter.unusedVariables false
set_option maxRecDepth 10000
attribute [push_cast] Option.toList_none Option.toList_some
theorem SLe.fn {f : FuncId} {l l' : List SV} (h : LLe l l') : SLe (.fn f l) (.fn f l') := by
  intro X w v hd
  cases hd with
  | fn hs hc =>
    refine .fn (by rw [hs, h.spec.1]) fun i c hi => ?_
    obtain ⟨d, h1, h2⟩ := h.spec.2 i c hi
    exact h2 _ _ _ (hc i d h1)
def idxP {α : Type} (p : α → Bool) : Nat → List α → Int
  | _, [] => -1
  | i, y :: t => if p y then (i : Int) else idxP p (i + 1) t
theorem idxP_ge {α : Type} (p : α → Bool) (l : List α) : ∀ i, decide (0 ≤ idxP p i l) = l.any p := by
  induction l with
  | nil => intro i; simp [idxP]
  | cons y t ih =>
    intro i
    simp only [idxP, List.any_cons]
    split
    · simp [*]
    · simp [*]
theorem idxP_step {α : Type} [Inhabited α] {p : α → Bool} {l : List α} {i : Nat} (h : i < l.length) : idxP p i (l.drop i) = if p (l.getD i default) then (i : Int) else idxP p (i + 1) (l.drop (i + 1)) := by
  rw [List.drop_eq_getElem_cons h]
  simp [idxP, List.getD, h]
theorem ec_indexFunc_PR {g : FuncId} {hh : RowH} {T e : Nat} {xs : List (List SV)} {cap : List SV} {p : GPageRef → Bool} (l : List GPageRef) (hl : l.length ≤ 1000000)
    (hg : ∀ q : GPageRef, EC Tryz.prog g (.agg q.c :: cap) [.row hh T e xs] fun r N => r = .bool (p q) ∧ N = [.row hh T e xs]) :
    EC Tryz.prog 92 [slL 2 GPageRef.c default l, .fn g cap] [.row hh T e xs] fun r N => r = .int .i64 (idxP p 0 l) ∧ N = [.row hh T e xs] := by
  refine EC.close 1 (nA E_ok call_92 Tryz.func92 Tryz.ntmps92 Tryz.results92 ?_)
  (repeat (first | refine stepA ?_ | refine regA E_ok fun fr => ⟨?_⟩))
  refine EV_loopL [0, 1, 7] (fun i : Nat => [(8, .int .i64 i)]) (fun i => i ≤ l.length ∧ idxP p 0 l = idxP p i (l.drop i)) (fun i => l.length - i) 0 ⟨Nat.zero_le _, rfl⟩ ⟨rfl, trivial⟩ ?_
  rintro i ⟨hi, hx⟩
  refine sK ?_
  (repeat (first | refine stepA ?_ | refine regA E_ok fun fr => ⟨?_⟩))
  (apply EV_cond; exact rfl; all_goals intro h)
  · have hlt : i < l.length := by simp at h; omega
    rw [idxP_step hlt] at hx
    (repeat (first | refine stepA ?_ | refine regA E_ok fun fr => ⟨?_⟩))
    (try refine regA E_ok fun fr => ⟨?_⟩)
    refine EC.useAt 0 (hg (l.getD i default)) rfl (LLe.refl _) ?_
    ((try simp only [hg]); refine gA E_ok fun fr => ⟨?_⟩)
    (repeat (first | refine stepA ?_ | refine regA E_ok fun fr => ⟨?_⟩))
    (apply EV_cond; exact rfl; all_goals intro h)
    · rw [if_pos h] at hx
      (repeat (first | refine stepA ?_ | refine regA E_ok fun fr => ⟨?_⟩))
      (try refine sC ?_)
      refine sF ?_
      rw [hx]
    · rw [h, if_neg (by simp)] at hx
      (repeat (first | refine stepA ?_ | refine regA E_ok fun fr => ⟨?_⟩))
      ((try refine sT ?_); first | refine nxA (i + 1) ?_ ?_ | refine nxB (i + 1) ?_ ?_)
      · exact ⟨by omega, hx⟩
      · omega
  · have e : i = l.length := by simp at h; omega
    rw [e, List.drop_length] at hx
    (repeat (first | refine stepA ?_ | refine regA E_ok fun fr => ⟨?_⟩))
    (try refine sC ?_)
    refine sF ?_
    rw [hx]; rfl
theorem ec_containsFunc_PR {g : FuncId} {hh : RowH} {T e : Nat} {xs : List (List SV)} {cap : List SV} {p : GPageRef → Bool} (l : List GPageRef) (hl : l.length ≤ 1000000)
    (hg : ∀ q : GPageRef, EC Tryz.prog g (.agg q.c :: cap) [.row hh T e xs] fun r N => r = .bool (p q) ∧ N = [.row hh T e xs]) :
    EC Tryz.prog 71 [slL 2 GPageRef.c default l, .fn g cap] [.row hh T e xs] fun r N => r = .bool (l.any p) ∧ N = [.row hh T e xs] := by
  refine EC.close 1 (nA E_ok call_71 Tryz.func71 Tryz.ntmps71 Tryz.results71 ?_)
  (repeat (first | refine stepA ?_ | refine regA E_ok fun fr => ⟨?_⟩))
  (try refine regA E_ok fun fr => ⟨?_⟩)
  refine EC.useAt 0 (ec_indexFunc_PR l hl hg) rfl (LLe.refl _) ?_
  ((try simp only [hg]); refine gA E_ok fun fr => ⟨?_⟩)
  (repeat (first | refine stepA ?_ | refine regA E_ok fun fr => ⟨?_⟩))
  (try refine sC ?_)
  refine sF ?_
  rw [idxP_ge]
def again (p q : GPageRef) : Bool := q.ID == p.ID && (!q.Shared || !p.Shared)
theorem ec_again (h : RowH) (p q : GPageRef) : EC Tryz.prog 70 [.agg q.c, .rptr 0 h 2 0 0] [.row h 85 2 [p.c]] fun r N => r = .bool (again p q) ∧ N = [.row h 85 2 [p.c]] := by
  refine EC.close 1 (nA E_ok call_70 Tryz.func70 Tryz.ntmps70 Tryz.results70 ?_)
  (repeat (first | refine stepA ?_ | refine regA E_ok fun fr => ⟨?_⟩))
  (try refine sC ?_)
  refine sF ?_
  rfl
def pgP (l : List GPageRef) (i : Nat) : Bool := !((l.getD i default).ID == 0) && !((l.take i).any (again (l.getD i default)))
def spOk (l : List GPageRef) : Bool := (List.range l.length).all (pgP l) && decide ((l.length : Int) ≤ 16)
theorem pgAll_no {l : List GPageRef} {i : Nat} (h : i < l.length) (hp : pgP l i = false) : spOk l = false := by
  have : (List.range l.length).all (pgP l) = false := by
    simp only [List.all_eq_false]
    exact ⟨i, by simpa using h, by simp [hp]⟩
  simp only [spOk, this, Bool.false_and]
theorem ec_space_Valid (l : List GPageRef) (hl : l.length ≤ 1000000) : EC Tryz.prog 46 [slL 2 GPageRef.c default l] [] fun r B => B = [] ∧ r = .bool (spOk l) := by
  refine EC.fin (nA E_ok call_46 Tryz.func46 Tryz.ntmps46 Tryz.results46 ?_)
  (repeat (first | refine stepA ?_ | refine regA E_ok fun fr => ⟨?_⟩))
  refine EV_loopL [0, 6, 7] (fun i : Nat => [(8, .int .i64 i)]) (fun i => i ≤ l.length ∧ (List.range i).all (pgP l) = true) (fun i => l.length - i) 0 ⟨Nat.zero_le _, rfl⟩ ⟨rfl, trivial⟩ ?_
  rintro i ⟨hi, hp⟩
  refine sK ?_
  (repeat (first | refine stepA ?_ | refine regA E_ok fun fr => ⟨?_⟩))
  (apply EV_cond; exact rfl; all_goals intro h)
  · have hlt : i < l.length := by simp at h; omega
    clear h
    (repeat (first | refine stepA ?_ | refine regA E_ok fun fr => ⟨?_⟩))
    (try refine regA E_ok fun fr => ⟨?_⟩)
    refine ⟨fun hg => ?_, fun hg => ?_⟩
    · refine EC.useAt 0 (ec_containsFunc_PR (l.take i) (by simp; omega) (ec_again _ (l.getD i default))) rfl (LLe.refl _) ?_
      ((try simp only [hg]); refine gA E_ok fun fr => ⟨?_⟩)
      (repeat (first | refine stepA ?_ | refine regA E_ok fun fr => ⟨?_⟩))
      (apply EV_cond; exact rfl; all_goals intro h)
      · have hn : pgP l i = false := by simp only [pgP, hg, h]; rfl
        (repeat (first | refine stepA ?_ | refine regA E_ok fun fr => ⟨?_⟩))
        ((try refine sC ?_); refine sF ?_; refine SLe.of_eq ?_; (simp only [pgAll_no hlt hn]))
      · have hn : pgP l i = true := by simp only [pgP, hg, h]; rfl
        (repeat (first | refine stepA ?_ | refine regA E_ok fun fr => ⟨?_⟩))
        ((try refine sT ?_); first | refine nxA (i + 1) ?_ ?_ | refine nxB (i + 1) ?_ ?_)
        · exact ⟨by omega, by rw [List.range_succ, List.all_append, hp]; simp [hn]⟩
        · omega
    · rw [Bool.not_eq_false'] at hg
      ((try simp only [hg]); refine gA E_ok fun fr => ⟨?_⟩)
      (repeat (first | refine stepA ?_ | refine regA E_ok fun fr => ⟨?_⟩))
      (apply EV_cond; exact rfl; all_goals intro h)
      · have hn : pgP l i = false := by simp only [pgP, hg]; rfl
        (repeat (first | refine stepA ?_ | refine regA E_ok fun fr => ⟨?_⟩))
        ((try refine sC ?_); refine sF ?_; refine SLe.of_eq ?_; (simp only [pgAll_no hlt hn]))
      · simp [hg] at h
  · have e : i = l.length := by simp at h; omega
    clear h
    subst e
    (repeat (first | refine stepA ?_ | refine regA E_ok fun fr => ⟨?_⟩))
    ((try refine sC ?_); refine sF ?_; refine SLe.of_eq ?_; (simp only [spOk, hp, Bool.true_and]))
theorem again_ref (p q : GPageRef) : (p.ID == q.ID && !(p.Shared && q.Shared)) = again p q := by
  rw [again, Bool.beq_comm, Bool.not_and, Bool.or_comm]
theorem any_take_step {α : Type} [Inhabited α] {l : List α} {p : α → Bool} {j : Nat} (h : j < l.length) : (l.take (j + 1)).any p = ((l.take j).any p || p (l.getD j default)) := by
  rw [List.take_succ_eq_append_getElem h, List.any_append]
  simp [List.getD, h]
theorem ec_ref07_Valid (l : List GPageRef) (hl : l.length ≤ 1000000) : EC Tryz.prog 37 [slL 2 GPageRef.c default l] [] fun r B => B = [] ∧ r = .bool (spOk l) := by
  refine EC.fin (nA E_ok call_37 Tryz.func37 Tryz.ntmps37 Tryz.results37 ?_)
  (repeat (first | refine stepA ?_ | refine regA E_ok fun fr => ⟨?_⟩))
  refine EV_loopL [0, 7, 8] (fun i : Nat => [(9, .int .i64 i)]) (fun i => i ≤ l.length ∧ (List.range i).all (pgP l) = true) (fun i => l.length - i) 0 ⟨Nat.zero_le _, rfl⟩ ⟨rfl, trivial⟩ ?_
  rintro i ⟨hi, hp⟩
  refine sK ?_
  (repeat (first | refine stepA ?_ | refine regA E_ok fun fr => ⟨?_⟩))
  (apply EV_cond; exact rfl; all_goals intro h)
  · have hlt : i < l.length := by simp at h; omega
    clear h
    (repeat (first | refine stepA ?_ | refine regA E_ok fun fr => ⟨?_⟩))
    generalize hx : l.getD i default = x
    (apply EV_cond; exact rfl; all_goals intro h)
    · have hn : pgP l i = false := by simp only [pgP, hx, h]; rfl
      (repeat (first | refine stepA ?_ | refine regA E_ok fun fr => ⟨?_⟩))
      ((try refine sC ?_); refine sF ?_; refine SLe.of_eq ?_; (simp only [pgAll_no hlt hn]))
    have hid := h
    clear h
    (repeat (first | refine stepA ?_ | refine regA E_ok fun fr => ⟨?_⟩))
    obtain ⟨m, hm⟩ : ∃ m, List.take i l = m := ⟨_, rfl⟩
    have hmi : m.length = i := by rw [← hm]; simp; omega
    have hml : m.length ≤ 1000000 := by omega
    simp only [hm]
    refine EV_loopL [0, 7, 8, 9, 3, 4, 19, 20] (fun j : Nat => [(21, .int .i64 j)]) (fun j => j ≤ m.length ∧ (m.take j).any (again x) = false) (fun j => m.length - j) 0 ⟨Nat.zero_le _, rfl⟩ ⟨rfl, trivial⟩ ?_
    rintro j ⟨hj, hq⟩
    refine sK ?_
    (repeat (first | refine stepA ?_ | refine regA E_ok fun fr => ⟨?_⟩))
    (apply EV_cond; exact rfl; all_goals intro h)
    · have hlj : j < m.length := by simp at h; omega
      clear h
      (repeat (first | refine stepA ?_ | refine regA E_ok fun fr => ⟨?_⟩))
      generalize hy : m.getD j default = y
      (apply EV_cond; exact rfl; all_goals intro h)
      · have ha : again x y = true := by rw [← again_ref]; exact h
        have hn : pgP l i = false := by
          have : m.any (again x) = true := List.any_eq_true.2 ⟨y, by rw [← hy]; exact getD_mem hlj, ha⟩
          simp only [pgP, hx, hm, this, hid]; rfl
        (repeat (first | refine stepA ?_ | refine regA E_ok fun fr => ⟨?_⟩))
        ((try refine sC ?_); refine sF ?_; refine SLe.of_eq ?_; (simp only [pgAll_no hlt hn]))
      · have ha : again x y = false := by rw [← again_ref]; exact h
        (repeat (first | refine stepA ?_ | refine regA E_ok fun fr => ⟨?_⟩))
        ((try refine sT ?_); first | refine nxA (j + 1) ?_ ?_ | refine nxB (j + 1) ?_ ?_)
        · exact ⟨by omega, by rw [any_take_step hlj, hq, hy, ha]; rfl⟩
        · omega
    · have e : j = m.length := by simp at h; omega
      clear h
      rw [e, List.take_length] at hq
      have hn : pgP l i = true := by simp only [pgP, hx, hm, hq, hid]; rfl
      (repeat (first | refine stepA ?_ | refine regA E_ok fun fr => ⟨?_⟩))
      ((try refine sT ?_); first | refine nxA (i + 1) ?_ ?_ | refine nxB (i + 1) ?_ ?_)
      · exact ⟨by omega, by rw [List.range_succ, List.all_append, hp]; simp [hn]⟩
      · omega
  · have e : i = l.length := by simp at h; omega
    clear h
    subst e
    (repeat (first | refine stepA ?_ | refine regA E_ok fun fr => ⟨?_⟩))
    ((try refine sC ?_); refine sF ?_; refine SLe.of_eq ?_; (simp only [spOk, hp, Bool.true_and]))
def spFind (l : List GPageRef) (a : Int) : Int × Int × Int :=
  if (!spOk l) = true then (0, 0, 1) else if (decide (a < 0) || decide ((l.length : Int) * 16 ≤ a)) = true then (0, 0, 11) else ((l.getD (a / 16).toNat default).ID, a % 16, 0)
def r3s (x : Int × Int × Int) : SV := .tup [.int .u64 x.1, .int .i64 x.2.1, .int .i64 x.2.2]
theorem spOk_len {l : List GPageRef} (h : (!spOk l) = false) : l.length ≤ 16 := by
  simp [spOk] at h; omega
theorem find_div {a : Int} (h : 0 ≤ a ∧ a ≤ 9223372036854775807) : IntKind.i64.wrap (a.tdiv 16) = ((a / 16).toNat : Int) ∧ a.tmod 16 = a % 16 := by
  rw [Int.tdiv_eq_ediv_of_nonneg h.1, Int.tmod_eq_emod_of_nonneg h.1, i64_in' (by omega)]
  omega
theorem ec_ref07_Find (l : List GPageRef) (a : Int) (hl : l.length ≤ 1000000) (ha : -9223372036854775808 ≤ a ∧ a ≤ 9223372036854775807) : EC Tryz.prog 136 [slL 2 GPageRef.c default l, .int .i64 a] [] fun r B => B = [] ∧ r = r3s (spFind l a) := by
  refine EC.fin (nA E_ok call_136 Tryz.func136 Tryz.ntmps136 Tryz.results136 ?_)
  (repeat (first | refine stepA ?_ | refine regA E_ok fun fr => ⟨?_⟩))
  (try refine regA E_ok fun fr => ⟨?_⟩)
  (refine EC.use (ec_ref07_Valid l hl) ?_; (try simp only [hg]); refine gA E_ok fun fr => ⟨?_⟩)
  (repeat (first | refine stepA ?_ | refine regA E_ok fun fr => ⟨?_⟩))
  (apply EV_cond; exact rfl; all_goals intro h)
  · (repeat (first | refine stepA ?_ | refine regA E_ok fun fr => ⟨?_⟩))
    ((try refine sC ?_); refine sF ?_; refine SLe.of_eq ?_; (simp only [spFind, h, if_true, r3s]))
  have h0 := h
  clear h
  have hl16 := spOk_len h0
  (repeat (first | refine stepA ?_ | refine regA E_ok fun fr => ⟨?_⟩))
  (apply EV_cond; exact rfl; all_goals intro h)
  · (repeat (first | refine stepA ?_ | refine regA E_ok fun fr => ⟨?_⟩))
    ((try refine sC ?_); refine sF ?_; refine SLe.of_eq ?_; (simp only [spFind, h0, h, if_true, if_false, Bool.false_eq_true, r3s]))
  · have hq : 0 ≤ a ∧ a ≤ 9223372036854775807 := by
      simp only [Bool.or_eq_false_iff, decide_eq_false_iff_not] at h
      omega
    obtain ⟨e1, e2⟩ := find_div hq
    have hlt : (a / 16).toNat < l.length := by
      simp only [Bool.or_eq_false_iff, decide_eq_false_iff_not] at h
      omega
    (repeat (first | refine stepA ?_ | refine regA E_ok fun fr => ⟨?_⟩))
    ((try refine sC ?_); refine sF ?_; refine SLe.of_eq ?_; (simp only [spFind, h0, h, e1, e2, Int.toNat_natCast, if_true, if_false, Bool.false_eq_true, r3s]))
end Go.Proofs.YtfmldmafigpblaaGreatDoor
end
