/- Part 2: Typ. -/
import Derived.Test.YtfmldmafigpblaaGreatDoorU01
section
namespace Go.Proofs.YtfmldmafigpblaaGreatDoor
open Go.Lift
set_option linter.unusedSimpArgs false
set_option linter.unusedVariables false
theorem cj {p : Prop} (h : p := by repeat' first | exact rfl | (intro; exact rfl) | apply And.intro) : p := h
@[ext] structure GInstr where
  Op : Int
  A : Int
  B : Int
  C : Int
  deriving Inhabited, DecidableEq
def GInstr.c (x : GInstr) : List SV := [.int .i64 x.Op, .int .i64 x.A, .int .i64 x.B, .int .i64 x.C]
theorem GInstr.eta (x : GInstr) : (GInstr.mk x.Op x.A x.B x.C) = x := rfl
theorem GInstr.len (x : GInstr) : x.c.length = 4 := rfl
theorem GInstr.sol (x : GInstr) : solids x.c = true := rfl
theorem GInstr.t (x : GInstr) : x.c.take 4 = x.c := rfl
theorem GInstr.g (x : GInstr) (d : SV) : x.c.getD 0 d = .int .i64 x.Op ∧ x.c.getD 1 d = .int .i64 x.A ∧ x.c.getD 2 d = .int .i64 x.B ∧ x.c.getD 3 d = .int .i64 x.C := cj
theorem GInstr.q (x v : GInstr) : putL x.c 0 v.c = v.c := putL_app (by simp only [GInstr.len]; decide) rfl
theorem GInstr.p (x : GInstr) : (∀ v, putL x.c 0 [.int .i64 v] = GInstr.c { x with Op := v }) ∧ (∀ v, putL x.c 1 [.int .i64 v] = GInstr.c { x with A := v }) ∧ (∀ v, putL x.c 2 [.int .i64 v] = GInstr.c { x with B := v }) ∧ (∀ v, putL x.c 3 [.int .i64 v] = GInstr.c { x with C := v }) := cj
theorem GInstr.fz (sel : Nat → Bool) (B : List Own) (x : GInstr) : frzL sel B x.c = x.c := rfl
theorem GInstr.fk (sel : Nat → Bool) (B : List Own) (x : GInstr) : frzKL sel B x.c = True := by simp [GInstr.c, frzKL, frzKC]
theorem GInstr.kd (x : GInstr) : kinds x.c = [1, 1, 1, 1] := rfl
theorem GInstr.e1 (x y : GInstr) : (eqCells x.c y.c).1 = (x == y) := by
  apply Bool.eq_iff_iff.2
  obtain ⟨a0, a1, a2, a3⟩ := x
  obtain ⟨b0, b1, b2, b3⟩ := y
  simp [GInstr.c, eqCells, eqCell]
theorem GInstr.e2 (x y : GInstr) : (eqCells x.c y.c).2 = True := by simp [GInstr.c, eqCells, eqCell]
@[ext] structure GProgram where
  Code : List GInstr
  Strings : List (List UInt8)
  Pages : Int
  deriving Inhabited, DecidableEq
def GProgram.c (x : GProgram) : List SV := [.sl false 4 x.Code.length (elt GInstr.c default x.Code), .sl false 1 x.Strings.length (elt strC default x.Strings), .int .i64 x.Pages]
theorem GProgram.eta (x : GProgram) : (GProgram.mk x.Code x.Strings x.Pages) = x := rfl
theorem GProgram.len (x : GProgram) : x.c.length = 3 := rfl
theorem GProgram.sol (x : GProgram) : solids x.c = true := rfl
theorem GProgram.t (x : GProgram) : x.c.take 3 = x.c := rfl
theorem GProgram.g (x : GProgram) (d : SV) : x.c.getD 0 d = .sl false 4 x.Code.length (elt GInstr.c default x.Code) ∧ x.c.getD 1 d = .sl false 1 x.Strings.length (elt strC default x.Strings) ∧ x.c.getD 2 d = .int .i64 x.Pages := cj
theorem GProgram.q (x v : GProgram) : putL x.c 0 v.c = v.c := putL_app (by simp only [GProgram.len]; decide) rfl
theorem GProgram.p (x : GProgram) : (∀ v, putL x.c 0 [.sl false 4 v.length (elt GInstr.c default v)] = GProgram.c { x with Code := v }) ∧ (∀ v, putL x.c 1 [.sl false 1 v.length (elt strC default v)] = GProgram.c { x with Strings := v }) ∧ (∀ v, putL x.c 2 [.int .i64 v] = GProgram.c { x with Pages := v }) := cj
theorem GProgram.fz (sel : Nat → Bool) (B : List Own) (x : GProgram) : frzL sel B x.c = x.c := rfl
theorem GProgram.fk (sel : Nat → Bool) (B : List Own) (x : GProgram) : frzKL sel B x.c = True := by simp [GProgram.c, frzKL, frzKC]
@[ext] structure A8i64 where
  x0 : Int
  x1 : Int
  x2 : Int
  x3 : Int
  x4 : Int
  x5 : Int
  x6 : Int
  x7 : Int
  deriving Inhabited, DecidableEq
def A8i64.c (x : A8i64) : List SV := [.int .i64 x.x0, .int .i64 x.x1, .int .i64 x.x2, .int .i64 x.x3, .int .i64 x.x4, .int .i64 x.x5, .int .i64 x.x6, .int .i64 x.x7]
theorem A8i64.eta (x : A8i64) : (A8i64.mk x.x0 x.x1 x.x2 x.x3 x.x4 x.x5 x.x6 x.x7) = x := rfl
theorem A8i64.len (x : A8i64) : x.c.length = 8 := rfl
theorem A8i64.sol (x : A8i64) : solids x.c = true := rfl
theorem A8i64.t (x : A8i64) : x.c.take 8 = x.c := rfl
theorem A8i64.g (x : A8i64) (d : SV) : x.c.getD 0 d = .int .i64 x.x0 ∧ x.c.getD 1 d = .int .i64 x.x1 ∧ x.c.getD 2 d = .int .i64 x.x2 ∧ x.c.getD 3 d = .int .i64 x.x3 ∧ x.c.getD 4 d = .int .i64 x.x4 ∧ x.c.getD 5 d = .int .i64 x.x5 ∧ x.c.getD 6 d = .int .i64 x.x6 ∧ x.c.getD 7 d = .int .i64 x.x7 := cj
theorem A8i64.q (x v : A8i64) : putL x.c 0 v.c = v.c := putL_app (by simp only [A8i64.len]; decide) rfl
theorem A8i64.p (x : A8i64) : (∀ v, putL x.c 0 [.int .i64 v] = A8i64.c { x with x0 := v }) ∧ (∀ v, putL x.c 1 [.int .i64 v] = A8i64.c { x with x1 := v }) ∧ (∀ v, putL x.c 2 [.int .i64 v] = A8i64.c { x with x2 := v }) ∧ (∀ v, putL x.c 3 [.int .i64 v] = A8i64.c { x with x3 := v }) ∧ (∀ v, putL x.c 4 [.int .i64 v] = A8i64.c { x with x4 := v }) ∧ (∀ v, putL x.c 5 [.int .i64 v] = A8i64.c { x with x5 := v }) ∧ (∀ v, putL x.c 6 [.int .i64 v] = A8i64.c { x with x6 := v }) ∧ (∀ v, putL x.c 7 [.int .i64 v] = A8i64.c { x with x7 := v }) := cj
theorem A8i64.fz (sel : Nat → Bool) (B : List Own) (x : A8i64) : frzL sel B x.c = x.c := rfl
theorem A8i64.fk (sel : Nat → Bool) (B : List Own) (x : A8i64) : frzKL sel B x.c = True := by simp [A8i64.c, frzKL, frzKC]
theorem A8i64.kd (x : A8i64) : kinds x.c = [1, 1, 1, 1, 1, 1, 1, 1] := rfl
theorem A8i64.e1 (x y : A8i64) : (eqCells x.c y.c).1 = (x == y) := by
  apply Bool.eq_iff_iff.2
  obtain ⟨a0, a1, a2, a3, a4, a5, a6, a7⟩ := x
  obtain ⟨b0, b1, b2, b3, b4, b5, b6, b7⟩ := y
  simp [A8i64.c, eqCells, eqCell]
theorem A8i64.e2 (x y : A8i64) : (eqCells x.c y.c).2 = True := by simp [A8i64.c, eqCells, eqCell]
@[ext] structure GCPU where
  PC : Int
  Regs : A8i64
  deriving Inhabited, DecidableEq
def GCPU.c (x : GCPU) : List SV := [.int .i64 x.PC, .int .i64 x.Regs.x0, .int .i64 x.Regs.x1, .int .i64 x.Regs.x2, .int .i64 x.Regs.x3, .int .i64 x.Regs.x4, .int .i64 x.Regs.x5, .int .i64 x.Regs.x6, .int .i64 x.Regs.x7]
theorem GCPU.eta (x : GCPU) : (GCPU.mk x.PC x.Regs) = x := rfl
theorem GCPU.len (x : GCPU) : x.c.length = 9 := rfl
theorem GCPU.sol (x : GCPU) : solids x.c = true := rfl
theorem GCPU.t (x : GCPU) : x.c.take 9 = x.c := rfl
theorem GCPU.g (x : GCPU) (d : SV) : x.c.getD 0 d = .int .i64 x.PC ∧ x.c.getD 1 d = .int .i64 x.Regs.x0 ∧ x.c.getD 2 d = .int .i64 x.Regs.x1 ∧ x.c.getD 3 d = .int .i64 x.Regs.x2 ∧ x.c.getD 4 d = .int .i64 x.Regs.x3 ∧ x.c.getD 5 d = .int .i64 x.Regs.x4 ∧ x.c.getD 6 d = .int .i64 x.Regs.x5 ∧ x.c.getD 7 d = .int .i64 x.Regs.x6 ∧ x.c.getD 8 d = .int .i64 x.Regs.x7 := cj
theorem GCPU.d1_8 (x : GCPU) : (x.c.drop 1).take 8 = A8i64.c x.Regs := rfl
theorem GCPU.q1_8 (x : GCPU) (v : A8i64) : putL x.c 1 v.c = GCPU.c { x with Regs := v } := putL_app (by simp only [GCPU.len, A8i64.len]; decide) rfl
theorem GCPU.q (x v : GCPU) : putL x.c 0 v.c = v.c := putL_app (by simp only [GCPU.len]; decide) rfl
theorem GCPU.p (x : GCPU) : (∀ v, putL x.c 0 [.int .i64 v] = GCPU.c { x with PC := v }) ∧ (∀ v, putL x.c 1 [.int .i64 v] = GCPU.c { x with Regs := { x.Regs with x0 := v } }) ∧ (∀ v, putL x.c 2 [.int .i64 v] = GCPU.c { x with Regs := { x.Regs with x1 := v } }) ∧ (∀ v, putL x.c 3 [.int .i64 v] = GCPU.c { x with Regs := { x.Regs with x2 := v } }) ∧ (∀ v, putL x.c 4 [.int .i64 v] = GCPU.c { x with Regs := { x.Regs with x3 := v } }) ∧ (∀ v, putL x.c 5 [.int .i64 v] = GCPU.c { x with Regs := { x.Regs with x4 := v } }) ∧ (∀ v, putL x.c 6 [.int .i64 v] = GCPU.c { x with Regs := { x.Regs with x5 := v } }) ∧ (∀ v, putL x.c 7 [.int .i64 v] = GCPU.c { x with Regs := { x.Regs with x6 := v } }) ∧ (∀ v, putL x.c 8 [.int .i64 v] = GCPU.c { x with Regs := { x.Regs with x7 := v } }) := cj
theorem GCPU.fz (sel : Nat → Bool) (B : List Own) (x : GCPU) : frzL sel B x.c = x.c := rfl
theorem GCPU.fk (sel : Nat → Bool) (B : List Own) (x : GCPU) : frzKL sel B x.c = True := by simp [GCPU.c, frzKL, frzKC]
theorem GCPU.kd (x : GCPU) : kinds x.c = [1, 1, 1, 1, 1, 1, 1, 1, 1] := rfl
theorem GCPU.e1 (x y : GCPU) : (eqCells x.c y.c).1 = (x == y) := by
  apply Bool.eq_iff_iff.2
  rw [beq_iff_eq, GCPU.ext_iff]
  simp [GCPU.c, eqCells, eqCell, A8i64.ext_iff, and_assoc]
theorem GCPU.e2 (x y : GCPU) : (eqCells x.c y.c).2 = True := by simp [GCPU.c, eqCells, eqCell]
@[ext] structure GPageRef where
  ID : Int
  Shared : Bool
  deriving Inhabited, DecidableEq
def GPageRef.c (x : GPageRef) : List SV := [.int .u64 x.ID, .bool x.Shared]
theorem GPageRef.eta (x : GPageRef) : (GPageRef.mk x.ID x.Shared) = x := rfl
theorem GPageRef.len (x : GPageRef) : x.c.length = 2 := rfl
theorem GPageRef.sol (x : GPageRef) : solids x.c = true := rfl
theorem GPageRef.t (x : GPageRef) : x.c.take 2 = x.c := rfl
theorem GPageRef.g (x : GPageRef) (d : SV) : x.c.getD 0 d = .int .u64 x.ID ∧ x.c.getD 1 d = .bool x.Shared := cj
theorem GPageRef.q (x v : GPageRef) : putL x.c 0 v.c = v.c := putL_app (by simp only [GPageRef.len]; decide) rfl
theorem GPageRef.p (x : GPageRef) : (∀ v, putL x.c 0 [.int .u64 v] = GPageRef.c { x with ID := v }) ∧ (∀ v, putL x.c 1 [.bool v] = GPageRef.c { x with Shared := v }) := cj
theorem GPageRef.fz (sel : Nat → Bool) (B : List Own) (x : GPageRef) : frzL sel B x.c = x.c := rfl
theorem GPageRef.fk (sel : Nat → Bool) (B : List Own) (x : GPageRef) : frzKL sel B x.c = True := by simp [GPageRef.c, frzKL, frzKC]
theorem GPageRef.kd (x : GPageRef) : kinds x.c = [1, 0] := rfl
theorem GPageRef.e1 (x y : GPageRef) : (eqCells x.c y.c).1 = (x == y) := by
  apply Bool.eq_iff_iff.2
  obtain ⟨a0, a1⟩ := x
  obtain ⟨b0, b1⟩ := y
  simp [GPageRef.c, eqCells, eqCell]
theorem GPageRef.e2 (x y : GPageRef) : (eqCells x.c y.c).2 = True := by simp [GPageRef.c, eqCells, eqCell]
@[ext] structure GSlot where
  Kind : Int
  Description : Int
  Target : Int
  End : Int
  deriving Inhabited, DecidableEq
def GSlot.c (x : GSlot) : List SV := [.int .i64 x.Kind, .int .u64 x.Description, .int .u64 x.Target, .int .i64 x.End]
theorem GSlot.eta (x : GSlot) : (GSlot.mk x.Kind x.Description x.Target x.End) = x := rfl
theorem GSlot.len (x : GSlot) : x.c.length = 4 := rfl
theorem GSlot.sol (x : GSlot) : solids x.c = true := rfl
theorem GSlot.t (x : GSlot) : x.c.take 4 = x.c := rfl
theorem GSlot.g (x : GSlot) (d : SV) : x.c.getD 0 d = .int .i64 x.Kind ∧ x.c.getD 1 d = .int .u64 x.Description ∧ x.c.getD 2 d = .int .u64 x.Target ∧ x.c.getD 3 d = .int .i64 x.End := cj
theorem GSlot.q (x v : GSlot) : putL x.c 0 v.c = v.c := putL_app (by simp only [GSlot.len]; decide) rfl
theorem GSlot.p (x : GSlot) : (∀ v, putL x.c 0 [.int .i64 v] = GSlot.c { x with Kind := v }) ∧ (∀ v, putL x.c 1 [.int .u64 v] = GSlot.c { x with Description := v }) ∧ (∀ v, putL x.c 2 [.int .u64 v] = GSlot.c { x with Target := v }) ∧ (∀ v, putL x.c 3 [.int .i64 v] = GSlot.c { x with End := v }) := cj
theorem GSlot.fz (sel : Nat → Bool) (B : List Own) (x : GSlot) : frzL sel B x.c = x.c := rfl
theorem GSlot.fk (sel : Nat → Bool) (B : List Own) (x : GSlot) : frzKL sel B x.c = True := by simp [GSlot.c, frzKL, frzKC]
theorem GSlot.kd (x : GSlot) : kinds x.c = [1, 1, 1, 1] := rfl
theorem GSlot.e1 (x y : GSlot) : (eqCells x.c y.c).1 = (x == y) := by
  apply Bool.eq_iff_iff.2
  obtain ⟨a0, a1, a2, a3⟩ := x
  obtain ⟨b0, b1, b2, b3⟩ := y
  simp [GSlot.c, eqCells, eqCell]
theorem GSlot.e2 (x y : GSlot) : (eqCells x.c y.c).2 = True := by simp [GSlot.c, eqCells, eqCell]
@[ext] structure GProcess where
  State : Int
  Parent : Int
  Children : List Int
  Program : GProgram
  CPU : GCPU
  Pages : List GPageRef
  Table : List GSlot
  Pending : Int
  Alarm : Int
  Status : Int
  deriving Inhabited, DecidableEq
def GProcess.c (x : GProcess) : List SV := [.int .i64 x.State, .int .u64 x.Parent, .sl false 1 x.Children.length (elt (intC .u64) default x.Children), .sl false 4 x.Program.Code.length (elt GInstr.c default x.Program.Code), .sl false 1 x.Program.Strings.length (elt strC default x.Program.Strings), .int .i64 x.Program.Pages, .int .i64 x.CPU.PC, .int .i64 x.CPU.Regs.x0, .int .i64 x.CPU.Regs.x1, .int .i64 x.CPU.Regs.x2, .int .i64 x.CPU.Regs.x3, .int .i64 x.CPU.Regs.x4, .int .i64 x.CPU.Regs.x5, .int .i64 x.CPU.Regs.x6, .int .i64 x.CPU.Regs.x7, .sl false 2 x.Pages.length (elt GPageRef.c default x.Pages), .sl false 4 x.Table.length (elt GSlot.c default x.Table), .int .i64 x.Pending, .int .i64 x.Alarm, .int .i64 x.Status]
theorem GProcess.eta (x : GProcess) : (GProcess.mk x.State x.Parent x.Children x.Program x.CPU x.Pages x.Table x.Pending x.Alarm x.Status) = x := rfl
theorem GProcess.len (x : GProcess) : x.c.length = 20 := rfl
theorem GProcess.sol (x : GProcess) : solids x.c = true := rfl
theorem GProcess.t (x : GProcess) : x.c.take 20 = x.c := rfl
theorem GProcess.g (x : GProcess) (d : SV) : x.c.getD 0 d = .int .i64 x.State ∧ x.c.getD 1 d = .int .u64 x.Parent ∧ x.c.getD 2 d = .sl false 1 x.Children.length (elt (intC .u64) default x.Children) ∧ x.c.getD 3 d = .sl false 4 x.Program.Code.length (elt GInstr.c default x.Program.Code) ∧ x.c.getD 4 d = .sl false 1 x.Program.Strings.length (elt strC default x.Program.Strings) ∧ x.c.getD 5 d = .int .i64 x.Program.Pages ∧ x.c.getD 6 d = .int .i64 x.CPU.PC ∧ x.c.getD 7 d = .int .i64 x.CPU.Regs.x0 ∧ x.c.getD 8 d = .int .i64 x.CPU.Regs.x1 ∧ x.c.getD 9 d = .int .i64 x.CPU.Regs.x2 ∧ x.c.getD 10 d = .int .i64 x.CPU.Regs.x3 ∧ x.c.getD 11 d = .int .i64 x.CPU.Regs.x4 ∧ x.c.getD 12 d = .int .i64 x.CPU.Regs.x5 ∧ x.c.getD 13 d = .int .i64 x.CPU.Regs.x6 ∧ x.c.getD 14 d = .int .i64 x.CPU.Regs.x7 ∧ x.c.getD 15 d = .sl false 2 x.Pages.length (elt GPageRef.c default x.Pages) ∧ x.c.getD 16 d = .sl false 4 x.Table.length (elt GSlot.c default x.Table) ∧ x.c.getD 17 d = .int .i64 x.Pending ∧ x.c.getD 18 d = .int .i64 x.Alarm ∧ x.c.getD 19 d = .int .i64 x.Status := cj
theorem GProcess.d3_3 (x : GProcess) : (x.c.drop 3).take 3 = GProgram.c x.Program := rfl
theorem GProcess.q3_3 (x : GProcess) (v : GProgram) : putL x.c 3 v.c = GProcess.c { x with Program := v } := putL_app (by simp only [GProcess.len, GProgram.len]; decide) rfl
theorem GProcess.d6_9 (x : GProcess) : (x.c.drop 6).take 9 = GCPU.c x.CPU := rfl
theorem GProcess.q6_9 (x : GProcess) (v : GCPU) : putL x.c 6 v.c = GProcess.c { x with CPU := v } := putL_app (by simp only [GProcess.len, GCPU.len]; decide) rfl
theorem GProcess.d7_8 (x : GProcess) : (x.c.drop 7).take 8 = A8i64.c x.CPU.Regs := rfl
theorem GProcess.q7_8 (x : GProcess) (v : A8i64) : putL x.c 7 v.c = GProcess.c { x with CPU := { x.CPU with Regs := v } } := putL_app (by simp only [GProcess.len, A8i64.len]; decide) rfl
theorem GProcess.q (x v : GProcess) : putL x.c 0 v.c = v.c := putL_app (by simp only [GProcess.len]; decide) rfl
theorem GProcess.p (x : GProcess) : (∀ v, putL x.c 0 [.int .i64 v] = GProcess.c { x with State := v }) ∧ (∀ v, putL x.c 1 [.int .u64 v] = GProcess.c { x with Parent := v }) ∧ (∀ v, putL x.c 2 [.sl false 1 v.length (elt (intC .u64) default v)] = GProcess.c { x with Children := v }) ∧ (∀ v, putL x.c 3 [.sl false 4 v.length (elt GInstr.c default v)] = GProcess.c { x with Program := { x.Program with Code := v } }) ∧ (∀ v, putL x.c 4 [.sl false 1 v.length (elt strC default v)] = GProcess.c { x with Program := { x.Program with Strings := v } }) ∧ (∀ v, putL x.c 5 [.int .i64 v] = GProcess.c { x with Program := { x.Program with Pages := v } }) ∧ (∀ v, putL x.c 6 [.int .i64 v] = GProcess.c { x with CPU := { x.CPU with PC := v } }) ∧ (∀ v, putL x.c 7 [.int .i64 v] = GProcess.c { x with CPU := { x.CPU with Regs := { x.CPU.Regs with x0 := v } } }) ∧ (∀ v, putL x.c 8 [.int .i64 v] = GProcess.c { x with CPU := { x.CPU with Regs := { x.CPU.Regs with x1 := v } } }) ∧ (∀ v, putL x.c 9 [.int .i64 v] = GProcess.c { x with CPU := { x.CPU with Regs := { x.CPU.Regs with x2 := v } } }) ∧ (∀ v, putL x.c 10 [.int .i64 v] = GProcess.c { x with CPU := { x.CPU with Regs := { x.CPU.Regs with x3 := v } } }) ∧ (∀ v, putL x.c 11 [.int .i64 v] = GProcess.c { x with CPU := { x.CPU with Regs := { x.CPU.Regs with x4 := v } } }) ∧ (∀ v, putL x.c 12 [.int .i64 v] = GProcess.c { x with CPU := { x.CPU with Regs := { x.CPU.Regs with x5 := v } } }) ∧ (∀ v, putL x.c 13 [.int .i64 v] = GProcess.c { x with CPU := { x.CPU with Regs := { x.CPU.Regs with x6 := v } } }) ∧ (∀ v, putL x.c 14 [.int .i64 v] = GProcess.c { x with CPU := { x.CPU with Regs := { x.CPU.Regs with x7 := v } } }) ∧ (∀ v, putL x.c 15 [.sl false 2 v.length (elt GPageRef.c default v)] = GProcess.c { x with Pages := v }) ∧ (∀ v, putL x.c 16 [.sl false 4 v.length (elt GSlot.c default v)] = GProcess.c { x with Table := v }) ∧ (∀ v, putL x.c 17 [.int .i64 v] = GProcess.c { x with Pending := v }) ∧ (∀ v, putL x.c 18 [.int .i64 v] = GProcess.c { x with Alarm := v }) ∧ (∀ v, putL x.c 19 [.int .i64 v] = GProcess.c { x with Status := v }) := cj
theorem GProcess.fz (sel : Nat → Bool) (B : List Own) (x : GProcess) : frzL sel B x.c = x.c := rfl
theorem GProcess.fk (sel : Nat → Bool) (B : List Own) (x : GProcess) : frzKL sel B x.c = True := by simp [GProcess.c, frzKL, frzKC]
def cL_u8 (l : List Int) : List SV := [.sl false 1 l.length (elt (intC .u8) default l)]
theorem cL_u8_len (l : List Int) : (cL_u8 l).length = 1 := rfl
theorem cL_u8_sol (l : List Int) : solids (cL_u8 l) = true := rfl
theorem cL_u8_g0 (l : List Int) (d : SV) : (cL_u8 l).getD 0 d = .sl false 1 l.length (elt (intC .u8) default l) := rfl
theorem cL_u8_t (l : List Int) : (cL_u8 l).take 1 = cL_u8 l := rfl
theorem cL_u8_p0 (l v : List Int) : putL (cL_u8 l) 0 [.sl false 1 v.length (elt (intC .u8) default v)] = cL_u8 v := rfl
theorem cL_u8_c0 {v : List Int} {s : SV} (hs : SLe s (.sl false 1 v.length (elt (intC .u8) default v))) : LLe [s] (cL_u8 v) := .cons hs .nil
@[ext] structure A2Lu8 where
  x0 : List Int
  x1 : List Int
  deriving Inhabited, DecidableEq
def A2Lu8.c (x : A2Lu8) : List SV := [.sl false 1 x.x0.length (elt (intC .u8) default x.x0), .sl false 1 x.x1.length (elt (intC .u8) default x.x1)]
theorem A2Lu8.eta (x : A2Lu8) : (A2Lu8.mk x.x0 x.x1) = x := rfl
theorem A2Lu8.len (x : A2Lu8) : x.c.length = 2 := rfl
theorem A2Lu8.sol (x : A2Lu8) : solids x.c = true := rfl
theorem A2Lu8.t (x : A2Lu8) : x.c.take 2 = x.c := rfl
theorem A2Lu8.g (x : A2Lu8) (d : SV) : x.c.getD 0 d = .sl false 1 x.x0.length (elt (intC .u8) default x.x0) ∧ x.c.getD 1 d = .sl false 1 x.x1.length (elt (intC .u8) default x.x1) := cj
theorem A2Lu8.q (x v : A2Lu8) : putL x.c 0 v.c = v.c := putL_app (by simp only [A2Lu8.len]; decide) rfl
theorem A2Lu8.p (x : A2Lu8) : (∀ v, putL x.c 0 [.sl false 1 v.length (elt (intC .u8) default v)] = A2Lu8.c { x with x0 := v }) ∧ (∀ v, putL x.c 1 [.sl false 1 v.length (elt (intC .u8) default v)] = A2Lu8.c { x with x1 := v }) := cj
theorem A2Lu8.fz (sel : Nat → Bool) (B : List Own) (x : A2Lu8) : frzL sel B x.c = x.c := rfl
theorem A2Lu8.fk (sel : Nat → Bool) (B : List Own) (x : A2Lu8) : frzKL sel B x.c = True := by simp [A2Lu8.c, frzKL, frzKC]
@[ext] structure A2i64 where
  x0 : Int
  x1 : Int
  deriving Inhabited, DecidableEq
def A2i64.c (x : A2i64) : List SV := [.int .i64 x.x0, .int .i64 x.x1]
theorem A2i64.eta (x : A2i64) : (A2i64.mk x.x0 x.x1) = x := rfl
theorem A2i64.len (x : A2i64) : x.c.length = 2 := rfl
theorem A2i64.sol (x : A2i64) : solids x.c = true := rfl
theorem A2i64.t (x : A2i64) : x.c.take 2 = x.c := rfl
theorem A2i64.g (x : A2i64) (d : SV) : x.c.getD 0 d = .int .i64 x.x0 ∧ x.c.getD 1 d = .int .i64 x.x1 := cj
theorem A2i64.q (x v : A2i64) : putL x.c 0 v.c = v.c := putL_app (by simp only [A2i64.len]; decide) rfl
theorem A2i64.p (x : A2i64) : (∀ v, putL x.c 0 [.int .i64 v] = A2i64.c { x with x0 := v }) ∧ (∀ v, putL x.c 1 [.int .i64 v] = A2i64.c { x with x1 := v }) := cj
theorem A2i64.fz (sel : Nat → Bool) (B : List Own) (x : A2i64) : frzL sel B x.c = x.c := rfl
theorem A2i64.fk (sel : Nat → Bool) (B : List Own) (x : A2i64) : frzKL sel B x.c = True := by simp [A2i64.c, frzKL, frzKC]
theorem A2i64.kd (x : A2i64) : kinds x.c = [1, 1] := rfl
theorem A2i64.e1 (x y : A2i64) : (eqCells x.c y.c).1 = (x == y) := by
  apply Bool.eq_iff_iff.2
  obtain ⟨a0, a1⟩ := x
  obtain ⟨b0, b1⟩ := y
  simp [A2i64.c, eqCells, eqCell]
theorem A2i64.e2 (x y : A2i64) : (eqCells x.c y.c).2 = True := by simp [A2i64.c, eqCells, eqCell]
@[ext] structure GName where
  Path : List UInt8
  Kind : Int
  IDs : List Int
  deriving Inhabited, DecidableEq
def GName.c (x : GName) : List SV := [.str x.Path, .int .i64 x.Kind, .sl false 1 x.IDs.length (elt (intC .u64) default x.IDs)]
theorem GName.eta (x : GName) : (GName.mk x.Path x.Kind x.IDs) = x := rfl
theorem GName.len (x : GName) : x.c.length = 3 := rfl
theorem GName.sol (x : GName) : solids x.c = true := rfl
theorem GName.t (x : GName) : x.c.take 3 = x.c := rfl
theorem GName.g (x : GName) (d : SV) : x.c.getD 0 d = .str x.Path ∧ x.c.getD 1 d = .int .i64 x.Kind ∧ x.c.getD 2 d = .sl false 1 x.IDs.length (elt (intC .u64) default x.IDs) := cj
theorem GName.q (x v : GName) : putL x.c 0 v.c = v.c := putL_app (by simp only [GName.len]; decide) rfl
theorem GName.p (x : GName) : (∀ v, putL x.c 0 [.str v] = GName.c { x with Path := v }) ∧ (∀ v, putL x.c 1 [.int .i64 v] = GName.c { x with Kind := v }) ∧ (∀ v, putL x.c 2 [.sl false 1 v.length (elt (intC .u64) default v)] = GName.c { x with IDs := v }) := cj
theorem GName.p2 (x : GName) (v : List Int) : putL x.c 2 [.sl false 1 v.length (elt (intC .u64) default v)] = GName.c { x with IDs := v } := rfl
theorem GName.fz (sel : Nat → Bool) (B : List Own) (x : GName) : frzL sel B x.c = x.c := rfl
theorem GName.fk (sel : Nat → Bool) (B : List Own) (x : GName) : frzKL sel B x.c = True := by simp [GName.c, frzKL, frzKC]
@[ext] structure GObject where
  ID : Int
  Kind : Int
  Refs : Int
  Process : GProcess
  Words : List Int
  Data : List Int
  Offset : Int
  Target : Int
  Readers : Int
  Writers : Int
  Backlog : List Int
  Queues : A2Lu8
  Ends : A2i64
  Count : Int
  Names : List GName
  deriving Inhabited, DecidableEq
def GObject.c (x : GObject) : List SV := [.int .u64 x.ID, .int .i64 x.Kind, .int .i64 x.Refs, .int .i64 x.Process.State, .int .u64 x.Process.Parent, .sl false 1 x.Process.Children.length (elt (intC .u64) default x.Process.Children), .sl false 4 x.Process.Program.Code.length (elt GInstr.c default x.Process.Program.Code), .sl false 1 x.Process.Program.Strings.length (elt strC default x.Process.Program.Strings), .int .i64 x.Process.Program.Pages, .int .i64 x.Process.CPU.PC, .int .i64 x.Process.CPU.Regs.x0, .int .i64 x.Process.CPU.Regs.x1, .int .i64 x.Process.CPU.Regs.x2, .int .i64 x.Process.CPU.Regs.x3, .int .i64 x.Process.CPU.Regs.x4, .int .i64 x.Process.CPU.Regs.x5, .int .i64 x.Process.CPU.Regs.x6, .int .i64 x.Process.CPU.Regs.x7, .sl false 2 x.Process.Pages.length (elt GPageRef.c default x.Process.Pages), .sl false 4 x.Process.Table.length (elt GSlot.c default x.Process.Table), .int .i64 x.Process.Pending, .int .i64 x.Process.Alarm, .int .i64 x.Process.Status, .sl false 1 x.Words.length (elt (intC .i64) default x.Words), .sl false 1 x.Data.length (elt (intC .u8) default x.Data), .int .i64 x.Offset, .int .u64 x.Target, .int .i64 x.Readers, .int .i64 x.Writers, .sl false 1 x.Backlog.length (elt (intC .u64) default x.Backlog), .sl false 1 x.Queues.x0.length (elt (intC .u8) default x.Queues.x0), .sl false 1 x.Queues.x1.length (elt (intC .u8) default x.Queues.x1), .int .i64 x.Ends.x0, .int .i64 x.Ends.x1, .int .i64 x.Count, .sl false 3 x.Names.length (elt GName.c default x.Names)]
theorem GObject.eta (x : GObject) : (GObject.mk x.ID x.Kind x.Refs x.Process x.Words x.Data x.Offset x.Target x.Readers x.Writers x.Backlog x.Queues x.Ends x.Count x.Names) = x := rfl
theorem GObject.len (x : GObject) : x.c.length = 36 := rfl
theorem GObject.sol (x : GObject) : solids x.c = true := rfl
theorem GObject.t (x : GObject) : x.c.take 36 = x.c := rfl
theorem GObject.g (x : GObject) (d : SV) : x.c.getD 0 d = .int .u64 x.ID ∧ x.c.getD 1 d = .int .i64 x.Kind ∧ x.c.getD 2 d = .int .i64 x.Refs ∧ x.c.getD 3 d = .int .i64 x.Process.State ∧ x.c.getD 4 d = .int .u64 x.Process.Parent ∧ x.c.getD 5 d = .sl false 1 x.Process.Children.length (elt (intC .u64) default x.Process.Children) ∧ x.c.getD 6 d = .sl false 4 x.Process.Program.Code.length (elt GInstr.c default x.Process.Program.Code) ∧ x.c.getD 7 d = .sl false 1 x.Process.Program.Strings.length (elt strC default x.Process.Program.Strings) ∧ x.c.getD 8 d = .int .i64 x.Process.Program.Pages ∧ x.c.getD 9 d = .int .i64 x.Process.CPU.PC ∧ x.c.getD 10 d = .int .i64 x.Process.CPU.Regs.x0 ∧ x.c.getD 11 d = .int .i64 x.Process.CPU.Regs.x1 ∧ x.c.getD 12 d = .int .i64 x.Process.CPU.Regs.x2 ∧ x.c.getD 13 d = .int .i64 x.Process.CPU.Regs.x3 ∧ x.c.getD 14 d = .int .i64 x.Process.CPU.Regs.x4 ∧ x.c.getD 15 d = .int .i64 x.Process.CPU.Regs.x5 ∧ x.c.getD 16 d = .int .i64 x.Process.CPU.Regs.x6 ∧ x.c.getD 17 d = .int .i64 x.Process.CPU.Regs.x7 ∧ x.c.getD 18 d = .sl false 2 x.Process.Pages.length (elt GPageRef.c default x.Process.Pages) ∧ x.c.getD 19 d = .sl false 4 x.Process.Table.length (elt GSlot.c default x.Process.Table) ∧ x.c.getD 20 d = .int .i64 x.Process.Pending ∧ x.c.getD 21 d = .int .i64 x.Process.Alarm ∧ x.c.getD 22 d = .int .i64 x.Process.Status ∧ x.c.getD 23 d = .sl false 1 x.Words.length (elt (intC .i64) default x.Words) ∧ x.c.getD 24 d = .sl false 1 x.Data.length (elt (intC .u8) default x.Data) ∧ x.c.getD 25 d = .int .i64 x.Offset ∧ x.c.getD 26 d = .int .u64 x.Target ∧ x.c.getD 27 d = .int .i64 x.Readers ∧ x.c.getD 28 d = .int .i64 x.Writers ∧ x.c.getD 29 d = .sl false 1 x.Backlog.length (elt (intC .u64) default x.Backlog) ∧ x.c.getD 30 d = .sl false 1 x.Queues.x0.length (elt (intC .u8) default x.Queues.x0) ∧ x.c.getD 31 d = .sl false 1 x.Queues.x1.length (elt (intC .u8) default x.Queues.x1) ∧ x.c.getD 32 d = .int .i64 x.Ends.x0 ∧ x.c.getD 33 d = .int .i64 x.Ends.x1 ∧ x.c.getD 34 d = .int .i64 x.Count ∧ x.c.getD 35 d = .sl false 3 x.Names.length (elt GName.c default x.Names) := cj
theorem GObject.d3_20 (x : GObject) : (x.c.drop 3).take 20 = GProcess.c x.Process := rfl
theorem GObject.q3_20 (x : GObject) (v : GProcess) : putL x.c 3 v.c = GObject.c { x with Process := v } := putL_app (by simp only [GObject.len, GProcess.len]; decide) rfl
theorem GObject.d6_3 (x : GObject) : (x.c.drop 6).take 3 = GProgram.c x.Process.Program := rfl
theorem GObject.q6_3 (x : GObject) (v : GProgram) : putL x.c 6 v.c = GObject.c { x with Process := { x.Process with Program := v } } := putL_app (by simp only [GObject.len, GProgram.len]; decide) rfl
theorem GObject.d9_9 (x : GObject) : (x.c.drop 9).take 9 = GCPU.c x.Process.CPU := rfl
theorem GObject.q9_9 (x : GObject) (v : GCPU) : putL x.c 9 v.c = GObject.c { x with Process := { x.Process with CPU := v } } := putL_app (by simp only [GObject.len, GCPU.len]; decide) rfl
theorem GObject.d10_8 (x : GObject) : (x.c.drop 10).take 8 = A8i64.c x.Process.CPU.Regs := rfl
theorem GObject.q10_8 (x : GObject) (v : A8i64) : putL x.c 10 v.c = GObject.c { x with Process := { x.Process with CPU := { x.Process.CPU with Regs := v } } } := putL_app (by simp only [GObject.len, A8i64.len]; decide) rfl
theorem GObject.d30_2 (x : GObject) : (x.c.drop 30).take 2 = A2Lu8.c x.Queues := rfl
theorem GObject.q30_2 (x : GObject) (v : A2Lu8) : putL x.c 30 v.c = GObject.c { x with Queues := v } := putL_app (by simp only [GObject.len, A2Lu8.len]; decide) rfl
theorem GObject.d32_2 (x : GObject) : (x.c.drop 32).take 2 = A2i64.c x.Ends := rfl
theorem GObject.q32_2 (x : GObject) (v : A2i64) : putL x.c 32 v.c = GObject.c { x with Ends := v } := putL_app (by simp only [GObject.len, A2i64.len]; decide) rfl
theorem GObject.q (x v : GObject) : putL x.c 0 v.c = v.c := putL_app (by simp only [GObject.len]; decide) rfl
theorem GObject.p (x : GObject) : (∀ v, putL x.c 0 [.int .u64 v] = GObject.c { x with ID := v }) ∧ (∀ v, putL x.c 1 [.int .i64 v] = GObject.c { x with Kind := v }) ∧ (∀ v, putL x.c 2 [.int .i64 v] = GObject.c { x with Refs := v }) ∧ (∀ v, putL x.c 3 [.int .i64 v] = GObject.c { x with Process := { x.Process with State := v } }) ∧ (∀ v, putL x.c 4 [.int .u64 v] = GObject.c { x with Process := { x.Process with Parent := v } }) ∧ (∀ v, putL x.c 5 [.sl false 1 v.length (elt (intC .u64) default v)] = GObject.c { x with Process := { x.Process with Children := v } }) ∧ (∀ v, putL x.c 6 [.sl false 4 v.length (elt GInstr.c default v)] = GObject.c { x with Process := { x.Process with Program := { x.Process.Program with Code := v } } }) ∧ (∀ v, putL x.c 7 [.sl false 1 v.length (elt strC default v)] = GObject.c { x with Process := { x.Process with Program := { x.Process.Program with Strings := v } } }) ∧ (∀ v, putL x.c 8 [.int .i64 v] = GObject.c { x with Process := { x.Process with Program := { x.Process.Program with Pages := v } } }) ∧ (∀ v, putL x.c 9 [.int .i64 v] = GObject.c { x with Process := { x.Process with CPU := { x.Process.CPU with PC := v } } }) ∧ (∀ v, putL x.c 10 [.int .i64 v] = GObject.c { x with Process := { x.Process with CPU := { x.Process.CPU with Regs := { x.Process.CPU.Regs with x0 := v } } } }) ∧ (∀ v, putL x.c 11 [.int .i64 v] = GObject.c { x with Process := { x.Process with CPU := { x.Process.CPU with Regs := { x.Process.CPU.Regs with x1 := v } } } }) ∧ (∀ v, putL x.c 12 [.int .i64 v] = GObject.c { x with Process := { x.Process with CPU := { x.Process.CPU with Regs := { x.Process.CPU.Regs with x2 := v } } } }) ∧ (∀ v, putL x.c 13 [.int .i64 v] = GObject.c { x with Process := { x.Process with CPU := { x.Process.CPU with Regs := { x.Process.CPU.Regs with x3 := v } } } }) ∧ (∀ v, putL x.c 14 [.int .i64 v] = GObject.c { x with Process := { x.Process with CPU := { x.Process.CPU with Regs := { x.Process.CPU.Regs with x4 := v } } } }) ∧ (∀ v, putL x.c 15 [.int .i64 v] = GObject.c { x with Process := { x.Process with CPU := { x.Process.CPU with Regs := { x.Process.CPU.Regs with x5 := v } } } }) ∧ (∀ v, putL x.c 16 [.int .i64 v] = GObject.c { x with Process := { x.Process with CPU := { x.Process.CPU with Regs := { x.Process.CPU.Regs with x6 := v } } } }) ∧ (∀ v, putL x.c 17 [.int .i64 v] = GObject.c { x with Process := { x.Process with CPU := { x.Process.CPU with Regs := { x.Process.CPU.Regs with x7 := v } } } }) ∧ (∀ v, putL x.c 18 [.sl false 2 v.length (elt GPageRef.c default v)] = GObject.c { x with Process := { x.Process with Pages := v } }) ∧ (∀ v, putL x.c 19 [.sl false 4 v.length (elt GSlot.c default v)] = GObject.c { x with Process := { x.Process with Table := v } }) ∧ (∀ v, putL x.c 20 [.int .i64 v] = GObject.c { x with Process := { x.Process with Pending := v } }) ∧ (∀ v, putL x.c 21 [.int .i64 v] = GObject.c { x with Process := { x.Process with Alarm := v } }) ∧ (∀ v, putL x.c 22 [.int .i64 v] = GObject.c { x with Process := { x.Process with Status := v } }) ∧ (∀ v, putL x.c 23 [.sl false 1 v.length (elt (intC .i64) default v)] = GObject.c { x with Words := v }) ∧ (∀ v, putL x.c 24 [.sl false 1 v.length (elt (intC .u8) default v)] = GObject.c { x with Data := v }) ∧ (∀ v, putL x.c 25 [.int .i64 v] = GObject.c { x with Offset := v }) ∧ (∀ v, putL x.c 26 [.int .u64 v] = GObject.c { x with Target := v }) ∧ (∀ v, putL x.c 27 [.int .i64 v] = GObject.c { x with Readers := v }) ∧ (∀ v, putL x.c 28 [.int .i64 v] = GObject.c { x with Writers := v }) ∧ (∀ v, putL x.c 29 [.sl false 1 v.length (elt (intC .u64) default v)] = GObject.c { x with Backlog := v }) ∧ (∀ v, putL x.c 30 [.sl false 1 v.length (elt (intC .u8) default v)] = GObject.c { x with Queues := { x.Queues with x0 := v } }) ∧ (∀ v, putL x.c 31 [.sl false 1 v.length (elt (intC .u8) default v)] = GObject.c { x with Queues := { x.Queues with x1 := v } }) ∧ (∀ v, putL x.c 32 [.int .i64 v] = GObject.c { x with Ends := { x.Ends with x0 := v } }) ∧ (∀ v, putL x.c 33 [.int .i64 v] = GObject.c { x with Ends := { x.Ends with x1 := v } }) ∧ (∀ v, putL x.c 34 [.int .i64 v] = GObject.c { x with Count := v }) ∧ (∀ v, putL x.c 35 [.sl false 3 v.length (elt GName.c default v)] = GObject.c { x with Names := v }) := cj
theorem GObject.p5 (x : GObject) (v : List Int) : putL x.c 5 [.sl false 1 v.length (elt (intC .u64) default v)] = GObject.c { x with Process := { x.Process with Children := v } } := rfl
theorem GObject.l5 {x : GObject} {v : List Int} {cs : List SV} {s : SV} (h : LLe cs x.c) (hs : SLe s (.sl false 1 v.length (elt (intC .u64) default v))) : LLe (putL cs 5 [s]) (GObject.c { x with Process := { x.Process with Children := v } }) := LLe.put h 5 hs rfl
theorem GObject.l6 {x : GObject} {v : List GInstr} {cs : List SV} {s : SV} (h : LLe cs x.c) (hs : SLe s (.sl false 4 v.length (elt GInstr.c default v))) : LLe (putL cs 6 [s]) (GObject.c { x with Process := { x.Process with Program := { x.Process.Program with Code := v } } }) := LLe.put h 6 hs rfl
theorem GObject.l7 {x : GObject} {v : List (List UInt8)} {cs : List SV} {s : SV} (h : LLe cs x.c) (hs : SLe s (.sl false 1 v.length (elt strC default v))) : LLe (putL cs 7 [s]) (GObject.c { x with Process := { x.Process with Program := { x.Process.Program with Strings := v } } }) := LLe.put h 7 hs rfl
theorem GObject.l18 {x : GObject} {v : List GPageRef} {cs : List SV} {s : SV} (h : LLe cs x.c) (hs : SLe s (.sl false 2 v.length (elt GPageRef.c default v))) : LLe (putL cs 18 [s]) (GObject.c { x with Process := { x.Process with Pages := v } }) := LLe.put h 18 hs rfl
theorem GObject.l19 {x : GObject} {v : List GSlot} {cs : List SV} {s : SV} (h : LLe cs x.c) (hs : SLe s (.sl false 4 v.length (elt GSlot.c default v))) : LLe (putL cs 19 [s]) (GObject.c { x with Process := { x.Process with Table := v } }) := LLe.put h 19 hs rfl
theorem GObject.p23 (x : GObject) (v : List Int) : putL x.c 23 [.sl false 1 v.length (elt (intC .i64) default v)] = GObject.c { x with Words := v } := rfl
theorem GObject.l23 {x : GObject} {v : List Int} {cs : List SV} {s : SV} (h : LLe cs x.c) (hs : SLe s (.sl false 1 v.length (elt (intC .i64) default v))) : LLe (putL cs 23 [s]) (GObject.c { x with Words := v }) := LLe.put h 23 hs rfl
theorem GObject.p24 (x : GObject) (v : List Int) : putL x.c 24 [.sl false 1 v.length (elt (intC .u8) default v)] = GObject.c { x with Data := v } := rfl
theorem GObject.l24 {x : GObject} {v : List Int} {cs : List SV} {s : SV} (h : LLe cs x.c) (hs : SLe s (.sl false 1 v.length (elt (intC .u8) default v))) : LLe (putL cs 24 [s]) (GObject.c { x with Data := v }) := LLe.put h 24 hs rfl
theorem GObject.p29 (x : GObject) (v : List Int) : putL x.c 29 [.sl false 1 v.length (elt (intC .u64) default v)] = GObject.c { x with Backlog := v } := rfl
theorem GObject.l29 {x : GObject} {v : List Int} {cs : List SV} {s : SV} (h : LLe cs x.c) (hs : SLe s (.sl false 1 v.length (elt (intC .u64) default v))) : LLe (putL cs 29 [s]) (GObject.c { x with Backlog := v }) := LLe.put h 29 hs rfl
theorem GObject.p30 (x : GObject) (v : List Int) : putL x.c 30 [.sl false 1 v.length (elt (intC .u8) default v)] = GObject.c { x with Queues := { x.Queues with x0 := v } } := rfl
theorem GObject.l30 {x : GObject} {v : List Int} {cs : List SV} {s : SV} (h : LLe cs x.c) (hs : SLe s (.sl false 1 v.length (elt (intC .u8) default v))) : LLe (putL cs 30 [s]) (GObject.c { x with Queues := { x.Queues with x0 := v } }) := LLe.put h 30 hs rfl
theorem GObject.p31 (x : GObject) (v : List Int) : putL x.c 31 [.sl false 1 v.length (elt (intC .u8) default v)] = GObject.c { x with Queues := { x.Queues with x1 := v } } := rfl
theorem GObject.l31 {x : GObject} {v : List Int} {cs : List SV} {s : SV} (h : LLe cs x.c) (hs : SLe s (.sl false 1 v.length (elt (intC .u8) default v))) : LLe (putL cs 31 [s]) (GObject.c { x with Queues := { x.Queues with x1 := v } }) := LLe.put h 31 hs rfl
theorem GObject.l35 {x : GObject} {v : List GName} {cs : List SV} {s : SV} (h : LLe cs x.c) (hs : SLe s (.sl false 3 v.length (elt GName.c default v))) : LLe (putL cs 35 [s]) (GObject.c { x with Names := v }) := LLe.put h 35 hs rfl
theorem GObject.fz (sel : Nat → Bool) (B : List Own) (x : GObject) : frzL sel B x.c = x.c := rfl
theorem GObject.fk (sel : Nat → Bool) (B : List Own) (x : GObject) : frzKL sel B x.c = True := by simp [GObject.c, frzKL, frzKC]
@[ext] structure GStore where
  Objects : List GObject
  deriving Inhabited, DecidableEq
def GStore.c (x : GStore) : List SV := [.sl false 36 x.Objects.length (elt GObject.c default x.Objects)]
theorem GStore.eta (x : GStore) : (GStore.mk x.Objects) = x := rfl
theorem GStore.len (x : GStore) : x.c.length = 1 := rfl
theorem GStore.sol (x : GStore) : solids x.c = true := rfl
theorem GStore.t (x : GStore) : x.c.take 1 = x.c := rfl
theorem GStore.g (x : GStore) (d : SV) : x.c.getD 0 d = .sl false 36 x.Objects.length (elt GObject.c default x.Objects) := cj
theorem GStore.q (x v : GStore) : putL x.c 0 v.c = v.c := putL_app (by simp only [GStore.len]; decide) rfl
theorem GStore.p (x : GStore) : (∀ v, putL x.c 0 [.sl false 36 v.length (elt GObject.c default v)] = GStore.c { x with Objects := v }) := cj
theorem GStore.p0 (x : GStore) (v : List GObject) : putL x.c 0 [.sl false 36 v.length (elt GObject.c default v)] = GStore.c { x with Objects := v } := rfl
theorem GStore.fz (sel : Nat → Bool) (B : List Own) (x : GStore) : frzL sel B x.c = x.c := rfl
theorem GStore.fk (sel : Nat → Bool) (B : List Own) (x : GStore) : frzKL sel B x.c = True := by simp [GStore.c, frzKL, frzKC]
@[ext] structure GKernel where
  Store : GStore
  Serial : Int
  deriving Inhabited, DecidableEq
def GKernel.c (x : GKernel) : List SV := [.sl false 36 x.Store.Objects.length (elt GObject.c default x.Store.Objects), .int .i64 x.Serial]
theorem GKernel.eta (x : GKernel) : (GKernel.mk x.Store x.Serial) = x := rfl
theorem GKernel.len (x : GKernel) : x.c.length = 2 := rfl
theorem GKernel.sol (x : GKernel) : solids x.c = true := rfl
theorem GKernel.t (x : GKernel) : x.c.take 2 = x.c := rfl
theorem GKernel.g (x : GKernel) (d : SV) : x.c.getD 0 d = .sl false 36 x.Store.Objects.length (elt GObject.c default x.Store.Objects) ∧ x.c.getD 1 d = .int .i64 x.Serial := cj
theorem GKernel.d0_1 (x : GKernel) : x.c.take 1 = GStore.c x.Store := rfl
theorem GKernel.q0_1 (x : GKernel) (v : GStore) : putL x.c 0 v.c = GKernel.c { x with Store := v } := putL_app (by simp only [GKernel.len, GStore.len]; decide) rfl
theorem GKernel.q (x v : GKernel) : putL x.c 0 v.c = v.c := putL_app (by simp only [GKernel.len]; decide) rfl
theorem GKernel.p (x : GKernel) : (∀ v, putL x.c 0 [.sl false 36 v.length (elt GObject.c default v)] = GKernel.c { x with Store := { x.Store with Objects := v } }) ∧ (∀ v, putL x.c 1 [.int .i64 v] = GKernel.c { x with Serial := v }) := cj
theorem GKernel.fz (sel : Nat → Bool) (B : List Own) (x : GKernel) : frzL sel B x.c = x.c := rfl
theorem GKernel.fk (sel : Nat → Bool) (B : List Own) (x : GKernel) : frzKL sel B x.c = True := by simp [GKernel.c, frzKL, frzKC]
@[ext] structure GAllocator where
  Node : Int
  Boot : Int
  Serial : Int
  deriving Inhabited, DecidableEq
def GAllocator.c (x : GAllocator) : List SV := [.int .i64 x.Node, .int .i64 x.Boot, .int .i64 x.Serial]
theorem GAllocator.eta (x : GAllocator) : (GAllocator.mk x.Node x.Boot x.Serial) = x := rfl
theorem GAllocator.len (x : GAllocator) : x.c.length = 3 := rfl
theorem GAllocator.sol (x : GAllocator) : solids x.c = true := rfl
theorem GAllocator.t (x : GAllocator) : x.c.take 3 = x.c := rfl
theorem GAllocator.g (x : GAllocator) (d : SV) : x.c.getD 0 d = .int .i64 x.Node ∧ x.c.getD 1 d = .int .i64 x.Boot ∧ x.c.getD 2 d = .int .i64 x.Serial := cj
theorem GAllocator.q (x v : GAllocator) : putL x.c 0 v.c = v.c := putL_app (by simp only [GAllocator.len]; decide) rfl
theorem GAllocator.p (x : GAllocator) : (∀ v, putL x.c 0 [.int .i64 v] = GAllocator.c { x with Node := v }) ∧ (∀ v, putL x.c 1 [.int .i64 v] = GAllocator.c { x with Boot := v }) ∧ (∀ v, putL x.c 2 [.int .i64 v] = GAllocator.c { x with Serial := v }) := cj
theorem GAllocator.fz (sel : Nat → Bool) (B : List Own) (x : GAllocator) : frzL sel B x.c = x.c := rfl
theorem GAllocator.fk (sel : Nat → Bool) (B : List Own) (x : GAllocator) : frzKL sel B x.c = True := by simp [GAllocator.c, frzKL, frzKC]
theorem GAllocator.kd (x : GAllocator) : kinds x.c = [1, 1, 1] := rfl
theorem GAllocator.e1 (x y : GAllocator) : (eqCells x.c y.c).1 = (x == y) := by
  apply Bool.eq_iff_iff.2
  obtain ⟨a0, a1, a2⟩ := x
  obtain ⟨b0, b1, b2⟩ := y
  simp [GAllocator.c, eqCells, eqCell]
theorem GAllocator.e2 (x y : GAllocator) : (eqCells x.c y.c).2 = True := by simp [GAllocator.c, eqCells, eqCell]
@[ext] structure GDice where
  l : List Int
  deriving Inhabited, DecidableEq
def GDice.c (x : GDice) : List SV := [.sl false 1 x.l.length (elt (intC .u8) default x.l)]
theorem GDice.eta (x : GDice) : (GDice.mk x.l) = x := rfl
theorem GDice.len (x : GDice) : x.c.length = 1 := rfl
theorem GDice.sol (x : GDice) : solids x.c = true := rfl
theorem GDice.t (x : GDice) : x.c.take 1 = x.c := rfl
theorem GDice.g (x : GDice) (d : SV) : x.c.getD 0 d = .sl false 1 x.l.length (elt (intC .u8) default x.l) := cj
theorem GDice.q (x v : GDice) : putL x.c 0 v.c = v.c := putL_app (by simp only [GDice.len]; decide) rfl
theorem GDice.p (x : GDice) : (∀ v, putL x.c 0 [.sl false 1 v.length (elt (intC .u8) default v)] = GDice.c { x with l := v }) := cj
theorem GDice.p0 (x : GDice) (v : List Int) : putL x.c 0 [.sl false 1 v.length (elt (intC .u8) default v)] = GDice.c { x with l := v } := rfl
theorem GDice.fz (sel : Nat → Bool) (B : List Own) (x : GDice) : frzL sel B x.c = x.c := rfl
theorem GDice.fk (sel : Nat → Bool) (B : List Own) (x : GDice) : frzKL sel B x.c = True := by simp [GDice.c, frzKL, frzKC]
@[ext] structure GForm where
  name : List UInt8
  operands : List UInt8
  deriving Inhabited, DecidableEq
def GForm.c (x : GForm) : List SV := [.str x.name, .str x.operands]
theorem GForm.eta (x : GForm) : (GForm.mk x.name x.operands) = x := rfl
theorem GForm.len (x : GForm) : x.c.length = 2 := rfl
theorem GForm.sol (x : GForm) : solids x.c = true := rfl
theorem GForm.t (x : GForm) : x.c.take 2 = x.c := rfl
theorem GForm.g (x : GForm) (d : SV) : x.c.getD 0 d = .str x.name ∧ x.c.getD 1 d = .str x.operands := cj
theorem GForm.q (x v : GForm) : putL x.c 0 v.c = v.c := putL_app (by simp only [GForm.len]; decide) rfl
theorem GForm.p (x : GForm) : (∀ v, putL x.c 0 [.str v] = GForm.c { x with name := v }) ∧ (∀ v, putL x.c 1 [.str v] = GForm.c { x with operands := v }) := cj
theorem GForm.fz (sel : Nat → Bool) (B : List Own) (x : GForm) : frzL sel B x.c = x.c := rfl
theorem GForm.fk (sel : Nat → Bool) (B : List Own) (x : GForm) : frzKL sel B x.c = True := by simp [GForm.c, frzKL, frzKC]
theorem GForm.kd (x : GForm) : kinds x.c = [2, 2] := rfl
theorem GForm.e1 (x y : GForm) : (eqCells x.c y.c).1 = (x == y) := by
  apply Bool.eq_iff_iff.2
  obtain ⟨a0, a1⟩ := x
  obtain ⟨b0, b1⟩ := y
  simp [GForm.c, eqCells, eqCell]
theorem GForm.e2 (x y : GForm) : (eqCells x.c y.c).2 = True := by simp [GForm.c, eqCells, eqCell]
@[ext] structure GOutcome where
  Waits : Bool
  Used : Int
  Ended : Bool
  deriving Inhabited, DecidableEq
def GOutcome.c (x : GOutcome) : List SV := [.bool x.Waits, .int .i64 x.Used, .bool x.Ended]
theorem GOutcome.eta (x : GOutcome) : (GOutcome.mk x.Waits x.Used x.Ended) = x := rfl
theorem GOutcome.len (x : GOutcome) : x.c.length = 3 := rfl
theorem GOutcome.sol (x : GOutcome) : solids x.c = true := rfl
theorem GOutcome.t (x : GOutcome) : x.c.take 3 = x.c := rfl
theorem GOutcome.g (x : GOutcome) (d : SV) : x.c.getD 0 d = .bool x.Waits ∧ x.c.getD 1 d = .int .i64 x.Used ∧ x.c.getD 2 d = .bool x.Ended := cj
theorem GOutcome.q (x v : GOutcome) : putL x.c 0 v.c = v.c := putL_app (by simp only [GOutcome.len]; decide) rfl
theorem GOutcome.p (x : GOutcome) : (∀ v, putL x.c 0 [.bool v] = GOutcome.c { x with Waits := v }) ∧ (∀ v, putL x.c 1 [.int .i64 v] = GOutcome.c { x with Used := v }) ∧ (∀ v, putL x.c 2 [.bool v] = GOutcome.c { x with Ended := v }) := cj
theorem GOutcome.fz (sel : Nat → Bool) (B : List Own) (x : GOutcome) : frzL sel B x.c = x.c := rfl
theorem GOutcome.fk (sel : Nat → Bool) (B : List Own) (x : GOutcome) : frzKL sel B x.c = True := by simp [GOutcome.c, frzKL, frzKC]
theorem GOutcome.kd (x : GOutcome) : kinds x.c = [0, 1, 0] := rfl
theorem GOutcome.e1 (x y : GOutcome) : (eqCells x.c y.c).1 = (x == y) := by
  apply Bool.eq_iff_iff.2
  obtain ⟨a0, a1, a2⟩ := x
  obtain ⟨b0, b1, b2⟩ := y
  simp [GOutcome.c, eqCells, eqCell]
theorem GOutcome.e2 (x y : GOutcome) : (eqCells x.c y.c).2 = True := by simp [GOutcome.c, eqCells, eqCell]
@[ext] structure GStep where
  s : GStore
  o : GObject
  fresh : List Int
  out : GOutcome
  deriving Inhabited, DecidableEq
def GStep.c (x : GStep) : List SV := [.sl false 36 x.s.Objects.length (elt GObject.c default x.s.Objects), .int .u64 x.o.ID, .int .i64 x.o.Kind, .int .i64 x.o.Refs, .int .i64 x.o.Process.State, .int .u64 x.o.Process.Parent, .sl false 1 x.o.Process.Children.length (elt (intC .u64) default x.o.Process.Children), .sl false 4 x.o.Process.Program.Code.length (elt GInstr.c default x.o.Process.Program.Code), .sl false 1 x.o.Process.Program.Strings.length (elt strC default x.o.Process.Program.Strings), .int .i64 x.o.Process.Program.Pages, .int .i64 x.o.Process.CPU.PC, .int .i64 x.o.Process.CPU.Regs.x0, .int .i64 x.o.Process.CPU.Regs.x1, .int .i64 x.o.Process.CPU.Regs.x2, .int .i64 x.o.Process.CPU.Regs.x3, .int .i64 x.o.Process.CPU.Regs.x4, .int .i64 x.o.Process.CPU.Regs.x5, .int .i64 x.o.Process.CPU.Regs.x6, .int .i64 x.o.Process.CPU.Regs.x7, .sl false 2 x.o.Process.Pages.length (elt GPageRef.c default x.o.Process.Pages), .sl false 4 x.o.Process.Table.length (elt GSlot.c default x.o.Process.Table), .int .i64 x.o.Process.Pending, .int .i64 x.o.Process.Alarm, .int .i64 x.o.Process.Status, .sl false 1 x.o.Words.length (elt (intC .i64) default x.o.Words), .sl false 1 x.o.Data.length (elt (intC .u8) default x.o.Data), .int .i64 x.o.Offset, .int .u64 x.o.Target, .int .i64 x.o.Readers, .int .i64 x.o.Writers, .sl false 1 x.o.Backlog.length (elt (intC .u64) default x.o.Backlog), .sl false 1 x.o.Queues.x0.length (elt (intC .u8) default x.o.Queues.x0), .sl false 1 x.o.Queues.x1.length (elt (intC .u8) default x.o.Queues.x1), .int .i64 x.o.Ends.x0, .int .i64 x.o.Ends.x1, .int .i64 x.o.Count, .sl false 3 x.o.Names.length (elt GName.c default x.o.Names), .sl false 1 x.fresh.length (elt (intC .u64) default x.fresh), .bool x.out.Waits, .int .i64 x.out.Used, .bool x.out.Ended]
theorem GStep.eta (x : GStep) : (GStep.mk x.s x.o x.fresh x.out) = x := rfl
theorem GStep.len (x : GStep) : x.c.length = 41 := rfl
theorem GStep.sol (x : GStep) : solids x.c = true := rfl
theorem GStep.t (x : GStep) : x.c.take 41 = x.c := rfl
theorem GStep.g (x : GStep) (d : SV) : x.c.getD 0 d = .sl false 36 x.s.Objects.length (elt GObject.c default x.s.Objects) ∧ x.c.getD 1 d = .int .u64 x.o.ID ∧ x.c.getD 2 d = .int .i64 x.o.Kind ∧ x.c.getD 3 d = .int .i64 x.o.Refs ∧ x.c.getD 4 d = .int .i64 x.o.Process.State ∧ x.c.getD 5 d = .int .u64 x.o.Process.Parent ∧ x.c.getD 6 d = .sl false 1 x.o.Process.Children.length (elt (intC .u64) default x.o.Process.Children) ∧ x.c.getD 7 d = .sl false 4 x.o.Process.Program.Code.length (elt GInstr.c default x.o.Process.Program.Code) ∧ x.c.getD 8 d = .sl false 1 x.o.Process.Program.Strings.length (elt strC default x.o.Process.Program.Strings) ∧ x.c.getD 9 d = .int .i64 x.o.Process.Program.Pages ∧ x.c.getD 10 d = .int .i64 x.o.Process.CPU.PC ∧ x.c.getD 11 d = .int .i64 x.o.Process.CPU.Regs.x0 ∧ x.c.getD 12 d = .int .i64 x.o.Process.CPU.Regs.x1 ∧ x.c.getD 13 d = .int .i64 x.o.Process.CPU.Regs.x2 ∧ x.c.getD 14 d = .int .i64 x.o.Process.CPU.Regs.x3 ∧ x.c.getD 15 d = .int .i64 x.o.Process.CPU.Regs.x4 ∧ x.c.getD 16 d = .int .i64 x.o.Process.CPU.Regs.x5 ∧ x.c.getD 17 d = .int .i64 x.o.Process.CPU.Regs.x6 ∧ x.c.getD 18 d = .int .i64 x.o.Process.CPU.Regs.x7 ∧ x.c.getD 19 d = .sl false 2 x.o.Process.Pages.length (elt GPageRef.c default x.o.Process.Pages) ∧ x.c.getD 20 d = .sl false 4 x.o.Process.Table.length (elt GSlot.c default x.o.Process.Table) ∧ x.c.getD 21 d = .int .i64 x.o.Process.Pending ∧ x.c.getD 22 d = .int .i64 x.o.Process.Alarm ∧ x.c.getD 23 d = .int .i64 x.o.Process.Status ∧ x.c.getD 24 d = .sl false 1 x.o.Words.length (elt (intC .i64) default x.o.Words) ∧ x.c.getD 25 d = .sl false 1 x.o.Data.length (elt (intC .u8) default x.o.Data) ∧ x.c.getD 26 d = .int .i64 x.o.Offset ∧ x.c.getD 27 d = .int .u64 x.o.Target ∧ x.c.getD 28 d = .int .i64 x.o.Readers ∧ x.c.getD 29 d = .int .i64 x.o.Writers ∧ x.c.getD 30 d = .sl false 1 x.o.Backlog.length (elt (intC .u64) default x.o.Backlog) ∧ x.c.getD 31 d = .sl false 1 x.o.Queues.x0.length (elt (intC .u8) default x.o.Queues.x0) ∧ x.c.getD 32 d = .sl false 1 x.o.Queues.x1.length (elt (intC .u8) default x.o.Queues.x1) ∧ x.c.getD 33 d = .int .i64 x.o.Ends.x0 ∧ x.c.getD 34 d = .int .i64 x.o.Ends.x1 ∧ x.c.getD 35 d = .int .i64 x.o.Count ∧ x.c.getD 36 d = .sl false 3 x.o.Names.length (elt GName.c default x.o.Names) ∧ x.c.getD 37 d = .sl false 1 x.fresh.length (elt (intC .u64) default x.fresh) ∧ x.c.getD 38 d = .bool x.out.Waits ∧ x.c.getD 39 d = .int .i64 x.out.Used ∧ x.c.getD 40 d = .bool x.out.Ended := cj
theorem GStep.d0_1 (x : GStep) : x.c.take 1 = GStore.c x.s := rfl
theorem GStep.q0_1 (x : GStep) (v : GStore) : putL x.c 0 v.c = GStep.c { x with s := v } := putL_app (by simp only [GStep.len, GStore.len]; decide) rfl
theorem GStep.d1_36 (x : GStep) : (x.c.drop 1).take 36 = GObject.c x.o := rfl
theorem GStep.q1_36 (x : GStep) (v : GObject) : putL x.c 1 v.c = GStep.c { x with o := v } := putL_app (by simp only [GStep.len, GObject.len]; decide) rfl
theorem GStep.d4_20 (x : GStep) : (x.c.drop 4).take 20 = GProcess.c x.o.Process := rfl
theorem GStep.q4_20 (x : GStep) (v : GProcess) : putL x.c 4 v.c = GStep.c { x with o := { x.o with Process := v } } := putL_app (by simp only [GStep.len, GProcess.len]; decide) rfl
theorem GStep.d7_3 (x : GStep) : (x.c.drop 7).take 3 = GProgram.c x.o.Process.Program := rfl
theorem GStep.q7_3 (x : GStep) (v : GProgram) : putL x.c 7 v.c = GStep.c { x with o := { x.o with Process := { x.o.Process with Program := v } } } := putL_app (by simp only [GStep.len, GProgram.len]; decide) rfl
theorem GStep.d10_9 (x : GStep) : (x.c.drop 10).take 9 = GCPU.c x.o.Process.CPU := rfl
theorem GStep.q10_9 (x : GStep) (v : GCPU) : putL x.c 10 v.c = GStep.c { x with o := { x.o with Process := { x.o.Process with CPU := v } } } := putL_app (by simp only [GStep.len, GCPU.len]; decide) rfl
theorem GStep.d11_8 (x : GStep) : (x.c.drop 11).take 8 = A8i64.c x.o.Process.CPU.Regs := rfl
theorem GStep.q11_8 (x : GStep) (v : A8i64) : putL x.c 11 v.c = GStep.c { x with o := { x.o with Process := { x.o.Process with CPU := { x.o.Process.CPU with Regs := v } } } } := putL_app (by simp only [GStep.len, A8i64.len]; decide) rfl
theorem GStep.d31_2 (x : GStep) : (x.c.drop 31).take 2 = A2Lu8.c x.o.Queues := rfl
theorem GStep.q31_2 (x : GStep) (v : A2Lu8) : putL x.c 31 v.c = GStep.c { x with o := { x.o with Queues := v } } := putL_app (by simp only [GStep.len, A2Lu8.len]; decide) rfl
theorem GStep.d33_2 (x : GStep) : (x.c.drop 33).take 2 = A2i64.c x.o.Ends := rfl
theorem GStep.q33_2 (x : GStep) (v : A2i64) : putL x.c 33 v.c = GStep.c { x with o := { x.o with Ends := v } } := putL_app (by simp only [GStep.len, A2i64.len]; decide) rfl
theorem GStep.d38_3 (x : GStep) : (x.c.drop 38).take 3 = GOutcome.c x.out := rfl
theorem GStep.q38_3 (x : GStep) (v : GOutcome) : putL x.c 38 v.c = GStep.c { x with out := v } := putL_app (by simp only [GStep.len, GOutcome.len]; decide) rfl
theorem GStep.q (x v : GStep) : putL x.c 0 v.c = v.c := putL_app (by simp only [GStep.len]; decide) rfl
theorem GStep.p (x : GStep) : (∀ v, putL x.c 0 [.sl false 36 v.length (elt GObject.c default v)] = GStep.c { x with s := { x.s with Objects := v } }) ∧ (∀ v, putL x.c 1 [.int .u64 v] = GStep.c { x with o := { x.o with ID := v } }) ∧ (∀ v, putL x.c 2 [.int .i64 v] = GStep.c { x with o := { x.o with Kind := v } }) ∧ (∀ v, putL x.c 3 [.int .i64 v] = GStep.c { x with o := { x.o with Refs := v } }) ∧ (∀ v, putL x.c 4 [.int .i64 v] = GStep.c { x with o := { x.o with Process := { x.o.Process with State := v } } }) ∧ (∀ v, putL x.c 5 [.int .u64 v] = GStep.c { x with o := { x.o with Process := { x.o.Process with Parent := v } } }) ∧ (∀ v, putL x.c 6 [.sl false 1 v.length (elt (intC .u64) default v)] = GStep.c { x with o := { x.o with Process := { x.o.Process with Children := v } } }) ∧ (∀ v, putL x.c 7 [.sl false 4 v.length (elt GInstr.c default v)] = GStep.c { x with o := { x.o with Process := { x.o.Process with Program := { x.o.Process.Program with Code := v } } } }) ∧ (∀ v, putL x.c 8 [.sl false 1 v.length (elt strC default v)] = GStep.c { x with o := { x.o with Process := { x.o.Process with Program := { x.o.Process.Program with Strings := v } } } }) ∧ (∀ v, putL x.c 9 [.int .i64 v] = GStep.c { x with o := { x.o with Process := { x.o.Process with Program := { x.o.Process.Program with Pages := v } } } }) ∧ (∀ v, putL x.c 10 [.int .i64 v] = GStep.c { x with o := { x.o with Process := { x.o.Process with CPU := { x.o.Process.CPU with PC := v } } } }) ∧ (∀ v, putL x.c 11 [.int .i64 v] = GStep.c { x with o := { x.o with Process := { x.o.Process with CPU := { x.o.Process.CPU with Regs := { x.o.Process.CPU.Regs with x0 := v } } } } }) ∧ (∀ v, putL x.c 12 [.int .i64 v] = GStep.c { x with o := { x.o with Process := { x.o.Process with CPU := { x.o.Process.CPU with Regs := { x.o.Process.CPU.Regs with x1 := v } } } } }) ∧ (∀ v, putL x.c 13 [.int .i64 v] = GStep.c { x with o := { x.o with Process := { x.o.Process with CPU := { x.o.Process.CPU with Regs := { x.o.Process.CPU.Regs with x2 := v } } } } }) ∧ (∀ v, putL x.c 14 [.int .i64 v] = GStep.c { x with o := { x.o with Process := { x.o.Process with CPU := { x.o.Process.CPU with Regs := { x.o.Process.CPU.Regs with x3 := v } } } } }) ∧ (∀ v, putL x.c 15 [.int .i64 v] = GStep.c { x with o := { x.o with Process := { x.o.Process with CPU := { x.o.Process.CPU with Regs := { x.o.Process.CPU.Regs with x4 := v } } } } }) ∧ (∀ v, putL x.c 16 [.int .i64 v] = GStep.c { x with o := { x.o with Process := { x.o.Process with CPU := { x.o.Process.CPU with Regs := { x.o.Process.CPU.Regs with x5 := v } } } } }) ∧ (∀ v, putL x.c 17 [.int .i64 v] = GStep.c { x with o := { x.o with Process := { x.o.Process with CPU := { x.o.Process.CPU with Regs := { x.o.Process.CPU.Regs with x6 := v } } } } }) ∧ (∀ v, putL x.c 18 [.int .i64 v] = GStep.c { x with o := { x.o with Process := { x.o.Process with CPU := { x.o.Process.CPU with Regs := { x.o.Process.CPU.Regs with x7 := v } } } } }) ∧ (∀ v, putL x.c 19 [.sl false 2 v.length (elt GPageRef.c default v)] = GStep.c { x with o := { x.o with Process := { x.o.Process with Pages := v } } }) ∧ (∀ v, putL x.c 20 [.sl false 4 v.length (elt GSlot.c default v)] = GStep.c { x with o := { x.o with Process := { x.o.Process with Table := v } } }) ∧ (∀ v, putL x.c 21 [.int .i64 v] = GStep.c { x with o := { x.o with Process := { x.o.Process with Pending := v } } }) ∧ (∀ v, putL x.c 22 [.int .i64 v] = GStep.c { x with o := { x.o with Process := { x.o.Process with Alarm := v } } }) ∧ (∀ v, putL x.c 23 [.int .i64 v] = GStep.c { x with o := { x.o with Process := { x.o.Process with Status := v } } }) ∧ (∀ v, putL x.c 24 [.sl false 1 v.length (elt (intC .i64) default v)] = GStep.c { x with o := { x.o with Words := v } }) ∧ (∀ v, putL x.c 25 [.sl false 1 v.length (elt (intC .u8) default v)] = GStep.c { x with o := { x.o with Data := v } }) ∧ (∀ v, putL x.c 26 [.int .i64 v] = GStep.c { x with o := { x.o with Offset := v } }) ∧ (∀ v, putL x.c 27 [.int .u64 v] = GStep.c { x with o := { x.o with Target := v } }) ∧ (∀ v, putL x.c 28 [.int .i64 v] = GStep.c { x with o := { x.o with Readers := v } }) ∧ (∀ v, putL x.c 29 [.int .i64 v] = GStep.c { x with o := { x.o with Writers := v } }) ∧ (∀ v, putL x.c 30 [.sl false 1 v.length (elt (intC .u64) default v)] = GStep.c { x with o := { x.o with Backlog := v } }) ∧ (∀ v, putL x.c 31 [.sl false 1 v.length (elt (intC .u8) default v)] = GStep.c { x with o := { x.o with Queues := { x.o.Queues with x0 := v } } }) ∧ (∀ v, putL x.c 32 [.sl false 1 v.length (elt (intC .u8) default v)] = GStep.c { x with o := { x.o with Queues := { x.o.Queues with x1 := v } } }) ∧ (∀ v, putL x.c 33 [.int .i64 v] = GStep.c { x with o := { x.o with Ends := { x.o.Ends with x0 := v } } }) ∧ (∀ v, putL x.c 34 [.int .i64 v] = GStep.c { x with o := { x.o with Ends := { x.o.Ends with x1 := v } } }) ∧ (∀ v, putL x.c 35 [.int .i64 v] = GStep.c { x with o := { x.o with Count := v } }) ∧ (∀ v, putL x.c 36 [.sl false 3 v.length (elt GName.c default v)] = GStep.c { x with o := { x.o with Names := v } }) ∧ (∀ v, putL x.c 37 [.sl false 1 v.length (elt (intC .u64) default v)] = GStep.c { x with fresh := v }) ∧ (∀ v, putL x.c 38 [.bool v] = GStep.c { x with out := { x.out with Waits := v } }) ∧ (∀ v, putL x.c 39 [.int .i64 v] = GStep.c { x with out := { x.out with Used := v } }) ∧ (∀ v, putL x.c 40 [.bool v] = GStep.c { x with out := { x.out with Ended := v } }) := cj
theorem GStep.fz (sel : Nat → Bool) (B : List Own) (x : GStep) : frzL sel B x.c = x.c := rfl
theorem GStep.fk (sel : Nat → Bool) (B : List Own) (x : GStep) : frzKL sel B x.c = True := by simp [GStep.c, frzKL, frzKC]
@[ext] structure A3i64 where
  x0 : Int
  x1 : Int
  x2 : Int
  deriving Inhabited, DecidableEq
def A3i64.c (x : A3i64) : List SV := [.int .i64 x.x0, .int .i64 x.x1, .int .i64 x.x2]
theorem A3i64.eta (x : A3i64) : (A3i64.mk x.x0 x.x1 x.x2) = x := rfl
theorem A3i64.len (x : A3i64) : x.c.length = 3 := rfl
theorem A3i64.sol (x : A3i64) : solids x.c = true := rfl
theorem A3i64.t (x : A3i64) : x.c.take 3 = x.c := rfl
theorem A3i64.g (x : A3i64) (d : SV) : x.c.getD 0 d = .int .i64 x.x0 ∧ x.c.getD 1 d = .int .i64 x.x1 ∧ x.c.getD 2 d = .int .i64 x.x2 := cj
theorem A3i64.q (x v : A3i64) : putL x.c 0 v.c = v.c := putL_app (by simp only [A3i64.len]; decide) rfl
theorem A3i64.p (x : A3i64) : (∀ v, putL x.c 0 [.int .i64 v] = A3i64.c { x with x0 := v }) ∧ (∀ v, putL x.c 1 [.int .i64 v] = A3i64.c { x with x1 := v }) ∧ (∀ v, putL x.c 2 [.int .i64 v] = A3i64.c { x with x2 := v }) := cj
theorem A3i64.fz (sel : Nat → Bool) (B : List Own) (x : A3i64) : frzL sel B x.c = x.c := rfl
theorem A3i64.fk (sel : Nat → Bool) (B : List Own) (x : A3i64) : frzKL sel B x.c = True := by simp [A3i64.c, frzKL, frzKC]
theorem A3i64.kd (x : A3i64) : kinds x.c = [1, 1, 1] := rfl
theorem A3i64.e1 (x y : A3i64) : (eqCells x.c y.c).1 = (x == y) := by
  apply Bool.eq_iff_iff.2
  obtain ⟨a0, a1, a2⟩ := x
  obtain ⟨b0, b1, b2⟩ := y
  simp [A3i64.c, eqCells, eqCell]
theorem A3i64.e2 (x y : A3i64) : (eqCells x.c y.c).2 = True := by simp [A3i64.c, eqCells, eqCell]
@[ext] structure GAction where
  Kind : Int
  Address : Int
  Reg : Int
  Value : Int
  Number : Int
  Args : A3i64
  deriving Inhabited, DecidableEq
def GAction.c (x : GAction) : List SV := [.int .i64 x.Kind, .int .i64 x.Address, .int .i64 x.Reg, .int .i64 x.Value, .int .i64 x.Number, .int .i64 x.Args.x0, .int .i64 x.Args.x1, .int .i64 x.Args.x2]
theorem GAction.eta (x : GAction) : (GAction.mk x.Kind x.Address x.Reg x.Value x.Number x.Args) = x := rfl
theorem GAction.len (x : GAction) : x.c.length = 8 := rfl
theorem GAction.sol (x : GAction) : solids x.c = true := rfl
theorem GAction.t (x : GAction) : x.c.take 8 = x.c := rfl
theorem GAction.g (x : GAction) (d : SV) : x.c.getD 0 d = .int .i64 x.Kind ∧ x.c.getD 1 d = .int .i64 x.Address ∧ x.c.getD 2 d = .int .i64 x.Reg ∧ x.c.getD 3 d = .int .i64 x.Value ∧ x.c.getD 4 d = .int .i64 x.Number ∧ x.c.getD 5 d = .int .i64 x.Args.x0 ∧ x.c.getD 6 d = .int .i64 x.Args.x1 ∧ x.c.getD 7 d = .int .i64 x.Args.x2 := cj
theorem GAction.d5_3 (x : GAction) : (x.c.drop 5).take 3 = A3i64.c x.Args := rfl
theorem GAction.q5_3 (x : GAction) (v : A3i64) : putL x.c 5 v.c = GAction.c { x with Args := v } := putL_app (by simp only [GAction.len, A3i64.len]; decide) rfl
theorem GAction.q (x v : GAction) : putL x.c 0 v.c = v.c := putL_app (by simp only [GAction.len]; decide) rfl
theorem GAction.p (x : GAction) : (∀ v, putL x.c 0 [.int .i64 v] = GAction.c { x with Kind := v }) ∧ (∀ v, putL x.c 1 [.int .i64 v] = GAction.c { x with Address := v }) ∧ (∀ v, putL x.c 2 [.int .i64 v] = GAction.c { x with Reg := v }) ∧ (∀ v, putL x.c 3 [.int .i64 v] = GAction.c { x with Value := v }) ∧ (∀ v, putL x.c 4 [.int .i64 v] = GAction.c { x with Number := v }) ∧ (∀ v, putL x.c 5 [.int .i64 v] = GAction.c { x with Args := { x.Args with x0 := v } }) ∧ (∀ v, putL x.c 6 [.int .i64 v] = GAction.c { x with Args := { x.Args with x1 := v } }) ∧ (∀ v, putL x.c 7 [.int .i64 v] = GAction.c { x with Args := { x.Args with x2 := v } }) := cj
theorem GAction.fz (sel : Nat → Bool) (B : List Own) (x : GAction) : frzL sel B x.c = x.c := rfl
theorem GAction.fk (sel : Nat → Bool) (B : List Own) (x : GAction) : frzKL sel B x.c = True := by simp [GAction.c, frzKL, frzKC]
theorem GAction.kd (x : GAction) : kinds x.c = [1, 1, 1, 1, 1, 1, 1, 1] := rfl
theorem GAction.e1 (x y : GAction) : (eqCells x.c y.c).1 = (x == y) := by
  apply Bool.eq_iff_iff.2
  rw [beq_iff_eq, GAction.ext_iff]
  simp [GAction.c, eqCells, eqCell, A3i64.ext_iff, and_assoc]
theorem GAction.e2 (x y : GAction) : (eqCells x.c y.c).2 = True := by simp [GAction.c, eqCells, eqCell]
@[ext] structure A13GForm where
  x0 : GForm
  x1 : GForm
  x2 : GForm
  x3 : GForm
  x4 : GForm
  x5 : GForm
  x6 : GForm
  x7 : GForm
  x8 : GForm
  x9 : GForm
  x10 : GForm
  x11 : GForm
  x12 : GForm
  deriving Inhabited, DecidableEq
def A13GForm.c (x : A13GForm) : List SV := [.str x.x0.name, .str x.x0.operands, .str x.x1.name, .str x.x1.operands, .str x.x2.name, .str x.x2.operands, .str x.x3.name, .str x.x3.operands, .str x.x4.name, .str x.x4.operands, .str x.x5.name, .str x.x5.operands, .str x.x6.name, .str x.x6.operands, .str x.x7.name, .str x.x7.operands, .str x.x8.name, .str x.x8.operands, .str x.x9.name, .str x.x9.operands, .str x.x10.name, .str x.x10.operands, .str x.x11.name, .str x.x11.operands, .str x.x12.name, .str x.x12.operands]
theorem A13GForm.eta (x : A13GForm) : (A13GForm.mk x.x0 x.x1 x.x2 x.x3 x.x4 x.x5 x.x6 x.x7 x.x8 x.x9 x.x10 x.x11 x.x12) = x := rfl
theorem A13GForm.len (x : A13GForm) : x.c.length = 26 := rfl
theorem A13GForm.sol (x : A13GForm) : solids x.c = true := rfl
theorem A13GForm.t (x : A13GForm) : x.c.take 26 = x.c := rfl
theorem A13GForm.g (x : A13GForm) (d : SV) : x.c.getD 0 d = .str x.x0.name ∧ x.c.getD 1 d = .str x.x0.operands ∧ x.c.getD 2 d = .str x.x1.name ∧ x.c.getD 3 d = .str x.x1.operands ∧ x.c.getD 4 d = .str x.x2.name ∧ x.c.getD 5 d = .str x.x2.operands ∧ x.c.getD 6 d = .str x.x3.name ∧ x.c.getD 7 d = .str x.x3.operands ∧ x.c.getD 8 d = .str x.x4.name ∧ x.c.getD 9 d = .str x.x4.operands ∧ x.c.getD 10 d = .str x.x5.name ∧ x.c.getD 11 d = .str x.x5.operands ∧ x.c.getD 12 d = .str x.x6.name ∧ x.c.getD 13 d = .str x.x6.operands ∧ x.c.getD 14 d = .str x.x7.name ∧ x.c.getD 15 d = .str x.x7.operands ∧ x.c.getD 16 d = .str x.x8.name ∧ x.c.getD 17 d = .str x.x8.operands ∧ x.c.getD 18 d = .str x.x9.name ∧ x.c.getD 19 d = .str x.x9.operands ∧ x.c.getD 20 d = .str x.x10.name ∧ x.c.getD 21 d = .str x.x10.operands ∧ x.c.getD 22 d = .str x.x11.name ∧ x.c.getD 23 d = .str x.x11.operands ∧ x.c.getD 24 d = .str x.x12.name ∧ x.c.getD 25 d = .str x.x12.operands := cj
theorem A13GForm.d0_2 (x : A13GForm) : x.c.take 2 = GForm.c x.x0 := rfl
theorem A13GForm.q0_2 (x : A13GForm) (v : GForm) : putL x.c 0 v.c = A13GForm.c { x with x0 := v } := putL_app (by simp only [A13GForm.len, GForm.len]; decide) rfl
theorem A13GForm.d2_2 (x : A13GForm) : (x.c.drop 2).take 2 = GForm.c x.x1 := rfl
theorem A13GForm.q2_2 (x : A13GForm) (v : GForm) : putL x.c 2 v.c = A13GForm.c { x with x1 := v } := putL_app (by simp only [A13GForm.len, GForm.len]; decide) rfl
theorem A13GForm.d4_2 (x : A13GForm) : (x.c.drop 4).take 2 = GForm.c x.x2 := rfl
theorem A13GForm.q4_2 (x : A13GForm) (v : GForm) : putL x.c 4 v.c = A13GForm.c { x with x2 := v } := putL_app (by simp only [A13GForm.len, GForm.len]; decide) rfl
theorem A13GForm.d6_2 (x : A13GForm) : (x.c.drop 6).take 2 = GForm.c x.x3 := rfl
theorem A13GForm.q6_2 (x : A13GForm) (v : GForm) : putL x.c 6 v.c = A13GForm.c { x with x3 := v } := putL_app (by simp only [A13GForm.len, GForm.len]; decide) rfl
theorem A13GForm.d8_2 (x : A13GForm) : (x.c.drop 8).take 2 = GForm.c x.x4 := rfl
theorem A13GForm.q8_2 (x : A13GForm) (v : GForm) : putL x.c 8 v.c = A13GForm.c { x with x4 := v } := putL_app (by simp only [A13GForm.len, GForm.len]; decide) rfl
theorem A13GForm.d10_2 (x : A13GForm) : (x.c.drop 10).take 2 = GForm.c x.x5 := rfl
theorem A13GForm.q10_2 (x : A13GForm) (v : GForm) : putL x.c 10 v.c = A13GForm.c { x with x5 := v } := putL_app (by simp only [A13GForm.len, GForm.len]; decide) rfl
theorem A13GForm.d12_2 (x : A13GForm) : (x.c.drop 12).take 2 = GForm.c x.x6 := rfl
theorem A13GForm.q12_2 (x : A13GForm) (v : GForm) : putL x.c 12 v.c = A13GForm.c { x with x6 := v } := putL_app (by simp only [A13GForm.len, GForm.len]; decide) rfl
theorem A13GForm.d14_2 (x : A13GForm) : (x.c.drop 14).take 2 = GForm.c x.x7 := rfl
theorem A13GForm.q14_2 (x : A13GForm) (v : GForm) : putL x.c 14 v.c = A13GForm.c { x with x7 := v } := putL_app (by simp only [A13GForm.len, GForm.len]; decide) rfl
theorem A13GForm.d16_2 (x : A13GForm) : (x.c.drop 16).take 2 = GForm.c x.x8 := rfl
theorem A13GForm.q16_2 (x : A13GForm) (v : GForm) : putL x.c 16 v.c = A13GForm.c { x with x8 := v } := putL_app (by simp only [A13GForm.len, GForm.len]; decide) rfl
theorem A13GForm.d18_2 (x : A13GForm) : (x.c.drop 18).take 2 = GForm.c x.x9 := rfl
theorem A13GForm.q18_2 (x : A13GForm) (v : GForm) : putL x.c 18 v.c = A13GForm.c { x with x9 := v } := putL_app (by simp only [A13GForm.len, GForm.len]; decide) rfl
theorem A13GForm.d20_2 (x : A13GForm) : (x.c.drop 20).take 2 = GForm.c x.x10 := rfl
theorem A13GForm.q20_2 (x : A13GForm) (v : GForm) : putL x.c 20 v.c = A13GForm.c { x with x10 := v } := putL_app (by simp only [A13GForm.len, GForm.len]; decide) rfl
theorem A13GForm.d22_2 (x : A13GForm) : (x.c.drop 22).take 2 = GForm.c x.x11 := rfl
theorem A13GForm.q22_2 (x : A13GForm) (v : GForm) : putL x.c 22 v.c = A13GForm.c { x with x11 := v } := putL_app (by simp only [A13GForm.len, GForm.len]; decide) rfl
theorem A13GForm.d24_2 (x : A13GForm) : (x.c.drop 24).take 2 = GForm.c x.x12 := rfl
theorem A13GForm.q24_2 (x : A13GForm) (v : GForm) : putL x.c 24 v.c = A13GForm.c { x with x12 := v } := putL_app (by simp only [A13GForm.len, GForm.len]; decide) rfl
theorem A13GForm.q (x v : A13GForm) : putL x.c 0 v.c = v.c := putL_app (by simp only [A13GForm.len]; decide) rfl
theorem A13GForm.p (x : A13GForm) : (∀ v, putL x.c 0 [.str v] = A13GForm.c { x with x0 := { x.x0 with name := v } }) ∧ (∀ v, putL x.c 1 [.str v] = A13GForm.c { x with x0 := { x.x0 with operands := v } }) ∧ (∀ v, putL x.c 2 [.str v] = A13GForm.c { x with x1 := { x.x1 with name := v } }) ∧ (∀ v, putL x.c 3 [.str v] = A13GForm.c { x with x1 := { x.x1 with operands := v } }) ∧ (∀ v, putL x.c 4 [.str v] = A13GForm.c { x with x2 := { x.x2 with name := v } }) ∧ (∀ v, putL x.c 5 [.str v] = A13GForm.c { x with x2 := { x.x2 with operands := v } }) ∧ (∀ v, putL x.c 6 [.str v] = A13GForm.c { x with x3 := { x.x3 with name := v } }) ∧ (∀ v, putL x.c 7 [.str v] = A13GForm.c { x with x3 := { x.x3 with operands := v } }) ∧ (∀ v, putL x.c 8 [.str v] = A13GForm.c { x with x4 := { x.x4 with name := v } }) ∧ (∀ v, putL x.c 9 [.str v] = A13GForm.c { x with x4 := { x.x4 with operands := v } }) ∧ (∀ v, putL x.c 10 [.str v] = A13GForm.c { x with x5 := { x.x5 with name := v } }) ∧ (∀ v, putL x.c 11 [.str v] = A13GForm.c { x with x5 := { x.x5 with operands := v } }) ∧ (∀ v, putL x.c 12 [.str v] = A13GForm.c { x with x6 := { x.x6 with name := v } }) ∧ (∀ v, putL x.c 13 [.str v] = A13GForm.c { x with x6 := { x.x6 with operands := v } }) ∧ (∀ v, putL x.c 14 [.str v] = A13GForm.c { x with x7 := { x.x7 with name := v } }) ∧ (∀ v, putL x.c 15 [.str v] = A13GForm.c { x with x7 := { x.x7 with operands := v } }) ∧ (∀ v, putL x.c 16 [.str v] = A13GForm.c { x with x8 := { x.x8 with name := v } }) ∧ (∀ v, putL x.c 17 [.str v] = A13GForm.c { x with x8 := { x.x8 with operands := v } }) ∧ (∀ v, putL x.c 18 [.str v] = A13GForm.c { x with x9 := { x.x9 with name := v } }) ∧ (∀ v, putL x.c 19 [.str v] = A13GForm.c { x with x9 := { x.x9 with operands := v } }) ∧ (∀ v, putL x.c 20 [.str v] = A13GForm.c { x with x10 := { x.x10 with name := v } }) ∧ (∀ v, putL x.c 21 [.str v] = A13GForm.c { x with x10 := { x.x10 with operands := v } }) ∧ (∀ v, putL x.c 22 [.str v] = A13GForm.c { x with x11 := { x.x11 with name := v } }) ∧ (∀ v, putL x.c 23 [.str v] = A13GForm.c { x with x11 := { x.x11 with operands := v } }) ∧ (∀ v, putL x.c 24 [.str v] = A13GForm.c { x with x12 := { x.x12 with name := v } }) ∧ (∀ v, putL x.c 25 [.str v] = A13GForm.c { x with x12 := { x.x12 with operands := v } }) := cj
theorem A13GForm.fz (sel : Nat → Bool) (B : List Own) (x : A13GForm) : frzL sel B x.c = x.c := rfl
theorem A13GForm.fk (sel : Nat → Bool) (B : List Own) (x : A13GForm) : frzKL sel B x.c = True := by simp [A13GForm.c, frzKL, frzKC]
theorem A13GForm.kd (x : A13GForm) : kinds x.c = [2, 2, 2, 2, 2, 2, 2, 2, 2, 2, 2, 2, 2, 2, 2, 2, 2, 2, 2, 2, 2, 2, 2, 2, 2, 2] := rfl
theorem A13GForm.e1 (x y : A13GForm) : (eqCells x.c y.c).1 = (x == y) := by
  apply Bool.eq_iff_iff.2
  rw [beq_iff_eq, A13GForm.ext_iff]
  simp [A13GForm.c, eqCells, eqCell, GForm.ext_iff, GForm.ext_iff, GForm.ext_iff, GForm.ext_iff, GForm.ext_iff, GForm.ext_iff, GForm.ext_iff, GForm.ext_iff, GForm.ext_iff, GForm.ext_iff, GForm.ext_iff, GForm.ext_iff, GForm.ext_iff, and_assoc]
theorem A13GForm.e2 (x y : A13GForm) : (eqCells x.c y.c).2 = True := by simp [A13GForm.c, eqCells, eqCell]
attribute [push_cast] GInstr.eta GInstr.len GInstr.sol GInstr.t GInstr.g GInstr.q GInstr.p GInstr.fz GInstr.fk GInstr.kd GInstr.e1 GInstr.e2 GProgram.eta GProgram.len GProgram.sol GProgram.t GProgram.g GProgram.q GProgram.p GProgram.fz GProgram.fk A8i64.eta A8i64.len A8i64.sol A8i64.t A8i64.g A8i64.q A8i64.p A8i64.fz A8i64.fk A8i64.kd A8i64.e1 A8i64.e2 GCPU.eta GCPU.len GCPU.sol GCPU.t GCPU.g GCPU.d1_8 GCPU.q1_8 GCPU.q GCPU.p GCPU.fz GCPU.fk GCPU.kd GCPU.e1 GCPU.e2 GPageRef.eta GPageRef.len GPageRef.sol GPageRef.t GPageRef.g GPageRef.q GPageRef.p GPageRef.fz GPageRef.fk GPageRef.kd GPageRef.e1 GPageRef.e2 GSlot.eta GSlot.len GSlot.sol GSlot.t GSlot.g GSlot.q GSlot.p GSlot.fz GSlot.fk GSlot.kd GSlot.e1 GSlot.e2 GProcess.eta GProcess.len GProcess.sol GProcess.t GProcess.g GProcess.d3_3 GProcess.q3_3 GProcess.d6_9 GProcess.q6_9 GProcess.d7_8 GProcess.q7_8 GProcess.q GProcess.p GProcess.fz GProcess.fk cL_u8_len cL_u8_sol cL_u8_g0 cL_u8_t cL_u8_p0 A2Lu8.eta A2Lu8.len A2Lu8.sol A2Lu8.t A2Lu8.g A2Lu8.q A2Lu8.p A2Lu8.fz A2Lu8.fk A2i64.eta A2i64.len A2i64.sol A2i64.t A2i64.g A2i64.q A2i64.p A2i64.fz A2i64.fk A2i64.kd A2i64.e1 A2i64.e2 GName.eta GName.len GName.sol GName.t GName.g GName.q GName.p GName.fz GName.fk GObject.eta GObject.len GObject.sol GObject.t GObject.g GObject.d3_20 GObject.q3_20 GObject.d6_3 GObject.q6_3 GObject.d9_9 GObject.q9_9 GObject.d10_8 GObject.q10_8 GObject.d30_2 GObject.q30_2 GObject.d32_2 GObject.q32_2 GObject.q GObject.p GObject.fz GObject.fk GStore.eta GStore.len GStore.sol GStore.t GStore.g GStore.q GStore.p GStore.fz GStore.fk GKernel.eta GKernel.len GKernel.sol GKernel.t GKernel.g GKernel.d0_1 GKernel.q0_1 GKernel.q GKernel.p GKernel.fz GKernel.fk GAllocator.eta GAllocator.len GAllocator.sol GAllocator.t GAllocator.g GAllocator.q GAllocator.p GAllocator.fz GAllocator.fk GAllocator.kd GAllocator.e1 GAllocator.e2 GDice.eta GDice.len GDice.sol GDice.t GDice.g GDice.q GDice.p GDice.fz GDice.fk GForm.eta GForm.len GForm.sol GForm.t GForm.g GForm.q GForm.p GForm.fz GForm.fk GForm.kd GForm.e1 GForm.e2 GOutcome.eta GOutcome.len GOutcome.sol GOutcome.t GOutcome.g GOutcome.q GOutcome.p GOutcome.fz GOutcome.fk GOutcome.kd GOutcome.e1 GOutcome.e2 GStep.eta GStep.len GStep.sol GStep.t GStep.g GStep.d0_1 GStep.q0_1 GStep.d1_36 GStep.q1_36 GStep.d4_20 GStep.q4_20 GStep.d7_3 GStep.q7_3 GStep.d10_9 GStep.q10_9 GStep.d11_8 GStep.q11_8 GStep.d31_2 GStep.q31_2 GStep.d33_2 GStep.q33_2 GStep.d38_3 GStep.q38_3 GStep.q GStep.p GStep.fz GStep.fk A3i64.eta A3i64.len A3i64.sol A3i64.t A3i64.g A3i64.q A3i64.p A3i64.fz A3i64.fk A3i64.kd A3i64.e1 A3i64.e2 GAction.eta GAction.len GAction.sol GAction.t GAction.g GAction.d5_3 GAction.q5_3 GAction.q GAction.p GAction.fz GAction.fk GAction.kd GAction.e1 GAction.e2 A13GForm.eta A13GForm.len A13GForm.sol A13GForm.t A13GForm.g A13GForm.d0_2 A13GForm.q0_2 A13GForm.d2_2 A13GForm.q2_2 A13GForm.d4_2 A13GForm.q4_2 A13GForm.d6_2 A13GForm.q6_2 A13GForm.d8_2 A13GForm.q8_2 A13GForm.d10_2 A13GForm.q10_2 A13GForm.d12_2 A13GForm.q12_2 A13GForm.d14_2 A13GForm.q14_2 A13GForm.d16_2 A13GForm.q16_2 A13GForm.d18_2 A13GForm.q18_2 A13GForm.d20_2 A13GForm.q20_2 A13GForm.d22_2 A13GForm.q22_2 A13GForm.d24_2 A13GForm.q24_2 A13GForm.q A13GForm.p A13GForm.fz A13GForm.fk A13GForm.kd A13GForm.e1 A13GForm.e2
end Go.Proofs.YtfmldmafigpblaaGreatDoor
end
