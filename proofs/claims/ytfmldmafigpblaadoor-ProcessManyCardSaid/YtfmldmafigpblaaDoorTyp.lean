/-
  Typed views of the structs of this seat. Printed by a program of ours (gen_types.py).
-/
import Derived.Test.YtfmldmafigpblaaDoorLiftX
namespace Go.Proofs.YtfmldmafigpblaaDoor
open Go.Lift
set_option linter.unusedSimpArgs false
set_option linter.unusedVariables false
@[ext] structure GInstr where
  Op : Int
  A : Int
  B : Int
  C : Int
  deriving Inhabited, DecidableEq
def GInstr.c (x : GInstr) : List SV := [.int .i64 x.Op, .int .i64 x.A, .int .i64 x.B, .int .i64 x.C]
theorem GInstr.eta (x : GInstr) : (GInstr.mk x.Op x.A x.B x.C) = x := rfl
theorem GInstr.len (x : GInstr) : x.c.length = 4 := rfl
theorem GInstr.sol (x : GInstr) : solids x.c = true := rfl
theorem GInstr.t (x : GInstr) : x.c.take 4 = x.c := rfl
theorem GInstr.g0 (x : GInstr) (d : SV) : x.c.getD 0 d = .int .i64 x.Op := rfl
theorem GInstr.g1 (x : GInstr) (d : SV) : x.c.getD 1 d = .int .i64 x.A := rfl
theorem GInstr.g2 (x : GInstr) (d : SV) : x.c.getD 2 d = .int .i64 x.B := rfl
theorem GInstr.g3 (x : GInstr) (d : SV) : x.c.getD 3 d = .int .i64 x.C := rfl
theorem GInstr.q (x v : GInstr) : putL x.c 0 v.c = v.c := putL_app (by simp only [GInstr.len]; decide) rfl
theorem GInstr.p0 (x : GInstr) (v : Int) : putL x.c 0 [.int .i64 v] = GInstr.c { x with Op := v } := rfl
theorem GInstr.l0 {x : GInstr} {v : Int} {cs : List SV} (h : LLe cs x.c) : LLe (putL cs 0 [.int .i64 v]) (GInstr.c { x with Op := v }) := LLe.put h 0 (SLe.refl _) rfl
theorem GInstr.p1 (x : GInstr) (v : Int) : putL x.c 1 [.int .i64 v] = GInstr.c { x with A := v } := rfl
theorem GInstr.l1 {x : GInstr} {v : Int} {cs : List SV} (h : LLe cs x.c) : LLe (putL cs 1 [.int .i64 v]) (GInstr.c { x with A := v }) := LLe.put h 1 (SLe.refl _) rfl
theorem GInstr.p2 (x : GInstr) (v : Int) : putL x.c 2 [.int .i64 v] = GInstr.c { x with B := v } := rfl
theorem GInstr.l2 {x : GInstr} {v : Int} {cs : List SV} (h : LLe cs x.c) : LLe (putL cs 2 [.int .i64 v]) (GInstr.c { x with B := v }) := LLe.put h 2 (SLe.refl _) rfl
theorem GInstr.p3 (x : GInstr) (v : Int) : putL x.c 3 [.int .i64 v] = GInstr.c { x with C := v } := rfl
theorem GInstr.l3 {x : GInstr} {v : Int} {cs : List SV} (h : LLe cs x.c) : LLe (putL cs 3 [.int .i64 v]) (GInstr.c { x with C := v }) := LLe.put h 3 (SLe.refl _) rfl
theorem GInstr.fz (sel : Nat → Bool) (B : List Own) (x : GInstr) : frzL sel B x.c = x.c := rfl
theorem GInstr.fk (sel : Nat → Bool) (B : List Own) (x : GInstr) : frzKL sel B x.c = True := by simp [GInstr.c, frzKL, frzKC]
theorem GInstr.kd (x : GInstr) : kinds x.c = [1, 1, 1, 1] := rfl
theorem GInstr.e1 (x y : GInstr) : (eqCells x.c y.c).1 = (x == y) := by
  apply Bool.eq_iff_iff.2
  obtain ⟨a0, a1, a2, a3⟩ := x
  obtain ⟨b0, b1, b2, b3⟩ := y
  simp [GInstr.c, eqCells, eqCell]
theorem GInstr.e2 (x y : GInstr) : (eqCells x.c y.c).2 = True := by simp [GInstr.c, eqCells, eqCell]
@[ext] structure GProgram where
  Code : List GInstr
  Strings : List (List UInt8)
  Pages : Int
  deriving Inhabited, DecidableEq
def GProgram.c (x : GProgram) : List SV := [.sl false 4 x.Code.length (elt GInstr.c default x.Code), .sl false 1 x.Strings.length (elt strC default x.Strings), .int .i64 x.Pages]
theorem GProgram.eta (x : GProgram) : (GProgram.mk x.Code x.Strings x.Pages) = x := rfl
theorem GProgram.len (x : GProgram) : x.c.length = 3 := rfl
theorem GProgram.sol (x : GProgram) : solids x.c = true := rfl
theorem GProgram.t (x : GProgram) : x.c.take 3 = x.c := rfl
theorem GProgram.g0 (x : GProgram) (d : SV) : x.c.getD 0 d = .sl false 4 x.Code.length (elt GInstr.c default x.Code) := rfl
theorem GProgram.g1 (x : GProgram) (d : SV) : x.c.getD 1 d = .sl false 1 x.Strings.length (elt strC default x.Strings) := rfl
theorem GProgram.g2 (x : GProgram) (d : SV) : x.c.getD 2 d = .int .i64 x.Pages := rfl
theorem GProgram.q (x v : GProgram) : putL x.c 0 v.c = v.c := putL_app (by simp only [GProgram.len]; decide) rfl
theorem GProgram.p0 (x : GProgram) (v : List GInstr) : putL x.c 0 [.sl false 4 v.length (elt GInstr.c default v)] = GProgram.c { x with Code := v } := rfl
theorem GProgram.l0 {x : GProgram} {v : List GInstr} {cs : List SV} {s : SV} (h : LLe cs x.c) (hs : SLe s (.sl false 4 v.length (elt GInstr.c default v))) : LLe (putL cs 0 [s]) (GProgram.c { x with Code := v }) := LLe.put h 0 hs rfl
theorem GProgram.p1 (x : GProgram) (v : List (List UInt8)) : putL x.c 1 [.sl false 1 v.length (elt strC default v)] = GProgram.c { x with Strings := v } := rfl
theorem GProgram.l1 {x : GProgram} {v : List (List UInt8)} {cs : List SV} {s : SV} (h : LLe cs x.c) (hs : SLe s (.sl false 1 v.length (elt strC default v))) : LLe (putL cs 1 [s]) (GProgram.c { x with Strings := v }) := LLe.put h 1 hs rfl
theorem GProgram.p2 (x : GProgram) (v : Int) : putL x.c 2 [.int .i64 v] = GProgram.c { x with Pages := v } := rfl
theorem GProgram.l2 {x : GProgram} {v : Int} {cs : List SV} (h : LLe cs x.c) : LLe (putL cs 2 [.int .i64 v]) (GProgram.c { x with Pages := v }) := LLe.put h 2 (SLe.refl _) rfl
theorem GProgram.fz (sel : Nat → Bool) (B : List Own) (x : GProgram) : frzL sel B x.c = x.c := rfl
theorem GProgram.fk (sel : Nat → Bool) (B : List Own) (x : GProgram) : frzKL sel B x.c = True := by simp [GProgram.c, frzKL, frzKC]
@[ext] structure A8i64 where
  x0 : Int
  x1 : Int
  x2 : Int
  x3 : Int
  x4 : Int
  x5 : Int
  x6 : Int
  x7 : Int
  deriving Inhabited, DecidableEq
def A8i64.c (x : A8i64) : List SV := [.int .i64 x.x0, .int .i64 x.x1, .int .i64 x.x2, .int .i64 x.x3, .int .i64 x.x4, .int .i64 x.x5, .int .i64 x.x6, .int .i64 x.x7]
theorem A8i64.eta (x : A8i64) : (A8i64.mk x.x0 x.x1 x.x2 x.x3 x.x4 x.x5 x.x6 x.x7) = x := rfl
theorem A8i64.len (x : A8i64) : x.c.length = 8 := rfl
theorem A8i64.sol (x : A8i64) : solids x.c = true := rfl
theorem A8i64.t (x : A8i64) : x.c.take 8 = x.c := rfl
theorem A8i64.g0 (x : A8i64) (d : SV) : x.c.getD 0 d = .int .i64 x.x0 := rfl
theorem A8i64.g1 (x : A8i64) (d : SV) : x.c.getD 1 d = .int .i64 x.x1 := rfl
theorem A8i64.g2 (x : A8i64) (d : SV) : x.c.getD 2 d = .int .i64 x.x2 := rfl
theorem A8i64.g3 (x : A8i64) (d : SV) : x.c.getD 3 d = .int .i64 x.x3 := rfl
theorem A8i64.g4 (x : A8i64) (d : SV) : x.c.getD 4 d = .int .i64 x.x4 := rfl
theorem A8i64.g5 (x : A8i64) (d : SV) : x.c.getD 5 d = .int .i64 x.x5 := rfl
theorem A8i64.g6 (x : A8i64) (d : SV) : x.c.getD 6 d = .int .i64 x.x6 := rfl
theorem A8i64.g7 (x : A8i64) (d : SV) : x.c.getD 7 d = .int .i64 x.x7 := rfl
theorem A8i64.q (x v : A8i64) : putL x.c 0 v.c = v.c := putL_app (by simp only [A8i64.len]; decide) rfl
theorem A8i64.p0 (x : A8i64) (v : Int) : putL x.c 0 [.int .i64 v] = A8i64.c { x with x0 := v } := rfl
theorem A8i64.l0 {x : A8i64} {v : Int} {cs : List SV} (h : LLe cs x.c) : LLe (putL cs 0 [.int .i64 v]) (A8i64.c { x with x0 := v }) := LLe.put h 0 (SLe.refl _) rfl
theorem A8i64.p1 (x : A8i64) (v : Int) : putL x.c 1 [.int .i64 v] = A8i64.c { x with x1 := v } := rfl
theorem A8i64.l1 {x : A8i64} {v : Int} {cs : List SV} (h : LLe cs x.c) : LLe (putL cs 1 [.int .i64 v]) (A8i64.c { x with x1 := v }) := LLe.put h 1 (SLe.refl _) rfl
theorem A8i64.p2 (x : A8i64) (v : Int) : putL x.c 2 [.int .i64 v] = A8i64.c { x with x2 := v } := rfl
theorem A8i64.l2 {x : A8i64} {v : Int} {cs : List SV} (h : LLe cs x.c) : LLe (putL cs 2 [.int .i64 v]) (A8i64.c { x with x2 := v }) := LLe.put h 2 (SLe.refl _) rfl
theorem A8i64.p3 (x : A8i64) (v : Int) : putL x.c 3 [.int .i64 v] = A8i64.c { x with x3 := v } := rfl
theorem A8i64.l3 {x : A8i64} {v : Int} {cs : List SV} (h : LLe cs x.c) : LLe (putL cs 3 [.int .i64 v]) (A8i64.c { x with x3 := v }) := LLe.put h 3 (SLe.refl _) rfl
theorem A8i64.p4 (x : A8i64) (v : Int) : putL x.c 4 [.int .i64 v] = A8i64.c { x with x4 := v } := rfl
theorem A8i64.l4 {x : A8i64} {v : Int} {cs : List SV} (h : LLe cs x.c) : LLe (putL cs 4 [.int .i64 v]) (A8i64.c { x with x4 := v }) := LLe.put h 4 (SLe.refl _) rfl
theorem A8i64.p5 (x : A8i64) (v : Int) : putL x.c 5 [.int .i64 v] = A8i64.c { x with x5 := v } := rfl
theorem A8i64.l5 {x : A8i64} {v : Int} {cs : List SV} (h : LLe cs x.c) : LLe (putL cs 5 [.int .i64 v]) (A8i64.c { x with x5 := v }) := LLe.put h 5 (SLe.refl _) rfl
theorem A8i64.p6 (x : A8i64) (v : Int) : putL x.c 6 [.int .i64 v] = A8i64.c { x with x6 := v } := rfl
theorem A8i64.l6 {x : A8i64} {v : Int} {cs : List SV} (h : LLe cs x.c) : LLe (putL cs 6 [.int .i64 v]) (A8i64.c { x with x6 := v }) := LLe.put h 6 (SLe.refl _) rfl
theorem A8i64.p7 (x : A8i64) (v : Int) : putL x.c 7 [.int .i64 v] = A8i64.c { x with x7 := v } := rfl
theorem A8i64.l7 {x : A8i64} {v : Int} {cs : List SV} (h : LLe cs x.c) : LLe (putL cs 7 [.int .i64 v]) (A8i64.c { x with x7 := v }) := LLe.put h 7 (SLe.refl _) rfl
theorem A8i64.fz (sel : Nat → Bool) (B : List Own) (x : A8i64) : frzL sel B x.c = x.c := rfl
theorem A8i64.fk (sel : Nat → Bool) (B : List Own) (x : A8i64) : frzKL sel B x.c = True := by simp [A8i64.c, frzKL, frzKC]
theorem A8i64.kd (x : A8i64) : kinds x.c = [1, 1, 1, 1, 1, 1, 1, 1] := rfl
theorem A8i64.e1 (x y : A8i64) : (eqCells x.c y.c).1 = (x == y) := by
  apply Bool.eq_iff_iff.2
  obtain ⟨a0, a1, a2, a3, a4, a5, a6, a7⟩ := x
  obtain ⟨b0, b1, b2, b3, b4, b5, b6, b7⟩ := y
  simp [A8i64.c, eqCells, eqCell]
theorem A8i64.e2 (x y : A8i64) : (eqCells x.c y.c).2 = True := by simp [A8i64.c, eqCells, eqCell]
@[ext] structure GCPU where
  PC : Int
  Regs : A8i64
  deriving Inhabited, DecidableEq
def GCPU.c (x : GCPU) : List SV := [.int .i64 x.PC, .int .i64 x.Regs.x0, .int .i64 x.Regs.x1, .int .i64 x.Regs.x2, .int .i64 x.Regs.x3, .int .i64 x.Regs.x4, .int .i64 x.Regs.x5, .int .i64 x.Regs.x6, .int .i64 x.Regs.x7]
theorem GCPU.eta (x : GCPU) : (GCPU.mk x.PC x.Regs) = x := rfl
theorem GCPU.len (x : GCPU) : x.c.length = 9 := rfl
theorem GCPU.sol (x : GCPU) : solids x.c = true := rfl
theorem GCPU.t (x : GCPU) : x.c.take 9 = x.c := rfl
theorem GCPU.g0 (x : GCPU) (d : SV) : x.c.getD 0 d = .int .i64 x.PC := rfl
theorem GCPU.g1 (x : GCPU) (d : SV) : x.c.getD 1 d = .int .i64 x.Regs.x0 := rfl
theorem GCPU.g2 (x : GCPU) (d : SV) : x.c.getD 2 d = .int .i64 x.Regs.x1 := rfl
theorem GCPU.g3 (x : GCPU) (d : SV) : x.c.getD 3 d = .int .i64 x.Regs.x2 := rfl
theorem GCPU.g4 (x : GCPU) (d : SV) : x.c.getD 4 d = .int .i64 x.Regs.x3 := rfl
theorem GCPU.g5 (x : GCPU) (d : SV) : x.c.getD 5 d = .int .i64 x.Regs.x4 := rfl
theorem GCPU.g6 (x : GCPU) (d : SV) : x.c.getD 6 d = .int .i64 x.Regs.x5 := rfl
theorem GCPU.g7 (x : GCPU) (d : SV) : x.c.getD 7 d = .int .i64 x.Regs.x6 := rfl
theorem GCPU.g8 (x : GCPU) (d : SV) : x.c.getD 8 d = .int .i64 x.Regs.x7 := rfl
theorem GCPU.d1_8 (x : GCPU) : (x.c.drop 1).take 8 = A8i64.c x.Regs := rfl
theorem GCPU.q1_8 (x : GCPU) (v : A8i64) : putL x.c 1 v.c = GCPU.c { x with Regs := v } := putL_app (by simp only [GCPU.len, A8i64.len]; decide) rfl
theorem GCPU.q (x v : GCPU) : putL x.c 0 v.c = v.c := putL_app (by simp only [GCPU.len]; decide) rfl
theorem GCPU.p0 (x : GCPU) (v : Int) : putL x.c 0 [.int .i64 v] = GCPU.c { x with PC := v } := rfl
theorem GCPU.l0 {x : GCPU} {v : Int} {cs : List SV} (h : LLe cs x.c) : LLe (putL cs 0 [.int .i64 v]) (GCPU.c { x with PC := v }) := LLe.put h 0 (SLe.refl _) rfl
theorem GCPU.p1 (x : GCPU) (v : Int) : putL x.c 1 [.int .i64 v] = GCPU.c { x with Regs := { x.Regs with x0 := v } } := rfl
theorem GCPU.l1 {x : GCPU} {v : Int} {cs : List SV} (h : LLe cs x.c) : LLe (putL cs 1 [.int .i64 v]) (GCPU.c { x with Regs := { x.Regs with x0 := v } }) := LLe.put h 1 (SLe.refl _) rfl
theorem GCPU.p2 (x : GCPU) (v : Int) : putL x.c 2 [.int .i64 v] = GCPU.c { x with Regs := { x.Regs with x1 := v } } := rfl
theorem GCPU.l2 {x : GCPU} {v : Int} {cs : List SV} (h : LLe cs x.c) : LLe (putL cs 2 [.int .i64 v]) (GCPU.c { x with Regs := { x.Regs with x1 := v } }) := LLe.put h 2 (SLe.refl _) rfl
theorem GCPU.p3 (x : GCPU) (v : Int) : putL x.c 3 [.int .i64 v] = GCPU.c { x with Regs := { x.Regs with x2 := v } } := rfl
theorem GCPU.l3 {x : GCPU} {v : Int} {cs : List SV} (h : LLe cs x.c) : LLe (putL cs 3 [.int .i64 v]) (GCPU.c { x with Regs := { x.Regs with x2 := v } }) := LLe.put h 3 (SLe.refl _) rfl
theorem GCPU.p4 (x : GCPU) (v : Int) : putL x.c 4 [.int .i64 v] = GCPU.c { x with Regs := { x.Regs with x3 := v } } := rfl
theorem GCPU.l4 {x : GCPU} {v : Int} {cs : List SV} (h : LLe cs x.c) : LLe (putL cs 4 [.int .i64 v]) (GCPU.c { x with Regs := { x.Regs with x3 := v } }) := LLe.put h 4 (SLe.refl _) rfl
theorem GCPU.p5 (x : GCPU) (v : Int) : putL x.c 5 [.int .i64 v] = GCPU.c { x with Regs := { x.Regs with x4 := v } } := rfl
theorem GCPU.l5 {x : GCPU} {v : Int} {cs : List SV} (h : LLe cs x.c) : LLe (putL cs 5 [.int .i64 v]) (GCPU.c { x with Regs := { x.Regs with x4 := v } }) := LLe.put h 5 (SLe.refl _) rfl
theorem GCPU.p6 (x : GCPU) (v : Int) : putL x.c 6 [.int .i64 v] = GCPU.c { x with Regs := { x.Regs with x5 := v } } := rfl
theorem GCPU.l6 {x : GCPU} {v : Int} {cs : List SV} (h : LLe cs x.c) : LLe (putL cs 6 [.int .i64 v]) (GCPU.c { x with Regs := { x.Regs with x5 := v } }) := LLe.put h 6 (SLe.refl _) rfl
theorem GCPU.p7 (x : GCPU) (v : Int) : putL x.c 7 [.int .i64 v] = GCPU.c { x with Regs := { x.Regs with x6 := v } } := rfl
theorem GCPU.l7 {x : GCPU} {v : Int} {cs : List SV} (h : LLe cs x.c) : LLe (putL cs 7 [.int .i64 v]) (GCPU.c { x with Regs := { x.Regs with x6 := v } }) := LLe.put h 7 (SLe.refl _) rfl
theorem GCPU.p8 (x : GCPU) (v : Int) : putL x.c 8 [.int .i64 v] = GCPU.c { x with Regs := { x.Regs with x7 := v } } := rfl
theorem GCPU.l8 {x : GCPU} {v : Int} {cs : List SV} (h : LLe cs x.c) : LLe (putL cs 8 [.int .i64 v]) (GCPU.c { x with Regs := { x.Regs with x7 := v } }) := LLe.put h 8 (SLe.refl _) rfl
theorem GCPU.m1_8 {x : GCPU} {v : A8i64} {cs vs : List SV} (h : LLe cs x.c) (hv : LLe vs v.c) : LLe (putL cs 1 vs) (GCPU.c { x with Regs := v }) := LLe.puts h 1 hv (GCPU.q1_8 x v)
theorem GCPU.fz (sel : Nat → Bool) (B : List Own) (x : GCPU) : frzL sel B x.c = x.c := rfl
theorem GCPU.fk (sel : Nat → Bool) (B : List Own) (x : GCPU) : frzKL sel B x.c = True := by simp [GCPU.c, frzKL, frzKC]
theorem GCPU.kd (x : GCPU) : kinds x.c = [1, 1, 1, 1, 1, 1, 1, 1, 1] := rfl
theorem GCPU.e1 (x y : GCPU) : (eqCells x.c y.c).1 = (x == y) := by
  apply Bool.eq_iff_iff.2
  rw [beq_iff_eq, GCPU.ext_iff]
  simp [GCPU.c, eqCells, eqCell, A8i64.ext_iff, and_assoc]
theorem GCPU.e2 (x y : GCPU) : (eqCells x.c y.c).2 = True := by simp [GCPU.c, eqCells, eqCell]
@[ext] structure GPageRef where
  ID : Int
  Shared : Bool
  deriving Inhabited, DecidableEq
def GPageRef.c (x : GPageRef) : List SV := [.int .u64 x.ID, .bool x.Shared]
theorem GPageRef.eta (x : GPageRef) : (GPageRef.mk x.ID x.Shared) = x := rfl
theorem GPageRef.len (x : GPageRef) : x.c.length = 2 := rfl
theorem GPageRef.sol (x : GPageRef) : solids x.c = true := rfl
theorem GPageRef.t (x : GPageRef) : x.c.take 2 = x.c := rfl
theorem GPageRef.g0 (x : GPageRef) (d : SV) : x.c.getD 0 d = .int .u64 x.ID := rfl
theorem GPageRef.g1 (x : GPageRef) (d : SV) : x.c.getD 1 d = .bool x.Shared := rfl
theorem GPageRef.q (x v : GPageRef) : putL x.c 0 v.c = v.c := putL_app (by simp only [GPageRef.len]; decide) rfl
theorem GPageRef.p0 (x : GPageRef) (v : Int) : putL x.c 0 [.int .u64 v] = GPageRef.c { x with ID := v } := rfl
theorem GPageRef.l0 {x : GPageRef} {v : Int} {cs : List SV} (h : LLe cs x.c) : LLe (putL cs 0 [.int .u64 v]) (GPageRef.c { x with ID := v }) := LLe.put h 0 (SLe.refl _) rfl
theorem GPageRef.p1 (x : GPageRef) (v : Bool) : putL x.c 1 [.bool v] = GPageRef.c { x with Shared := v } := rfl
theorem GPageRef.l1 {x : GPageRef} {v : Bool} {cs : List SV} (h : LLe cs x.c) : LLe (putL cs 1 [.bool v]) (GPageRef.c { x with Shared := v }) := LLe.put h 1 (SLe.refl _) rfl
theorem GPageRef.fz (sel : Nat → Bool) (B : List Own) (x : GPageRef) : frzL sel B x.c = x.c := rfl
theorem GPageRef.fk (sel : Nat → Bool) (B : List Own) (x : GPageRef) : frzKL sel B x.c = True := by simp [GPageRef.c, frzKL, frzKC]
theorem GPageRef.kd (x : GPageRef) : kinds x.c = [1, 0] := rfl
theorem GPageRef.e1 (x y : GPageRef) : (eqCells x.c y.c).1 = (x == y) := by
  apply Bool.eq_iff_iff.2
  obtain ⟨a0, a1⟩ := x
  obtain ⟨b0, b1⟩ := y
  simp [GPageRef.c, eqCells, eqCell]
theorem GPageRef.e2 (x y : GPageRef) : (eqCells x.c y.c).2 = True := by simp [GPageRef.c, eqCells, eqCell]
@[ext] structure GSlot where
  Kind : Int
  Description : Int
  Target : Int
  End : Int
  deriving Inhabited, DecidableEq
def GSlot.c (x : GSlot) : List SV := [.int .i64 x.Kind, .int .u64 x.Description, .int .u64 x.Target, .int .i64 x.End]
theorem GSlot.eta (x : GSlot) : (GSlot.mk x.Kind x.Description x.Target x.End) = x := rfl
theorem GSlot.len (x : GSlot) : x.c.length = 4 := rfl
theorem GSlot.sol (x : GSlot) : solids x.c = true := rfl
theorem GSlot.t (x : GSlot) : x.c.take 4 = x.c := rfl
theorem GSlot.g0 (x : GSlot) (d : SV) : x.c.getD 0 d = .int .i64 x.Kind := rfl
theorem GSlot.g1 (x : GSlot) (d : SV) : x.c.getD 1 d = .int .u64 x.Description := rfl
theorem GSlot.g2 (x : GSlot) (d : SV) : x.c.getD 2 d = .int .u64 x.Target := rfl
theorem GSlot.g3 (x : GSlot) (d : SV) : x.c.getD 3 d = .int .i64 x.End := rfl
theorem GSlot.q (x v : GSlot) : putL x.c 0 v.c = v.c := putL_app (by simp only [GSlot.len]; decide) rfl
theorem GSlot.p0 (x : GSlot) (v : Int) : putL x.c 0 [.int .i64 v] = GSlot.c { x with Kind := v } := rfl
theorem GSlot.l0 {x : GSlot} {v : Int} {cs : List SV} (h : LLe cs x.c) : LLe (putL cs 0 [.int .i64 v]) (GSlot.c { x with Kind := v }) := LLe.put h 0 (SLe.refl _) rfl
theorem GSlot.p1 (x : GSlot) (v : Int) : putL x.c 1 [.int .u64 v] = GSlot.c { x with Description := v } := rfl
theorem GSlot.l1 {x : GSlot} {v : Int} {cs : List SV} (h : LLe cs x.c) : LLe (putL cs 1 [.int .u64 v]) (GSlot.c { x with Description := v }) := LLe.put h 1 (SLe.refl _) rfl
theorem GSlot.p2 (x : GSlot) (v : Int) : putL x.c 2 [.int .u64 v] = GSlot.c { x with Target := v } := rfl
theorem GSlot.l2 {x : GSlot} {v : Int} {cs : List SV} (h : LLe cs x.c) : LLe (putL cs 2 [.int .u64 v]) (GSlot.c { x with Target := v }) := LLe.put h 2 (SLe.refl _) rfl
theorem GSlot.p3 (x : GSlot) (v : Int) : putL x.c 3 [.int .i64 v] = GSlot.c { x with End := v } := rfl
theorem GSlot.l3 {x : GSlot} {v : Int} {cs : List SV} (h : LLe cs x.c) : LLe (putL cs 3 [.int .i64 v]) (GSlot.c { x with End := v }) := LLe.put h 3 (SLe.refl _) rfl
theorem GSlot.fz (sel : Nat → Bool) (B : List Own) (x : GSlot) : frzL sel B x.c = x.c := rfl
theorem GSlot.fk (sel : Nat → Bool) (B : List Own) (x : GSlot) : frzKL sel B x.c = True := by simp [GSlot.c, frzKL, frzKC]
theorem GSlot.kd (x : GSlot) : kinds x.c = [1, 1, 1, 1] := rfl
theorem GSlot.e1 (x y : GSlot) : (eqCells x.c y.c).1 = (x == y) := by
  apply Bool.eq_iff_iff.2
  obtain ⟨a0, a1, a2, a3⟩ := x
  obtain ⟨b0, b1, b2, b3⟩ := y
  simp [GSlot.c, eqCells, eqCell]
theorem GSlot.e2 (x y : GSlot) : (eqCells x.c y.c).2 = True := by simp [GSlot.c, eqCells, eqCell]
@[ext] structure GProcess where
  State : Int
  Parent : Int
  Children : List Int
  Program : GProgram
  CPU : GCPU
  Pages : List GPageRef
  Table : List GSlot
  Pending : Int
  Alarm : Int
  Status : Int
  deriving Inhabited, DecidableEq
def GProcess.c (x : GProcess) : List SV := [.int .i64 x.State, .int .u64 x.Parent, .sl false 1 x.Children.length (elt (intC .u64) default x.Children), .sl false 4 x.Program.Code.length (elt GInstr.c default x.Program.Code), .sl false 1 x.Program.Strings.length (elt strC default x.Program.Strings), .int .i64 x.Program.Pages, .int .i64 x.CPU.PC, .int .i64 x.CPU.Regs.x0, .int .i64 x.CPU.Regs.x1, .int .i64 x.CPU.Regs.x2, .int .i64 x.CPU.Regs.x3, .int .i64 x.CPU.Regs.x4, .int .i64 x.CPU.Regs.x5, .int .i64 x.CPU.Regs.x6, .int .i64 x.CPU.Regs.x7, .sl false 2 x.Pages.length (elt GPageRef.c default x.Pages), .sl false 4 x.Table.length (elt GSlot.c default x.Table), .int .i64 x.Pending, .int .i64 x.Alarm, .int .i64 x.Status]
theorem GProcess.eta (x : GProcess) : (GProcess.mk x.State x.Parent x.Children x.Program x.CPU x.Pages x.Table x.Pending x.Alarm x.Status) = x := rfl
theorem GProcess.len (x : GProcess) : x.c.length = 20 := rfl
theorem GProcess.sol (x : GProcess) : solids x.c = true := rfl
theorem GProcess.t (x : GProcess) : x.c.take 20 = x.c := rfl
theorem GProcess.g0 (x : GProcess) (d : SV) : x.c.getD 0 d = .int .i64 x.State := rfl
theorem GProcess.g1 (x : GProcess) (d : SV) : x.c.getD 1 d = .int .u64 x.Parent := rfl
theorem GProcess.g2 (x : GProcess) (d : SV) : x.c.getD 2 d = .sl false 1 x.Children.length (elt (intC .u64) default x.Children) := rfl
theorem GProcess.g3 (x : GProcess) (d : SV) : x.c.getD 3 d = .sl false 4 x.Program.Code.length (elt GInstr.c default x.Program.Code) := rfl
theorem GProcess.g4 (x : GProcess) (d : SV) : x.c.getD 4 d = .sl false 1 x.Program.Strings.length (elt strC default x.Program.Strings) := rfl
theorem GProcess.g5 (x : GProcess) (d : SV) : x.c.getD 5 d = .int .i64 x.Program.Pages := rfl
theorem GProcess.g6 (x : GProcess) (d : SV) : x.c.getD 6 d = .int .i64 x.CPU.PC := rfl
theorem GProcess.g7 (x : GProcess) (d : SV) : x.c.getD 7 d = .int .i64 x.CPU.Regs.x0 := rfl
theorem GProcess.g8 (x : GProcess) (d : SV) : x.c.getD 8 d = .int .i64 x.CPU.Regs.x1 := rfl
theorem GProcess.g9 (x : GProcess) (d : SV) : x.c.getD 9 d = .int .i64 x.CPU.Regs.x2 := rfl
theorem GProcess.g10 (x : GProcess) (d : SV) : x.c.getD 10 d = .int .i64 x.CPU.Regs.x3 := rfl
theorem GProcess.g11 (x : GProcess) (d : SV) : x.c.getD 11 d = .int .i64 x.CPU.Regs.x4 := rfl
theorem GProcess.g12 (x : GProcess) (d : SV) : x.c.getD 12 d = .int .i64 x.CPU.Regs.x5 := rfl
theorem GProcess.g13 (x : GProcess) (d : SV) : x.c.getD 13 d = .int .i64 x.CPU.Regs.x6 := rfl
theorem GProcess.g14 (x : GProcess) (d : SV) : x.c.getD 14 d = .int .i64 x.CPU.Regs.x7 := rfl
theorem GProcess.g15 (x : GProcess) (d : SV) : x.c.getD 15 d = .sl false 2 x.Pages.length (elt GPageRef.c default x.Pages) := rfl
theorem GProcess.g16 (x : GProcess) (d : SV) : x.c.getD 16 d = .sl false 4 x.Table.length (elt GSlot.c default x.Table) := rfl
theorem GProcess.g17 (x : GProcess) (d : SV) : x.c.getD 17 d = .int .i64 x.Pending := rfl
theorem GProcess.g18 (x : GProcess) (d : SV) : x.c.getD 18 d = .int .i64 x.Alarm := rfl
theorem GProcess.g19 (x : GProcess) (d : SV) : x.c.getD 19 d = .int .i64 x.Status := rfl
theorem GProcess.d3_3 (x : GProcess) : (x.c.drop 3).take 3 = GProgram.c x.Program := rfl
theorem GProcess.q3_3 (x : GProcess) (v : GProgram) : putL x.c 3 v.c = GProcess.c { x with Program := v } := putL_app (by simp only [GProcess.len, GProgram.len]; decide) rfl
theorem GProcess.d6_9 (x : GProcess) : (x.c.drop 6).take 9 = GCPU.c x.CPU := rfl
theorem GProcess.q6_9 (x : GProcess) (v : GCPU) : putL x.c 6 v.c = GProcess.c { x with CPU := v } := putL_app (by simp only [GProcess.len, GCPU.len]; decide) rfl
theorem GProcess.d7_8 (x : GProcess) : (x.c.drop 7).take 8 = A8i64.c x.CPU.Regs := rfl
theorem GProcess.q7_8 (x : GProcess) (v : A8i64) : putL x.c 7 v.c = GProcess.c { x with CPU := { x.CPU with Regs := v } } := putL_app (by simp only [GProcess.len, A8i64.len]; decide) rfl
theorem GProcess.q (x v : GProcess) : putL x.c 0 v.c = v.c := putL_app (by simp only [GProcess.len]; decide) rfl
theorem GProcess.p0 (x : GProcess) (v : Int) : putL x.c 0 [.int .i64 v] = GProcess.c { x with State := v } := rfl
theorem GProcess.l0 {x : GProcess} {v : Int} {cs : List SV} (h : LLe cs x.c) : LLe (putL cs 0 [.int .i64 v]) (GProcess.c { x with State := v }) := LLe.put h 0 (SLe.refl _) rfl
theorem GProcess.p1 (x : GProcess) (v : Int) : putL x.c 1 [.int .u64 v] = GProcess.c { x with Parent := v } := rfl
theorem GProcess.l1 {x : GProcess} {v : Int} {cs : List SV} (h : LLe cs x.c) : LLe (putL cs 1 [.int .u64 v]) (GProcess.c { x with Parent := v }) := LLe.put h 1 (SLe.refl _) rfl
theorem GProcess.p2 (x : GProcess) (v : List Int) : putL x.c 2 [.sl false 1 v.length (elt (intC .u64) default v)] = GProcess.c { x with Children := v } := rfl
theorem GProcess.l2 {x : GProcess} {v : List Int} {cs : List SV} {s : SV} (h : LLe cs x.c) (hs : SLe s (.sl false 1 v.length (elt (intC .u64) default v))) : LLe (putL cs 2 [s]) (GProcess.c { x with Children := v }) := LLe.put h 2 hs rfl
theorem GProcess.p3 (x : GProcess) (v : List GInstr) : putL x.c 3 [.sl false 4 v.length (elt GInstr.c default v)] = GProcess.c { x with Program := { x.Program with Code := v } } := rfl
theorem GProcess.l3 {x : GProcess} {v : List GInstr} {cs : List SV} {s : SV} (h : LLe cs x.c) (hs : SLe s (.sl false 4 v.length (elt GInstr.c default v))) : LLe (putL cs 3 [s]) (GProcess.c { x with Program := { x.Program with Code := v } }) := LLe.put h 3 hs rfl
theorem GProcess.p4 (x : GProcess) (v : List (List UInt8)) : putL x.c 4 [.sl false 1 v.length (elt strC default v)] = GProcess.c { x with Program := { x.Program with Strings := v } } := rfl
theorem GProcess.l4 {x : GProcess} {v : List (List UInt8)} {cs : List SV} {s : SV} (h : LLe cs x.c) (hs : SLe s (.sl false 1 v.length (elt strC default v))) : LLe (putL cs 4 [s]) (GProcess.c { x with Program := { x.Program with Strings := v } }) := LLe.put h 4 hs rfl
theorem GProcess.p5 (x : GProcess) (v : Int) : putL x.c 5 [.int .i64 v] = GProcess.c { x with Program := { x.Program with Pages := v } } := rfl
theorem GProcess.l5 {x : GProcess} {v : Int} {cs : List SV} (h : LLe cs x.c) : LLe (putL cs 5 [.int .i64 v]) (GProcess.c { x with Program := { x.Program with Pages := v } }) := LLe.put h 5 (SLe.refl _) rfl
theorem GProcess.p6 (x : GProcess) (v : Int) : putL x.c 6 [.int .i64 v] = GProcess.c { x with CPU := { x.CPU with PC := v } } := rfl
theorem GProcess.l6 {x : GProcess} {v : Int} {cs : List SV} (h : LLe cs x.c) : LLe (putL cs 6 [.int .i64 v]) (GProcess.c { x with CPU := { x.CPU with PC := v } }) := LLe.put h 6 (SLe.refl _) rfl
theorem GProcess.p7 (x : GProcess) (v : Int) : putL x.c 7 [.int .i64 v] = GProcess.c { x with CPU := { x.CPU with Regs := { x.CPU.Regs with x0 := v } } } := rfl
theorem GProcess.l7 {x : GProcess} {v : Int} {cs : List SV} (h : LLe cs x.c) : LLe (putL cs 7 [.int .i64 v]) (GProcess.c { x with CPU := { x.CPU with Regs := { x.CPU.Regs with x0 := v } } }) := LLe.put h 7 (SLe.refl _) rfl
theorem GProcess.p8 (x : GProcess) (v : Int) : putL x.c 8 [.int .i64 v] = GProcess.c { x with CPU := { x.CPU with Regs := { x.CPU.Regs with x1 := v } } } := rfl
theorem GProcess.l8 {x : GProcess} {v : Int} {cs : List SV} (h : LLe cs x.c) : LLe (putL cs 8 [.int .i64 v]) (GProcess.c { x with CPU := { x.CPU with Regs := { x.CPU.Regs with x1 := v } } }) := LLe.put h 8 (SLe.refl _) rfl
theorem GProcess.p9 (x : GProcess) (v : Int) : putL x.c 9 [.int .i64 v] = GProcess.c { x with CPU := { x.CPU with Regs := { x.CPU.Regs with x2 := v } } } := rfl
theorem GProcess.l9 {x : GProcess} {v : Int} {cs : List SV} (h : LLe cs x.c) : LLe (putL cs 9 [.int .i64 v]) (GProcess.c { x with CPU := { x.CPU with Regs := { x.CPU.Regs with x2 := v } } }) := LLe.put h 9 (SLe.refl _) rfl
theorem GProcess.p10 (x : GProcess) (v : Int) : putL x.c 10 [.int .i64 v] = GProcess.c { x with CPU := { x.CPU with Regs := { x.CPU.Regs with x3 := v } } } := rfl
theorem GProcess.l10 {x : GProcess} {v : Int} {cs : List SV} (h : LLe cs x.c) : LLe (putL cs 10 [.int .i64 v]) (GProcess.c { x with CPU := { x.CPU with Regs := { x.CPU.Regs with x3 := v } } }) := LLe.put h 10 (SLe.refl _) rfl
theorem GProcess.p11 (x : GProcess) (v : Int) : putL x.c 11 [.int .i64 v] = GProcess.c { x with CPU := { x.CPU with Regs := { x.CPU.Regs with x4 := v } } } := rfl
theorem GProcess.l11 {x : GProcess} {v : Int} {cs : List SV} (h : LLe cs x.c) : LLe (putL cs 11 [.int .i64 v]) (GProcess.c { x with CPU := { x.CPU with Regs := { x.CPU.Regs with x4 := v } } }) := LLe.put h 11 (SLe.refl _) rfl
theorem GProcess.p12 (x : GProcess) (v : Int) : putL x.c 12 [.int .i64 v] = GProcess.c { x with CPU := { x.CPU with Regs := { x.CPU.Regs with x5 := v } } } := rfl
theorem GProcess.l12 {x : GProcess} {v : Int} {cs : List SV} (h : LLe cs x.c) : LLe (putL cs 12 [.int .i64 v]) (GProcess.c { x with CPU := { x.CPU with Regs := { x.CPU.Regs with x5 := v } } }) := LLe.put h 12 (SLe.refl _) rfl
theorem GProcess.p13 (x : GProcess) (v : Int) : putL x.c 13 [.int .i64 v] = GProcess.c { x with CPU := { x.CPU with Regs := { x.CPU.Regs with x6 := v } } } := rfl
theorem GProcess.l13 {x : GProcess} {v : Int} {cs : List SV} (h : LLe cs x.c) : LLe (putL cs 13 [.int .i64 v]) (GProcess.c { x with CPU := { x.CPU with Regs := { x.CPU.Regs with x6 := v } } }) := LLe.put h 13 (SLe.refl _) rfl
theorem GProcess.p14 (x : GProcess) (v : Int) : putL x.c 14 [.int .i64 v] = GProcess.c { x with CPU := { x.CPU with Regs := { x.CPU.Regs with x7 := v } } } := rfl
theorem GProcess.l14 {x : GProcess} {v : Int} {cs : List SV} (h : LLe cs x.c) : LLe (putL cs 14 [.int .i64 v]) (GProcess.c { x with CPU := { x.CPU with Regs := { x.CPU.Regs with x7 := v } } }) := LLe.put h 14 (SLe.refl _) rfl
theorem GProcess.p15 (x : GProcess) (v : List GPageRef) : putL x.c 15 [.sl false 2 v.length (elt GPageRef.c default v)] = GProcess.c { x with Pages := v } := rfl
theorem GProcess.l15 {x : GProcess} {v : List GPageRef} {cs : List SV} {s : SV} (h : LLe cs x.c) (hs : SLe s (.sl false 2 v.length (elt GPageRef.c default v))) : LLe (putL cs 15 [s]) (GProcess.c { x with Pages := v }) := LLe.put h 15 hs rfl
theorem GProcess.p16 (x : GProcess) (v : List GSlot) : putL x.c 16 [.sl false 4 v.length (elt GSlot.c default v)] = GProcess.c { x with Table := v } := rfl
theorem GProcess.l16 {x : GProcess} {v : List GSlot} {cs : List SV} {s : SV} (h : LLe cs x.c) (hs : SLe s (.sl false 4 v.length (elt GSlot.c default v))) : LLe (putL cs 16 [s]) (GProcess.c { x with Table := v }) := LLe.put h 16 hs rfl
theorem GProcess.p17 (x : GProcess) (v : Int) : putL x.c 17 [.int .i64 v] = GProcess.c { x with Pending := v } := rfl
theorem GProcess.l17 {x : GProcess} {v : Int} {cs : List SV} (h : LLe cs x.c) : LLe (putL cs 17 [.int .i64 v]) (GProcess.c { x with Pending := v }) := LLe.put h 17 (SLe.refl _) rfl
theorem GProcess.p18 (x : GProcess) (v : Int) : putL x.c 18 [.int .i64 v] = GProcess.c { x with Alarm := v } := rfl
theorem GProcess.l18 {x : GProcess} {v : Int} {cs : List SV} (h : LLe cs x.c) : LLe (putL cs 18 [.int .i64 v]) (GProcess.c { x with Alarm := v }) := LLe.put h 18 (SLe.refl _) rfl
theorem GProcess.p19 (x : GProcess) (v : Int) : putL x.c 19 [.int .i64 v] = GProcess.c { x with Status := v } := rfl
theorem GProcess.l19 {x : GProcess} {v : Int} {cs : List SV} (h : LLe cs x.c) : LLe (putL cs 19 [.int .i64 v]) (GProcess.c { x with Status := v }) := LLe.put h 19 (SLe.refl _) rfl
theorem GProcess.m3_3 {x : GProcess} {v : GProgram} {cs vs : List SV} (h : LLe cs x.c) (hv : LLe vs v.c) : LLe (putL cs 3 vs) (GProcess.c { x with Program := v }) := LLe.puts h 3 hv (GProcess.q3_3 x v)
theorem GProcess.m6_9 {x : GProcess} {v : GCPU} {cs vs : List SV} (h : LLe cs x.c) (hv : LLe vs v.c) : LLe (putL cs 6 vs) (GProcess.c { x with CPU := v }) := LLe.puts h 6 hv (GProcess.q6_9 x v)
theorem GProcess.m7_8 {x : GProcess} {v : A8i64} {cs vs : List SV} (h : LLe cs x.c) (hv : LLe vs v.c) : LLe (putL cs 7 vs) (GProcess.c { x with CPU := { x.CPU with Regs := v } }) := LLe.puts h 7 hv (GProcess.q7_8 x v)
theorem GProcess.fz (sel : Nat → Bool) (B : List Own) (x : GProcess) : frzL sel B x.c = x.c := rfl
theorem GProcess.fk (sel : Nat → Bool) (B : List Own) (x : GProcess) : frzKL sel B x.c = True := by simp [GProcess.c, frzKL, frzKC]
def cL_u8 (l : List Int) : List SV := [.sl false 1 l.length (elt (intC .u8) default l)]
theorem cL_u8_len (l : List Int) : (cL_u8 l).length = 1 := rfl
theorem cL_u8_sol (l : List Int) : solids (cL_u8 l) = true := rfl
theorem cL_u8_g0 (l : List Int) (d : SV) : (cL_u8 l).getD 0 d = .sl false 1 l.length (elt (intC .u8) default l) := rfl
theorem cL_u8_t (l : List Int) : (cL_u8 l).take 1 = cL_u8 l := rfl
theorem cL_u8_p0 (l v : List Int) : putL (cL_u8 l) 0 [.sl false 1 v.length (elt (intC .u8) default v)] = cL_u8 v := rfl
theorem cL_u8_l0 {l v : List Int} {cs : List SV} {s : SV} (h : LLe cs (cL_u8 l)) (hs : SLe s (.sl false 1 v.length (elt (intC .u8) default v))) : LLe (putL cs 0 [s]) (cL_u8 v) := LLe.put h 0 hs rfl
theorem cL_u8_c0 {v : List Int} {s : SV} (hs : SLe s (.sl false 1 v.length (elt (intC .u8) default v))) : LLe [s] (cL_u8 v) := .cons hs .nil
@[ext] structure A2Lu8 where
  x0 : List Int
  x1 : List Int
  deriving Inhabited, DecidableEq
def A2Lu8.c (x : A2Lu8) : List SV := [.sl false 1 x.x0.length (elt (intC .u8) default x.x0), .sl false 1 x.x1.length (elt (intC .u8) default x.x1)]
theorem A2Lu8.eta (x : A2Lu8) : (A2Lu8.mk x.x0 x.x1) = x := rfl
theorem A2Lu8.len (x : A2Lu8) : x.c.length = 2 := rfl
theorem A2Lu8.sol (x : A2Lu8) : solids x.c = true := rfl
theorem A2Lu8.t (x : A2Lu8) : x.c.take 2 = x.c := rfl
theorem A2Lu8.g0 (x : A2Lu8) (d : SV) : x.c.getD 0 d = .sl false 1 x.x0.length (elt (intC .u8) default x.x0) := rfl
theorem A2Lu8.g1 (x : A2Lu8) (d : SV) : x.c.getD 1 d = .sl false 1 x.x1.length (elt (intC .u8) default x.x1) := rfl
theorem A2Lu8.q (x v : A2Lu8) : putL x.c 0 v.c = v.c := putL_app (by simp only [A2Lu8.len]; decide) rfl
theorem A2Lu8.p0 (x : A2Lu8) (v : List Int) : putL x.c 0 [.sl false 1 v.length (elt (intC .u8) default v)] = A2Lu8.c { x with x0 := v } := rfl
theorem A2Lu8.l0 {x : A2Lu8} {v : List Int} {cs : List SV} {s : SV} (h : LLe cs x.c) (hs : SLe s (.sl false 1 v.length (elt (intC .u8) default v))) : LLe (putL cs 0 [s]) (A2Lu8.c { x with x0 := v }) := LLe.put h 0 hs rfl
theorem A2Lu8.p1 (x : A2Lu8) (v : List Int) : putL x.c 1 [.sl false 1 v.length (elt (intC .u8) default v)] = A2Lu8.c { x with x1 := v } := rfl
theorem A2Lu8.l1 {x : A2Lu8} {v : List Int} {cs : List SV} {s : SV} (h : LLe cs x.c) (hs : SLe s (.sl false 1 v.length (elt (intC .u8) default v))) : LLe (putL cs 1 [s]) (A2Lu8.c { x with x1 := v }) := LLe.put h 1 hs rfl
theorem A2Lu8.fz (sel : Nat → Bool) (B : List Own) (x : A2Lu8) : frzL sel B x.c = x.c := rfl
theorem A2Lu8.fk (sel : Nat → Bool) (B : List Own) (x : A2Lu8) : frzKL sel B x.c = True := by simp [A2Lu8.c, frzKL, frzKC]
@[ext] structure A2i64 where
  x0 : Int
  x1 : Int
  deriving Inhabited, DecidableEq
def A2i64.c (x : A2i64) : List SV := [.int .i64 x.x0, .int .i64 x.x1]
theorem A2i64.eta (x : A2i64) : (A2i64.mk x.x0 x.x1) = x := rfl
theorem A2i64.len (x : A2i64) : x.c.length = 2 := rfl
theorem A2i64.sol (x : A2i64) : solids x.c = true := rfl
theorem A2i64.t (x : A2i64) : x.c.take 2 = x.c := rfl
theorem A2i64.g0 (x : A2i64) (d : SV) : x.c.getD 0 d = .int .i64 x.x0 := rfl
theorem A2i64.g1 (x : A2i64) (d : SV) : x.c.getD 1 d = .int .i64 x.x1 := rfl
theorem A2i64.q (x v : A2i64) : putL x.c 0 v.c = v.c := putL_app (by simp only [A2i64.len]; decide) rfl
theorem A2i64.p0 (x : A2i64) (v : Int) : putL x.c 0 [.int .i64 v] = A2i64.c { x with x0 := v } := rfl
theorem A2i64.l0 {x : A2i64} {v : Int} {cs : List SV} (h : LLe cs x.c) : LLe (putL cs 0 [.int .i64 v]) (A2i64.c { x with x0 := v }) := LLe.put h 0 (SLe.refl _) rfl
theorem A2i64.p1 (x : A2i64) (v : Int) : putL x.c 1 [.int .i64 v] = A2i64.c { x with x1 := v } := rfl
theorem A2i64.l1 {x : A2i64} {v : Int} {cs : List SV} (h : LLe cs x.c) : LLe (putL cs 1 [.int .i64 v]) (A2i64.c { x with x1 := v }) := LLe.put h 1 (SLe.refl _) rfl
theorem A2i64.fz (sel : Nat → Bool) (B : List Own) (x : A2i64) : frzL sel B x.c = x.c := rfl
theorem A2i64.fk (sel : Nat → Bool) (B : List Own) (x : A2i64) : frzKL sel B x.c = True := by simp [A2i64.c, frzKL, frzKC]
theorem A2i64.kd (x : A2i64) : kinds x.c = [1, 1] := rfl
theorem A2i64.e1 (x y : A2i64) : (eqCells x.c y.c).1 = (x == y) := by
  apply Bool.eq_iff_iff.2
  obtain ⟨a0, a1⟩ := x
  obtain ⟨b0, b1⟩ := y
  simp [A2i64.c, eqCells, eqCell]
theorem A2i64.e2 (x y : A2i64) : (eqCells x.c y.c).2 = True := by simp [A2i64.c, eqCells, eqCell]
@[ext] structure GName where
  Path : List UInt8
  Kind : Int
  IDs : List Int
  deriving Inhabited, DecidableEq
def GName.c (x : GName) : List SV := [.str x.Path, .int .i64 x.Kind, .sl false 1 x.IDs.length (elt (intC .u64) default x.IDs)]
theorem GName.eta (x : GName) : (GName.mk x.Path x.Kind x.IDs) = x := rfl
theorem GName.len (x : GName) : x.c.length = 3 := rfl
theorem GName.sol (x : GName) : solids x.c = true := rfl
theorem GName.t (x : GName) : x.c.take 3 = x.c := rfl
theorem GName.g0 (x : GName) (d : SV) : x.c.getD 0 d = .str x.Path := rfl
theorem GName.g1 (x : GName) (d : SV) : x.c.getD 1 d = .int .i64 x.Kind := rfl
theorem GName.g2 (x : GName) (d : SV) : x.c.getD 2 d = .sl false 1 x.IDs.length (elt (intC .u64) default x.IDs) := rfl
theorem GName.q (x v : GName) : putL x.c 0 v.c = v.c := putL_app (by simp only [GName.len]; decide) rfl
theorem GName.p0 (x : GName) (v : List UInt8) : putL x.c 0 [.str v] = GName.c { x with Path := v } := rfl
theorem GName.l0 {x : GName} {v : List UInt8} {cs : List SV} (h : LLe cs x.c) : LLe (putL cs 0 [.str v]) (GName.c { x with Path := v }) := LLe.put h 0 (SLe.refl _) rfl
theorem GName.p1 (x : GName) (v : Int) : putL x.c 1 [.int .i64 v] = GName.c { x with Kind := v } := rfl
theorem GName.l1 {x : GName} {v : Int} {cs : List SV} (h : LLe cs x.c) : LLe (putL cs 1 [.int .i64 v]) (GName.c { x with Kind := v }) := LLe.put h 1 (SLe.refl _) rfl
theorem GName.p2 (x : GName) (v : List Int) : putL x.c 2 [.sl false 1 v.length (elt (intC .u64) default v)] = GName.c { x with IDs := v } := rfl
theorem GName.l2 {x : GName} {v : List Int} {cs : List SV} {s : SV} (h : LLe cs x.c) (hs : SLe s (.sl false 1 v.length (elt (intC .u64) default v))) : LLe (putL cs 2 [s]) (GName.c { x with IDs := v }) := LLe.put h 2 hs rfl
theorem GName.fz (sel : Nat → Bool) (B : List Own) (x : GName) : frzL sel B x.c = x.c := rfl
theorem GName.fk (sel : Nat → Bool) (B : List Own) (x : GName) : frzKL sel B x.c = True := by simp [GName.c, frzKL, frzKC]
@[ext] structure GObject where
  ID : Int
  Kind : Int
  Refs : Int
  Process : GProcess
  Words : List Int
  Data : List Int
  Offset : Int
  Target : Int
  Readers : Int
  Writers : Int
  Backlog : List Int
  Queues : A2Lu8
  Ends : A2i64
  Count : Int
  Names : List GName
  deriving Inhabited, DecidableEq
def GObject.c (x : GObject) : List SV := [.int .u64 x.ID, .int .i64 x.Kind, .int .i64 x.Refs, .int .i64 x.Process.State, .int .u64 x.Process.Parent, .sl false 1 x.Process.Children.length (elt (intC .u64) default x.Process.Children), .sl false 4 x.Process.Program.Code.length (elt GInstr.c default x.Process.Program.Code), .sl false 1 x.Process.Program.Strings.length (elt strC default x.Process.Program.Strings), .int .i64 x.Process.Program.Pages, .int .i64 x.Process.CPU.PC, .int .i64 x.Process.CPU.Regs.x0, .int .i64 x.Process.CPU.Regs.x1, .int .i64 x.Process.CPU.Regs.x2, .int .i64 x.Process.CPU.Regs.x3, .int .i64 x.Process.CPU.Regs.x4, .int .i64 x.Process.CPU.Regs.x5, .int .i64 x.Process.CPU.Regs.x6, .int .i64 x.Process.CPU.Regs.x7, .sl false 2 x.Process.Pages.length (elt GPageRef.c default x.Process.Pages), .sl false 4 x.Process.Table.length (elt GSlot.c default x.Process.Table), .int .i64 x.Process.Pending, .int .i64 x.Process.Alarm, .int .i64 x.Process.Status, .sl false 1 x.Words.length (elt (intC .i64) default x.Words), .sl false 1 x.Data.length (elt (intC .u8) default x.Data), .int .i64 x.Offset, .int .u64 x.Target, .int .i64 x.Readers, .int .i64 x.Writers, .sl false 1 x.Backlog.length (elt (intC .u64) default x.Backlog), .sl false 1 x.Queues.x0.length (elt (intC .u8) default x.Queues.x0), .sl false 1 x.Queues.x1.length (elt (intC .u8) default x.Queues.x1), .int .i64 x.Ends.x0, .int .i64 x.Ends.x1, .int .i64 x.Count, .sl false 3 x.Names.length (elt GName.c default x.Names)]
theorem GObject.eta (x : GObject) : (GObject.mk x.ID x.Kind x.Refs x.Process x.Words x.Data x.Offset x.Target x.Readers x.Writers x.Backlog x.Queues x.Ends x.Count x.Names) = x := rfl
theorem GObject.len (x : GObject) : x.c.length = 36 := rfl
theorem GObject.sol (x : GObject) : solids x.c = true := rfl
theorem GObject.t (x : GObject) : x.c.take 36 = x.c := rfl
theorem GObject.g0 (x : GObject) (d : SV) : x.c.getD 0 d = .int .u64 x.ID := rfl
theorem GObject.g1 (x : GObject) (d : SV) : x.c.getD 1 d = .int .i64 x.Kind := rfl
theorem GObject.g2 (x : GObject) (d : SV) : x.c.getD 2 d = .int .i64 x.Refs := rfl
theorem GObject.g3 (x : GObject) (d : SV) : x.c.getD 3 d = .int .i64 x.Process.State := rfl
theorem GObject.g4 (x : GObject) (d : SV) : x.c.getD 4 d = .int .u64 x.Process.Parent := rfl
theorem GObject.g5 (x : GObject) (d : SV) : x.c.getD 5 d = .sl false 1 x.Process.Children.length (elt (intC .u64) default x.Process.Children) := rfl
theorem GObject.g6 (x : GObject) (d : SV) : x.c.getD 6 d = .sl false 4 x.Process.Program.Code.length (elt GInstr.c default x.Process.Program.Code) := rfl
theorem GObject.g7 (x : GObject) (d : SV) : x.c.getD 7 d = .sl false 1 x.Process.Program.Strings.length (elt strC default x.Process.Program.Strings) := rfl
theorem GObject.g8 (x : GObject) (d : SV) : x.c.getD 8 d = .int .i64 x.Process.Program.Pages := rfl
theorem GObject.g9 (x : GObject) (d : SV) : x.c.getD 9 d = .int .i64 x.Process.CPU.PC := rfl
theorem GObject.g10 (x : GObject) (d : SV) : x.c.getD 10 d = .int .i64 x.Process.CPU.Regs.x0 := rfl
theorem GObject.g11 (x : GObject) (d : SV) : x.c.getD 11 d = .int .i64 x.Process.CPU.Regs.x1 := rfl
theorem GObject.g12 (x : GObject) (d : SV) : x.c.getD 12 d = .int .i64 x.Process.CPU.Regs.x2 := rfl
theorem GObject.g13 (x : GObject) (d : SV) : x.c.getD 13 d = .int .i64 x.Process.CPU.Regs.x3 := rfl
theorem GObject.g14 (x : GObject) (d : SV) : x.c.getD 14 d = .int .i64 x.Process.CPU.Regs.x4 := rfl
theorem GObject.g15 (x : GObject) (d : SV) : x.c.getD 15 d = .int .i64 x.Process.CPU.Regs.x5 := rfl
theorem GObject.g16 (x : GObject) (d : SV) : x.c.getD 16 d = .int .i64 x.Process.CPU.Regs.x6 := rfl
theorem GObject.g17 (x : GObject) (d : SV) : x.c.getD 17 d = .int .i64 x.Process.CPU.Regs.x7 := rfl
theorem GObject.g18 (x : GObject) (d : SV) : x.c.getD 18 d = .sl false 2 x.Process.Pages.length (elt GPageRef.c default x.Process.Pages) := rfl
theorem GObject.g19 (x : GObject) (d : SV) : x.c.getD 19 d = .sl false 4 x.Process.Table.length (elt GSlot.c default x.Process.Table) := rfl
theorem GObject.g20 (x : GObject) (d : SV) : x.c.getD 20 d = .int .i64 x.Process.Pending := rfl
theorem GObject.g21 (x : GObject) (d : SV) : x.c.getD 21 d = .int .i64 x.Process.Alarm := rfl
theorem GObject.g22 (x : GObject) (d : SV) : x.c.getD 22 d = .int .i64 x.Process.Status := rfl
theorem GObject.g23 (x : GObject) (d : SV) : x.c.getD 23 d = .sl false 1 x.Words.length (elt (intC .i64) default x.Words) := rfl
theorem GObject.g24 (x : GObject) (d : SV) : x.c.getD 24 d = .sl false 1 x.Data.length (elt (intC .u8) default x.Data) := rfl
theorem GObject.g25 (x : GObject) (d : SV) : x.c.getD 25 d = .int .i64 x.Offset := rfl
theorem GObject.g26 (x : GObject) (d : SV) : x.c.getD 26 d = .int .u64 x.Target := rfl
theorem GObject.g27 (x : GObject) (d : SV) : x.c.getD 27 d = .int .i64 x.Readers := rfl
theorem GObject.g28 (x : GObject) (d : SV) : x.c.getD 28 d = .int .i64 x.Writers := rfl
theorem GObject.g29 (x : GObject) (d : SV) : x.c.getD 29 d = .sl false 1 x.Backlog.length (elt (intC .u64) default x.Backlog) := rfl
theorem GObject.g30 (x : GObject) (d : SV) : x.c.getD 30 d = .sl false 1 x.Queues.x0.length (elt (intC .u8) default x.Queues.x0) := rfl
theorem GObject.g31 (x : GObject) (d : SV) : x.c.getD 31 d = .sl false 1 x.Queues.x1.length (elt (intC .u8) default x.Queues.x1) := rfl
theorem GObject.g32 (x : GObject) (d : SV) : x.c.getD 32 d = .int .i64 x.Ends.x0 := rfl
theorem GObject.g33 (x : GObject) (d : SV) : x.c.getD 33 d = .int .i64 x.Ends.x1 := rfl
theorem GObject.g34 (x : GObject) (d : SV) : x.c.getD 34 d = .int .i64 x.Count := rfl
theorem GObject.g35 (x : GObject) (d : SV) : x.c.getD 35 d = .sl false 3 x.Names.length (elt GName.c default x.Names) := rfl
theorem GObject.d3_20 (x : GObject) : (x.c.drop 3).take 20 = GProcess.c x.Process := rfl
theorem GObject.q3_20 (x : GObject) (v : GProcess) : putL x.c 3 v.c = GObject.c { x with Process := v } := putL_app (by simp only [GObject.len, GProcess.len]; decide) rfl
theorem GObject.d6_3 (x : GObject) : (x.c.drop 6).take 3 = GProgram.c x.Process.Program := rfl
theorem GObject.q6_3 (x : GObject) (v : GProgram) : putL x.c 6 v.c = GObject.c { x with Process := { x.Process with Program := v } } := putL_app (by simp only [GObject.len, GProgram.len]; decide) rfl
theorem GObject.d9_9 (x : GObject) : (x.c.drop 9).take 9 = GCPU.c x.Process.CPU := rfl
theorem GObject.q9_9 (x : GObject) (v : GCPU) : putL x.c 9 v.c = GObject.c { x with Process := { x.Process with CPU := v } } := putL_app (by simp only [GObject.len, GCPU.len]; decide) rfl
theorem GObject.d10_8 (x : GObject) : (x.c.drop 10).take 8 = A8i64.c x.Process.CPU.Regs := rfl
theorem GObject.q10_8 (x : GObject) (v : A8i64) : putL x.c 10 v.c = GObject.c { x with Process := { x.Process with CPU := { x.Process.CPU with Regs := v } } } := putL_app (by simp only [GObject.len, A8i64.len]; decide) rfl
theorem GObject.d30_2 (x : GObject) : (x.c.drop 30).take 2 = A2Lu8.c x.Queues := rfl
theorem GObject.q30_2 (x : GObject) (v : A2Lu8) : putL x.c 30 v.c = GObject.c { x with Queues := v } := putL_app (by simp only [GObject.len, A2Lu8.len]; decide) rfl
theorem GObject.d32_2 (x : GObject) : (x.c.drop 32).take 2 = A2i64.c x.Ends := rfl
theorem GObject.q32_2 (x : GObject) (v : A2i64) : putL x.c 32 v.c = GObject.c { x with Ends := v } := putL_app (by simp only [GObject.len, A2i64.len]; decide) rfl
theorem GObject.q (x v : GObject) : putL x.c 0 v.c = v.c := putL_app (by simp only [GObject.len]; decide) rfl
theorem GObject.p0 (x : GObject) (v : Int) : putL x.c 0 [.int .u64 v] = GObject.c { x with ID := v } := rfl
theorem GObject.l0 {x : GObject} {v : Int} {cs : List SV} (h : LLe cs x.c) : LLe (putL cs 0 [.int .u64 v]) (GObject.c { x with ID := v }) := LLe.put h 0 (SLe.refl _) rfl
theorem GObject.p1 (x : GObject) (v : Int) : putL x.c 1 [.int .i64 v] = GObject.c { x with Kind := v } := rfl
theorem GObject.l1 {x : GObject} {v : Int} {cs : List SV} (h : LLe cs x.c) : LLe (putL cs 1 [.int .i64 v]) (GObject.c { x with Kind := v }) := LLe.put h 1 (SLe.refl _) rfl
theorem GObject.p2 (x : GObject) (v : Int) : putL x.c 2 [.int .i64 v] = GObject.c { x with Refs := v } := rfl
theorem GObject.l2 {x : GObject} {v : Int} {cs : List SV} (h : LLe cs x.c) : LLe (putL cs 2 [.int .i64 v]) (GObject.c { x with Refs := v }) := LLe.put h 2 (SLe.refl _) rfl
theorem GObject.p3 (x : GObject) (v : Int) : putL x.c 3 [.int .i64 v] = GObject.c { x with Process := { x.Process with State := v } } := rfl
theorem GObject.l3 {x : GObject} {v : Int} {cs : List SV} (h : LLe cs x.c) : LLe (putL cs 3 [.int .i64 v]) (GObject.c { x with Process := { x.Process with State := v } }) := LLe.put h 3 (SLe.refl _) rfl
theorem GObject.p4 (x : GObject) (v : Int) : putL x.c 4 [.int .u64 v] = GObject.c { x with Process := { x.Process with Parent := v } } := rfl
theorem GObject.l4 {x : GObject} {v : Int} {cs : List SV} (h : LLe cs x.c) : LLe (putL cs 4 [.int .u64 v]) (GObject.c { x with Process := { x.Process with Parent := v } }) := LLe.put h 4 (SLe.refl _) rfl
theorem GObject.p5 (x : GObject) (v : List Int) : putL x.c 5 [.sl false 1 v.length (elt (intC .u64) default v)] = GObject.c { x with Process := { x.Process with Children := v } } := rfl
theorem GObject.l5 {x : GObject} {v : List Int} {cs : List SV} {s : SV} (h : LLe cs x.c) (hs : SLe s (.sl false 1 v.length (elt (intC .u64) default v))) : LLe (putL cs 5 [s]) (GObject.c { x with Process := { x.Process with Children := v } }) := LLe.put h 5 hs rfl
theorem GObject.p6 (x : GObject) (v : List GInstr) : putL x.c 6 [.sl false 4 v.length (elt GInstr.c default v)] = GObject.c { x with Process := { x.Process with Program := { x.Process.Program with Code := v } } } := rfl
theorem GObject.l6 {x : GObject} {v : List GInstr} {cs : List SV} {s : SV} (h : LLe cs x.c) (hs : SLe s (.sl false 4 v.length (elt GInstr.c default v))) : LLe (putL cs 6 [s]) (GObject.c { x with Process := { x.Process with Program := { x.Process.Program with Code := v } } }) := LLe.put h 6 hs rfl
theorem GObject.p7 (x : GObject) (v : List (List UInt8)) : putL x.c 7 [.sl false 1 v.length (elt strC default v)] = GObject.c { x with Process := { x.Process with Program := { x.Process.Program with Strings := v } } } := rfl
theorem GObject.l7 {x : GObject} {v : List (List UInt8)} {cs : List SV} {s : SV} (h : LLe cs x.c) (hs : SLe s (.sl false 1 v.length (elt strC default v))) : LLe (putL cs 7 [s]) (GObject.c { x with Process := { x.Process with Program := { x.Process.Program with Strings := v } } }) := LLe.put h 7 hs rfl
theorem GObject.p8 (x : GObject) (v : Int) : putL x.c 8 [.int .i64 v] = GObject.c { x with Process := { x.Process with Program := { x.Process.Program with Pages := v } } } := rfl
theorem GObject.l8 {x : GObject} {v : Int} {cs : List SV} (h : LLe cs x.c) : LLe (putL cs 8 [.int .i64 v]) (GObject.c { x with Process := { x.Process with Program := { x.Process.Program with Pages := v } } }) := LLe.put h 8 (SLe.refl _) rfl
theorem GObject.p9 (x : GObject) (v : Int) : putL x.c 9 [.int .i64 v] = GObject.c { x with Process := { x.Process with CPU := { x.Process.CPU with PC := v } } } := rfl
theorem GObject.l9 {x : GObject} {v : Int} {cs : List SV} (h : LLe cs x.c) : LLe (putL cs 9 [.int .i64 v]) (GObject.c { x with Process := { x.Process with CPU := { x.Process.CPU with PC := v } } }) := LLe.put h 9 (SLe.refl _) rfl
theorem GObject.p10 (x : GObject) (v : Int) : putL x.c 10 [.int .i64 v] = GObject.c { x with Process := { x.Process with CPU := { x.Process.CPU with Regs := { x.Process.CPU.Regs with x0 := v } } } } := rfl
theorem GObject.l10 {x : GObject} {v : Int} {cs : List SV} (h : LLe cs x.c) : LLe (putL cs 10 [.int .i64 v]) (GObject.c { x with Process := { x.Process with CPU := { x.Process.CPU with Regs := { x.Process.CPU.Regs with x0 := v } } } }) := LLe.put h 10 (SLe.refl _) rfl
theorem GObject.p11 (x : GObject) (v : Int) : putL x.c 11 [.int .i64 v] = GObject.c { x with Process := { x.Process with CPU := { x.Process.CPU with Regs := { x.Process.CPU.Regs with x1 := v } } } } := rfl
theorem GObject.l11 {x : GObject} {v : Int} {cs : List SV} (h : LLe cs x.c) : LLe (putL cs 11 [.int .i64 v]) (GObject.c { x with Process := { x.Process with CPU := { x.Process.CPU with Regs := { x.Process.CPU.Regs with x1 := v } } } }) := LLe.put h 11 (SLe.refl _) rfl
theorem GObject.p12 (x : GObject) (v : Int) : putL x.c 12 [.int .i64 v] = GObject.c { x with Process := { x.Process with CPU := { x.Process.CPU with Regs := { x.Process.CPU.Regs with x2 := v } } } } := rfl
theorem GObject.l12 {x : GObject} {v : Int} {cs : List SV} (h : LLe cs x.c) : LLe (putL cs 12 [.int .i64 v]) (GObject.c { x with Process := { x.Process with CPU := { x.Process.CPU with Regs := { x.Process.CPU.Regs with x2 := v } } } }) := LLe.put h 12 (SLe.refl _) rfl
theorem GObject.p13 (x : GObject) (v : Int) : putL x.c 13 [.int .i64 v] = GObject.c { x with Process := { x.Process with CPU := { x.Process.CPU with Regs := { x.Process.CPU.Regs with x3 := v } } } } := rfl
theorem GObject.l13 {x : GObject} {v : Int} {cs : List SV} (h : LLe cs x.c) : LLe (putL cs 13 [.int .i64 v]) (GObject.c { x with Process := { x.Process with CPU := { x.Process.CPU with Regs := { x.Process.CPU.Regs with x3 := v } } } }) := LLe.put h 13 (SLe.refl _) rfl
theorem GObject.p14 (x : GObject) (v : Int) : putL x.c 14 [.int .i64 v] = GObject.c { x with Process := { x.Process with CPU := { x.Process.CPU with Regs := { x.Process.CPU.Regs with x4 := v } } } } := rfl
theorem GObject.l14 {x : GObject} {v : Int} {cs : List SV} (h : LLe cs x.c) : LLe (putL cs 14 [.int .i64 v]) (GObject.c { x with Process := { x.Process with CPU := { x.Process.CPU with Regs := { x.Process.CPU.Regs with x4 := v } } } }) := LLe.put h 14 (SLe.refl _) rfl
theorem GObject.p15 (x : GObject) (v : Int) : putL x.c 15 [.int .i64 v] = GObject.c { x with Process := { x.Process with CPU := { x.Process.CPU with Regs := { x.Process.CPU.Regs with x5 := v } } } } := rfl
theorem GObject.l15 {x : GObject} {v : Int} {cs : List SV} (h : LLe cs x.c) : LLe (putL cs 15 [.int .i64 v]) (GObject.c { x with Process := { x.Process with CPU := { x.Process.CPU with Regs := { x.Process.CPU.Regs with x5 := v } } } }) := LLe.put h 15 (SLe.refl _) rfl
theorem GObject.p16 (x : GObject) (v : Int) : putL x.c 16 [.int .i64 v] = GObject.c { x with Process := { x.Process with CPU := { x.Process.CPU with Regs := { x.Process.CPU.Regs with x6 := v } } } } := rfl
theorem GObject.l16 {x : GObject} {v : Int} {cs : List SV} (h : LLe cs x.c) : LLe (putL cs 16 [.int .i64 v]) (GObject.c { x with Process := { x.Process with CPU := { x.Process.CPU with Regs := { x.Process.CPU.Regs with x6 := v } } } }) := LLe.put h 16 (SLe.refl _) rfl
theorem GObject.p17 (x : GObject) (v : Int) : putL x.c 17 [.int .i64 v] = GObject.c { x with Process := { x.Process with CPU := { x.Process.CPU with Regs := { x.Process.CPU.Regs with x7 := v } } } } := rfl
theorem GObject.l17 {x : GObject} {v : Int} {cs : List SV} (h : LLe cs x.c) : LLe (putL cs 17 [.int .i64 v]) (GObject.c { x with Process := { x.Process with CPU := { x.Process.CPU with Regs := { x.Process.CPU.Regs with x7 := v } } } }) := LLe.put h 17 (SLe.refl _) rfl
theorem GObject.p18 (x : GObject) (v : List GPageRef) : putL x.c 18 [.sl false 2 v.length (elt GPageRef.c default v)] = GObject.c { x with Process := { x.Process with Pages := v } } := rfl
theorem GObject.l18 {x : GObject} {v : List GPageRef} {cs : List SV} {s : SV} (h : LLe cs x.c) (hs : SLe s (.sl false 2 v.length (elt GPageRef.c default v))) : LLe (putL cs 18 [s]) (GObject.c { x with Process := { x.Process with Pages := v } }) := LLe.put h 18 hs rfl
theorem GObject.p19 (x : GObject) (v : List GSlot) : putL x.c 19 [.sl false 4 v.length (elt GSlot.c default v)] = GObject.c { x with Process := { x.Process with Table := v } } := rfl
theorem GObject.l19 {x : GObject} {v : List GSlot} {cs : List SV} {s : SV} (h : LLe cs x.c) (hs : SLe s (.sl false 4 v.length (elt GSlot.c default v))) : LLe (putL cs 19 [s]) (GObject.c { x with Process := { x.Process with Table := v } }) := LLe.put h 19 hs rfl
theorem GObject.p20 (x : GObject) (v : Int) : putL x.c 20 [.int .i64 v] = GObject.c { x with Process := { x.Process with Pending := v } } := rfl
theorem GObject.l20 {x : GObject} {v : Int} {cs : List SV} (h : LLe cs x.c) : LLe (putL cs 20 [.int .i64 v]) (GObject.c { x with Process := { x.Process with Pending := v } }) := LLe.put h 20 (SLe.refl _) rfl
theorem GObject.p21 (x : GObject) (v : Int) : putL x.c 21 [.int .i64 v] = GObject.c { x with Process := { x.Process with Alarm := v } } := rfl
theorem GObject.l21 {x : GObject} {v : Int} {cs : List SV} (h : LLe cs x.c) : LLe (putL cs 21 [.int .i64 v]) (GObject.c { x with Process := { x.Process with Alarm := v } }) := LLe.put h 21 (SLe.refl _) rfl
theorem GObject.p22 (x : GObject) (v : Int) : putL x.c 22 [.int .i64 v] = GObject.c { x with Process := { x.Process with Status := v } } := rfl
theorem GObject.l22 {x : GObject} {v : Int} {cs : List SV} (h : LLe cs x.c) : LLe (putL cs 22 [.int .i64 v]) (GObject.c { x with Process := { x.Process with Status := v } }) := LLe.put h 22 (SLe.refl _) rfl
theorem GObject.p23 (x : GObject) (v : List Int) : putL x.c 23 [.sl false 1 v.length (elt (intC .i64) default v)] = GObject.c { x with Words := v } := rfl
theorem GObject.l23 {x : GObject} {v : List Int} {cs : List SV} {s : SV} (h : LLe cs x.c) (hs : SLe s (.sl false 1 v.length (elt (intC .i64) default v))) : LLe (putL cs 23 [s]) (GObject.c { x with Words := v }) := LLe.put h 23 hs rfl
theorem GObject.p24 (x : GObject) (v : List Int) : putL x.c 24 [.sl false 1 v.length (elt (intC .u8) default v)] = GObject.c { x with Data := v } := rfl
theorem GObject.l24 {x : GObject} {v : List Int} {cs : List SV} {s : SV} (h : LLe cs x.c) (hs : SLe s (.sl false 1 v.length (elt (intC .u8) default v))) : LLe (putL cs 24 [s]) (GObject.c { x with Data := v }) := LLe.put h 24 hs rfl
theorem GObject.p25 (x : GObject) (v : Int) : putL x.c 25 [.int .i64 v] = GObject.c { x with Offset := v } := rfl
theorem GObject.l25 {x : GObject} {v : Int} {cs : List SV} (h : LLe cs x.c) : LLe (putL cs 25 [.int .i64 v]) (GObject.c { x with Offset := v }) := LLe.put h 25 (SLe.refl _) rfl
theorem GObject.p26 (x : GObject) (v : Int) : putL x.c 26 [.int .u64 v] = GObject.c { x with Target := v } := rfl
theorem GObject.l26 {x : GObject} {v : Int} {cs : List SV} (h : LLe cs x.c) : LLe (putL cs 26 [.int .u64 v]) (GObject.c { x with Target := v }) := LLe.put h 26 (SLe.refl _) rfl
theorem GObject.p27 (x : GObject) (v : Int) : putL x.c 27 [.int .i64 v] = GObject.c { x with Readers := v } := rfl
theorem GObject.l27 {x : GObject} {v : Int} {cs : List SV} (h : LLe cs x.c) : LLe (putL cs 27 [.int .i64 v]) (GObject.c { x with Readers := v }) := LLe.put h 27 (SLe.refl _) rfl
theorem GObject.p28 (x : GObject) (v : Int) : putL x.c 28 [.int .i64 v] = GObject.c { x with Writers := v } := rfl
theorem GObject.l28 {x : GObject} {v : Int} {cs : List SV} (h : LLe cs x.c) : LLe (putL cs 28 [.int .i64 v]) (GObject.c { x with Writers := v }) := LLe.put h 28 (SLe.refl _) rfl
theorem GObject.p29 (x : GObject) (v : List Int) : putL x.c 29 [.sl false 1 v.length (elt (intC .u64) default v)] = GObject.c { x with Backlog := v } := rfl
theorem GObject.l29 {x : GObject} {v : List Int} {cs : List SV} {s : SV} (h : LLe cs x.c) (hs : SLe s (.sl false 1 v.length (elt (intC .u64) default v))) : LLe (putL cs 29 [s]) (GObject.c { x with Backlog := v }) := LLe.put h 29 hs rfl
theorem GObject.p30 (x : GObject) (v : List Int) : putL x.c 30 [.sl false 1 v.length (elt (intC .u8) default v)] = GObject.c { x with Queues := { x.Queues with x0 := v } } := rfl
theorem GObject.l30 {x : GObject} {v : List Int} {cs : List SV} {s : SV} (h : LLe cs x.c) (hs : SLe s (.sl false 1 v.length (elt (intC .u8) default v))) : LLe (putL cs 30 [s]) (GObject.c { x with Queues := { x.Queues with x0 := v } }) := LLe.put h 30 hs rfl
theorem GObject.p31 (x : GObject) (v : List Int) : putL x.c 31 [.sl false 1 v.length (elt (intC .u8) default v)] = GObject.c { x with Queues := { x.Queues with x1 := v } } := rfl
theorem GObject.l31 {x : GObject} {v : List Int} {cs : List SV} {s : SV} (h : LLe cs x.c) (hs : SLe s (.sl false 1 v.length (elt (intC .u8) default v))) : LLe (putL cs 31 [s]) (GObject.c { x with Queues := { x.Queues with x1 := v } }) := LLe.put h 31 hs rfl
theorem GObject.p32 (x : GObject) (v : Int) : putL x.c 32 [.int .i64 v] = GObject.c { x with Ends := { x.Ends with x0 := v } } := rfl
theorem GObject.l32 {x : GObject} {v : Int} {cs : List SV} (h : LLe cs x.c) : LLe (putL cs 32 [.int .i64 v]) (GObject.c { x with Ends := { x.Ends with x0 := v } }) := LLe.put h 32 (SLe.refl _) rfl
theorem GObject.p33 (x : GObject) (v : Int) : putL x.c 33 [.int .i64 v] = GObject.c { x with Ends := { x.Ends with x1 := v } } := rfl
theorem GObject.l33 {x : GObject} {v : Int} {cs : List SV} (h : LLe cs x.c) : LLe (putL cs 33 [.int .i64 v]) (GObject.c { x with Ends := { x.Ends with x1 := v } }) := LLe.put h 33 (SLe.refl _) rfl
theorem GObject.p34 (x : GObject) (v : Int) : putL x.c 34 [.int .i64 v] = GObject.c { x with Count := v } := rfl
theorem GObject.l34 {x : GObject} {v : Int} {cs : List SV} (h : LLe cs x.c) : LLe (putL cs 34 [.int .i64 v]) (GObject.c { x with Count := v }) := LLe.put h 34 (SLe.refl _) rfl
theorem GObject.p35 (x : GObject) (v : List GName) : putL x.c 35 [.sl false 3 v.length (elt GName.c default v)] = GObject.c { x with Names := v } := rfl
theorem GObject.l35 {x : GObject} {v : List GName} {cs : List SV} {s : SV} (h : LLe cs x.c) (hs : SLe s (.sl false 3 v.length (elt GName.c default v))) : LLe (putL cs 35 [s]) (GObject.c { x with Names := v }) := LLe.put h 35 hs rfl
theorem GObject.m3_20 {x : GObject} {v : GProcess} {cs vs : List SV} (h : LLe cs x.c) (hv : LLe vs v.c) : LLe (putL cs 3 vs) (GObject.c { x with Process := v }) := LLe.puts h 3 hv (GObject.q3_20 x v)
theorem GObject.m6_3 {x : GObject} {v : GProgram} {cs vs : List SV} (h : LLe cs x.c) (hv : LLe vs v.c) : LLe (putL cs 6 vs) (GObject.c { x with Process := { x.Process with Program := v } }) := LLe.puts h 6 hv (GObject.q6_3 x v)
theorem GObject.m9_9 {x : GObject} {v : GCPU} {cs vs : List SV} (h : LLe cs x.c) (hv : LLe vs v.c) : LLe (putL cs 9 vs) (GObject.c { x with Process := { x.Process with CPU := v } }) := LLe.puts h 9 hv (GObject.q9_9 x v)
theorem GObject.m10_8 {x : GObject} {v : A8i64} {cs vs : List SV} (h : LLe cs x.c) (hv : LLe vs v.c) : LLe (putL cs 10 vs) (GObject.c { x with Process := { x.Process with CPU := { x.Process.CPU with Regs := v } } }) := LLe.puts h 10 hv (GObject.q10_8 x v)
theorem GObject.m30_2 {x : GObject} {v : A2Lu8} {cs vs : List SV} (h : LLe cs x.c) (hv : LLe vs v.c) : LLe (putL cs 30 vs) (GObject.c { x with Queues := v }) := LLe.puts h 30 hv (GObject.q30_2 x v)
theorem GObject.m32_2 {x : GObject} {v : A2i64} {cs vs : List SV} (h : LLe cs x.c) (hv : LLe vs v.c) : LLe (putL cs 32 vs) (GObject.c { x with Ends := v }) := LLe.puts h 32 hv (GObject.q32_2 x v)
theorem GObject.fz (sel : Nat → Bool) (B : List Own) (x : GObject) : frzL sel B x.c = x.c := rfl
theorem GObject.fk (sel : Nat → Bool) (B : List Own) (x : GObject) : frzKL sel B x.c = True := by simp [GObject.c, frzKL, frzKC]
@[ext] structure GForm where
  name : List UInt8
  operands : List UInt8
  deriving Inhabited, DecidableEq
def GForm.c (x : GForm) : List SV := [.str x.name, .str x.operands]
theorem GForm.eta (x : GForm) : (GForm.mk x.name x.operands) = x := rfl
theorem GForm.len (x : GForm) : x.c.length = 2 := rfl
theorem GForm.sol (x : GForm) : solids x.c = true := rfl
theorem GForm.t (x : GForm) : x.c.take 2 = x.c := rfl
theorem GForm.g0 (x : GForm) (d : SV) : x.c.getD 0 d = .str x.name := rfl
theorem GForm.g1 (x : GForm) (d : SV) : x.c.getD 1 d = .str x.operands := rfl
theorem GForm.q (x v : GForm) : putL x.c 0 v.c = v.c := putL_app (by simp only [GForm.len]; decide) rfl
theorem GForm.p0 (x : GForm) (v : List UInt8) : putL x.c 0 [.str v] = GForm.c { x with name := v } := rfl
theorem GForm.l0 {x : GForm} {v : List UInt8} {cs : List SV} (h : LLe cs x.c) : LLe (putL cs 0 [.str v]) (GForm.c { x with name := v }) := LLe.put h 0 (SLe.refl _) rfl
theorem GForm.p1 (x : GForm) (v : List UInt8) : putL x.c 1 [.str v] = GForm.c { x with operands := v } := rfl
theorem GForm.l1 {x : GForm} {v : List UInt8} {cs : List SV} (h : LLe cs x.c) : LLe (putL cs 1 [.str v]) (GForm.c { x with operands := v }) := LLe.put h 1 (SLe.refl _) rfl
theorem GForm.fz (sel : Nat → Bool) (B : List Own) (x : GForm) : frzL sel B x.c = x.c := rfl
theorem GForm.fk (sel : Nat → Bool) (B : List Own) (x : GForm) : frzKL sel B x.c = True := by simp [GForm.c, frzKL, frzKC]
theorem GForm.kd (x : GForm) : kinds x.c = [2, 2] := rfl
theorem GForm.e1 (x y : GForm) : (eqCells x.c y.c).1 = (x == y) := by
  apply Bool.eq_iff_iff.2
  obtain ⟨a0, a1⟩ := x
  obtain ⟨b0, b1⟩ := y
  simp [GForm.c, eqCells, eqCell]
theorem GForm.e2 (x y : GForm) : (eqCells x.c y.c).2 = True := by simp [GForm.c, eqCells, eqCell]
@[ext] structure A13GForm where
  x0 : GForm
  x1 : GForm
  x2 : GForm
  x3 : GForm
  x4 : GForm
  x5 : GForm
  x6 : GForm
  x7 : GForm
  x8 : GForm
  x9 : GForm
  x10 : GForm
  x11 : GForm
  x12 : GForm
  deriving Inhabited, DecidableEq
def A13GForm.c (x : A13GForm) : List SV := [.str x.x0.name, .str x.x0.operands, .str x.x1.name, .str x.x1.operands, .str x.x2.name, .str x.x2.operands, .str x.x3.name, .str x.x3.operands, .str x.x4.name, .str x.x4.operands, .str x.x5.name, .str x.x5.operands, .str x.x6.name, .str x.x6.operands, .str x.x7.name, .str x.x7.operands, .str x.x8.name, .str x.x8.operands, .str x.x9.name, .str x.x9.operands, .str x.x10.name, .str x.x10.operands, .str x.x11.name, .str x.x11.operands, .str x.x12.name, .str x.x12.operands]
theorem A13GForm.eta (x : A13GForm) : (A13GForm.mk x.x0 x.x1 x.x2 x.x3 x.x4 x.x5 x.x6 x.x7 x.x8 x.x9 x.x10 x.x11 x.x12) = x := rfl
theorem A13GForm.len (x : A13GForm) : x.c.length = 26 := rfl
theorem A13GForm.sol (x : A13GForm) : solids x.c = true := rfl
theorem A13GForm.t (x : A13GForm) : x.c.take 26 = x.c := rfl
theorem A13GForm.g0 (x : A13GForm) (d : SV) : x.c.getD 0 d = .str x.x0.name := rfl
theorem A13GForm.g1 (x : A13GForm) (d : SV) : x.c.getD 1 d = .str x.x0.operands := rfl
theorem A13GForm.g2 (x : A13GForm) (d : SV) : x.c.getD 2 d = .str x.x1.name := rfl
theorem A13GForm.g3 (x : A13GForm) (d : SV) : x.c.getD 3 d = .str x.x1.operands := rfl
theorem A13GForm.g4 (x : A13GForm) (d : SV) : x.c.getD 4 d = .str x.x2.name := rfl
theorem A13GForm.g5 (x : A13GForm) (d : SV) : x.c.getD 5 d = .str x.x2.operands := rfl
theorem A13GForm.g6 (x : A13GForm) (d : SV) : x.c.getD 6 d = .str x.x3.name := rfl
theorem A13GForm.g7 (x : A13GForm) (d : SV) : x.c.getD 7 d = .str x.x3.operands := rfl
theorem A13GForm.g8 (x : A13GForm) (d : SV) : x.c.getD 8 d = .str x.x4.name := rfl
theorem A13GForm.g9 (x : A13GForm) (d : SV) : x.c.getD 9 d = .str x.x4.operands := rfl
theorem A13GForm.g10 (x : A13GForm) (d : SV) : x.c.getD 10 d = .str x.x5.name := rfl
theorem A13GForm.g11 (x : A13GForm) (d : SV) : x.c.getD 11 d = .str x.x5.operands := rfl
theorem A13GForm.g12 (x : A13GForm) (d : SV) : x.c.getD 12 d = .str x.x6.name := rfl
theorem A13GForm.g13 (x : A13GForm) (d : SV) : x.c.getD 13 d = .str x.x6.operands := rfl
theorem A13GForm.g14 (x : A13GForm) (d : SV) : x.c.getD 14 d = .str x.x7.name := rfl
theorem A13GForm.g15 (x : A13GForm) (d : SV) : x.c.getD 15 d = .str x.x7.operands := rfl
theorem A13GForm.g16 (x : A13GForm) (d : SV) : x.c.getD 16 d = .str x.x8.name := rfl
theorem A13GForm.g17 (x : A13GForm) (d : SV) : x.c.getD 17 d = .str x.x8.operands := rfl
theorem A13GForm.g18 (x : A13GForm) (d : SV) : x.c.getD 18 d = .str x.x9.name := rfl
theorem A13GForm.g19 (x : A13GForm) (d : SV) : x.c.getD 19 d = .str x.x9.operands := rfl
theorem A13GForm.g20 (x : A13GForm) (d : SV) : x.c.getD 20 d = .str x.x10.name := rfl
theorem A13GForm.g21 (x : A13GForm) (d : SV) : x.c.getD 21 d = .str x.x10.operands := rfl
theorem A13GForm.g22 (x : A13GForm) (d : SV) : x.c.getD 22 d = .str x.x11.name := rfl
theorem A13GForm.g23 (x : A13GForm) (d : SV) : x.c.getD 23 d = .str x.x11.operands := rfl
theorem A13GForm.g24 (x : A13GForm) (d : SV) : x.c.getD 24 d = .str x.x12.name := rfl
theorem A13GForm.g25 (x : A13GForm) (d : SV) : x.c.getD 25 d = .str x.x12.operands := rfl
theorem A13GForm.d0_2 (x : A13GForm) : x.c.take 2 = GForm.c x.x0 := rfl
theorem A13GForm.q0_2 (x : A13GForm) (v : GForm) : putL x.c 0 v.c = A13GForm.c { x with x0 := v } := putL_app (by simp only [A13GForm.len, GForm.len]; decide) rfl
theorem A13GForm.d2_2 (x : A13GForm) : (x.c.drop 2).take 2 = GForm.c x.x1 := rfl
theorem A13GForm.q2_2 (x : A13GForm) (v : GForm) : putL x.c 2 v.c = A13GForm.c { x with x1 := v } := putL_app (by simp only [A13GForm.len, GForm.len]; decide) rfl
theorem A13GForm.d4_2 (x : A13GForm) : (x.c.drop 4).take 2 = GForm.c x.x2 := rfl
theorem A13GForm.q4_2 (x : A13GForm) (v : GForm) : putL x.c 4 v.c = A13GForm.c { x with x2 := v } := putL_app (by simp only [A13GForm.len, GForm.len]; decide) rfl
theorem A13GForm.d6_2 (x : A13GForm) : (x.c.drop 6).take 2 = GForm.c x.x3 := rfl
theorem A13GForm.q6_2 (x : A13GForm) (v : GForm) : putL x.c 6 v.c = A13GForm.c { x with x3 := v } := putL_app (by simp only [A13GForm.len, GForm.len]; decide) rfl
theorem A13GForm.d8_2 (x : A13GForm) : (x.c.drop 8).take 2 = GForm.c x.x4 := rfl
theorem A13GForm.q8_2 (x : A13GForm) (v : GForm) : putL x.c 8 v.c = A13GForm.c { x with x4 := v } := putL_app (by simp only [A13GForm.len, GForm.len]; decide) rfl
theorem A13GForm.d10_2 (x : A13GForm) : (x.c.drop 10).take 2 = GForm.c x.x5 := rfl
theorem A13GForm.q10_2 (x : A13GForm) (v : GForm) : putL x.c 10 v.c = A13GForm.c { x with x5 := v } := putL_app (by simp only [A13GForm.len, GForm.len]; decide) rfl
theorem A13GForm.d12_2 (x : A13GForm) : (x.c.drop 12).take 2 = GForm.c x.x6 := rfl
theorem A13GForm.q12_2 (x : A13GForm) (v : GForm) : putL x.c 12 v.c = A13GForm.c { x with x6 := v } := putL_app (by simp only [A13GForm.len, GForm.len]; decide) rfl
theorem A13GForm.d14_2 (x : A13GForm) : (x.c.drop 14).take 2 = GForm.c x.x7 := rfl
theorem A13GForm.q14_2 (x : A13GForm) (v : GForm) : putL x.c 14 v.c = A13GForm.c { x with x7 := v } := putL_app (by simp only [A13GForm.len, GForm.len]; decide) rfl
theorem A13GForm.d16_2 (x : A13GForm) : (x.c.drop 16).take 2 = GForm.c x.x8 := rfl
theorem A13GForm.q16_2 (x : A13GForm) (v : GForm) : putL x.c 16 v.c = A13GForm.c { x with x8 := v } := putL_app (by simp only [A13GForm.len, GForm.len]; decide) rfl
theorem A13GForm.d18_2 (x : A13GForm) : (x.c.drop 18).take 2 = GForm.c x.x9 := rfl
theorem A13GForm.q18_2 (x : A13GForm) (v : GForm) : putL x.c 18 v.c = A13GForm.c { x with x9 := v } := putL_app (by simp only [A13GForm.len, GForm.len]; decide) rfl
theorem A13GForm.d20_2 (x : A13GForm) : (x.c.drop 20).take 2 = GForm.c x.x10 := rfl
theorem A13GForm.q20_2 (x : A13GForm) (v : GForm) : putL x.c 20 v.c = A13GForm.c { x with x10 := v } := putL_app (by simp only [A13GForm.len, GForm.len]; decide) rfl
theorem A13GForm.d22_2 (x : A13GForm) : (x.c.drop 22).take 2 = GForm.c x.x11 := rfl
theorem A13GForm.q22_2 (x : A13GForm) (v : GForm) : putL x.c 22 v.c = A13GForm.c { x with x11 := v } := putL_app (by simp only [A13GForm.len, GForm.len]; decide) rfl
theorem A13GForm.d24_2 (x : A13GForm) : (x.c.drop 24).take 2 = GForm.c x.x12 := rfl
theorem A13GForm.q24_2 (x : A13GForm) (v : GForm) : putL x.c 24 v.c = A13GForm.c { x with x12 := v } := putL_app (by simp only [A13GForm.len, GForm.len]; decide) rfl
theorem A13GForm.q (x v : A13GForm) : putL x.c 0 v.c = v.c := putL_app (by simp only [A13GForm.len]; decide) rfl
theorem A13GForm.p0 (x : A13GForm) (v : List UInt8) : putL x.c 0 [.str v] = A13GForm.c { x with x0 := { x.x0 with name := v } } := rfl
theorem A13GForm.l0 {x : A13GForm} {v : List UInt8} {cs : List SV} (h : LLe cs x.c) : LLe (putL cs 0 [.str v]) (A13GForm.c { x with x0 := { x.x0 with name := v } }) := LLe.put h 0 (SLe.refl _) rfl
theorem A13GForm.p1 (x : A13GForm) (v : List UInt8) : putL x.c 1 [.str v] = A13GForm.c { x with x0 := { x.x0 with operands := v } } := rfl
theorem A13GForm.l1 {x : A13GForm} {v : List UInt8} {cs : List SV} (h : LLe cs x.c) : LLe (putL cs 1 [.str v]) (A13GForm.c { x with x0 := { x.x0 with operands := v } }) := LLe.put h 1 (SLe.refl _) rfl
theorem A13GForm.p2 (x : A13GForm) (v : List UInt8) : putL x.c 2 [.str v] = A13GForm.c { x with x1 := { x.x1 with name := v } } := rfl
theorem A13GForm.l2 {x : A13GForm} {v : List UInt8} {cs : List SV} (h : LLe cs x.c) : LLe (putL cs 2 [.str v]) (A13GForm.c { x with x1 := { x.x1 with name := v } }) := LLe.put h 2 (SLe.refl _) rfl
theorem A13GForm.p3 (x : A13GForm) (v : List UInt8) : putL x.c 3 [.str v] = A13GForm.c { x with x1 := { x.x1 with operands := v } } := rfl
theorem A13GForm.l3 {x : A13GForm} {v : List UInt8} {cs : List SV} (h : LLe cs x.c) : LLe (putL cs 3 [.str v]) (A13GForm.c { x with x1 := { x.x1 with operands := v } }) := LLe.put h 3 (SLe.refl _) rfl
theorem A13GForm.p4 (x : A13GForm) (v : List UInt8) : putL x.c 4 [.str v] = A13GForm.c { x with x2 := { x.x2 with name := v } } := rfl
theorem A13GForm.l4 {x : A13GForm} {v : List UInt8} {cs : List SV} (h : LLe cs x.c) : LLe (putL cs 4 [.str v]) (A13GForm.c { x with x2 := { x.x2 with name := v } }) := LLe.put h 4 (SLe.refl _) rfl
theorem A13GForm.p5 (x : A13GForm) (v : List UInt8) : putL x.c 5 [.str v] = A13GForm.c { x with x2 := { x.x2 with operands := v } } := rfl
theorem A13GForm.l5 {x : A13GForm} {v : List UInt8} {cs : List SV} (h : LLe cs x.c) : LLe (putL cs 5 [.str v]) (A13GForm.c { x with x2 := { x.x2 with operands := v } }) := LLe.put h 5 (SLe.refl _) rfl
theorem A13GForm.p6 (x : A13GForm) (v : List UInt8) : putL x.c 6 [.str v] = A13GForm.c { x with x3 := { x.x3 with name := v } } := rfl
theorem A13GForm.l6 {x : A13GForm} {v : List UInt8} {cs : List SV} (h : LLe cs x.c) : LLe (putL cs 6 [.str v]) (A13GForm.c { x with x3 := { x.x3 with name := v } }) := LLe.put h 6 (SLe.refl _) rfl
theorem A13GForm.p7 (x : A13GForm) (v : List UInt8) : putL x.c 7 [.str v] = A13GForm.c { x with x3 := { x.x3 with operands := v } } := rfl
theorem A13GForm.l7 {x : A13GForm} {v : List UInt8} {cs : List SV} (h : LLe cs x.c) : LLe (putL cs 7 [.str v]) (A13GForm.c { x with x3 := { x.x3 with operands := v } }) := LLe.put h 7 (SLe.refl _) rfl
theorem A13GForm.p8 (x : A13GForm) (v : List UInt8) : putL x.c 8 [.str v] = A13GForm.c { x with x4 := { x.x4 with name := v } } := rfl
theorem A13GForm.l8 {x : A13GForm} {v : List UInt8} {cs : List SV} (h : LLe cs x.c) : LLe (putL cs 8 [.str v]) (A13GForm.c { x with x4 := { x.x4 with name := v } }) := LLe.put h 8 (SLe.refl _) rfl
theorem A13GForm.p9 (x : A13GForm) (v : List UInt8) : putL x.c 9 [.str v] = A13GForm.c { x with x4 := { x.x4 with operands := v } } := rfl
theorem A13GForm.l9 {x : A13GForm} {v : List UInt8} {cs : List SV} (h : LLe cs x.c) : LLe (putL cs 9 [.str v]) (A13GForm.c { x with x4 := { x.x4 with operands := v } }) := LLe.put h 9 (SLe.refl _) rfl
theorem A13GForm.p10 (x : A13GForm) (v : List UInt8) : putL x.c 10 [.str v] = A13GForm.c { x with x5 := { x.x5 with name := v } } := rfl
theorem A13GForm.l10 {x : A13GForm} {v : List UInt8} {cs : List SV} (h : LLe cs x.c) : LLe (putL cs 10 [.str v]) (A13GForm.c { x with x5 := { x.x5 with name := v } }) := LLe.put h 10 (SLe.refl _) rfl
theorem A13GForm.p11 (x : A13GForm) (v : List UInt8) : putL x.c 11 [.str v] = A13GForm.c { x with x5 := { x.x5 with operands := v } } := rfl
theorem A13GForm.l11 {x : A13GForm} {v : List UInt8} {cs : List SV} (h : LLe cs x.c) : LLe (putL cs 11 [.str v]) (A13GForm.c { x with x5 := { x.x5 with operands := v } }) := LLe.put h 11 (SLe.refl _) rfl
theorem A13GForm.p12 (x : A13GForm) (v : List UInt8) : putL x.c 12 [.str v] = A13GForm.c { x with x6 := { x.x6 with name := v } } := rfl
theorem A13GForm.l12 {x : A13GForm} {v : List UInt8} {cs : List SV} (h : LLe cs x.c) : LLe (putL cs 12 [.str v]) (A13GForm.c { x with x6 := { x.x6 with name := v } }) := LLe.put h 12 (SLe.refl _) rfl
theorem A13GForm.p13 (x : A13GForm) (v : List UInt8) : putL x.c 13 [.str v] = A13GForm.c { x with x6 := { x.x6 with operands := v } } := rfl
theorem A13GForm.l13 {x : A13GForm} {v : List UInt8} {cs : List SV} (h : LLe cs x.c) : LLe (putL cs 13 [.str v]) (A13GForm.c { x with x6 := { x.x6 with operands := v } }) := LLe.put h 13 (SLe.refl _) rfl
theorem A13GForm.p14 (x : A13GForm) (v : List UInt8) : putL x.c 14 [.str v] = A13GForm.c { x with x7 := { x.x7 with name := v } } := rfl
theorem A13GForm.l14 {x : A13GForm} {v : List UInt8} {cs : List SV} (h : LLe cs x.c) : LLe (putL cs 14 [.str v]) (A13GForm.c { x with x7 := { x.x7 with name := v } }) := LLe.put h 14 (SLe.refl _) rfl
theorem A13GForm.p15 (x : A13GForm) (v : List UInt8) : putL x.c 15 [.str v] = A13GForm.c { x with x7 := { x.x7 with operands := v } } := rfl
theorem A13GForm.l15 {x : A13GForm} {v : List UInt8} {cs : List SV} (h : LLe cs x.c) : LLe (putL cs 15 [.str v]) (A13GForm.c { x with x7 := { x.x7 with operands := v } }) := LLe.put h 15 (SLe.refl _) rfl
theorem A13GForm.p16 (x : A13GForm) (v : List UInt8) : putL x.c 16 [.str v] = A13GForm.c { x with x8 := { x.x8 with name := v } } := rfl
theorem A13GForm.l16 {x : A13GForm} {v : List UInt8} {cs : List SV} (h : LLe cs x.c) : LLe (putL cs 16 [.str v]) (A13GForm.c { x with x8 := { x.x8 with name := v } }) := LLe.put h 16 (SLe.refl _) rfl
theorem A13GForm.p17 (x : A13GForm) (v : List UInt8) : putL x.c 17 [.str v] = A13GForm.c { x with x8 := { x.x8 with operands := v } } := rfl
theorem A13GForm.l17 {x : A13GForm} {v : List UInt8} {cs : List SV} (h : LLe cs x.c) : LLe (putL cs 17 [.str v]) (A13GForm.c { x with x8 := { x.x8 with operands := v } }) := LLe.put h 17 (SLe.refl _) rfl
theorem A13GForm.p18 (x : A13GForm) (v : List UInt8) : putL x.c 18 [.str v] = A13GForm.c { x with x9 := { x.x9 with name := v } } := rfl
theorem A13GForm.l18 {x : A13GForm} {v : List UInt8} {cs : List SV} (h : LLe cs x.c) : LLe (putL cs 18 [.str v]) (A13GForm.c { x with x9 := { x.x9 with name := v } }) := LLe.put h 18 (SLe.refl _) rfl
theorem A13GForm.p19 (x : A13GForm) (v : List UInt8) : putL x.c 19 [.str v] = A13GForm.c { x with x9 := { x.x9 with operands := v } } := rfl
theorem A13GForm.l19 {x : A13GForm} {v : List UInt8} {cs : List SV} (h : LLe cs x.c) : LLe (putL cs 19 [.str v]) (A13GForm.c { x with x9 := { x.x9 with operands := v } }) := LLe.put h 19 (SLe.refl _) rfl
theorem A13GForm.p20 (x : A13GForm) (v : List UInt8) : putL x.c 20 [.str v] = A13GForm.c { x with x10 := { x.x10 with name := v } } := rfl
theorem A13GForm.l20 {x : A13GForm} {v : List UInt8} {cs : List SV} (h : LLe cs x.c) : LLe (putL cs 20 [.str v]) (A13GForm.c { x with x10 := { x.x10 with name := v } }) := LLe.put h 20 (SLe.refl _) rfl
theorem A13GForm.p21 (x : A13GForm) (v : List UInt8) : putL x.c 21 [.str v] = A13GForm.c { x with x10 := { x.x10 with operands := v } } := rfl
theorem A13GForm.l21 {x : A13GForm} {v : List UInt8} {cs : List SV} (h : LLe cs x.c) : LLe (putL cs 21 [.str v]) (A13GForm.c { x with x10 := { x.x10 with operands := v } }) := LLe.put h 21 (SLe.refl _) rfl
theorem A13GForm.p22 (x : A13GForm) (v : List UInt8) : putL x.c 22 [.str v] = A13GForm.c { x with x11 := { x.x11 with name := v } } := rfl
theorem A13GForm.l22 {x : A13GForm} {v : List UInt8} {cs : List SV} (h : LLe cs x.c) : LLe (putL cs 22 [.str v]) (A13GForm.c { x with x11 := { x.x11 with name := v } }) := LLe.put h 22 (SLe.refl _) rfl
theorem A13GForm.p23 (x : A13GForm) (v : List UInt8) : putL x.c 23 [.str v] = A13GForm.c { x with x11 := { x.x11 with operands := v } } := rfl
theorem A13GForm.l23 {x : A13GForm} {v : List UInt8} {cs : List SV} (h : LLe cs x.c) : LLe (putL cs 23 [.str v]) (A13GForm.c { x with x11 := { x.x11 with operands := v } }) := LLe.put h 23 (SLe.refl _) rfl
theorem A13GForm.p24 (x : A13GForm) (v : List UInt8) : putL x.c 24 [.str v] = A13GForm.c { x with x12 := { x.x12 with name := v } } := rfl
theorem A13GForm.l24 {x : A13GForm} {v : List UInt8} {cs : List SV} (h : LLe cs x.c) : LLe (putL cs 24 [.str v]) (A13GForm.c { x with x12 := { x.x12 with name := v } }) := LLe.put h 24 (SLe.refl _) rfl
theorem A13GForm.p25 (x : A13GForm) (v : List UInt8) : putL x.c 25 [.str v] = A13GForm.c { x with x12 := { x.x12 with operands := v } } := rfl
theorem A13GForm.l25 {x : A13GForm} {v : List UInt8} {cs : List SV} (h : LLe cs x.c) : LLe (putL cs 25 [.str v]) (A13GForm.c { x with x12 := { x.x12 with operands := v } }) := LLe.put h 25 (SLe.refl _) rfl
theorem A13GForm.m0_2 {x : A13GForm} {v : GForm} {cs vs : List SV} (h : LLe cs x.c) (hv : LLe vs v.c) : LLe (putL cs 0 vs) (A13GForm.c { x with x0 := v }) := LLe.puts h 0 hv (A13GForm.q0_2 x v)
theorem A13GForm.m2_2 {x : A13GForm} {v : GForm} {cs vs : List SV} (h : LLe cs x.c) (hv : LLe vs v.c) : LLe (putL cs 2 vs) (A13GForm.c { x with x1 := v }) := LLe.puts h 2 hv (A13GForm.q2_2 x v)
theorem A13GForm.m4_2 {x : A13GForm} {v : GForm} {cs vs : List SV} (h : LLe cs x.c) (hv : LLe vs v.c) : LLe (putL cs 4 vs) (A13GForm.c { x with x2 := v }) := LLe.puts h 4 hv (A13GForm.q4_2 x v)
theorem A13GForm.m6_2 {x : A13GForm} {v : GForm} {cs vs : List SV} (h : LLe cs x.c) (hv : LLe vs v.c) : LLe (putL cs 6 vs) (A13GForm.c { x with x3 := v }) := LLe.puts h 6 hv (A13GForm.q6_2 x v)
theorem A13GForm.m8_2 {x : A13GForm} {v : GForm} {cs vs : List SV} (h : LLe cs x.c) (hv : LLe vs v.c) : LLe (putL cs 8 vs) (A13GForm.c { x with x4 := v }) := LLe.puts h 8 hv (A13GForm.q8_2 x v)
theorem A13GForm.m10_2 {x : A13GForm} {v : GForm} {cs vs : List SV} (h : LLe cs x.c) (hv : LLe vs v.c) : LLe (putL cs 10 vs) (A13GForm.c { x with x5 := v }) := LLe.puts h 10 hv (A13GForm.q10_2 x v)
theorem A13GForm.m12_2 {x : A13GForm} {v : GForm} {cs vs : List SV} (h : LLe cs x.c) (hv : LLe vs v.c) : LLe (putL cs 12 vs) (A13GForm.c { x with x6 := v }) := LLe.puts h 12 hv (A13GForm.q12_2 x v)
theorem A13GForm.m14_2 {x : A13GForm} {v : GForm} {cs vs : List SV} (h : LLe cs x.c) (hv : LLe vs v.c) : LLe (putL cs 14 vs) (A13GForm.c { x with x7 := v }) := LLe.puts h 14 hv (A13GForm.q14_2 x v)
theorem A13GForm.m16_2 {x : A13GForm} {v : GForm} {cs vs : List SV} (h : LLe cs x.c) (hv : LLe vs v.c) : LLe (putL cs 16 vs) (A13GForm.c { x with x8 := v }) := LLe.puts h 16 hv (A13GForm.q16_2 x v)
theorem A13GForm.m18_2 {x : A13GForm} {v : GForm} {cs vs : List SV} (h : LLe cs x.c) (hv : LLe vs v.c) : LLe (putL cs 18 vs) (A13GForm.c { x with x9 := v }) := LLe.puts h 18 hv (A13GForm.q18_2 x v)
theorem A13GForm.m20_2 {x : A13GForm} {v : GForm} {cs vs : List SV} (h : LLe cs x.c) (hv : LLe vs v.c) : LLe (putL cs 20 vs) (A13GForm.c { x with x10 := v }) := LLe.puts h 20 hv (A13GForm.q20_2 x v)
theorem A13GForm.m22_2 {x : A13GForm} {v : GForm} {cs vs : List SV} (h : LLe cs x.c) (hv : LLe vs v.c) : LLe (putL cs 22 vs) (A13GForm.c { x with x11 := v }) := LLe.puts h 22 hv (A13GForm.q22_2 x v)
theorem A13GForm.m24_2 {x : A13GForm} {v : GForm} {cs vs : List SV} (h : LLe cs x.c) (hv : LLe vs v.c) : LLe (putL cs 24 vs) (A13GForm.c { x with x12 := v }) := LLe.puts h 24 hv (A13GForm.q24_2 x v)
theorem A13GForm.fz (sel : Nat → Bool) (B : List Own) (x : A13GForm) : frzL sel B x.c = x.c := rfl
theorem A13GForm.fk (sel : Nat → Bool) (B : List Own) (x : A13GForm) : frzKL sel B x.c = True := by simp [A13GForm.c, frzKL, frzKC]
theorem A13GForm.kd (x : A13GForm) : kinds x.c = [2, 2, 2, 2, 2, 2, 2, 2, 2, 2, 2, 2, 2, 2, 2, 2, 2, 2, 2, 2, 2, 2, 2, 2, 2, 2] := rfl
theorem A13GForm.e1 (x y : A13GForm) : (eqCells x.c y.c).1 = (x == y) := by
  apply Bool.eq_iff_iff.2
  rw [beq_iff_eq, A13GForm.ext_iff]
  simp [A13GForm.c, eqCells, eqCell, GForm.ext_iff, GForm.ext_iff, GForm.ext_iff, GForm.ext_iff, GForm.ext_iff, GForm.ext_iff, GForm.ext_iff, GForm.ext_iff, GForm.ext_iff, GForm.ext_iff, GForm.ext_iff, GForm.ext_iff, GForm.ext_iff, and_assoc]
theorem A13GForm.e2 (x y : A13GForm) : (eqCells x.c y.c).2 = True := by simp [A13GForm.c, eqCells, eqCell]
@[ext] structure A3i64 where
  x0 : Int
  x1 : Int
  x2 : Int
  deriving Inhabited, DecidableEq
def A3i64.c (x : A3i64) : List SV := [.int .i64 x.x0, .int .i64 x.x1, .int .i64 x.x2]
theorem A3i64.eta (x : A3i64) : (A3i64.mk x.x0 x.x1 x.x2) = x := rfl
theorem A3i64.len (x : A3i64) : x.c.length = 3 := rfl
theorem A3i64.sol (x : A3i64) : solids x.c = true := rfl
theorem A3i64.t (x : A3i64) : x.c.take 3 = x.c := rfl
theorem A3i64.g0 (x : A3i64) (d : SV) : x.c.getD 0 d = .int .i64 x.x0 := rfl
theorem A3i64.g1 (x : A3i64) (d : SV) : x.c.getD 1 d = .int .i64 x.x1 := rfl
theorem A3i64.g2 (x : A3i64) (d : SV) : x.c.getD 2 d = .int .i64 x.x2 := rfl
theorem A3i64.q (x v : A3i64) : putL x.c 0 v.c = v.c := putL_app (by simp only [A3i64.len]; decide) rfl
theorem A3i64.p0 (x : A3i64) (v : Int) : putL x.c 0 [.int .i64 v] = A3i64.c { x with x0 := v } := rfl
theorem A3i64.l0 {x : A3i64} {v : Int} {cs : List SV} (h : LLe cs x.c) : LLe (putL cs 0 [.int .i64 v]) (A3i64.c { x with x0 := v }) := LLe.put h 0 (SLe.refl _) rfl
theorem A3i64.p1 (x : A3i64) (v : Int) : putL x.c 1 [.int .i64 v] = A3i64.c { x with x1 := v } := rfl
theorem A3i64.l1 {x : A3i64} {v : Int} {cs : List SV} (h : LLe cs x.c) : LLe (putL cs 1 [.int .i64 v]) (A3i64.c { x with x1 := v }) := LLe.put h 1 (SLe.refl _) rfl
theorem A3i64.p2 (x : A3i64) (v : Int) : putL x.c 2 [.int .i64 v] = A3i64.c { x with x2 := v } := rfl
theorem A3i64.l2 {x : A3i64} {v : Int} {cs : List SV} (h : LLe cs x.c) : LLe (putL cs 2 [.int .i64 v]) (A3i64.c { x with x2 := v }) := LLe.put h 2 (SLe.refl _) rfl
theorem A3i64.fz (sel : Nat → Bool) (B : List Own) (x : A3i64) : frzL sel B x.c = x.c := rfl
theorem A3i64.fk (sel : Nat → Bool) (B : List Own) (x : A3i64) : frzKL sel B x.c = True := by simp [A3i64.c, frzKL, frzKC]
theorem A3i64.kd (x : A3i64) : kinds x.c = [1, 1, 1] := rfl
theorem A3i64.e1 (x y : A3i64) : (eqCells x.c y.c).1 = (x == y) := by
  apply Bool.eq_iff_iff.2
  obtain ⟨a0, a1, a2⟩ := x
  obtain ⟨b0, b1, b2⟩ := y
  simp [A3i64.c, eqCells, eqCell]
theorem A3i64.e2 (x y : A3i64) : (eqCells x.c y.c).2 = True := by simp [A3i64.c, eqCells, eqCell]
attribute [push_cast] GInstr.eta GInstr.len GInstr.sol GInstr.t GInstr.g0 GInstr.g1 GInstr.g2 GInstr.g3 GInstr.q GInstr.p0 GInstr.p1 GInstr.p2 GInstr.p3 GInstr.fz GInstr.fk GInstr.kd GInstr.e1 GInstr.e2 GProgram.eta GProgram.len GProgram.sol GProgram.t GProgram.g0 GProgram.g1 GProgram.g2 GProgram.q GProgram.p0 GProgram.p1 GProgram.p2 GProgram.fz GProgram.fk A8i64.eta A8i64.len A8i64.sol A8i64.t A8i64.g0 A8i64.g1 A8i64.g2 A8i64.g3 A8i64.g4 A8i64.g5 A8i64.g6 A8i64.g7 A8i64.q A8i64.p0 A8i64.p1 A8i64.p2 A8i64.p3 A8i64.p4 A8i64.p5 A8i64.p6 A8i64.p7 A8i64.fz A8i64.fk A8i64.kd A8i64.e1 A8i64.e2 GCPU.eta GCPU.len GCPU.sol GCPU.t GCPU.g0 GCPU.g1 GCPU.g2 GCPU.g3 GCPU.g4 GCPU.g5 GCPU.g6 GCPU.g7 GCPU.g8 GCPU.d1_8 GCPU.q1_8 GCPU.q GCPU.p0 GCPU.p1 GCPU.p2 GCPU.p3 GCPU.p4 GCPU.p5 GCPU.p6 GCPU.p7 GCPU.p8 GCPU.fz GCPU.fk GCPU.kd GCPU.e1 GCPU.e2 GPageRef.eta GPageRef.len GPageRef.sol GPageRef.t GPageRef.g0 GPageRef.g1 GPageRef.q GPageRef.p0 GPageRef.p1 GPageRef.fz GPageRef.fk GPageRef.kd GPageRef.e1 GPageRef.e2 GSlot.eta GSlot.len GSlot.sol GSlot.t GSlot.g0 GSlot.g1 GSlot.g2 GSlot.g3 GSlot.q GSlot.p0 GSlot.p1 GSlot.p2 GSlot.p3 GSlot.fz GSlot.fk GSlot.kd GSlot.e1 GSlot.e2 GProcess.eta GProcess.len GProcess.sol GProcess.t GProcess.g0 GProcess.g1 GProcess.g2 GProcess.g3 GProcess.g4 GProcess.g5 GProcess.g6 GProcess.g7 GProcess.g8 GProcess.g9 GProcess.g10 GProcess.g11 GProcess.g12 GProcess.g13 GProcess.g14 GProcess.g15 GProcess.g16 GProcess.g17 GProcess.g18 GProcess.g19 GProcess.d3_3 GProcess.q3_3 GProcess.d6_9 GProcess.q6_9 GProcess.d7_8 GProcess.q7_8 GProcess.q GProcess.p0 GProcess.p1 GProcess.p2 GProcess.p3 GProcess.p4 GProcess.p5 GProcess.p6 GProcess.p7 GProcess.p8 GProcess.p9 GProcess.p10 GProcess.p11 GProcess.p12 GProcess.p13 GProcess.p14 GProcess.p15 GProcess.p16 GProcess.p17 GProcess.p18 GProcess.p19 GProcess.fz GProcess.fk cL_u8_len cL_u8_sol cL_u8_g0 cL_u8_t cL_u8_p0 A2Lu8.eta A2Lu8.len A2Lu8.sol A2Lu8.t A2Lu8.g0 A2Lu8.g1 A2Lu8.q A2Lu8.p0 A2Lu8.p1 A2Lu8.fz A2Lu8.fk A2i64.eta A2i64.len A2i64.sol A2i64.t A2i64.g0 A2i64.g1 A2i64.q A2i64.p0 A2i64.p1 A2i64.fz A2i64.fk A2i64.kd A2i64.e1 A2i64.e2 GName.eta GName.len GName.sol GName.t GName.g0 GName.g1 GName.g2 GName.q GName.p0 GName.p1 GName.p2 GName.fz GName.fk GObject.eta GObject.len GObject.sol GObject.t GObject.g0 GObject.g1 GObject.g2 GObject.g3 GObject.g4 GObject.g5 GObject.g6 GObject.g7 GObject.g8 GObject.g9 GObject.g10 GObject.g11 GObject.g12 GObject.g13 GObject.g14 GObject.g15 GObject.g16 GObject.g17 GObject.g18 GObject.g19 GObject.g20 GObject.g21 GObject.g22 GObject.g23 GObject.g24 GObject.g25 GObject.g26 GObject.g27 GObject.g28 GObject.g29 GObject.g30 GObject.g31 GObject.g32 GObject.g33 GObject.g34 GObject.g35 GObject.d3_20 GObject.q3_20 GObject.d6_3 GObject.q6_3 GObject.d9_9 GObject.q9_9 GObject.d10_8 GObject.q10_8 GObject.d30_2 GObject.q30_2 GObject.d32_2 GObject.q32_2 GObject.q GObject.p0 GObject.p1 GObject.p2 GObject.p3 GObject.p4 GObject.p5 GObject.p6 GObject.p7 GObject.p8 GObject.p9 GObject.p10 GObject.p11 GObject.p12 GObject.p13 GObject.p14 GObject.p15 GObject.p16 GObject.p17 GObject.p18 GObject.p19 GObject.p20 GObject.p21 GObject.p22 GObject.p23 GObject.p24 GObject.p25 GObject.p26 GObject.p27 GObject.p28 GObject.p29 GObject.p30 GObject.p31 GObject.p32 GObject.p33 GObject.p34 GObject.p35 GObject.fz GObject.fk GForm.eta GForm.len GForm.sol GForm.t GForm.g0 GForm.g1 GForm.q GForm.p0 GForm.p1 GForm.fz GForm.fk GForm.kd GForm.e1 GForm.e2 A13GForm.eta A13GForm.len A13GForm.sol A13GForm.t A13GForm.g0 A13GForm.g1 A13GForm.g2 A13GForm.g3 A13GForm.g4 A13GForm.g5 A13GForm.g6 A13GForm.g7 A13GForm.g8 A13GForm.g9 A13GForm.g10 A13GForm.g11 A13GForm.g12 A13GForm.g13 A13GForm.g14 A13GForm.g15 A13GForm.g16 A13GForm.g17 A13GForm.g18 A13GForm.g19 A13GForm.g20 A13GForm.g21 A13GForm.g22 A13GForm.g23 A13GForm.g24 A13GForm.g25 A13GForm.d0_2 A13GForm.q0_2 A13GForm.d2_2 A13GForm.q2_2 A13GForm.d4_2 A13GForm.q4_2 A13GForm.d6_2 A13GForm.q6_2 A13GForm.d8_2 A13GForm.q8_2 A13GForm.d10_2 A13GForm.q10_2 A13GForm.d12_2 A13GForm.q12_2 A13GForm.d14_2 A13GForm.q14_2 A13GForm.d16_2 A13GForm.q16_2 A13GForm.d18_2 A13GForm.q18_2 A13GForm.d20_2 A13GForm.q20_2 A13GForm.d22_2 A13GForm.q22_2 A13GForm.d24_2 A13GForm.q24_2 A13GForm.q A13GForm.p0 A13GForm.p1 A13GForm.p2 A13GForm.p3 A13GForm.p4 A13GForm.p5 A13GForm.p6 A13GForm.p7 A13GForm.p8 A13GForm.p9 A13GForm.p10 A13GForm.p11 A13GForm.p12 A13GForm.p13 A13GForm.p14 A13GForm.p15 A13GForm.p16 A13GForm.p17 A13GForm.p18 A13GForm.p19 A13GForm.p20 A13GForm.p21 A13GForm.p22 A13GForm.p23 A13GForm.p24 A13GForm.p25 A13GForm.fz A13GForm.fk A13GForm.kd A13GForm.e1 A13GForm.e2 A3i64.eta A3i64.len A3i64.sol A3i64.t A3i64.g0 A3i64.g1 A3i64.g2 A3i64.q A3i64.p0 A3i64.p1 A3i64.p2 A3i64.fz A3i64.fk A3i64.kd A3i64.e1 A3i64.e2
end Go.Proofs.YtfmldmafigpblaaDoor
-- TYLEMS: GInstr.eta, GInstr.len, GInstr.sol, GInstr.t, GInstr.g0, GInstr.g1, GInstr.g2, GInstr.g3, GInstr.q, GInstr.p0, GInstr.p1, GInstr.p2, GInstr.p3, GInstr.fz, GInstr.fk, GInstr.kd, GInstr.e1, GInstr.e2, GProgram.eta, GProgram.len, GProgram.sol, GProgram.t, GProgram.g0, GProgram.g1, GProgram.g2, GProgram.q, GProgram.p0, GProgram.p1, GProgram.p2, GProgram.fz, GProgram.fk, A8i64.eta, A8i64.len, A8i64.sol, A8i64.t, A8i64.g0, A8i64.g1, A8i64.g2, A8i64.g3, A8i64.g4, A8i64.g5, A8i64.g6, A8i64.g7, A8i64.q, A8i64.p0, A8i64.p1, A8i64.p2, A8i64.p3, A8i64.p4, A8i64.p5, A8i64.p6, A8i64.p7, A8i64.fz, A8i64.fk, A8i64.kd, A8i64.e1, A8i64.e2, GCPU.eta, GCPU.len, GCPU.sol, GCPU.t, GCPU.g0, GCPU.g1, GCPU.g2, GCPU.g3, GCPU.g4, GCPU.g5, GCPU.g6, GCPU.g7, GCPU.g8, GCPU.d1_8, GCPU.q1_8, GCPU.q, GCPU.p0, GCPU.p1, GCPU.p2, GCPU.p3, GCPU.p4, GCPU.p5, GCPU.p6, GCPU.p7, GCPU.p8, GCPU.fz, GCPU.fk, GCPU.kd, GCPU.e1, GCPU.e2, GPageRef.eta, GPageRef.len, GPageRef.sol, GPageRef.t, GPageRef.g0, GPageRef.g1, GPageRef.q, GPageRef.p0, GPageRef.p1, GPageRef.fz, GPageRef.fk, GPageRef.kd, GPageRef.e1, GPageRef.e2, GSlot.eta, GSlot.len, GSlot.sol, GSlot.t, GSlot.g0, GSlot.g1, GSlot.g2, GSlot.g3, GSlot.q, GSlot.p0, GSlot.p1, GSlot.p2, GSlot.p3, GSlot.fz, GSlot.fk, GSlot.kd, GSlot.e1, GSlot.e2, GProcess.eta, GProcess.len, GProcess.sol, GProcess.t, GProcess.g0, GProcess.g1, GProcess.g2, GProcess.g3, GProcess.g4, GProcess.g5, GProcess.g6, GProcess.g7, GProcess.g8, GProcess.g9, GProcess.g10, GProcess.g11, GProcess.g12, GProcess.g13, GProcess.g14, GProcess.g15, GProcess.g16, GProcess.g17, GProcess.g18, GProcess.g19, GProcess.d3_3, GProcess.q3_3, GProcess.d6_9, GProcess.q6_9, GProcess.d7_8, GProcess.q7_8, GProcess.q, GProcess.p0, GProcess.p1, GProcess.p2, GProcess.p3, GProcess.p4, GProcess.p5, GProcess.p6, GProcess.p7, GProcess.p8, GProcess.p9, GProcess.p10, GProcess.p11, GProcess.p12, GProcess.p13, GProcess.p14, GProcess.p15, GProcess.p16, GProcess.p17, GProcess.p18, GProcess.p19, GProcess.fz, GProcess.fk, cL_u8_len, cL_u8_sol, cL_u8_g0, cL_u8_t, cL_u8_p0, A2Lu8.eta, A2Lu8.len, A2Lu8.sol, A2Lu8.t, A2Lu8.g0, A2Lu8.g1, A2Lu8.q, A2Lu8.p0, A2Lu8.p1, A2Lu8.fz, A2Lu8.fk, A2i64.eta, A2i64.len, A2i64.sol, A2i64.t, A2i64.g0, A2i64.g1, A2i64.q, A2i64.p0, A2i64.p1, A2i64.fz, A2i64.fk, A2i64.kd, A2i64.e1, A2i64.e2, GName.eta, GName.len, GName.sol, GName.t, GName.g0, GName.g1, GName.g2, GName.q, GName.p0, GName.p1, GName.p2, GName.fz, GName.fk, GObject.eta, GObject.len, GObject.sol, GObject.t, GObject.g0, GObject.g1, GObject.g2, GObject.g3, GObject.g4, GObject.g5, GObject.g6, GObject.g7, GObject.g8, GObject.g9, GObject.g10, GObject.g11, GObject.g12, GObject.g13, GObject.g14, GObject.g15, GObject.g16, GObject.g17, GObject.g18, GObject.g19, GObject.g20, GObject.g21, GObject.g22, GObject.g23, GObject.g24, GObject.g25, GObject.g26, GObject.g27, GObject.g28, GObject.g29, GObject.g30, GObject.g31, GObject.g32, GObject.g33, GObject.g34, GObject.g35, GObject.d3_20, GObject.q3_20, GObject.d6_3, GObject.q6_3, GObject.d9_9, GObject.q9_9, GObject.d10_8, GObject.q10_8, GObject.d30_2, GObject.q30_2, GObject.d32_2, GObject.q32_2, GObject.q, GObject.p0, GObject.p1, GObject.p2, GObject.p3, GObject.p4, GObject.p5, GObject.p6, GObject.p7, GObject.p8, GObject.p9, GObject.p10, GObject.p11, GObject.p12, GObject.p13, GObject.p14, GObject.p15, GObject.p16, GObject.p17, GObject.p18, GObject.p19, GObject.p20, GObject.p21, GObject.p22, GObject.p23, GObject.p24, GObject.p25, GObject.p26, GObject.p27, GObject.p28, GObject.p29, GObject.p30, GObject.p31, GObject.p32, GObject.p33, GObject.p34, GObject.p35, GObject.fz, GObject.fk, GForm.eta, GForm.len, GForm.sol, GForm.t, GForm.g0, GForm.g1, GForm.q, GForm.p0, GForm.p1, GForm.fz, GForm.fk, GForm.kd, GForm.e1, GForm.e2, A13GForm.eta, A13GForm.len, A13GForm.sol, A13GForm.t, A13GForm.g0, A13GForm.g1, A13GForm.g2, A13GForm.g3, A13GForm.g4, A13GForm.g5, A13GForm.g6, A13GForm.g7, A13GForm.g8, A13GForm.g9, A13GForm.g10, A13GForm.g11, A13GForm.g12, A13GForm.g13, A13GForm.g14, A13GForm.g15, A13GForm.g16, A13GForm.g17, A13GForm.g18, A13GForm.g19, A13GForm.g20, A13GForm.g21, A13GForm.g22, A13GForm.g23, A13GForm.g24, A13GForm.g25, A13GForm.d0_2, A13GForm.q0_2, A13GForm.d2_2, A13GForm.q2_2, A13GForm.d4_2, A13GForm.q4_2, A13GForm.d6_2, A13GForm.q6_2, A13GForm.d8_2, A13GForm.q8_2, A13GForm.d10_2, A13GForm.q10_2, A13GForm.d12_2, A13GForm.q12_2, A13GForm.d14_2, A13GForm.q14_2, A13GForm.d16_2, A13GForm.q16_2, A13GForm.d18_2, A13GForm.q18_2, A13GForm.d20_2, A13GForm.q20_2, A13GForm.d22_2, A13GForm.q22_2, A13GForm.d24_2, A13GForm.q24_2, A13GForm.q, A13GForm.p0, A13GForm.p1, A13GForm.p2, A13GForm.p3, A13GForm.p4, A13GForm.p5, A13GForm.p6, A13GForm.p7, A13GForm.p8, A13GForm.p9, A13GForm.p10, A13GForm.p11, A13GForm.p12, A13GForm.p13, A13GForm.p14, A13GForm.p15, A13GForm.p16, A13GForm.p17, A13GForm.p18, A13GForm.p19, A13GForm.p20, A13GForm.p21, A13GForm.p22, A13GForm.p23, A13GForm.p24, A13GForm.p25, A13GForm.fz, A13GForm.fk, A13GForm.kd, A13GForm.e1, A13GForm.e2, A3i64.eta, A3i64.len, A3i64.sol, A3i64.t, A3i64.g0, A3i64.g1, A3i64.g2, A3i64.q, A3i64.p0, A3i64.p1, A3i64.p2, A3i64.fz, A3i64.fk, A3i64.kd, A3i64.e1, A3i64.e2
-- LLELEMS: GInstr.l0, GInstr.l1, GInstr.l2, GInstr.l3, GProgram.l0, GProgram.l1, GProgram.l2, A8i64.l0, A8i64.l1, A8i64.l2, A8i64.l3, A8i64.l4, A8i64.l5, A8i64.l6, A8i64.l7, GCPU.l0, GCPU.l1, GCPU.l2, GCPU.l3, GCPU.l4, GCPU.l5, GCPU.l6, GCPU.l7, GCPU.l8, GCPU.m1_8, GPageRef.l0, GPageRef.l1, GSlot.l0, GSlot.l1, GSlot.l2, GSlot.l3, GProcess.l0, GProcess.l1, GProcess.l2, GProcess.l3, GProcess.l4, GProcess.l5, GProcess.l6, GProcess.l7, GProcess.l8, GProcess.l9, GProcess.l10, GProcess.l11, GProcess.l12, GProcess.l13, GProcess.l14, GProcess.l15, GProcess.l16, GProcess.l17, GProcess.l18, GProcess.l19, GProcess.m3_3, GProcess.m6_9, GProcess.m7_8, cL_u8_l0, cL_u8_c0, A2Lu8.l0, A2Lu8.l1, A2i64.l0, A2i64.l1, GName.l0, GName.l1, GName.l2, GObject.l0, GObject.l1, GObject.l2, GObject.l3, GObject.l4, GObject.l5, GObject.l6, GObject.l7, GObject.l8, GObject.l9, GObject.l10, GObject.l11, GObject.l12, GObject.l13, GObject.l14, GObject.l15, GObject.l16, GObject.l17, GObject.l18, GObject.l19, GObject.l20, GObject.l21, GObject.l22, GObject.l23, GObject.l24, GObject.l25, GObject.l26, GObject.l27, GObject.l28, GObject.l29, GObject.l30, GObject.l31, GObject.l32, GObject.l33, GObject.l34, GObject.l35, GObject.m3_20, GObject.m6_3, GObject.m9_9, GObject.m10_8, GObject.m30_2, GObject.m32_2, GForm.l0, GForm.l1, A13GForm.l0, A13GForm.l1, A13GForm.l2, A13GForm.l3, A13GForm.l4, A13GForm.l5, A13GForm.l6, A13GForm.l7, A13GForm.l8, A13GForm.l9, A13GForm.l10, A13GForm.l11, A13GForm.l12, A13GForm.l13, A13GForm.l14, A13GForm.l15, A13GForm.l16, A13GForm.l17, A13GForm.l18, A13GForm.l19, A13GForm.l20, A13GForm.l21, A13GForm.l22, A13GForm.l23, A13GForm.l24, A13GForm.l25, A13GForm.m0_2, A13GForm.m2_2, A13GForm.m4_2, A13GForm.m6_2, A13GForm.m8_2, A13GForm.m10_2, A13GForm.m12_2, A13GForm.m14_2, A13GForm.m16_2, A13GForm.m18_2, A13GForm.m20_2, A13GForm.m22_2, A13GForm.m24_2, A3i64.l0, A3i64.l1, A3i64.l2
-- TYMAP: 28=GProgram; 29=GProgram; 30=A8i64; 31=GCPU; 32=GCPU; 35=GProcess; 36=GProcess; 38=A2Lu8; 39=A2i64; 41=GObject; 42=GObject; 58=GPageRef; 59=GPageRef; 65=GObject; 76=GInstr; 77=GInstr; 89=GSlot; 90=GSlot; 94=GForm; 95=GForm; 96=A13GForm; 97=A3i64; 104=GName; 105=GName
