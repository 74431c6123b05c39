/- Part 3: Env. -/
import Derived.Test.YtfmldmafigpblaaGreatDoorRows
import Derived.Test.YtfmldmafigpblaaGreatDoorU02
section
namespace Go.Proofs.YtfmldmafigpblaaGreatDoor
open Go.Lift
set_option linter.unusedSimpArgs false
set_option linter.unusedVariables false
def nilS : SV := .sl true 0 0 fun _ => []
def tyL : List TyI := [
  .bad,
  .one,
  .int .i64,
  .int .i64,
  .bool,
  .int .u8,
  .bad,
  .bad,
  .bad,
  .string,
  .bad,
  .bad,
  .int .u64,
  .bad,
  .bad,
  .bad,
  .bad,
  .bad,
  .bad,
  .bad,
  .bad,
  .int .i32,
  .int .u64,
  .slice 22 1 8,
  .slice 106 4 32,
  .slice 9 1 16,
  .struct [(0, false, 1), (1, false, 1), (2, false, 1)] 3,
  .struct [(0, false, 1), (1, false, 1), (2, false, 1)] 3,
  .array 8 false 1,
  .struct [(0, false, 1), (1, true, 8)] 9,
  .struct [(0, false, 1), (1, true, 8)] 9,
  .slice 85 2 16,
  .slice 108 4 32,
  .struct [(0, false, 1), (1, false, 1), (2, false, 1), (3, true, 3), (6, true, 9), (15, false, 1), (16, false, 1), (17, false, 1), (18, false, 1), (19, false, 1)] 20,
  .struct [(0, false, 1), (1, false, 1), (2, false, 1), (3, true, 3), (6, true, 9), (15, false, 1), (16, false, 1), (17, false, 1), (18, false, 1), (19, false, 1)] 20,
  .slice 2 1 8,
  .slice 5 1 1,
  .array 2 false 1,
  .array 2 false 1,
  .slice 70 3 48,
  .struct [(0, false, 1), (1, false, 1), (2, false, 1), (3, true, 20), (23, false, 1), (24, false, 1), (25, false, 1), (26, false, 1), (27, false, 1), (28, false, 1), (29, false, 1), (30, true, 2), (32, true, 2), (34, false, 1), (35, false, 1)] 36,
  .struct [(0, false, 1), (1, false, 1), (2, false, 1), (3, true, 20), (23, false, 1), (24, false, 1), (25, false, 1), (26, false, 1), (27, false, 1), (28, false, 1), (29, false, 1), (30, true, 2), (32, true, 2), (34, false, 1), (35, false, 1)] 36,
  .one,
  .one,
  .slice 41 36 464,
  .struct [(0, false, 1)] 1,
  .struct [(0, false, 1)] 1,
  .struct [(0, true, 1), (1, false, 1)] 2,
  .struct [(0, true, 1), (1, false, 1)] 2,
  .ptr,
  .bad,
  .one,
  .int .i64,
  .bad,
  .one,
  .one,
  .one,
  .one,
  .bad,
  .one,
  .one,
  .one,
  .bad,
  .one,
  .bad,
  .one,
  .one,
  .one,
  .one,
  .struct [(0, false, 1), (1, false, 1), (2, false, 1)] 3,
  .struct [(0, false, 1), (1, false, 1), (2, false, 1)] 3,
  .bad,
  .one,
  .one,
  .one,
  .struct [(0, false, 1), (1, false, 1), (2, false, 1), (3, true, 20), (23, false, 1), (24, false, 1), (25, false, 1), (26, false, 1), (27, false, 1), (28, false, 1), (29, false, 1), (30, true, 2), (32, true, 2), (34, false, 1), (35, false, 1)] 36,
  .one,
  .one,
  .one,
  .one,
  .one,
  .bad,
  .one,
  .one,
  .struct [(0, false, 1), (1, false, 1)] 2,
  .struct [(0, false, 1), (1, false, 1)] 2,
  .struct [(0, false, 1), (1, false, 1), (2, false, 1)] 3,
  .struct [(0, false, 1), (1, false, 1), (2, false, 1)] 3,
  .bad,
  .one,
  .one,
  .one,
  .bad,
  .one,
  .one,
  .one,
  .one,
  .one,
  .one,
  .one,
  .one,
  .one,
  .struct [(0, false, 1)] 1,
  .struct [(0, false, 1)] 1,
  .one,
  .struct [(0, false, 1), (1, false, 1), (2, false, 1), (3, false, 1)] 4,
  .struct [(0, false, 1), (1, false, 1), (2, false, 1), (3, false, 1)] 4,
  .struct [(0, false, 1), (1, false, 1), (2, false, 1), (3, false, 1)] 4,
  .struct [(0, false, 1), (1, false, 1), (2, false, 1), (3, false, 1)] 4,
  .one,
  .one,
  .one,
  .one,
  .one,
  .one,
  .bad,
  .one,
  .bad,
  .one,
  .one,
  .ptr,
  .ptr,
  .one,
  .one,
  .one,
  .one,
  .one,
  .int .u64,
  .bad,
  .one,
  .one,
  .one,
  .bad,
  .one,
  .one,
  .one,
  .one,
  .one,
  .one,
  .one,
  .one,
  .one,
  .struct [(0, false, 1), (1, false, 1)] 2,
  .struct [(0, false, 1), (1, false, 1)] 2,
  .array 13 true 2,
  .array 3 false 1,
  .one,
  .bad,
  .one,
  .slice 3 1 8,
  .one,
  .one,
  .one,
  .one,
  .one,
  .one,
  .one,
  .one,
  .one,
  .one,
  .one,
  .bad,
  .one,
  .struct [(0, false, 1), (1, false, 1), (2, false, 1)] 3,
  .struct [(0, false, 1), (1, false, 1), (2, false, 1)] 3,
  .bad,
  .one,
  .one,
  .one,
  .bad,
  .one,
  .one,
  .one,
  .bad,
  .one,
  .one,
  .one,
  .one,
  .ptr,
  .struct [(0, true, 1), (1, true, 36), (37, false, 1), (38, true, 3)] 41,
  .struct [(0, true, 1), (1, true, 36), (37, false, 1), (38, true, 3)] 41,
  .one,
  .array 3 false 1,
  .struct [(0, false, 1), (1, false, 1), (2, false, 1), (3, false, 1), (4, false, 1), (5, true, 3)] 8,
  .struct [(0, false, 1), (1, false, 1), (2, false, 1), (3, false, 1), (4, false, 1), (5, true, 3)] 8,
  .bad,
  .one,
  .one,
  .one,
  .bad,
  .one,
  .one,
  .one,
  .one,
  .one,
  .one,
  .bad,
  .one,
  .one,
  .one,
  .one,
  .one,
  .one,
  .bad,
  .one,
  .bad,
  .one,
  .one,
  .one,
  .bad,
  .one,
  .one,
  .bad,
  .one,
  .one,
  .one,
  .one,
  .bad,
  .one,
  .one,
  .one,
  .one,
  .one,
  .one,
  .bad,
  .one,
  .one,
  .one,
  .one,
  .bad,
  .one,
  .bad,
  .one,
  .one,
  .one,
  .bad,
  .one,
  .bad,
  .one,
  .one,
  .one,
  .one,
  .one,
  .one,
  .bad,
  .one,
  .bad,
  .one,
  .one,
  .one,
  .one,
  .one,
  .bad,
  .one,
  .one,
  .one,
  .one,
  .one,
  .one,
  .one,
  .one,
  .bad,
  .bad,
  .bad,
  .bad,
  .bad,
  .one,
  .int .u32,
  .bad,
  .bad,
  .bad,
  .ptr,
  .bad,
  .bad,
  .bad,
  .bad,
  .bad]
def zrL : List (List SV) := [
  [],
  [.val .nilFunc],
  [.int .i64 0],
  [.int .i64 0],
  [.bool false],
  [.int .u8 0],
  [],
  [],
  [],
  [.str []],
  [],
  [],
  [.int .u64 0],
  [],
  [],
  [],
  [],
  [],
  [],
  [],
  [],
  [.int .i32 0],
  [.int .u64 0],
  [nilS],
  [nilS],
  [nilS],
  GProgram.c default,
  GProgram.c default,
  A8i64.c default,
  GCPU.c default,
  GCPU.c default,
  [nilS],
  [nilS],
  GProcess.c default,
  GProcess.c default,
  [nilS],
  [nilS],
  A2Lu8.c default,
  A2i64.c default,
  [nilS],
  GObject.c default,
  GObject.c default,
  [.val .nilFunc],
  [.val .nilFunc],
  [nilS],
  GStore.c default,
  GStore.c default,
  GKernel.c default,
  GKernel.c default,
  [.val (.pointer none)],
  [],
  [.val .nilFunc],
  [.int .i64 0],
  [],
  [.val .nilFunc],
  [.val .nilFunc],
  [.val .nilFunc],
  [.val .nilFunc],
  [],
  [.val .nilFunc],
  [.val .nilFunc],
  [.val .nilFunc],
  [],
  [.val .nilFunc],
  [],
  [.val .nilFunc],
  [.val .nilFunc],
  [.val .nilFunc],
  [.val .nilFunc],
  GName.c default,
  GName.c default,
  [],
  [.val .nilFunc],
  [.val .nilFunc],
  [.val .nilFunc],
  GObject.c default,
  [.val .nilFunc],
  [.val .nilFunc],
  [.val .nilFunc],
  [.val .nilFunc],
  [.val .nilFunc],
  [],
  [.val .nilFunc],
  [.val .nilFunc],
  GPageRef.c default,
  GPageRef.c default,
  GAllocator.c default,
  GAllocator.c default,
  [],
  [.val .nilFunc],
  [.val .nilFunc],
  [.val .nilFunc],
  [],
  [.val .nilFunc],
  [.val .nilFunc],
  [.val .nilFunc],
  [.val .nilFunc],
  [.val .nilFunc],
  [.val .nilFunc],
  [.val .nilFunc],
  [.val .nilFunc],
  [.val .nilFunc],
  GDice.c default,
  GDice.c default,
  [.val .nilFunc],
  GInstr.c default,
  GInstr.c default,
  GSlot.c default,
  GSlot.c default,
  [.val .nilFunc],
  [.val .nilFunc],
  [.val .nilFunc],
  [.val .nilFunc],
  [.val .nilFunc],
  [.val .nilFunc],
  [],
  [.val .nilFunc],
  [],
  [.val .nilFunc],
  [.val .nilFunc],
  [.val (.pointer none)],
  [.val (.pointer none)],
  [.val .nilFunc],
  [.val .nilFunc],
  [.val .nilFunc],
  [.val .nilFunc],
  [.val .nilFunc],
  [.int .u64 0],
  [],
  [.val .nilFunc],
  [.val .nilFunc],
  [.val .nilFunc],
  [],
  [.val .nilFunc],
  [.val .nilFunc],
  [.val .nilFunc],
  [.val .nilFunc],
  [.val .nilFunc],
  [.val .nilFunc],
  [.val .nilFunc],
  [.val .nilFunc],
  [.val .nilFunc],
  GForm.c default,
  GForm.c default,
  A13GForm.c default,
  A3i64.c default,
  [.val .nilFunc],
  [],
  [.val .nilFunc],
  [nilS],
  [.val .nilFunc],
  [.val .nilFunc],
  [.val .nilFunc],
  [.val .nilFunc],
  [.val .nilFunc],
  [.val .nilFunc],
  [.val .nilFunc],
  [.val .nilFunc],
  [.val .nilFunc],
  [.val .nilFunc],
  [.val .nilFunc],
  [],
  [.val .nilFunc],
  GOutcome.c default,
  GOutcome.c default,
  [],
  [.val .nilFunc],
  [.val .nilFunc],
  [.val .nilFunc],
  [],
  [.val .nilFunc],
  [.val .nilFunc],
  [.val .nilFunc],
  [],
  [.val .nilFunc],
  [.val .nilFunc],
  [.val .nilFunc],
  [.val .nilFunc],
  [.val (.pointer none)],
  GStep.c default,
  GStep.c default,
  [.val .nilFunc],
  A3i64.c default,
  GAction.c default,
  GAction.c default,
  [],
  [.val .nilFunc],
  [.val .nilFunc],
  [.val .nilFunc],
  [],
  [.val .nilFunc],
  [.val .nilFunc],
  [.val .nilFunc],
  [.val .nilFunc],
  [.val .nilFunc],
  [.val .nilFunc],
  [],
  [.val .nilFunc],
  [.val .nilFunc],
  [.val .nilFunc],
  [.val .nilFunc],
  [.val .nilFunc],
  [.val .nilFunc],
  [],
  [.val .nilFunc],
  [],
  [.val .nilFunc],
  [.val .nilFunc],
  [.val .nilFunc],
  [],
  [.val .nilFunc],
  [.val .nilFunc],
  [],
  [.val .nilFunc],
  [.val .nilFunc],
  [.val .nilFunc],
  [.val .nilFunc],
  [],
  [.val .nilFunc],
  [.val .nilFunc],
  [.val .nilFunc],
  [.val .nilFunc],
  [.val .nilFunc],
  [.val .nilFunc],
  [],
  [.val .nilFunc],
  [.val .nilFunc],
  [.val .nilFunc],
  [.val .nilFunc],
  [],
  [.val .nilFunc],
  [],
  [.val .nilFunc],
  [.val .nilFunc],
  [.val .nilFunc],
  [],
  [.val .nilFunc],
  [],
  [.val .nilFunc],
  [.val .nilFunc],
  [.val .nilFunc],
  [.val .nilFunc],
  [.val .nilFunc],
  [.val .nilFunc],
  [],
  [.val .nilFunc],
  [],
  [.val .nilFunc],
  [.val .nilFunc],
  [.val .nilFunc],
  [.val .nilFunc],
  [.val .nilFunc],
  [],
  [.val .nilFunc],
  [.val .nilFunc],
  [.val .nilFunc],
  [.val .nilFunc],
  [.val .nilFunc],
  [.val .nilFunc],
  [.val .nilFunc],
  [.val .nilFunc],
  [],
  [],
  [],
  [],
  [],
  [.val .nilFunc],
  [.int .u32 0],
  [],
  [],
  [],
  [.val (.pointer none)],
  [],
  [],
  [],
  [],
  []]
def lvL : List (List Nat) := [
  [],
  [],
  [],
  [],
  [],
  [],
  [],
  [],
  [],
  [],
  [],
  [],
  [],
  [],
  [],
  [],
  [],
  [],
  [],
  [],
  [],
  [],
  [],
  [],
  [],
  [],
  [],
  [],
  [1, 1, 1, 1, 1, 1, 1, 1],
  [1, 1, 1, 1, 1, 1, 1, 1, 1],
  [1, 1, 1, 1, 1, 1, 1, 1, 1],
  [],
  [],
  [],
  [],
  [],
  [],
  [],
  [1, 1],
  [],
  [],
  [],
  [],
  [],
  [],
  [],
  [],
  [],
  [],
  [],
  [],
  [],
  [],
  [],
  [],
  [],
  [],
  [],
  [],
  [],
  [],
  [],
  [],
  [],
  [],
  [],
  [],
  [],
  [],
  [],
  [],
  [],
  [],
  [],
  [],
  [],
  [],
  [],
  [],
  [],
  [],
  [],
  [],
  [],
  [1, 0],
  [1, 0],
  [1, 1, 1],
  [1, 1, 1],
  [],
  [],
  [],
  [],
  [],
  [],
  [],
  [],
  [],
  [],
  [],
  [],
  [],
  [],
  [],
  [],
  [],
  [1, 1, 1, 1],
  [1, 1, 1, 1],
  [1, 1, 1, 1],
  [1, 1, 1, 1],
  [],
  [],
  [],
  [],
  [],
  [],
  [],
  [],
  [],
  [],
  [],
  [],
  [],
  [],
  [],
  [],
  [],
  [],
  [],
  [],
  [],
  [],
  [],
  [],
  [],
  [],
  [],
  [],
  [],
  [],
  [],
  [],
  [],
  [2, 2],
  [2, 2],
  [2, 2, 2, 2, 2, 2, 2, 2, 2, 2, 2, 2, 2, 2, 2, 2, 2, 2, 2, 2, 2, 2, 2, 2, 2, 2],
  [1, 1, 1],
  [],
  [],
  [],
  [],
  [],
  [],
  [],
  [],
  [],
  [],
  [],
  [],
  [],
  [],
  [],
  [],
  [],
  [0, 1, 0],
  [0, 1, 0],
  [],
  [],
  [],
  [],
  [],
  [],
  [],
  [],
  [],
  [],
  [],
  [],
  [],
  [],
  [],
  [],
  [],
  [1, 1, 1],
  [1, 1, 1, 1, 1, 1, 1, 1],
  [1, 1, 1, 1, 1, 1, 1, 1],
  [],
  [],
  [],
  [],
  [],
  [],
  [],
  [],
  [],
  [],
  [],
  [],
  [],
  [],
  [],
  [],
  [],
  [],
  [],
  [],
  [],
  [],
  [],
  [],
  [],
  [],
  [],
  [],
  [],
  [],
  [],
  [],
  [],
  [],
  [],
  [],
  [],
  [],
  [],
  [],
  [],
  [],
  [],
  [],
  [],
  [],
  [],
  [],
  [],
  [],
  [],
  [],
  [],
  [],
  [],
  [],
  [],
  [],
  [],
  [],
  [],
  [],
  [],
  [],
  [],
  [],
  [],
  [],
  [],
  [],
  [],
  [],
  [],
  [],
  [],
  [],
  [],
  [],
  [],
  [],
  [],
  [],
  [],
  [],
  [],
  [],
  [],
  [],
  [],
  [],
  [],
  []]
def E : Env := envOf tyL zrL lvL
theorem E_kp : E.kp = false := rfl
attribute [push_cast] E_kp
set_option maxRecDepth 100000 in
theorem E_ok : EnvOK Tryz.prog E := envOf_ok (by kernel_rfl)
theorem ty_1 : E.ty 1 = .one := rfl
theorem zr_1 : E.zr 1 = [.val .nilFunc] := rfl
theorem ty_2 : E.ty 2 = .int .i64 := rfl
theorem zr_2 : E.zr 2 = [.int .i64 0] := rfl
theorem ty_3 : E.ty 3 = .int .i64 := rfl
theorem zr_3 : E.zr 3 = [.int .i64 0] := rfl
theorem ty_4 : E.ty 4 = .bool := rfl
theorem zr_4 : E.zr 4 = [.bool false] := rfl
theorem ty_5 : E.ty 5 = .int .u8 := rfl
theorem zr_5 : E.zr 5 = [.int .u8 0] := rfl
theorem ty_9 : E.ty 9 = .string := rfl
theorem zr_9 : E.zr 9 = [.str []] := rfl
theorem ty_12 : E.ty 12 = .int .u64 := rfl
theorem zr_12 : E.zr 12 = [.int .u64 0] := rfl
theorem ty_21 : E.ty 21 = .int .i32 := rfl
theorem zr_21 : E.zr 21 = [.int .i32 0] := rfl
theorem ty_22 : E.ty 22 = .int .u64 := rfl
theorem zr_22 : E.zr 22 = [.int .u64 0] := rfl
theorem ty_23 : E.ty 23 = .slice 22 1 8 := rfl
theorem zr_23 : E.zr 23 = [nilS] := rfl
theorem ty_24 : E.ty 24 = .slice 106 4 32 := rfl
theorem zr_24 : E.zr 24 = [nilS] := rfl
theorem ty_25 : E.ty 25 = .slice 9 1 16 := rfl
theorem zr_25 : E.zr 25 = [nilS] := rfl
theorem ty_26 : E.ty 26 = .struct [(0, false, 1), (1, false, 1), (2, false, 1)] 3 := rfl
theorem zr_26 : E.zr 26 = GProgram.c default := rfl
theorem lv_26 : E.lv 26 = [] := rfl
theorem ty_27 : E.ty 27 = .struct [(0, false, 1), (1, false, 1), (2, false, 1)] 3 := rfl
theorem zr_27 : E.zr 27 = GProgram.c default := rfl
theorem lv_27 : E.lv 27 = [] := rfl
theorem ty_28 : E.ty 28 = .array 8 false 1 := rfl
theorem zr_28 : E.zr 28 = A8i64.c default := rfl
theorem lv_28 : E.lv 28 = [1, 1, 1, 1, 1, 1, 1, 1] := rfl
theorem ty_29 : E.ty 29 = .struct [(0, false, 1), (1, true, 8)] 9 := rfl
theorem zr_29 : E.zr 29 = GCPU.c default := rfl
theorem lv_29 : E.lv 29 = [1, 1, 1, 1, 1, 1, 1, 1, 1] := rfl
theorem ty_30 : E.ty 30 = .struct [(0, false, 1), (1, true, 8)] 9 := rfl
theorem zr_30 : E.zr 30 = GCPU.c default := rfl
theorem lv_30 : E.lv 30 = [1, 1, 1, 1, 1, 1, 1, 1, 1] := rfl
theorem ty_31 : E.ty 31 = .slice 85 2 16 := rfl
theorem zr_31 : E.zr 31 = [nilS] := rfl
theorem ty_32 : E.ty 32 = .slice 108 4 32 := rfl
theorem zr_32 : E.zr 32 = [nilS] := rfl
theorem ty_33 : E.ty 33 = .struct [(0, false, 1), (1, false, 1), (2, false, 1), (3, true, 3), (6, true, 9), (15, false, 1), (16, false, 1), (17, false, 1), (18, false, 1), (19, false, 1)] 20 := rfl
theorem zr_33 : E.zr 33 = GProcess.c default := rfl
theorem lv_33 : E.lv 33 = [] := rfl
theorem ty_34 : E.ty 34 = .struct [(0, false, 1), (1, false, 1), (2, false, 1), (3, true, 3), (6, true, 9), (15, false, 1), (16, false, 1), (17, false, 1), (18, false, 1), (19, false, 1)] 20 := rfl
theorem zr_34 : E.zr 34 = GProcess.c default := rfl
theorem lv_34 : E.lv 34 = [] := rfl
theorem ty_35 : E.ty 35 = .slice 2 1 8 := rfl
theorem zr_35 : E.zr 35 = [nilS] := rfl
theorem ty_36 : E.ty 36 = .slice 5 1 1 := rfl
theorem zr_36 : E.zr 36 = [nilS] := rfl
theorem ty_37 : E.ty 37 = .array 2 false 1 := rfl
theorem zr_37 : E.zr 37 = A2Lu8.c default := rfl
theorem lv_37 : E.lv 37 = [] := rfl
theorem ty_38 : E.ty 38 = .array 2 false 1 := rfl
theorem zr_38 : E.zr 38 = A2i64.c default := rfl
theorem lv_38 : E.lv 38 = [1, 1] := rfl
theorem ty_39 : E.ty 39 = .slice 70 3 48 := rfl
theorem zr_39 : E.zr 39 = [nilS] := rfl
theorem ty_40 : E.ty 40 = .struct [(0, false, 1), (1, false, 1), (2, false, 1), (3, true, 20), (23, false, 1), (24, false, 1), (25, false, 1), (26, false, 1), (27, false, 1), (28, false, 1), (29, false, 1), (30, true, 2), (32, true, 2), (34, false, 1), (35, false, 1)] 36 := rfl
theorem zr_40 : E.zr 40 = GObject.c default := rfl
theorem lv_40 : E.lv 40 = [] := rfl
theorem ty_41 : E.ty 41 = .struct [(0, false, 1), (1, false, 1), (2, false, 1), (3, true, 20), (23, false, 1), (24, false, 1), (25, false, 1), (26, false, 1), (27, false, 1), (28, false, 1), (29, false, 1), (30, true, 2), (32, true, 2), (34, false, 1), (35, false, 1)] 36 := rfl
theorem zr_41 : E.zr 41 = GObject.c default := rfl
theorem lv_41 : E.lv 41 = [] := rfl
theorem ty_42 : E.ty 42 = .one := rfl
theorem zr_42 : E.zr 42 = [.val .nilFunc] := rfl
theorem ty_43 : E.ty 43 = .one := rfl
theorem zr_43 : E.zr 43 = [.val .nilFunc] := rfl
theorem ty_44 : E.ty 44 = .slice 41 36 464 := rfl
theorem zr_44 : E.zr 44 = [nilS] := rfl
theorem ty_45 : E.ty 45 = .struct [(0, false, 1)] 1 := rfl
theorem zr_45 : E.zr 45 = GStore.c default := rfl
theorem lv_45 : E.lv 45 = [] := rfl
theorem ty_46 : E.ty 46 = .struct [(0, false, 1)] 1 := rfl
theorem zr_46 : E.zr 46 = GStore.c default := rfl
theorem lv_46 : E.lv 46 = [] := rfl
theorem ty_47 : E.ty 47 = .struct [(0, true, 1), (1, false, 1)] 2 := rfl
theorem zr_47 : E.zr 47 = GKernel.c default := rfl
theorem lv_47 : E.lv 47 = [] := rfl
theorem ty_48 : E.ty 48 = .struct [(0, true, 1), (1, false, 1)] 2 := rfl
theorem zr_48 : E.zr 48 = GKernel.c default := rfl
theorem lv_48 : E.lv 48 = [] := rfl
theorem ty_49 : E.ty 49 = .ptr := rfl
theorem zr_49 : E.zr 49 = [.val (.pointer none)] := rfl
theorem ty_51 : E.ty 51 = .one := rfl
theorem zr_51 : E.zr 51 = [.val .nilFunc] := rfl
theorem ty_52 : E.ty 52 = .int .i64 := rfl
theorem zr_52 : E.zr 52 = [.int .i64 0] := rfl
theorem ty_54 : E.ty 54 = .one := rfl
theorem zr_54 : E.zr 54 = [.val .nilFunc] := rfl
theorem ty_55 : E.ty 55 = .one := rfl
theorem zr_55 : E.zr 55 = [.val .nilFunc] := rfl
theorem ty_56 : E.ty 56 = .one := rfl
theorem zr_56 : E.zr 56 = [.val .nilFunc] := rfl
theorem ty_57 : E.ty 57 = .one := rfl
theorem zr_57 : E.zr 57 = [.val .nilFunc] := rfl
theorem ty_59 : E.ty 59 = .one := rfl
theorem zr_59 : E.zr 59 = [.val .nilFunc] := rfl
theorem ty_60 : E.ty 60 = .one := rfl
theorem zr_60 : E.zr 60 = [.val .nilFunc] := rfl
theorem ty_61 : E.ty 61 = .one := rfl
theorem zr_61 : E.zr 61 = [.val .nilFunc] := rfl
theorem ty_63 : E.ty 63 = .one := rfl
theorem zr_63 : E.zr 63 = [.val .nilFunc] := rfl
theorem ty_65 : E.ty 65 = .one := rfl
theorem zr_65 : E.zr 65 = [.val .nilFunc] := rfl
theorem ty_66 : E.ty 66 = .one := rfl
theorem zr_66 : E.zr 66 = [.val .nilFunc] := rfl
theorem ty_67 : E.ty 67 = .one := rfl
theorem zr_67 : E.zr 67 = [.val .nilFunc] := rfl
theorem ty_68 : E.ty 68 = .one := rfl
theorem zr_68 : E.zr 68 = [.val .nilFunc] := rfl
theorem ty_69 : E.ty 69 = .struct [(0, false, 1), (1, false, 1), (2, false, 1)] 3 := rfl
theorem zr_69 : E.zr 69 = GName.c default := rfl
theorem lv_69 : E.lv 69 = [] := rfl
theorem ty_70 : E.ty 70 = .struct [(0, false, 1), (1, false, 1), (2, false, 1)] 3 := rfl
theorem zr_70 : E.zr 70 = GName.c default := rfl
theorem lv_70 : E.lv 70 = [] := rfl
theorem ty_72 : E.ty 72 = .one := rfl
theorem zr_72 : E.zr 72 = [.val .nilFunc] := rfl
theorem ty_73 : E.ty 73 = .one := rfl
theorem zr_73 : E.zr 73 = [.val .nilFunc] := rfl
theorem ty_74 : E.ty 74 = .one := rfl
theorem zr_74 : E.zr 74 = [.val .nilFunc] := rfl
theorem ty_75 : E.ty 75 = .struct [(0, false, 1), (1, false, 1), (2, false, 1), (3, true, 20), (23, false, 1), (24, false, 1), (25, false, 1), (26, false, 1), (27, false, 1), (28, false, 1), (29, false, 1), (30, true, 2), (32, true, 2), (34, false, 1), (35, false, 1)] 36 := rfl
theorem zr_75 : E.zr 75 = GObject.c default := rfl
theorem lv_75 : E.lv 75 = [] := rfl
theorem ty_76 : E.ty 76 = .one := rfl
theorem zr_76 : E.zr 76 = [.val .nilFunc] := rfl
theorem ty_77 : E.ty 77 = .one := rfl
theorem zr_77 : E.zr 77 = [.val .nilFunc] := rfl
theorem ty_78 : E.ty 78 = .one := rfl
theorem zr_78 : E.zr 78 = [.val .nilFunc] := rfl
theorem ty_79 : E.ty 79 = .one := rfl
theorem zr_79 : E.zr 79 = [.val .nilFunc] := rfl
theorem ty_80 : E.ty 80 = .one := rfl
theorem zr_80 : E.zr 80 = [.val .nilFunc] := rfl
theorem ty_82 : E.ty 82 = .one := rfl
theorem zr_82 : E.zr 82 = [.val .nilFunc] := rfl
theorem ty_83 : E.ty 83 = .one := rfl
theorem zr_83 : E.zr 83 = [.val .nilFunc] := rfl
theorem ty_84 : E.ty 84 = .struct [(0, false, 1), (1, false, 1)] 2 := rfl
theorem zr_84 : E.zr 84 = GPageRef.c default := rfl
theorem lv_84 : E.lv 84 = [1, 0] := rfl
theorem ty_85 : E.ty 85 = .struct [(0, false, 1), (1, false, 1)] 2 := rfl
theorem zr_85 : E.zr 85 = GPageRef.c default := rfl
theorem lv_85 : E.lv 85 = [1, 0] := rfl
theorem ty_86 : E.ty 86 = .struct [(0, false, 1), (1, false, 1), (2, false, 1)] 3 := rfl
theorem zr_86 : E.zr 86 = GAllocator.c default := rfl
theorem lv_86 : E.lv 86 = [1, 1, 1] := rfl
theorem ty_87 : E.ty 87 = .struct [(0, false, 1), (1, false, 1), (2, false, 1)] 3 := rfl
theorem zr_87 : E.zr 87 = GAllocator.c default := rfl
theorem lv_87 : E.lv 87 = [1, 1, 1] := rfl
theorem ty_89 : E.ty 89 = .one := rfl
theorem zr_89 : E.zr 89 = [.val .nilFunc] := rfl
theorem ty_90 : E.ty 90 = .one := rfl
theorem zr_90 : E.zr 90 = [.val .nilFunc] := rfl
theorem ty_91 : E.ty 91 = .one := rfl
theorem zr_91 : E.zr 91 = [.val .nilFunc] := rfl
theorem ty_93 : E.ty 93 = .one := rfl
theorem zr_93 : E.zr 93 = [.val .nilFunc] := rfl
theorem ty_94 : E.ty 94 = .one := rfl
theorem zr_94 : E.zr 94 = [.val .nilFunc] := rfl
theorem ty_95 : E.ty 95 = .one := rfl
theorem zr_95 : E.zr 95 = [.val .nilFunc] := rfl
theorem ty_96 : E.ty 96 = .one := rfl
theorem zr_96 : E.zr 96 = [.val .nilFunc] := rfl
theorem ty_97 : E.ty 97 = .one := rfl
theorem zr_97 : E.zr 97 = [.val .nilFunc] := rfl
theorem ty_98 : E.ty 98 = .one := rfl
theorem zr_98 : E.zr 98 = [.val .nilFunc] := rfl
theorem ty_99 : E.ty 99 = .one := rfl
theorem zr_99 : E.zr 99 = [.val .nilFunc] := rfl
theorem ty_100 : E.ty 100 = .one := rfl
theorem zr_100 : E.zr 100 = [.val .nilFunc] := rfl
theorem ty_101 : E.ty 101 = .one := rfl
theorem zr_101 : E.zr 101 = [.val .nilFunc] := rfl
theorem ty_102 : E.ty 102 = .struct [(0, false, 1)] 1 := rfl
theorem zr_102 : E.zr 102 = GDice.c default := rfl
theorem lv_102 : E.lv 102 = [] := rfl
theorem ty_103 : E.ty 103 = .struct [(0, false, 1)] 1 := rfl
theorem zr_103 : E.zr 103 = GDice.c default := rfl
theorem lv_103 : E.lv 103 = [] := rfl
theorem ty_104 : E.ty 104 = .one := rfl
theorem zr_104 : E.zr 104 = [.val .nilFunc] := rfl
theorem ty_105 : E.ty 105 = .struct [(0, false, 1), (1, false, 1), (2, false, 1), (3, false, 1)] 4 := rfl
theorem zr_105 : E.zr 105 = GInstr.c default := rfl
theorem lv_105 : E.lv 105 = [1, 1, 1, 1] := rfl
theorem ty_106 : E.ty 106 = .struct [(0, false, 1), (1, false, 1), (2, false, 1), (3, false, 1)] 4 := rfl
theorem zr_106 : E.zr 106 = GInstr.c default := rfl
theorem lv_106 : E.lv 106 = [1, 1, 1, 1] := rfl
theorem ty_107 : E.ty 107 = .struct [(0, false, 1), (1, false, 1), (2, false, 1), (3, false, 1)] 4 := rfl
theorem zr_107 : E.zr 107 = GSlot.c default := rfl
theorem lv_107 : E.lv 107 = [1, 1, 1, 1] := rfl
theorem ty_108 : E.ty 108 = .struct [(0, false, 1), (1, false, 1), (2, false, 1), (3, false, 1)] 4 := rfl
theorem zr_108 : E.zr 108 = GSlot.c default := rfl
theorem lv_108 : E.lv 108 = [1, 1, 1, 1] := rfl
theorem ty_109 : E.ty 109 = .one := rfl
theorem zr_109 : E.zr 109 = [.val .nilFunc] := rfl
theorem ty_110 : E.ty 110 = .one := rfl
theorem zr_110 : E.zr 110 = [.val .nilFunc] := rfl
theorem ty_111 : E.ty 111 = .one := rfl
theorem zr_111 : E.zr 111 = [.val .nilFunc] := rfl
theorem ty_112 : E.ty 112 = .one := rfl
theorem zr_112 : E.zr 112 = [.val .nilFunc] := rfl
theorem ty_113 : E.ty 113 = .one := rfl
theorem zr_113 : E.zr 113 = [.val .nilFunc] := rfl
theorem ty_114 : E.ty 114 = .one := rfl
theorem zr_114 : E.zr 114 = [.val .nilFunc] := rfl
theorem ty_116 : E.ty 116 = .one := rfl
theorem zr_116 : E.zr 116 = [.val .nilFunc] := rfl
theorem ty_118 : E.ty 118 = .one := rfl
theorem zr_118 : E.zr 118 = [.val .nilFunc] := rfl
theorem ty_119 : E.ty 119 = .one := rfl
theorem zr_119 : E.zr 119 = [.val .nilFunc] := rfl
theorem ty_120 : E.ty 120 = .ptr := rfl
theorem zr_120 : E.zr 120 = [.val (.pointer none)] := rfl
theorem ty_121 : E.ty 121 = .ptr := rfl
theorem zr_121 : E.zr 121 = [.val (.pointer none)] := rfl
theorem ty_122 : E.ty 122 = .one := rfl
theorem zr_122 : E.zr 122 = [.val .nilFunc] := rfl
theorem ty_123 : E.ty 123 = .one := rfl
theorem zr_123 : E.zr 123 = [.val .nilFunc] := rfl
theorem ty_124 : E.ty 124 = .one := rfl
theorem zr_124 : E.zr 124 = [.val .nilFunc] := rfl
theorem ty_125 : E.ty 125 = .one := rfl
theorem zr_125 : E.zr 125 = [.val .nilFunc] := rfl
theorem ty_126 : E.ty 126 = .one := rfl
theorem zr_126 : E.zr 126 = [.val .nilFunc] := rfl
theorem ty_127 : E.ty 127 = .int .u64 := rfl
theorem zr_127 : E.zr 127 = [.int .u64 0] := rfl
theorem ty_129 : E.ty 129 = .one := rfl
theorem zr_129 : E.zr 129 = [.val .nilFunc] := rfl
theorem ty_130 : E.ty 130 = .one := rfl
theorem zr_130 : E.zr 130 = [.val .nilFunc] := rfl
theorem ty_131 : E.ty 131 = .one := rfl
theorem zr_131 : E.zr 131 = [.val .nilFunc] := rfl
theorem ty_133 : E.ty 133 = .one := rfl
theorem zr_133 : E.zr 133 = [.val .nilFunc] := rfl
theorem ty_134 : E.ty 134 = .one := rfl
theorem zr_134 : E.zr 134 = [.val .nilFunc] := rfl
theorem ty_135 : E.ty 135 = .one := rfl
theorem zr_135 : E.zr 135 = [.val .nilFunc] := rfl
theorem ty_136 : E.ty 136 = .one := rfl
theorem zr_136 : E.zr 136 = [.val .nilFunc] := rfl
theorem ty_137 : E.ty 137 = .one := rfl
theorem zr_137 : E.zr 137 = [.val .nilFunc] := rfl
theorem ty_138 : E.ty 138 = .one := rfl
theorem zr_138 : E.zr 138 = [.val .nilFunc] := rfl
theorem ty_139 : E.ty 139 = .one := rfl
theorem zr_139 : E.zr 139 = [.val .nilFunc] := rfl
theorem ty_140 : E.ty 140 = .one := rfl
theorem zr_140 : E.zr 140 = [.val .nilFunc] := rfl
theorem ty_141 : E.ty 141 = .one := rfl
theorem zr_141 : E.zr 141 = [.val .nilFunc] := rfl
theorem ty_142 : E.ty 142 = .struct [(0, false, 1), (1, false, 1)] 2 := rfl
theorem zr_142 : E.zr 142 = GForm.c default := rfl
theorem lv_142 : E.lv 142 = [2, 2] := rfl
theorem ty_143 : E.ty 143 = .struct [(0, false, 1), (1, false, 1)] 2 := rfl
theorem zr_143 : E.zr 143 = GForm.c default := rfl
theorem lv_143 : E.lv 143 = [2, 2] := rfl
theorem ty_144 : E.ty 144 = .array 13 true 2 := rfl
theorem zr_144 : E.zr 144 = A13GForm.c default := rfl
theorem lv_144 : E.lv 144 = [2, 2, 2, 2, 2, 2, 2, 2, 2, 2, 2, 2, 2, 2, 2, 2, 2, 2, 2, 2, 2, 2, 2, 2, 2, 2] := rfl
theorem ty_145 : E.ty 145 = .array 3 false 1 := rfl
theorem zr_145 : E.zr 145 = A3i64.c default := rfl
theorem lv_145 : E.lv 145 = [1, 1, 1] := rfl
theorem ty_146 : E.ty 146 = .one := rfl
theorem zr_146 : E.zr 146 = [.val .nilFunc] := rfl
theorem ty_148 : E.ty 148 = .one := rfl
theorem zr_148 : E.zr 148 = [.val .nilFunc] := rfl
theorem ty_149 : E.ty 149 = .slice 3 1 8 := rfl
theorem zr_149 : E.zr 149 = [nilS] := rfl
theorem ty_150 : E.ty 150 = .one := rfl
theorem zr_150 : E.zr 150 = [.val .nilFunc] := rfl
theorem ty_151 : E.ty 151 = .one := rfl
theorem zr_151 : E.zr 151 = [.val .nilFunc] := rfl
theorem ty_152 : E.ty 152 = .one := rfl
theorem zr_152 : E.zr 152 = [.val .nilFunc] := rfl
theorem ty_153 : E.ty 153 = .one := rfl
theorem zr_153 : E.zr 153 = [.val .nilFunc] := rfl
theorem ty_154 : E.ty 154 = .one := rfl
theorem zr_154 : E.zr 154 = [.val .nilFunc] := rfl
theorem ty_155 : E.ty 155 = .one := rfl
theorem zr_155 : E.zr 155 = [.val .nilFunc] := rfl
theorem ty_156 : E.ty 156 = .one := rfl
theorem zr_156 : E.zr 156 = [.val .nilFunc] := rfl
theorem ty_157 : E.ty 157 = .one := rfl
theorem zr_157 : E.zr 157 = [.val .nilFunc] := rfl
theorem ty_158 : E.ty 158 = .one := rfl
theorem zr_158 : E.zr 158 = [.val .nilFunc] := rfl
theorem ty_159 : E.ty 159 = .one := rfl
theorem zr_159 : E.zr 159 = [.val .nilFunc] := rfl
theorem ty_160 : E.ty 160 = .one := rfl
theorem zr_160 : E.zr 160 = [.val .nilFunc] := rfl
theorem ty_162 : E.ty 162 = .one := rfl
theorem zr_162 : E.zr 162 = [.val .nilFunc] := rfl
theorem ty_163 : E.ty 163 = .struct [(0, false, 1), (1, false, 1), (2, false, 1)] 3 := rfl
theorem zr_163 : E.zr 163 = GOutcome.c default := rfl
theorem lv_163 : E.lv 163 = [0, 1, 0] := rfl
theorem ty_164 : E.ty 164 = .struct [(0, false, 1), (1, false, 1), (2, false, 1)] 3 := rfl
theorem zr_164 : E.zr 164 = GOutcome.c default := rfl
theorem lv_164 : E.lv 164 = [0, 1, 0] := rfl
theorem ty_166 : E.ty 166 = .one := rfl
theorem zr_166 : E.zr 166 = [.val .nilFunc] := rfl
theorem ty_167 : E.ty 167 = .one := rfl
theorem zr_167 : E.zr 167 = [.val .nilFunc] := rfl
theorem ty_168 : E.ty 168 = .one := rfl
theorem zr_168 : E.zr 168 = [.val .nilFunc] := rfl
theorem ty_170 : E.ty 170 = .one := rfl
theorem zr_170 : E.zr 170 = [.val .nilFunc] := rfl
theorem ty_171 : E.ty 171 = .one := rfl
theorem zr_171 : E.zr 171 = [.val .nilFunc] := rfl
theorem ty_172 : E.ty 172 = .one := rfl
theorem zr_172 : E.zr 172 = [.val .nilFunc] := rfl
theorem ty_174 : E.ty 174 = .one := rfl
theorem zr_174 : E.zr 174 = [.val .nilFunc] := rfl
theorem ty_175 : E.ty 175 = .one := rfl
theorem zr_175 : E.zr 175 = [.val .nilFunc] := rfl
theorem ty_176 : E.ty 176 = .one := rfl
theorem zr_176 : E.zr 176 = [.val .nilFunc] := rfl
theorem ty_177 : E.ty 177 = .one := rfl
theorem zr_177 : E.zr 177 = [.val .nilFunc] := rfl
theorem ty_178 : E.ty 178 = .ptr := rfl
theorem zr_178 : E.zr 178 = [.val (.pointer none)] := rfl
theorem ty_179 : E.ty 179 = .struct [(0, true, 1), (1, true, 36), (37, false, 1), (38, true, 3)] 41 := rfl
theorem zr_179 : E.zr 179 = GStep.c default := rfl
theorem lv_179 : E.lv 179 = [] := rfl
theorem ty_180 : E.ty 180 = .struct [(0, true, 1), (1, true, 36), (37, false, 1), (38, true, 3)] 41 := rfl
theorem zr_180 : E.zr 180 = GStep.c default := rfl
theorem lv_180 : E.lv 180 = [] := rfl
theorem ty_181 : E.ty 181 = .one := rfl
theorem zr_181 : E.zr 181 = [.val .nilFunc] := rfl
theorem ty_182 : E.ty 182 = .array 3 false 1 := rfl
theorem zr_182 : E.zr 182 = A3i64.c default := rfl
theorem lv_182 : E.lv 182 = [1, 1, 1] := rfl
theorem ty_183 : E.ty 183 = .struct [(0, false, 1), (1, false, 1), (2, false, 1), (3, false, 1), (4, false, 1), (5, true, 3)] 8 := rfl
theorem zr_183 : E.zr 183 = GAction.c default := rfl
theorem lv_183 : E.lv 183 = [1, 1, 1, 1, 1, 1, 1, 1] := rfl
theorem ty_184 : E.ty 184 = .struct [(0, false, 1), (1, false, 1), (2, false, 1), (3, false, 1), (4, false, 1), (5, true, 3)] 8 := rfl
theorem zr_184 : E.zr 184 = GAction.c default := rfl
theorem lv_184 : E.lv 184 = [1, 1, 1, 1, 1, 1, 1, 1] := rfl
theorem ty_186 : E.ty 186 = .one := rfl
theorem zr_186 : E.zr 186 = [.val .nilFunc] := rfl
theorem ty_187 : E.ty 187 = .one := rfl
theorem zr_187 : E.zr 187 = [.val .nilFunc] := rfl
theorem ty_188 : E.ty 188 = .one := rfl
theorem zr_188 : E.zr 188 = [.val .nilFunc] := rfl
theorem ty_190 : E.ty 190 = .one := rfl
theorem zr_190 : E.zr 190 = [.val .nilFunc] := rfl
theorem ty_191 : E.ty 191 = .one := rfl
theorem zr_191 : E.zr 191 = [.val .nilFunc] := rfl
theorem ty_192 : E.ty 192 = .one := rfl
theorem zr_192 : E.zr 192 = [.val .nilFunc] := rfl
theorem ty_193 : E.ty 193 = .one := rfl
theorem zr_193 : E.zr 193 = [.val .nilFunc] := rfl
theorem ty_194 : E.ty 194 = .one := rfl
theorem zr_194 : E.zr 194 = [.val .nilFunc] := rfl
theorem ty_195 : E.ty 195 = .one := rfl
theorem zr_195 : E.zr 195 = [.val .nilFunc] := rfl
theorem ty_197 : E.ty 197 = .one := rfl
theorem zr_197 : E.zr 197 = [.val .nilFunc] := rfl
theorem ty_198 : E.ty 198 = .one := rfl
theorem zr_198 : E.zr 198 = [.val .nilFunc] := rfl
theorem ty_199 : E.ty 199 = .one := rfl
theorem zr_199 : E.zr 199 = [.val .nilFunc] := rfl
theorem ty_200 : E.ty 200 = .one := rfl
theorem zr_200 : E.zr 200 = [.val .nilFunc] := rfl
theorem ty_201 : E.ty 201 = .one := rfl
theorem zr_201 : E.zr 201 = [.val .nilFunc] := rfl
theorem ty_202 : E.ty 202 = .one := rfl
theorem zr_202 : E.zr 202 = [.val .nilFunc] := rfl
theorem ty_204 : E.ty 204 = .one := rfl
theorem zr_204 : E.zr 204 = [.val .nilFunc] := rfl
theorem ty_206 : E.ty 206 = .one := rfl
theorem zr_206 : E.zr 206 = [.val .nilFunc] := rfl
theorem ty_207 : E.ty 207 = .one := rfl
theorem zr_207 : E.zr 207 = [.val .nilFunc] := rfl
theorem ty_208 : E.ty 208 = .one := rfl
theorem zr_208 : E.zr 208 = [.val .nilFunc] := rfl
theorem ty_210 : E.ty 210 = .one := rfl
theorem zr_210 : E.zr 210 = [.val .nilFunc] := rfl
theorem ty_211 : E.ty 211 = .one := rfl
theorem zr_211 : E.zr 211 = [.val .nilFunc] := rfl
theorem ty_213 : E.ty 213 = .one := rfl
theorem zr_213 : E.zr 213 = [.val .nilFunc] := rfl
theorem ty_214 : E.ty 214 = .one := rfl
theorem zr_214 : E.zr 214 = [.val .nilFunc] := rfl
theorem ty_215 : E.ty 215 = .one := rfl
theorem zr_215 : E.zr 215 = [.val .nilFunc] := rfl
theorem ty_216 : E.ty 216 = .one := rfl
theorem zr_216 : E.zr 216 = [.val .nilFunc] := rfl
theorem ty_218 : E.ty 218 = .one := rfl
theorem zr_218 : E.zr 218 = [.val .nilFunc] := rfl
theorem ty_219 : E.ty 219 = .one := rfl
theorem zr_219 : E.zr 219 = [.val .nilFunc] := rfl
theorem ty_220 : E.ty 220 = .one := rfl
theorem zr_220 : E.zr 220 = [.val .nilFunc] := rfl
theorem ty_221 : E.ty 221 = .one := rfl
theorem zr_221 : E.zr 221 = [.val .nilFunc] := rfl
theorem ty_222 : E.ty 222 = .one := rfl
theorem zr_222 : E.zr 222 = [.val .nilFunc] := rfl
theorem ty_223 : E.ty 223 = .one := rfl
theorem zr_223 : E.zr 223 = [.val .nilFunc] := rfl
theorem ty_225 : E.ty 225 = .one := rfl
theorem zr_225 : E.zr 225 = [.val .nilFunc] := rfl
theorem ty_226 : E.ty 226 = .one := rfl
theorem zr_226 : E.zr 226 = [.val .nilFunc] := rfl
theorem ty_227 : E.ty 227 = .one := rfl
theorem zr_227 : E.zr 227 = [.val .nilFunc] := rfl
theorem ty_228 : E.ty 228 = .one := rfl
theorem zr_228 : E.zr 228 = [.val .nilFunc] := rfl
theorem ty_230 : E.ty 230 = .one := rfl
theorem zr_230 : E.zr 230 = [.val .nilFunc] := rfl
theorem ty_232 : E.ty 232 = .one := rfl
theorem zr_232 : E.zr 232 = [.val .nilFunc] := rfl
theorem ty_233 : E.ty 233 = .one := rfl
theorem zr_233 : E.zr 233 = [.val .nilFunc] := rfl
theorem ty_234 : E.ty 234 = .one := rfl
theorem zr_234 : E.zr 234 = [.val .nilFunc] := rfl
theorem ty_236 : E.ty 236 = .one := rfl
theorem zr_236 : E.zr 236 = [.val .nilFunc] := rfl
theorem ty_238 : E.ty 238 = .one := rfl
theorem zr_238 : E.zr 238 = [.val .nilFunc] := rfl
theorem ty_239 : E.ty 239 = .one := rfl
theorem zr_239 : E.zr 239 = [.val .nilFunc] := rfl
theorem ty_240 : E.ty 240 = .one := rfl
theorem zr_240 : E.zr 240 = [.val .nilFunc] := rfl
theorem ty_241 : E.ty 241 = .one := rfl
theorem zr_241 : E.zr 241 = [.val .nilFunc] := rfl
theorem ty_242 : E.ty 242 = .one := rfl
theorem zr_242 : E.zr 242 = [.val .nilFunc] := rfl
theorem ty_243 : E.ty 243 = .one := rfl
theorem zr_243 : E.zr 243 = [.val .nilFunc] := rfl
theorem ty_245 : E.ty 245 = .one := rfl
theorem zr_245 : E.zr 245 = [.val .nilFunc] := rfl
theorem ty_247 : E.ty 247 = .one := rfl
theorem zr_247 : E.zr 247 = [.val .nilFunc] := rfl
theorem ty_248 : E.ty 248 = .one := rfl
theorem zr_248 : E.zr 248 = [.val .nilFunc] := rfl
theorem ty_249 : E.ty 249 = .one := rfl
theorem zr_249 : E.zr 249 = [.val .nilFunc] := rfl
theorem ty_250 : E.ty 250 = .one := rfl
theorem zr_250 : E.zr 250 = [.val .nilFunc] := rfl
theorem ty_251 : E.ty 251 = .one := rfl
theorem zr_251 : E.zr 251 = [.val .nilFunc] := rfl
theorem ty_253 : E.ty 253 = .one := rfl
theorem zr_253 : E.zr 253 = [.val .nilFunc] := rfl
theorem ty_254 : E.ty 254 = .one := rfl
theorem zr_254 : E.zr 254 = [.val .nilFunc] := rfl
theorem ty_255 : E.ty 255 = .one := rfl
theorem zr_255 : E.zr 255 = [.val .nilFunc] := rfl
theorem ty_256 : E.ty 256 = .one := rfl
theorem zr_256 : E.zr 256 = [.val .nilFunc] := rfl
theorem ty_257 : E.ty 257 = .one := rfl
theorem zr_257 : E.zr 257 = [.val .nilFunc] := rfl
theorem ty_258 : E.ty 258 = .one := rfl
theorem zr_258 : E.zr 258 = [.val .nilFunc] := rfl
theorem ty_259 : E.ty 259 = .one := rfl
theorem zr_259 : E.zr 259 = [.val .nilFunc] := rfl
theorem ty_260 : E.ty 260 = .one := rfl
theorem zr_260 : E.zr 260 = [.val .nilFunc] := rfl
theorem ty_266 : E.ty 266 = .one := rfl
theorem zr_266 : E.zr 266 = [.val .nilFunc] := rfl
theorem ty_267 : E.ty 267 = .int .u32 := rfl
theorem zr_267 : E.zr 267 = [.int .u32 0] := rfl
theorem ty_271 : E.ty 271 = .ptr := rfl
theorem zr_271 : E.zr 271 = [.val (.pointer none)] := rfl
attribute [push_cast] ty_1 ty_2 ty_3 ty_4 ty_5 ty_9 ty_12 ty_21 ty_22 ty_23 ty_24 ty_25 ty_26 ty_27 ty_28 ty_29 ty_30 ty_31 ty_32 ty_33 ty_34 ty_35 ty_36 ty_37 ty_38 ty_39 ty_40 ty_41 ty_42 ty_43 ty_44 ty_45 ty_46 ty_47 ty_48 ty_49 ty_51 ty_52 ty_54 ty_55 ty_56 ty_57 ty_59 ty_60 ty_61 ty_63 ty_65 ty_66 ty_67 ty_68 ty_69 ty_70 ty_72 ty_73 ty_74 ty_75 ty_76 ty_77 ty_78 ty_79 ty_80 ty_82 ty_83 ty_84 ty_85 ty_86 ty_87 ty_89 ty_90 ty_91 ty_93 ty_94 ty_95 ty_96 ty_97 ty_98 ty_99 ty_100 ty_101 ty_102 ty_103 ty_104 ty_105 ty_106 ty_107 ty_108 ty_109 ty_110 ty_111 ty_112 ty_113 ty_114 ty_116 ty_118 ty_119 ty_120 ty_121 ty_122 ty_123 ty_124 ty_125 ty_126 ty_127 ty_129 ty_130 ty_131 ty_133 ty_134 ty_135 ty_136 ty_137 ty_138 ty_139 ty_140 ty_141 ty_142 ty_143 ty_144 ty_145 ty_146 ty_148 ty_149 ty_150 ty_151 ty_152 ty_153 ty_154 ty_155 ty_156 ty_157 ty_158 ty_159 ty_160 ty_162 ty_163 ty_164 ty_166 ty_167 ty_168 ty_170 ty_171 ty_172 ty_174 ty_175 ty_176 ty_177 ty_178 ty_179 ty_180 ty_181 ty_182 ty_183 ty_184 ty_186 ty_187 ty_188 ty_190 ty_191 ty_192 ty_193 ty_194 ty_195 ty_197 ty_198 ty_199 ty_200 ty_201 ty_202 ty_204 ty_206 ty_207 ty_208 ty_210 ty_211 ty_213 ty_214 ty_215 ty_216 ty_218 ty_219 ty_220 ty_221 ty_222 ty_223 ty_225 ty_226 ty_227 ty_228 ty_230 ty_232 ty_233 ty_234 ty_236 ty_238 ty_239 ty_240 ty_241 ty_242 ty_243 ty_245 ty_247 ty_248 ty_249 ty_250 ty_251 ty_253 ty_254 ty_255 ty_256 ty_257 ty_258 ty_259 ty_260 ty_266 ty_267 ty_271 zr_1 zr_2 zr_3 zr_4 zr_5 zr_9 zr_12 zr_21 zr_22 zr_23 zr_24 zr_25 zr_26 zr_27 zr_28 zr_29 zr_30 zr_31 zr_32 zr_33 zr_34 zr_35 zr_36 zr_37 zr_38 zr_39 zr_40 zr_41 zr_42 zr_43 zr_44 zr_45 zr_46 zr_47 zr_48 zr_49 zr_51 zr_52 zr_54 zr_55 zr_56 zr_57 zr_59 zr_60 zr_61 zr_63 zr_65 zr_66 zr_67 zr_68 zr_69 zr_70 zr_72 zr_73 zr_74 zr_75 zr_76 zr_77 zr_78 zr_79 zr_80 zr_82 zr_83 zr_84 zr_85 zr_86 zr_87 zr_89 zr_90 zr_91 zr_93 zr_94 zr_95 zr_96 zr_97 zr_98 zr_99 zr_100 zr_101 zr_102 zr_103 zr_104 zr_105 zr_106 zr_107 zr_108 zr_109 zr_110 zr_111 zr_112 zr_113 zr_114 zr_116 zr_118 zr_119 zr_120 zr_121 zr_122 zr_123 zr_124 zr_125 zr_126 zr_127 zr_129 zr_130 zr_131 zr_133 zr_134 zr_135 zr_136 zr_137 zr_138 zr_139 zr_140 zr_141 zr_142 zr_143 zr_144 zr_145 zr_146 zr_148 zr_149 zr_150 zr_151 zr_152 zr_153 zr_154 zr_155 zr_156 zr_157 zr_158 zr_159 zr_160 zr_162 zr_163 zr_164 zr_166 zr_167 zr_168 zr_170 zr_171 zr_172 zr_174 zr_175 zr_176 zr_177 zr_178 zr_179 zr_180 zr_181 zr_182 zr_183 zr_184 zr_186 zr_187 zr_188 zr_190 zr_191 zr_192 zr_193 zr_194 zr_195 zr_197 zr_198 zr_199 zr_200 zr_201 zr_202 zr_204 zr_206 zr_207 zr_208 zr_210 zr_211 zr_213 zr_214 zr_215 zr_216 zr_218 zr_219 zr_220 zr_221 zr_222 zr_223 zr_225 zr_226 zr_227 zr_228 zr_230 zr_232 zr_233 zr_234 zr_236 zr_238 zr_239 zr_240 zr_241 zr_242 zr_243 zr_245 zr_247 zr_248 zr_249 zr_250 zr_251 zr_253 zr_254 zr_255 zr_256 zr_257 zr_258 zr_259 zr_260 zr_266 zr_267 zr_271 lv_26 lv_27 lv_28 lv_29 lv_30 lv_33 lv_34 lv_37 lv_38 lv_40 lv_41 lv_45 lv_46 lv_47 lv_48 lv_69 lv_70 lv_75 lv_84 lv_85 lv_86 lv_87 lv_102 lv_103 lv_105 lv_106 lv_107 lv_108 lv_142 lv_143 lv_144 lv_145 lv_163 lv_164 lv_179 lv_180 lv_182 lv_183 lv_184
theorem call_3 : callable Tryz.prog 3 = true := by kernel_rfl
theorem call_4 : callable Tryz.prog 4 = true := by kernel_rfl
theorem call_5 : callable Tryz.prog 5 = true := by kernel_rfl
theorem call_6 : callable Tryz.prog 6 = true := by kernel_rfl
theorem call_7 : callable Tryz.prog 7 = true := by kernel_rfl
theorem call_8 : callable Tryz.prog 8 = true := by kernel_rfl
theorem call_9 : callable Tryz.prog 9 = true := by kernel_rfl
theorem call_10 : callable Tryz.prog 10 = true := by kernel_rfl
theorem call_11 : callable Tryz.prog 11 = true := by kernel_rfl
theorem call_12 : callable Tryz.prog 12 = true := by kernel_rfl
theorem call_13 : callable Tryz.prog 13 = true := by kernel_rfl
theorem call_14 : callable Tryz.prog 14 = true := by kernel_rfl
theorem call_15 : callable Tryz.prog 15 = true := by kernel_rfl
theorem call_16 : callable Tryz.prog 16 = true := by kernel_rfl
theorem call_17 : callable Tryz.prog 17 = true := by kernel_rfl
theorem call_18 : callable Tryz.prog 18 = true := by kernel_rfl
theorem call_19 : callable Tryz.prog 19 = true := by kernel_rfl
theorem call_20 : callable Tryz.prog 20 = true := by kernel_rfl
theorem call_21 : callable Tryz.prog 21 = true := by kernel_rfl
theorem call_22 : callable Tryz.prog 22 = true := by kernel_rfl
theorem call_23 : callable Tryz.prog 23 = true := by kernel_rfl
theorem call_24 : callable Tryz.prog 24 = true := by kernel_rfl
theorem call_25 : callable Tryz.prog 25 = true := by kernel_rfl
theorem call_26 : callable Tryz.prog 26 = true := by kernel_rfl
theorem call_27 : callable Tryz.prog 27 = true := by kernel_rfl
theorem call_28 : callable Tryz.prog 28 = true := by kernel_rfl
theorem call_29 : callable Tryz.prog 29 = true := by kernel_rfl
theorem call_30 : callable Tryz.prog 30 = true := by kernel_rfl
theorem call_31 : callable Tryz.prog 31 = true := by kernel_rfl
theorem call_32 : callable Tryz.prog 32 = true := by kernel_rfl
theorem call_33 : callable Tryz.prog 33 = true := by kernel_rfl
theorem call_34 : callable Tryz.prog 34 = true := by kernel_rfl
theorem call_35 : callable Tryz.prog 35 = true := by kernel_rfl
theorem call_36 : callable Tryz.prog 36 = true := by kernel_rfl
theorem call_37 : callable Tryz.prog 37 = true := by kernel_rfl
theorem call_38 : callable Tryz.prog 38 = true := by kernel_rfl
theorem call_39 : callable Tryz.prog 39 = true := by kernel_rfl
theorem call_40 : callable Tryz.prog 40 = true := by kernel_rfl
theorem call_41 : callable Tryz.prog 41 = true := by kernel_rfl
theorem call_42 : callable Tryz.prog 42 = true := by kernel_rfl
theorem call_43 : callable Tryz.prog 43 = true := by kernel_rfl
theorem call_44 : callable Tryz.prog 44 = true := by kernel_rfl
theorem call_45 : callable Tryz.prog 45 = true := by kernel_rfl
theorem call_46 : callable Tryz.prog 46 = true := by kernel_rfl
theorem call_47 : callable Tryz.prog 47 = true := by kernel_rfl
theorem call_48 : callable Tryz.prog 48 = true := by kernel_rfl
theorem call_49 : callable Tryz.prog 49 = true := by kernel_rfl
theorem call_50 : callable Tryz.prog 50 = true := by kernel_rfl
theorem call_51 : callable Tryz.prog 51 = true := by kernel_rfl
theorem call_52 : callable Tryz.prog 52 = true := by kernel_rfl
theorem call_53 : callable Tryz.prog 53 = true := by kernel_rfl
theorem call_54 : callable Tryz.prog 54 = true := by kernel_rfl
theorem call_55 : callable Tryz.prog 55 = true := by kernel_rfl
theorem call_56 : callable Tryz.prog 56 = true := by kernel_rfl
theorem call_57 : callable Tryz.prog 57 = true := by kernel_rfl
theorem call_58 : callable Tryz.prog 58 = true := by kernel_rfl
theorem call_59 : callable Tryz.prog 59 = true := by kernel_rfl
theorem call_60 : callable Tryz.prog 60 = true := by kernel_rfl
theorem call_61 : callable Tryz.prog 61 = true := by kernel_rfl
theorem call_62 : callable Tryz.prog 62 = true := by kernel_rfl
theorem call_63 : callable Tryz.prog 63 = true := by kernel_rfl
theorem call_64 : callable Tryz.prog 64 = true := by kernel_rfl
theorem call_65 : callable Tryz.prog 65 = true := by kernel_rfl
theorem call_66 : callable Tryz.prog 66 = true := by kernel_rfl
theorem call_67 : callable Tryz.prog 67 = true := by kernel_rfl
theorem call_68 : callable Tryz.prog 68 = true := by kernel_rfl
theorem call_69 : callable Tryz.prog 69 = true := by kernel_rfl
theorem call_70 : callable Tryz.prog 70 = true := by kernel_rfl
theorem call_71 : callable Tryz.prog 71 = true := by kernel_rfl
theorem call_72 : callable Tryz.prog 72 = true := by kernel_rfl
theorem call_73 : callable Tryz.prog 73 = true := by kernel_rfl
theorem call_74 : callable Tryz.prog 74 = true := by kernel_rfl
theorem call_75 : callable Tryz.prog 75 = true := by kernel_rfl
theorem call_76 : callable Tryz.prog 76 = true := by kernel_rfl
theorem call_77 : callable Tryz.prog 77 = true := by kernel_rfl
theorem call_78 : callable Tryz.prog 78 = true := by kernel_rfl
theorem call_79 : callable Tryz.prog 79 = true := by kernel_rfl
theorem call_80 : callable Tryz.prog 80 = true := by kernel_rfl
theorem call_81 : callable Tryz.prog 81 = true := by kernel_rfl
theorem call_82 : callable Tryz.prog 82 = true := by kernel_rfl
theorem call_83 : callable Tryz.prog 83 = true := by kernel_rfl
theorem call_84 : callable Tryz.prog 84 = true := by kernel_rfl
theorem call_85 : callable Tryz.prog 85 = true := by kernel_rfl
theorem call_86 : callable Tryz.prog 86 = true := by kernel_rfl
theorem call_87 : callable Tryz.prog 87 = true := by kernel_rfl
theorem call_88 : callable Tryz.prog 88 = true := by kernel_rfl
theorem call_89 : callable Tryz.prog 89 = true := by kernel_rfl
theorem call_90 : callable Tryz.prog 90 = true := by kernel_rfl
theorem call_91 : callable Tryz.prog 91 = true := by kernel_rfl
theorem call_92 : callable Tryz.prog 92 = true := by kernel_rfl
theorem call_93 : callable Tryz.prog 93 = true := by kernel_rfl
theorem call_94 : callable Tryz.prog 94 = true := by kernel_rfl
theorem call_95 : callable Tryz.prog 95 = true := by kernel_rfl
theorem call_96 : callable Tryz.prog 96 = true := by kernel_rfl
theorem call_97 : callable Tryz.prog 97 = true := by kernel_rfl
theorem call_98 : callable Tryz.prog 98 = true := by kernel_rfl
theorem call_99 : callable Tryz.prog 99 = true := by kernel_rfl
theorem call_100 : callable Tryz.prog 100 = true := by kernel_rfl
theorem call_101 : callable Tryz.prog 101 = true := by kernel_rfl
theorem call_102 : callable Tryz.prog 102 = true := by kernel_rfl
theorem call_103 : callable Tryz.prog 103 = true := by kernel_rfl
theorem call_104 : callable Tryz.prog 104 = true := by kernel_rfl
theorem call_105 : callable Tryz.prog 105 = true := by kernel_rfl
theorem call_106 : callable Tryz.prog 106 = true := by kernel_rfl
theorem call_107 : callable Tryz.prog 107 = true := by kernel_rfl
theorem call_108 : callable Tryz.prog 108 = true := by kernel_rfl
theorem call_109 : callable Tryz.prog 109 = true := by kernel_rfl
theorem call_110 : callable Tryz.prog 110 = true := by kernel_rfl
theorem call_111 : callable Tryz.prog 111 = true := by kernel_rfl
theorem call_112 : callable Tryz.prog 112 = true := by kernel_rfl
theorem call_113 : callable Tryz.prog 113 = true := by kernel_rfl
theorem call_114 : callable Tryz.prog 114 = true := by kernel_rfl
theorem call_115 : callable Tryz.prog 115 = true := by kernel_rfl
theorem call_116 : callable Tryz.prog 116 = true := by kernel_rfl
theorem call_117 : callable Tryz.prog 117 = true := by kernel_rfl
theorem call_118 : callable Tryz.prog 118 = true := by kernel_rfl
theorem call_119 : callable Tryz.prog 119 = true := by kernel_rfl
theorem call_120 : callable Tryz.prog 120 = true := by kernel_rfl
theorem call_121 : callable Tryz.prog 121 = true := by kernel_rfl
theorem call_122 : callable Tryz.prog 122 = true := by kernel_rfl
theorem call_123 : callable Tryz.prog 123 = true := by kernel_rfl
theorem call_124 : callable Tryz.prog 124 = true := by kernel_rfl
theorem call_125 : callable Tryz.prog 125 = true := by kernel_rfl
theorem call_126 : callable Tryz.prog 126 = true := by kernel_rfl
theorem call_127 : callable Tryz.prog 127 = true := by kernel_rfl
theorem call_128 : callable Tryz.prog 128 = true := by kernel_rfl
theorem call_129 : callable Tryz.prog 129 = true := by kernel_rfl
theorem call_130 : callable Tryz.prog 130 = true := by kernel_rfl
theorem call_131 : callable Tryz.prog 131 = true := by kernel_rfl
theorem call_132 : callable Tryz.prog 132 = true := by kernel_rfl
theorem call_133 : callable Tryz.prog 133 = true := by kernel_rfl
theorem call_134 : callable Tryz.prog 134 = true := by kernel_rfl
theorem call_135 : callable Tryz.prog 135 = true := by kernel_rfl
theorem call_136 : callable Tryz.prog 136 = true := by kernel_rfl
theorem call_137 : callable Tryz.prog 137 = true := by kernel_rfl
theorem call_138 : callable Tryz.prog 138 = true := by kernel_rfl
theorem call_139 : callable Tryz.prog 139 = true := by kernel_rfl
theorem call_140 : callable Tryz.prog 140 = true := by kernel_rfl
theorem call_141 : callable Tryz.prog 141 = true := by kernel_rfl
theorem call_142 : callable Tryz.prog 142 = true := by kernel_rfl
theorem call_143 : callable Tryz.prog 143 = true := by kernel_rfl
theorem call_144 : callable Tryz.prog 144 = true := by kernel_rfl
theorem call_145 : callable Tryz.prog 145 = true := by kernel_rfl
theorem call_146 : callable Tryz.prog 146 = true := by kernel_rfl
theorem call_147 : callable Tryz.prog 147 = true := by kernel_rfl
theorem call_148 : callable Tryz.prog 148 = true := by kernel_rfl
theorem call_149 : callable Tryz.prog 149 = true := by kernel_rfl
theorem call_150 : callable Tryz.prog 150 = true := by kernel_rfl
theorem call_151 : callable Tryz.prog 151 = true := by kernel_rfl
theorem call_152 : callable Tryz.prog 152 = true := by kernel_rfl
theorem call_153 : callable Tryz.prog 153 = true := by kernel_rfl
theorem call_154 : callable Tryz.prog 154 = true := by kernel_rfl
theorem call_155 : callable Tryz.prog 155 = true := by kernel_rfl
theorem call_156 : callable Tryz.prog 156 = true := by kernel_rfl
theorem call_157 : callable Tryz.prog 157 = true := by kernel_rfl
theorem call_158 : callable Tryz.prog 158 = true := by kernel_rfl
theorem call_159 : callable Tryz.prog 159 = true := by kernel_rfl
theorem call_160 : callable Tryz.prog 160 = true := by kernel_rfl
theorem call_161 : callable Tryz.prog 161 = true := by kernel_rfl
theorem call_162 : callable Tryz.prog 162 = true := by kernel_rfl
theorem call_163 : callable Tryz.prog 163 = true := by kernel_rfl
theorem call_164 : callable Tryz.prog 164 = true := by kernel_rfl
theorem call_165 : callable Tryz.prog 165 = true := by kernel_rfl
theorem call_166 : callable Tryz.prog 166 = true := by kernel_rfl
theorem call_167 : callable Tryz.prog 167 = true := by kernel_rfl
theorem call_168 : callable Tryz.prog 168 = true := by kernel_rfl
theorem call_169 : callable Tryz.prog 169 = true := by kernel_rfl
theorem call_170 : callable Tryz.prog 170 = true := by kernel_rfl
theorem call_171 : callable Tryz.prog 171 = true := by kernel_rfl
theorem call_172 : callable Tryz.prog 172 = true := by kernel_rfl
theorem call_173 : callable Tryz.prog 173 = true := by kernel_rfl
theorem call_174 : callable Tryz.prog 174 = true := by kernel_rfl
theorem call_175 : callable Tryz.prog 175 = true := by kernel_rfl
theorem call_176 : callable Tryz.prog 176 = true := by kernel_rfl
theorem call_177 : callable Tryz.prog 177 = true := by kernel_rfl
theorem call_178 : callable Tryz.prog 178 = true := by kernel_rfl
theorem call_179 : callable Tryz.prog 179 = true := by kernel_rfl
theorem call_180 : callable Tryz.prog 180 = true := by kernel_rfl
theorem call_181 : callable Tryz.prog 181 = true := by kernel_rfl
theorem call_182 : callable Tryz.prog 182 = true := by kernel_rfl
theorem call_183 : callable Tryz.prog 183 = true := by kernel_rfl
theorem call_184 : callable Tryz.prog 184 = true := by kernel_rfl
theorem call_185 : callable Tryz.prog 185 = true := by kernel_rfl
theorem call_186 : callable Tryz.prog 186 = true := by kernel_rfl
theorem call_187 : callable Tryz.prog 187 = true := by kernel_rfl
theorem call_188 : callable Tryz.prog 188 = true := by kernel_rfl
theorem call_189 : callable Tryz.prog 189 = true := by kernel_rfl
theorem call_190 : callable Tryz.prog 190 = true := by kernel_rfl
theorem call_191 : callable Tryz.prog 191 = true := by kernel_rfl
theorem call_192 : callable Tryz.prog 192 = true := by kernel_rfl
theorem call_193 : callable Tryz.prog 193 = true := by kernel_rfl
theorem call_194 : callable Tryz.prog 194 = true := by kernel_rfl
theorem call_195 : callable Tryz.prog 195 = true := by kernel_rfl
theorem call_196 : callable Tryz.prog 196 = true := by kernel_rfl
theorem call_197 : callable Tryz.prog 197 = true := by kernel_rfl
theorem call_198 : callable Tryz.prog 198 = true := by kernel_rfl
theorem call_199 : callable Tryz.prog 199 = true := by kernel_rfl
end Go.Proofs.YtfmldmafigpblaaGreatDoor
end
