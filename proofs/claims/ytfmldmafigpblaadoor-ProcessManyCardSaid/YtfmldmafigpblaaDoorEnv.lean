/-
  The types of this seat, as the evaluator sees them. Printed by a program of ours (gen_env.py).
-/
import Derived.Test.YtfmldmafigpblaaDoorRows
import Derived.Test.YtfmldmafigpblaaDoorTyp
namespace Go.Proofs.YtfmldmafigpblaaDoor
open Go.Lift
set_option linter.unusedSimpArgs false
set_option linter.unusedVariables false
def nilS : SV := .sl true 0 0 fun _ => []
def tyL : List TyI := [
  .bad,
  .one,
  .int .i64,
  .int .i64,
  .bool,
  .int .u8,
  .bad,
  .bad,
  .bad,
  .string,
  .bad,
  .bad,
  .int .u64,
  .bad,
  .bad,
  .bad,
  .bad,
  .bad,
  .bad,
  .bad,
  .bad,
  .int .i32,
  .slice 5 1 1,
  .one,
  .int .u64,
  .slice 24 1 8,
  .slice 77 4 32,
  .slice 9 1 16,
  .struct [(0, false, 1), (1, false, 1), (2, false, 1)] 3,
  .struct [(0, false, 1), (1, false, 1), (2, false, 1)] 3,
  .array 8 false 1,
  .struct [(0, false, 1), (1, true, 8)] 9,
  .struct [(0, false, 1), (1, true, 8)] 9,
  .slice 59 2 16,
  .slice 90 4 32,
  .struct [(0, false, 1), (1, false, 1), (2, false, 1), (3, true, 3), (6, true, 9), (15, false, 1), (16, false, 1), (17, false, 1), (18, false, 1), (19, false, 1)] 20,
  .struct [(0, false, 1), (1, false, 1), (2, false, 1), (3, true, 3), (6, true, 9), (15, false, 1), (16, false, 1), (17, false, 1), (18, false, 1), (19, false, 1)] 20,
  .slice 2 1 8,
  .array 2 false 1,
  .array 2 false 1,
  .slice 105 3 48,
  .struct [(0, false, 1), (1, false, 1), (2, false, 1), (3, true, 20), (23, false, 1), (24, false, 1), (25, false, 1), (26, false, 1), (27, false, 1), (28, false, 1), (29, false, 1), (30, true, 2), (32, true, 2), (34, false, 1), (35, false, 1)] 36,
  .struct [(0, false, 1), (1, false, 1), (2, false, 1), (3, true, 20), (23, false, 1), (24, false, 1), (25, false, 1), (26, false, 1), (27, false, 1), (28, false, 1), (29, false, 1), (30, true, 2), (32, true, 2), (34, false, 1), (35, false, 1)] 36,
  .int .i64,
  .bad,
  .one,
  .slice 42 36 464,
  .bad,
  .one,
  .bad,
  .one,
  .bad,
  .one,
  .one,
  .one,
  .bad,
  .one,
  .one,
  .struct [(0, false, 1), (1, false, 1)] 2,
  .struct [(0, false, 1), (1, false, 1)] 2,
  .one,
  .one,
  .bad,
  .one,
  .one,
  .struct [(0, false, 1), (1, false, 1), (2, false, 1), (3, true, 20), (23, false, 1), (24, false, 1), (25, false, 1), (26, false, 1), (27, false, 1), (28, false, 1), (29, false, 1), (30, true, 2), (32, true, 2), (34, false, 1), (35, false, 1)] 36,
  .one,
  .one,
  .one,
  .one,
  .one,
  .one,
  .one,
  .one,
  .one,
  .one,
  .struct [(0, false, 1), (1, false, 1), (2, false, 1), (3, false, 1)] 4,
  .struct [(0, false, 1), (1, false, 1), (2, false, 1), (3, false, 1)] 4,
  .one,
  .one,
  .one,
  .one,
  .one,
  .ptr,
  .ptr,
  .one,
  .one,
  .one,
  .one,
  .struct [(0, false, 1), (1, false, 1), (2, false, 1), (3, false, 1)] 4,
  .struct [(0, false, 1), (1, false, 1), (2, false, 1), (3, false, 1)] 4,
  .one,
  .one,
  .one,
  .struct [(0, false, 1), (1, false, 1)] 2,
  .struct [(0, false, 1), (1, false, 1)] 2,
  .array 13 true 2,
  .array 3 false 1,
  .one,
  .one,
  .one,
  .one,
  .one,
  .one,
  .struct [(0, false, 1), (1, false, 1), (2, false, 1)] 3,
  .struct [(0, false, 1), (1, false, 1), (2, false, 1)] 3,
  .one,
  .one,
  .one,
  .one,
  .bad,
  .bad,
  .bad,
  .bad,
  .bad,
  .one,
  .int .u32,
  .bad,
  .bad,
  .bad,
  .ptr,
  .bad,
  .bad,
  .bad,
  .bad,
  .bad]
def zrL : List (List SV) := [
  [],
  [.val .nilFunc],
  [.int .i64 0],
  [.int .i64 0],
  [.bool false],
  [.int .u8 0],
  [],
  [],
  [],
  [.str []],
  [],
  [],
  [.int .u64 0],
  [],
  [],
  [],
  [],
  [],
  [],
  [],
  [],
  [.int .i32 0],
  [nilS],
  [.val .nilFunc],
  [.int .u64 0],
  [nilS],
  [nilS],
  [nilS],
  GProgram.c default,
  GProgram.c default,
  A8i64.c default,
  GCPU.c default,
  GCPU.c default,
  [nilS],
  [nilS],
  GProcess.c default,
  GProcess.c default,
  [nilS],
  A2Lu8.c default,
  A2i64.c default,
  [nilS],
  GObject.c default,
  GObject.c default,
  [.int .i64 0],
  [],
  [.val .nilFunc],
  [nilS],
  [],
  [.val .nilFunc],
  [],
  [.val .nilFunc],
  [],
  [.val .nilFunc],
  [.val .nilFunc],
  [.val .nilFunc],
  [],
  [.val .nilFunc],
  [.val .nilFunc],
  GPageRef.c default,
  GPageRef.c default,
  [.val .nilFunc],
  [.val .nilFunc],
  [],
  [.val .nilFunc],
  [.val .nilFunc],
  GObject.c default,
  [.val .nilFunc],
  [.val .nilFunc],
  [.val .nilFunc],
  [.val .nilFunc],
  [.val .nilFunc],
  [.val .nilFunc],
  [.val .nilFunc],
  [.val .nilFunc],
  [.val .nilFunc],
  [.val .nilFunc],
  GInstr.c default,
  GInstr.c default,
  [.val .nilFunc],
  [.val .nilFunc],
  [.val .nilFunc],
  [.val .nilFunc],
  [.val .nilFunc],
  [.val (.pointer none)],
  [.val (.pointer none)],
  [.val .nilFunc],
  [.val .nilFunc],
  [.val .nilFunc],
  [.val .nilFunc],
  GSlot.c default,
  GSlot.c default,
  [.val .nilFunc],
  [.val .nilFunc],
  [.val .nilFunc],
  GForm.c default,
  GForm.c default,
  A13GForm.c default,
  A3i64.c default,
  [.val .nilFunc],
  [.val .nilFunc],
  [.val .nilFunc],
  [.val .nilFunc],
  [.val .nilFunc],
  [.val .nilFunc],
  GName.c default,
  GName.c default,
  [.val .nilFunc],
  [.val .nilFunc],
  [.val .nilFunc],
  [.val .nilFunc],
  [],
  [],
  [],
  [],
  [],
  [.val .nilFunc],
  [.int .u32 0],
  [],
  [],
  [],
  [.val (.pointer none)],
  [],
  [],
  [],
  [],
  []]
def lvL : List (List Nat) := [
  [],
  [],
  [],
  [],
  [],
  [],
  [],
  [],
  [],
  [],
  [],
  [],
  [],
  [],
  [],
  [],
  [],
  [],
  [],
  [],
  [],
  [],
  [],
  [],
  [],
  [],
  [],
  [],
  [],
  [],
  [1, 1, 1, 1, 1, 1, 1, 1],
  [1, 1, 1, 1, 1, 1, 1, 1, 1],
  [1, 1, 1, 1, 1, 1, 1, 1, 1],
  [],
  [],
  [],
  [],
  [],
  [],
  [1, 1],
  [],
  [],
  [],
  [],
  [],
  [],
  [],
  [],
  [],
  [],
  [],
  [],
  [],
  [],
  [],
  [],
  [],
  [],
  [1, 0],
  [1, 0],
  [],
  [],
  [],
  [],
  [],
  [],
  [],
  [],
  [],
  [],
  [],
  [],
  [],
  [],
  [],
  [],
  [1, 1, 1, 1],
  [1, 1, 1, 1],
  [],
  [],
  [],
  [],
  [],
  [],
  [],
  [],
  [],
  [],
  [],
  [1, 1, 1, 1],
  [1, 1, 1, 1],
  [],
  [],
  [],
  [2, 2],
  [2, 2],
  [2, 2, 2, 2, 2, 2, 2, 2, 2, 2, 2, 2, 2, 2, 2, 2, 2, 2, 2, 2, 2, 2, 2, 2, 2, 2],
  [1, 1, 1],
  [],
  [],
  [],
  [],
  [],
  [],
  [],
  [],
  [],
  [],
  [],
  [],
  [],
  [],
  [],
  [],
  [],
  [],
  [],
  [],
  [],
  [],
  [],
  [],
  [],
  [],
  [],
  []]
def E : Env := envOf tyL zrL lvL
theorem E_kp : E.kp = false := rfl
attribute [push_cast] E_kp
set_option maxRecDepth 100000 in
theorem E_ok : EnvOK Tryd.prog E := envOf_ok (by kernel_rfl)
theorem ty_1 : E.ty 1 = .one := rfl
theorem zr_1 : E.zr 1 = [.val .nilFunc] := rfl
theorem ty_2 : E.ty 2 = .int .i64 := rfl
theorem zr_2 : E.zr 2 = [.int .i64 0] := rfl
theorem ty_3 : E.ty 3 = .int .i64 := rfl
theorem zr_3 : E.zr 3 = [.int .i64 0] := rfl
theorem ty_4 : E.ty 4 = .bool := rfl
theorem zr_4 : E.zr 4 = [.bool false] := rfl
theorem ty_5 : E.ty 5 = .int .u8 := rfl
theorem zr_5 : E.zr 5 = [.int .u8 0] := rfl
theorem ty_9 : E.ty 9 = .string := rfl
theorem zr_9 : E.zr 9 = [.str []] := rfl
theorem ty_12 : E.ty 12 = .int .u64 := rfl
theorem zr_12 : E.zr 12 = [.int .u64 0] := rfl
theorem ty_21 : E.ty 21 = .int .i32 := rfl
theorem zr_21 : E.zr 21 = [.int .i32 0] := rfl
theorem ty_22 : E.ty 22 = .slice 5 1 1 := rfl
theorem zr_22 : E.zr 22 = [nilS] := rfl
theorem ty_23 : E.ty 23 = .one := rfl
theorem zr_23 : E.zr 23 = [.val .nilFunc] := rfl
theorem ty_24 : E.ty 24 = .int .u64 := rfl
theorem zr_24 : E.zr 24 = [.int .u64 0] := rfl
theorem ty_25 : E.ty 25 = .slice 24 1 8 := rfl
theorem zr_25 : E.zr 25 = [nilS] := rfl
theorem ty_26 : E.ty 26 = .slice 77 4 32 := rfl
theorem zr_26 : E.zr 26 = [nilS] := rfl
theorem ty_27 : E.ty 27 = .slice 9 1 16 := rfl
theorem zr_27 : E.zr 27 = [nilS] := rfl
theorem ty_28 : E.ty 28 = .struct [(0, false, 1), (1, false, 1), (2, false, 1)] 3 := rfl
theorem zr_28 : E.zr 28 = GProgram.c default := rfl
theorem lv_28 : E.lv 28 = [] := rfl
theorem ty_29 : E.ty 29 = .struct [(0, false, 1), (1, false, 1), (2, false, 1)] 3 := rfl
theorem zr_29 : E.zr 29 = GProgram.c default := rfl
theorem lv_29 : E.lv 29 = [] := rfl
theorem ty_30 : E.ty 30 = .array 8 false 1 := rfl
theorem zr_30 : E.zr 30 = A8i64.c default := rfl
theorem lv_30 : E.lv 30 = [1, 1, 1, 1, 1, 1, 1, 1] := rfl
theorem ty_31 : E.ty 31 = .struct [(0, false, 1), (1, true, 8)] 9 := rfl
theorem zr_31 : E.zr 31 = GCPU.c default := rfl
theorem lv_31 : E.lv 31 = [1, 1, 1, 1, 1, 1, 1, 1, 1] := rfl
theorem ty_32 : E.ty 32 = .struct [(0, false, 1), (1, true, 8)] 9 := rfl
theorem zr_32 : E.zr 32 = GCPU.c default := rfl
theorem lv_32 : E.lv 32 = [1, 1, 1, 1, 1, 1, 1, 1, 1] := rfl
theorem ty_33 : E.ty 33 = .slice 59 2 16 := rfl
theorem zr_33 : E.zr 33 = [nilS] := rfl
theorem ty_34 : E.ty 34 = .slice 90 4 32 := rfl
theorem zr_34 : E.zr 34 = [nilS] := rfl
theorem ty_35 : E.ty 35 = .struct [(0, false, 1), (1, false, 1), (2, false, 1), (3, true, 3), (6, true, 9), (15, false, 1), (16, false, 1), (17, false, 1), (18, false, 1), (19, false, 1)] 20 := rfl
theorem zr_35 : E.zr 35 = GProcess.c default := rfl
theorem lv_35 : E.lv 35 = [] := rfl
theorem ty_36 : E.ty 36 = .struct [(0, false, 1), (1, false, 1), (2, false, 1), (3, true, 3), (6, true, 9), (15, false, 1), (16, false, 1), (17, false, 1), (18, false, 1), (19, false, 1)] 20 := rfl
theorem zr_36 : E.zr 36 = GProcess.c default := rfl
theorem lv_36 : E.lv 36 = [] := rfl
theorem ty_37 : E.ty 37 = .slice 2 1 8 := rfl
theorem zr_37 : E.zr 37 = [nilS] := rfl
theorem ty_38 : E.ty 38 = .array 2 false 1 := rfl
theorem zr_38 : E.zr 38 = A2Lu8.c default := rfl
theorem lv_38 : E.lv 38 = [] := rfl
theorem ty_39 : E.ty 39 = .array 2 false 1 := rfl
theorem zr_39 : E.zr 39 = A2i64.c default := rfl
theorem lv_39 : E.lv 39 = [1, 1] := rfl
theorem ty_40 : E.ty 40 = .slice 105 3 48 := rfl
theorem zr_40 : E.zr 40 = [nilS] := rfl
theorem ty_41 : E.ty 41 = .struct [(0, false, 1), (1, false, 1), (2, false, 1), (3, true, 20), (23, false, 1), (24, false, 1), (25, false, 1), (26, false, 1), (27, false, 1), (28, false, 1), (29, false, 1), (30, true, 2), (32, true, 2), (34, false, 1), (35, false, 1)] 36 := rfl
theorem zr_41 : E.zr 41 = GObject.c default := rfl
theorem lv_41 : E.lv 41 = [] := rfl
theorem ty_42 : E.ty 42 = .struct [(0, false, 1), (1, false, 1), (2, false, 1), (3, true, 20), (23, false, 1), (24, false, 1), (25, false, 1), (26, false, 1), (27, false, 1), (28, false, 1), (29, false, 1), (30, true, 2), (32, true, 2), (34, false, 1), (35, false, 1)] 36 := rfl
theorem zr_42 : E.zr 42 = GObject.c default := rfl
theorem lv_42 : E.lv 42 = [] := rfl
theorem ty_43 : E.ty 43 = .int .i64 := rfl
theorem zr_43 : E.zr 43 = [.int .i64 0] := rfl
theorem ty_45 : E.ty 45 = .one := rfl
theorem zr_45 : E.zr 45 = [.val .nilFunc] := rfl
theorem ty_46 : E.ty 46 = .slice 42 36 464 := rfl
theorem zr_46 : E.zr 46 = [nilS] := rfl
theorem ty_48 : E.ty 48 = .one := rfl
theorem zr_48 : E.zr 48 = [.val .nilFunc] := rfl
theorem ty_50 : E.ty 50 = .one := rfl
theorem zr_50 : E.zr 50 = [.val .nilFunc] := rfl
theorem ty_52 : E.ty 52 = .one := rfl
theorem zr_52 : E.zr 52 = [.val .nilFunc] := rfl
theorem ty_53 : E.ty 53 = .one := rfl
theorem zr_53 : E.zr 53 = [.val .nilFunc] := rfl
theorem ty_54 : E.ty 54 = .one := rfl
theorem zr_54 : E.zr 54 = [.val .nilFunc] := rfl
theorem ty_56 : E.ty 56 = .one := rfl
theorem zr_56 : E.zr 56 = [.val .nilFunc] := rfl
theorem ty_57 : E.ty 57 = .one := rfl
theorem zr_57 : E.zr 57 = [.val .nilFunc] := rfl
theorem ty_58 : E.ty 58 = .struct [(0, false, 1), (1, false, 1)] 2 := rfl
theorem zr_58 : E.zr 58 = GPageRef.c default := rfl
theorem lv_58 : E.lv 58 = [1, 0] := rfl
theorem ty_59 : E.ty 59 = .struct [(0, false, 1), (1, false, 1)] 2 := rfl
theorem zr_59 : E.zr 59 = GPageRef.c default := rfl
theorem lv_59 : E.lv 59 = [1, 0] := rfl
theorem ty_60 : E.ty 60 = .one := rfl
theorem zr_60 : E.zr 60 = [.val .nilFunc] := rfl
theorem ty_61 : E.ty 61 = .one := rfl
theorem zr_61 : E.zr 61 = [.val .nilFunc] := rfl
theorem ty_63 : E.ty 63 = .one := rfl
theorem zr_63 : E.zr 63 = [.val .nilFunc] := rfl
theorem ty_64 : E.ty 64 = .one := rfl
theorem zr_64 : E.zr 64 = [.val .nilFunc] := rfl
theorem ty_65 : E.ty 65 = .struct [(0, false, 1), (1, false, 1), (2, false, 1), (3, true, 20), (23, false, 1), (24, false, 1), (25, false, 1), (26, false, 1), (27, false, 1), (28, false, 1), (29, false, 1), (30, true, 2), (32, true, 2), (34, false, 1), (35, false, 1)] 36 := rfl
theorem zr_65 : E.zr 65 = GObject.c default := rfl
theorem lv_65 : E.lv 65 = [] := rfl
theorem ty_66 : E.ty 66 = .one := rfl
theorem zr_66 : E.zr 66 = [.val .nilFunc] := rfl
theorem ty_67 : E.ty 67 = .one := rfl
theorem zr_67 : E.zr 67 = [.val .nilFunc] := rfl
theorem ty_68 : E.ty 68 = .one := rfl
theorem zr_68 : E.zr 68 = [.val .nilFunc] := rfl
theorem ty_69 : E.ty 69 = .one := rfl
theorem zr_69 : E.zr 69 = [.val .nilFunc] := rfl
theorem ty_70 : E.ty 70 = .one := rfl
theorem zr_70 : E.zr 70 = [.val .nilFunc] := rfl
theorem ty_71 : E.ty 71 = .one := rfl
theorem zr_71 : E.zr 71 = [.val .nilFunc] := rfl
theorem ty_72 : E.ty 72 = .one := rfl
theorem zr_72 : E.zr 72 = [.val .nilFunc] := rfl
theorem ty_73 : E.ty 73 = .one := rfl
theorem zr_73 : E.zr 73 = [.val .nilFunc] := rfl
theorem ty_74 : E.ty 74 = .one := rfl
theorem zr_74 : E.zr 74 = [.val .nilFunc] := rfl
theorem ty_75 : E.ty 75 = .one := rfl
theorem zr_75 : E.zr 75 = [.val .nilFunc] := rfl
theorem ty_76 : E.ty 76 = .struct [(0, false, 1), (1, false, 1), (2, false, 1), (3, false, 1)] 4 := rfl
theorem zr_76 : E.zr 76 = GInstr.c default := rfl
theorem lv_76 : E.lv 76 = [1, 1, 1, 1] := rfl
theorem ty_77 : E.ty 77 = .struct [(0, false, 1), (1, false, 1), (2, false, 1), (3, false, 1)] 4 := rfl
theorem zr_77 : E.zr 77 = GInstr.c default := rfl
theorem lv_77 : E.lv 77 = [1, 1, 1, 1] := rfl
theorem ty_78 : E.ty 78 = .one := rfl
theorem zr_78 : E.zr 78 = [.val .nilFunc] := rfl
theorem ty_79 : E.ty 79 = .one := rfl
theorem zr_79 : E.zr 79 = [.val .nilFunc] := rfl
theorem ty_80 : E.ty 80 = .one := rfl
theorem zr_80 : E.zr 80 = [.val .nilFunc] := rfl
theorem ty_81 : E.ty 81 = .one := rfl
theorem zr_81 : E.zr 81 = [.val .nilFunc] := rfl
theorem ty_82 : E.ty 82 = .one := rfl
theorem zr_82 : E.zr 82 = [.val .nilFunc] := rfl
theorem ty_83 : E.ty 83 = .ptr := rfl
theorem zr_83 : E.zr 83 = [.val (.pointer none)] := rfl
theorem ty_84 : E.ty 84 = .ptr := rfl
theorem zr_84 : E.zr 84 = [.val (.pointer none)] := rfl
theorem ty_85 : E.ty 85 = .one := rfl
theorem zr_85 : E.zr 85 = [.val .nilFunc] := rfl
theorem ty_86 : E.ty 86 = .one := rfl
theorem zr_86 : E.zr 86 = [.val .nilFunc] := rfl
theorem ty_87 : E.ty 87 = .one := rfl
theorem zr_87 : E.zr 87 = [.val .nilFunc] := rfl
theorem ty_88 : E.ty 88 = .one := rfl
theorem zr_88 : E.zr 88 = [.val .nilFunc] := rfl
theorem ty_89 : E.ty 89 = .struct [(0, false, 1), (1, false, 1), (2, false, 1), (3, false, 1)] 4 := rfl
theorem zr_89 : E.zr 89 = GSlot.c default := rfl
theorem lv_89 : E.lv 89 = [1, 1, 1, 1] := rfl
theorem ty_90 : E.ty 90 = .struct [(0, false, 1), (1, false, 1), (2, false, 1), (3, false, 1)] 4 := rfl
theorem zr_90 : E.zr 90 = GSlot.c default := rfl
theorem lv_90 : E.lv 90 = [1, 1, 1, 1] := rfl
theorem ty_91 : E.ty 91 = .one := rfl
theorem zr_91 : E.zr 91 = [.val .nilFunc] := rfl
theorem ty_92 : E.ty 92 = .one := rfl
theorem zr_92 : E.zr 92 = [.val .nilFunc] := rfl
theorem ty_93 : E.ty 93 = .one := rfl
theorem zr_93 : E.zr 93 = [.val .nilFunc] := rfl
theorem ty_94 : E.ty 94 = .struct [(0, false, 1), (1, false, 1)] 2 := rfl
theorem zr_94 : E.zr 94 = GForm.c default := rfl
theorem lv_94 : E.lv 94 = [2, 2] := rfl
theorem ty_95 : E.ty 95 = .struct [(0, false, 1), (1, false, 1)] 2 := rfl
theorem zr_95 : E.zr 95 = GForm.c default := rfl
theorem lv_95 : E.lv 95 = [2, 2] := rfl
theorem ty_96 : E.ty 96 = .array 13 true 2 := rfl
theorem zr_96 : E.zr 96 = A13GForm.c default := rfl
theorem lv_96 : E.lv 96 = [2, 2, 2, 2, 2, 2, 2, 2, 2, 2, 2, 2, 2, 2, 2, 2, 2, 2, 2, 2, 2, 2, 2, 2, 2, 2] := rfl
theorem ty_97 : E.ty 97 = .array 3 false 1 := rfl
theorem zr_97 : E.zr 97 = A3i64.c default := rfl
theorem lv_97 : E.lv 97 = [1, 1, 1] := rfl
theorem ty_98 : E.ty 98 = .one := rfl
theorem zr_98 : E.zr 98 = [.val .nilFunc] := rfl
theorem ty_99 : E.ty 99 = .one := rfl
theorem zr_99 : E.zr 99 = [.val .nilFunc] := rfl
theorem ty_100 : E.ty 100 = .one := rfl
theorem zr_100 : E.zr 100 = [.val .nilFunc] := rfl
theorem ty_101 : E.ty 101 = .one := rfl
theorem zr_101 : E.zr 101 = [.val .nilFunc] := rfl
theorem ty_102 : E.ty 102 = .one := rfl
theorem zr_102 : E.zr 102 = [.val .nilFunc] := rfl
theorem ty_103 : E.ty 103 = .one := rfl
theorem zr_103 : E.zr 103 = [.val .nilFunc] := rfl
theorem ty_104 : E.ty 104 = .struct [(0, false, 1), (1, false, 1), (2, false, 1)] 3 := rfl
theorem zr_104 : E.zr 104 = GName.c default := rfl
theorem lv_104 : E.lv 104 = [] := rfl
theorem ty_105 : E.ty 105 = .struct [(0, false, 1), (1, false, 1), (2, false, 1)] 3 := rfl
theorem zr_105 : E.zr 105 = GName.c default := rfl
theorem lv_105 : E.lv 105 = [] := rfl
theorem ty_106 : E.ty 106 = .one := rfl
theorem zr_106 : E.zr 106 = [.val .nilFunc] := rfl
theorem ty_107 : E.ty 107 = .one := rfl
theorem zr_107 : E.zr 107 = [.val .nilFunc] := rfl
theorem ty_108 : E.ty 108 = .one := rfl
theorem zr_108 : E.zr 108 = [.val .nilFunc] := rfl
theorem ty_109 : E.ty 109 = .one := rfl
theorem zr_109 : E.zr 109 = [.val .nilFunc] := rfl
theorem ty_115 : E.ty 115 = .one := rfl
theorem zr_115 : E.zr 115 = [.val .nilFunc] := rfl
theorem ty_116 : E.ty 116 = .int .u32 := rfl
theorem zr_116 : E.zr 116 = [.int .u32 0] := rfl
theorem ty_120 : E.ty 120 = .ptr := rfl
theorem zr_120 : E.zr 120 = [.val (.pointer none)] := rfl
attribute [push_cast] ty_1 ty_2 ty_3 ty_4 ty_5 ty_9 ty_12 ty_21 ty_22 ty_23 ty_24 ty_25 ty_26 ty_27 ty_28 ty_29 ty_30 ty_31 ty_32 ty_33 ty_34 ty_35 ty_36 ty_37 ty_38 ty_39 ty_40 ty_41 ty_42 ty_43 ty_45 ty_46 ty_48 ty_50 ty_52 ty_53 ty_54 ty_56 ty_57 ty_58 ty_59 ty_60 ty_61 ty_63 ty_64 ty_65 ty_66 ty_67 ty_68 ty_69 ty_70 ty_71 ty_72 ty_73 ty_74 ty_75 ty_76 ty_77 ty_78 ty_79 ty_80 ty_81 ty_82 ty_83 ty_84 ty_85 ty_86 ty_87 ty_88 ty_89 ty_90 ty_91 ty_92 ty_93 ty_94 ty_95 ty_96 ty_97 ty_98 ty_99 ty_100 ty_101 ty_102 ty_103 ty_104 ty_105 ty_106 ty_107 ty_108 ty_109 ty_115 ty_116 ty_120 zr_1 zr_2 zr_3 zr_4 zr_5 zr_9 zr_12 zr_21 zr_22 zr_23 zr_24 zr_25 zr_26 zr_27 zr_28 zr_29 zr_30 zr_31 zr_32 zr_33 zr_34 zr_35 zr_36 zr_37 zr_38 zr_39 zr_40 zr_41 zr_42 zr_43 zr_45 zr_46 zr_48 zr_50 zr_52 zr_53 zr_54 zr_56 zr_57 zr_58 zr_59 zr_60 zr_61 zr_63 zr_64 zr_65 zr_66 zr_67 zr_68 zr_69 zr_70 zr_71 zr_72 zr_73 zr_74 zr_75 zr_76 zr_77 zr_78 zr_79 zr_80 zr_81 zr_82 zr_83 zr_84 zr_85 zr_86 zr_87 zr_88 zr_89 zr_90 zr_91 zr_92 zr_93 zr_94 zr_95 zr_96 zr_97 zr_98 zr_99 zr_100 zr_101 zr_102 zr_103 zr_104 zr_105 zr_106 zr_107 zr_108 zr_109 zr_115 zr_116 zr_120 lv_28 lv_29 lv_30 lv_31 lv_32 lv_35 lv_36 lv_38 lv_39 lv_41 lv_42 lv_58 lv_59 lv_65 lv_76 lv_77 lv_89 lv_90 lv_94 lv_95 lv_96 lv_97 lv_104 lv_105
theorem call_3 : callable Tryd.prog 3 = true := by kernel_rfl
theorem call_4 : callable Tryd.prog 4 = true := by kernel_rfl
theorem call_5 : callable Tryd.prog 5 = true := by kernel_rfl
theorem call_6 : callable Tryd.prog 6 = true := by kernel_rfl
theorem call_7 : callable Tryd.prog 7 = true := by kernel_rfl
theorem call_8 : callable Tryd.prog 8 = true := by kernel_rfl
theorem call_9 : callable Tryd.prog 9 = true := by kernel_rfl
theorem call_10 : callable Tryd.prog 10 = true := by kernel_rfl
theorem call_11 : callable Tryd.prog 11 = true := by kernel_rfl
theorem call_12 : callable Tryd.prog 12 = true := by kernel_rfl
theorem call_13 : callable Tryd.prog 13 = true := by kernel_rfl
theorem call_14 : callable Tryd.prog 14 = true := by kernel_rfl
theorem call_15 : callable Tryd.prog 15 = true := by kernel_rfl
theorem call_16 : callable Tryd.prog 16 = true := by kernel_rfl
theorem call_17 : callable Tryd.prog 17 = true := by kernel_rfl
theorem call_18 : callable Tryd.prog 18 = true := by kernel_rfl
theorem call_19 : callable Tryd.prog 19 = true := by kernel_rfl
theorem call_20 : callable Tryd.prog 20 = true := by kernel_rfl
theorem call_21 : callable Tryd.prog 21 = true := by kernel_rfl
theorem call_22 : callable Tryd.prog 22 = true := by kernel_rfl
theorem call_23 : callable Tryd.prog 23 = true := by kernel_rfl
theorem call_24 : callable Tryd.prog 24 = true := by kernel_rfl
theorem call_25 : callable Tryd.prog 25 = true := by kernel_rfl
theorem call_26 : callable Tryd.prog 26 = true := by kernel_rfl
theorem call_27 : callable Tryd.prog 27 = true := by kernel_rfl
theorem call_28 : callable Tryd.prog 28 = true := by kernel_rfl
theorem call_29 : callable Tryd.prog 29 = true := by kernel_rfl
theorem call_30 : callable Tryd.prog 30 = true := by kernel_rfl
theorem call_31 : callable Tryd.prog 31 = true := by kernel_rfl
theorem call_32 : callable Tryd.prog 32 = true := by kernel_rfl
theorem call_33 : callable Tryd.prog 33 = true := by kernel_rfl
theorem call_34 : callable Tryd.prog 34 = true := by kernel_rfl
theorem call_35 : callable Tryd.prog 35 = true := by kernel_rfl
theorem call_36 : callable Tryd.prog 36 = true := by kernel_rfl
theorem call_37 : callable Tryd.prog 37 = true := by kernel_rfl
theorem call_38 : callable Tryd.prog 38 = true := by kernel_rfl
theorem call_39 : callable Tryd.prog 39 = true := by kernel_rfl
theorem call_40 : callable Tryd.prog 40 = true := by kernel_rfl
theorem call_41 : callable Tryd.prog 41 = true := by kernel_rfl
theorem call_42 : callable Tryd.prog 42 = true := by kernel_rfl
theorem call_43 : callable Tryd.prog 43 = true := by kernel_rfl
theorem call_44 : callable Tryd.prog 44 = true := by kernel_rfl
theorem call_45 : callable Tryd.prog 45 = true := by kernel_rfl
theorem call_46 : callable Tryd.prog 46 = true := by kernel_rfl
theorem call_47 : callable Tryd.prog 47 = true := by kernel_rfl
theorem call_48 : callable Tryd.prog 48 = true := by kernel_rfl
theorem call_49 : callable Tryd.prog 49 = true := by kernel_rfl
theorem call_70 : callable Tryd.prog 70 = true := by kernel_rfl
end Go.Proofs.YtfmldmafigpblaaDoor
