/-
  The types of this seat, as the evaluator sees them. Printed by a program of ours (gen_env.py).
-/
import Derived.Test.YtnnabccfagojhaaRows
import Derived.Test.YtnnabccfagojhaaTyp
namespace Go.Proofs.Ytnnabccfagojhaa
open Go.Lift
set_option linter.unusedSimpArgs false
set_option linter.unusedVariables false
def nilS : SV := .sl true 0 0 fun _ => []
def tyL : List TyI := [
  .bad,
  .one,
  .int .i64,
  .int .i64,
  .bool,
  .int .u8,
  .bad,
  .bad,
  .bad,
  .string,
  .bad,
  .bad,
  .int .u64,
  .bad,
  .bad,
  .bad,
  .bad,
  .bad,
  .bad,
  .bad,
  .bad,
  .int .i32,
  .slice 3 1 8,
  .int .u64,
  .one,
  .slice 31 5 40,
  .struct [(0, false, 1), (1, false, 1), (2, false, 1)] 3,
  .struct [(0, false, 1), (1, false, 1), (2, false, 1)] 3,
  .bad,
  .one,
  .struct [(0, false, 1), (1, false, 1), (2, false, 1), (3, false, 1), (4, false, 1)] 5,
  .struct [(0, false, 1), (1, false, 1), (2, false, 1), (3, false, 1), (4, false, 1)] 5,
  .int .i64,
  .bad,
  .one,
  .one,
  .one,
  .one,
  .one,
  .slice 5 1 1,
  .slice 23 1 8,
  .slice 135 4 32,
  .slice 9 1 16,
  .struct [(0, false, 1), (1, false, 1), (2, false, 1)] 3,
  .struct [(0, false, 1), (1, false, 1), (2, false, 1)] 3,
  .array 8 false 1,
  .struct [(0, false, 1), (1, true, 8)] 9,
  .struct [(0, false, 1), (1, true, 8)] 9,
  .slice 137 2 16,
  .slice 139 4 32,
  .struct [(0, false, 1), (1, false, 1), (2, false, 1), (3, true, 3), (6, true, 9), (15, false, 1), (16, false, 1), (17, false, 1), (18, false, 1), (19, false, 1)] 20,
  .struct [(0, false, 1), (1, false, 1), (2, false, 1), (3, true, 3), (6, true, 9), (15, false, 1), (16, false, 1), (17, false, 1), (18, false, 1), (19, false, 1)] 20,
  .slice 2 1 8,
  .array 2 false 1,
  .array 2 false 1,
  .slice 141 3 48,
  .struct [(0, false, 1), (1, false, 1), (2, false, 1), (3, true, 20), (23, false, 1), (24, false, 1), (25, false, 1), (26, false, 1), (27, false, 1), (28, false, 1), (29, false, 1), (30, true, 2), (32, true, 2), (34, false, 1), (35, false, 1)] 36,
  .struct [(0, false, 1), (1, false, 1), (2, false, 1), (3, true, 20), (23, false, 1), (24, false, 1), (25, false, 1), (26, false, 1), (27, false, 1), (28, false, 1), (29, false, 1), (30, true, 2), (32, true, 2), (34, false, 1), (35, false, 1)] 36,
  .one,
  .mapI .i64 .u8,
  .bad,
  .one,
  .bad,
  .one,
  .one,
  .slice 80 3 24,
  .array 4 false 1,
  .bad,
  .one,
  .slice 65 1 24,
  .array 3 false 1,
  .slice 70 3 24,
  .bad,
  .one,
  .one,
  .one,
  .one,
  .one,
  .one,
  .struct [(0, false, 1), (1, false, 1), (2, false, 1)] 3,
  .struct [(0, false, 1), (1, false, 1), (2, false, 1)] 3,
  .one,
  .one,
  .ptr,
  .one,
  .one,
  .slice 25 1 24,
  .slice 27 3 24,
  .one,
  .one,
  .one,
  .one,
  .one,
  .one,
  .one,
  .one,
  .one,
  .one,
  .one,
  .bad,
  .one,
  .one,
  .one,
  .one,
  .one,
  .struct [(0, false, 1), (1, false, 1)] 2,
  .struct [(0, false, 1), (1, false, 1)] 2,
  .one,
  .mapI .i64 .i64,
  .one,
  .one,
  .one,
  .bad,
  .one,
  .one,
  .ptr,
  .one,
  .one,
  .one,
  .bad,
  .bad,
  .bad,
  .bad,
  .bad,
  .one,
  .int .u32,
  .bad,
  .bad,
  .bad,
  .ptr,
  .bad,
  .bad,
  .bad,
  .bad,
  .struct [(0, false, 1), (1, false, 1), (2, false, 1), (3, false, 1)] 4,
  .struct [(0, false, 1), (1, false, 1), (2, false, 1), (3, false, 1)] 4,
  .struct [(0, false, 1), (1, false, 1)] 2,
  .struct [(0, false, 1), (1, false, 1)] 2,
  .struct [(0, false, 1), (1, false, 1), (2, false, 1), (3, false, 1)] 4,
  .struct [(0, false, 1), (1, false, 1), (2, false, 1), (3, false, 1)] 4,
  .struct [(0, false, 1), (1, false, 1), (2, false, 1)] 3,
  .struct [(0, false, 1), (1, false, 1), (2, false, 1)] 3,
  .bad]
def zrL : List (List SV) := [
  [],
  [.val .nilFunc],
  [.int .i64 0],
  [.int .i64 0],
  [.bool false],
  [.int .u8 0],
  [],
  [],
  [],
  [.str []],
  [],
  [],
  [.int .u64 0],
  [],
  [],
  [],
  [],
  [],
  [],
  [],
  [],
  [.int .i32 0],
  [nilS],
  [.int .u64 0],
  [.val .nilFunc],
  [nilS],
  GTerms.c default,
  GTerms.c default,
  [],
  [.val .nilFunc],
  GContract.c default,
  GContract.c default,
  [.int .i64 0],
  [],
  [.val .nilFunc],
  [.val .nilFunc],
  [.val .nilFunc],
  [.val .nilFunc],
  [.val .nilFunc],
  [nilS],
  [nilS],
  [nilS],
  [nilS],
  GProgram.c default,
  GProgram.c default,
  A8i64.c default,
  GCPU.c default,
  GCPU.c default,
  [nilS],
  [nilS],
  GProcess.c default,
  GProcess.c default,
  [nilS],
  A2Lu8.c default,
  A2i64.c default,
  [nilS],
  GObject.c default,
  GObject.c default,
  [.val .nilFunc],
  [.val (.map none)],
  [],
  [.val .nilFunc],
  [],
  [.val .nilFunc],
  [.val .nilFunc],
  [nilS],
  A4i64.c default,
  [],
  [.val .nilFunc],
  [nilS],
  A3i64.c default,
  [nilS],
  [],
  [.val .nilFunc],
  [.val .nilFunc],
  [.val .nilFunc],
  [.val .nilFunc],
  [.val .nilFunc],
  [.val .nilFunc],
  GAddress.c default,
  GAddress.c default,
  [.val .nilFunc],
  [.val .nilFunc],
  [.val (.pointer none)],
  [.val .nilFunc],
  [.val .nilFunc],
  [nilS],
  [nilS],
  [.val .nilFunc],
  [.val .nilFunc],
  [.val .nilFunc],
  [.val .nilFunc],
  [.val .nilFunc],
  [.val .nilFunc],
  [.val .nilFunc],
  [.val .nilFunc],
  [.val .nilFunc],
  [.val .nilFunc],
  [.val .nilFunc],
  [],
  [.val .nilFunc],
  [.val .nilFunc],
  [.val .nilFunc],
  [.val .nilFunc],
  [.val .nilFunc],
  GDeck.c default,
  GDeck.c default,
  [.val .nilFunc],
  [.val (.map none)],
  [.val .nilFunc],
  [.val .nilFunc],
  [.val .nilFunc],
  [],
  [.val .nilFunc],
  [.val .nilFunc],
  [.val (.pointer none)],
  [.val .nilFunc],
  [.val .nilFunc],
  [.val .nilFunc],
  [],
  [],
  [],
  [],
  [],
  [.val .nilFunc],
  [.int .u32 0],
  [],
  [],
  [],
  [.val (.pointer none)],
  [],
  [],
  [],
  [],
  GInstr.c default,
  GInstr.c default,
  GPageRef.c default,
  GPageRef.c default,
  GSlot.c default,
  GSlot.c default,
  GName.c default,
  GName.c default,
  []]
def lvL : List (List Nat) := [
  [],
  [],
  [],
  [],
  [],
  [],
  [],
  [],
  [],
  [],
  [],
  [],
  [],
  [],
  [],
  [],
  [],
  [],
  [],
  [],
  [],
  [],
  [],
  [],
  [],
  [],
  [1, 1, 1],
  [1, 1, 1],
  [],
  [],
  [1, 1, 1, 1, 1],
  [1, 1, 1, 1, 1],
  [],
  [],
  [],
  [],
  [],
  [],
  [],
  [],
  [],
  [],
  [],
  [],
  [],
  [1, 1, 1, 1, 1, 1, 1, 1],
  [1, 1, 1, 1, 1, 1, 1, 1, 1],
  [1, 1, 1, 1, 1, 1, 1, 1, 1],
  [],
  [],
  [],
  [],
  [],
  [],
  [1, 1],
  [],
  [],
  [],
  [],
  [],
  [],
  [],
  [],
  [],
  [],
  [],
  [1, 1, 1, 1],
  [],
  [],
  [],
  [1, 1, 1],
  [],
  [],
  [],
  [],
  [],
  [],
  [],
  [],
  [1, 1, 1],
  [1, 1, 1],
  [],
  [],
  [],
  [],
  [],
  [],
  [],
  [],
  [],
  [],
  [],
  [],
  [],
  [],
  [],
  [],
  [],
  [],
  [],
  [],
  [],
  [],
  [],
  [],
  [],
  [],
  [],
  [],
  [],
  [],
  [],
  [],
  [],
  [],
  [],
  [],
  [],
  [],
  [],
  [],
  [],
  [],
  [],
  [],
  [],
  [],
  [],
  [],
  [],
  [],
  [],
  [],
  [],
  [1, 1, 1, 1],
  [1, 1, 1, 1],
  [1, 0],
  [1, 0],
  [1, 1, 1, 1],
  [1, 1, 1, 1],
  [],
  [],
  []]
def E : Env := envOf tyL zrL lvL
set_option maxRecDepth 100000 in
theorem E_ok : EnvOK Try.prog E := envOf_ok (by kernel_rfl)
theorem ty_1 : E.ty 1 = .one := rfl
theorem zr_1 : E.zr 1 = [.val .nilFunc] := rfl
theorem ty_2 : E.ty 2 = .int .i64 := rfl
theorem zr_2 : E.zr 2 = [.int .i64 0] := rfl
theorem ty_3 : E.ty 3 = .int .i64 := rfl
theorem zr_3 : E.zr 3 = [.int .i64 0] := rfl
theorem ty_4 : E.ty 4 = .bool := rfl
theorem zr_4 : E.zr 4 = [.bool false] := rfl
theorem ty_5 : E.ty 5 = .int .u8 := rfl
theorem zr_5 : E.zr 5 = [.int .u8 0] := rfl
theorem ty_9 : E.ty 9 = .string := rfl
theorem zr_9 : E.zr 9 = [.str []] := rfl
theorem ty_12 : E.ty 12 = .int .u64 := rfl
theorem zr_12 : E.zr 12 = [.int .u64 0] := rfl
theorem ty_21 : E.ty 21 = .int .i32 := rfl
theorem zr_21 : E.zr 21 = [.int .i32 0] := rfl
theorem ty_22 : E.ty 22 = .slice 3 1 8 := rfl
theorem zr_22 : E.zr 22 = [nilS] := rfl
theorem ty_23 : E.ty 23 = .int .u64 := rfl
theorem zr_23 : E.zr 23 = [.int .u64 0] := rfl
theorem ty_24 : E.ty 24 = .one := rfl
theorem zr_24 : E.zr 24 = [.val .nilFunc] := rfl
theorem ty_25 : E.ty 25 = .slice 31 5 40 := rfl
theorem zr_25 : E.zr 25 = [nilS] := rfl
theorem ty_26 : E.ty 26 = .struct [(0, false, 1), (1, false, 1), (2, false, 1)] 3 := rfl
theorem zr_26 : E.zr 26 = GTerms.c default := rfl
theorem lv_26 : E.lv 26 = [1, 1, 1] := rfl
theorem ty_27 : E.ty 27 = .struct [(0, false, 1), (1, false, 1), (2, false, 1)] 3 := rfl
theorem zr_27 : E.zr 27 = GTerms.c default := rfl
theorem lv_27 : E.lv 27 = [1, 1, 1] := rfl
theorem ty_29 : E.ty 29 = .one := rfl
theorem zr_29 : E.zr 29 = [.val .nilFunc] := rfl
theorem ty_30 : E.ty 30 = .struct [(0, false, 1), (1, false, 1), (2, false, 1), (3, false, 1), (4, false, 1)] 5 := rfl
theorem zr_30 : E.zr 30 = GContract.c default := rfl
theorem lv_30 : E.lv 30 = [1, 1, 1, 1, 1] := rfl
theorem ty_31 : E.ty 31 = .struct [(0, false, 1), (1, false, 1), (2, false, 1), (3, false, 1), (4, false, 1)] 5 := rfl
theorem zr_31 : E.zr 31 = GContract.c default := rfl
theorem lv_31 : E.lv 31 = [1, 1, 1, 1, 1] := rfl
theorem ty_32 : E.ty 32 = .int .i64 := rfl
theorem zr_32 : E.zr 32 = [.int .i64 0] := rfl
theorem ty_34 : E.ty 34 = .one := rfl
theorem zr_34 : E.zr 34 = [.val .nilFunc] := rfl
theorem ty_35 : E.ty 35 = .one := rfl
theorem zr_35 : E.zr 35 = [.val .nilFunc] := rfl
theorem ty_36 : E.ty 36 = .one := rfl
theorem zr_36 : E.zr 36 = [.val .nilFunc] := rfl
theorem ty_37 : E.ty 37 = .one := rfl
theorem zr_37 : E.zr 37 = [.val .nilFunc] := rfl
theorem ty_38 : E.ty 38 = .one := rfl
theorem zr_38 : E.zr 38 = [.val .nilFunc] := rfl
theorem ty_39 : E.ty 39 = .slice 5 1 1 := rfl
theorem zr_39 : E.zr 39 = [nilS] := rfl
theorem ty_40 : E.ty 40 = .slice 23 1 8 := rfl
theorem zr_40 : E.zr 40 = [nilS] := rfl
theorem ty_41 : E.ty 41 = .slice 135 4 32 := rfl
theorem zr_41 : E.zr 41 = [nilS] := rfl
theorem ty_42 : E.ty 42 = .slice 9 1 16 := rfl
theorem zr_42 : E.zr 42 = [nilS] := rfl
theorem ty_43 : E.ty 43 = .struct [(0, false, 1), (1, false, 1), (2, false, 1)] 3 := rfl
theorem zr_43 : E.zr 43 = GProgram.c default := rfl
theorem lv_43 : E.lv 43 = [] := rfl
theorem ty_44 : E.ty 44 = .struct [(0, false, 1), (1, false, 1), (2, false, 1)] 3 := rfl
theorem zr_44 : E.zr 44 = GProgram.c default := rfl
theorem lv_44 : E.lv 44 = [] := rfl
theorem ty_45 : E.ty 45 = .array 8 false 1 := rfl
theorem zr_45 : E.zr 45 = A8i64.c default := rfl
theorem lv_45 : E.lv 45 = [1, 1, 1, 1, 1, 1, 1, 1] := rfl
theorem ty_46 : E.ty 46 = .struct [(0, false, 1), (1, true, 8)] 9 := rfl
theorem zr_46 : E.zr 46 = GCPU.c default := rfl
theorem lv_46 : E.lv 46 = [1, 1, 1, 1, 1, 1, 1, 1, 1] := rfl
theorem ty_47 : E.ty 47 = .struct [(0, false, 1), (1, true, 8)] 9 := rfl
theorem zr_47 : E.zr 47 = GCPU.c default := rfl
theorem lv_47 : E.lv 47 = [1, 1, 1, 1, 1, 1, 1, 1, 1] := rfl
theorem ty_48 : E.ty 48 = .slice 137 2 16 := rfl
theorem zr_48 : E.zr 48 = [nilS] := rfl
theorem ty_49 : E.ty 49 = .slice 139 4 32 := rfl
theorem zr_49 : E.zr 49 = [nilS] := rfl
theorem ty_50 : E.ty 50 = .struct [(0, false, 1), (1, false, 1), (2, false, 1), (3, true, 3), (6, true, 9), (15, false, 1), (16, false, 1), (17, false, 1), (18, false, 1), (19, false, 1)] 20 := rfl
theorem zr_50 : E.zr 50 = GProcess.c default := rfl
theorem lv_50 : E.lv 50 = [] := rfl
theorem ty_51 : E.ty 51 = .struct [(0, false, 1), (1, false, 1), (2, false, 1), (3, true, 3), (6, true, 9), (15, false, 1), (16, false, 1), (17, false, 1), (18, false, 1), (19, false, 1)] 20 := rfl
theorem zr_51 : E.zr 51 = GProcess.c default := rfl
theorem lv_51 : E.lv 51 = [] := rfl
theorem ty_52 : E.ty 52 = .slice 2 1 8 := rfl
theorem zr_52 : E.zr 52 = [nilS] := rfl
theorem ty_53 : E.ty 53 = .array 2 false 1 := rfl
theorem zr_53 : E.zr 53 = A2Lu8.c default := rfl
theorem lv_53 : E.lv 53 = [] := rfl
theorem ty_54 : E.ty 54 = .array 2 false 1 := rfl
theorem zr_54 : E.zr 54 = A2i64.c default := rfl
theorem lv_54 : E.lv 54 = [1, 1] := rfl
theorem ty_55 : E.ty 55 = .slice 141 3 48 := rfl
theorem zr_55 : E.zr 55 = [nilS] := rfl
theorem ty_56 : E.ty 56 = .struct [(0, false, 1), (1, false, 1), (2, false, 1), (3, true, 20), (23, false, 1), (24, false, 1), (25, false, 1), (26, false, 1), (27, false, 1), (28, false, 1), (29, false, 1), (30, true, 2), (32, true, 2), (34, false, 1), (35, false, 1)] 36 := rfl
theorem zr_56 : E.zr 56 = GObject.c default := rfl
theorem lv_56 : E.lv 56 = [] := rfl
theorem ty_57 : E.ty 57 = .struct [(0, false, 1), (1, false, 1), (2, false, 1), (3, true, 20), (23, false, 1), (24, false, 1), (25, false, 1), (26, false, 1), (27, false, 1), (28, false, 1), (29, false, 1), (30, true, 2), (32, true, 2), (34, false, 1), (35, false, 1)] 36 := rfl
theorem zr_57 : E.zr 57 = GObject.c default := rfl
theorem lv_57 : E.lv 57 = [] := rfl
theorem ty_58 : E.ty 58 = .one := rfl
theorem zr_58 : E.zr 58 = [.val .nilFunc] := rfl
theorem ty_59 : E.ty 59 = .mapI .i64 .u8 := rfl
theorem zr_59 : E.zr 59 = [.val (.map none)] := rfl
theorem ty_61 : E.ty 61 = .one := rfl
theorem zr_61 : E.zr 61 = [.val .nilFunc] := rfl
theorem ty_63 : E.ty 63 = .one := rfl
theorem zr_63 : E.zr 63 = [.val .nilFunc] := rfl
theorem ty_64 : E.ty 64 = .one := rfl
theorem zr_64 : E.zr 64 = [.val .nilFunc] := rfl
theorem ty_65 : E.ty 65 = .slice 80 3 24 := rfl
theorem zr_65 : E.zr 65 = [nilS] := rfl
theorem ty_66 : E.ty 66 = .array 4 false 1 := rfl
theorem zr_66 : E.zr 66 = A4i64.c default := rfl
theorem lv_66 : E.lv 66 = [1, 1, 1, 1] := rfl
theorem ty_68 : E.ty 68 = .one := rfl
theorem zr_68 : E.zr 68 = [.val .nilFunc] := rfl
theorem ty_69 : E.ty 69 = .slice 65 1 24 := rfl
theorem zr_69 : E.zr 69 = [nilS] := rfl
theorem ty_70 : E.ty 70 = .array 3 false 1 := rfl
theorem zr_70 : E.zr 70 = A3i64.c default := rfl
theorem lv_70 : E.lv 70 = [1, 1, 1] := rfl
theorem ty_71 : E.ty 71 = .slice 70 3 24 := rfl
theorem zr_71 : E.zr 71 = [nilS] := rfl
theorem ty_73 : E.ty 73 = .one := rfl
theorem zr_73 : E.zr 73 = [.val .nilFunc] := rfl
theorem ty_74 : E.ty 74 = .one := rfl
theorem zr_74 : E.zr 74 = [.val .nilFunc] := rfl
theorem ty_75 : E.ty 75 = .one := rfl
theorem zr_75 : E.zr 75 = [.val .nilFunc] := rfl
theorem ty_76 : E.ty 76 = .one := rfl
theorem zr_76 : E.zr 76 = [.val .nilFunc] := rfl
theorem ty_77 : E.ty 77 = .one := rfl
theorem zr_77 : E.zr 77 = [.val .nilFunc] := rfl
theorem ty_78 : E.ty 78 = .one := rfl
theorem zr_78 : E.zr 78 = [.val .nilFunc] := rfl
theorem ty_79 : E.ty 79 = .struct [(0, false, 1), (1, false, 1), (2, false, 1)] 3 := rfl
theorem zr_79 : E.zr 79 = GAddress.c default := rfl
theorem lv_79 : E.lv 79 = [1, 1, 1] := rfl
theorem ty_80 : E.ty 80 = .struct [(0, false, 1), (1, false, 1), (2, false, 1)] 3 := rfl
theorem zr_80 : E.zr 80 = GAddress.c default := rfl
theorem lv_80 : E.lv 80 = [1, 1, 1] := rfl
theorem ty_81 : E.ty 81 = .one := rfl
theorem zr_81 : E.zr 81 = [.val .nilFunc] := rfl
theorem ty_82 : E.ty 82 = .one := rfl
theorem zr_82 : E.zr 82 = [.val .nilFunc] := rfl
theorem ty_83 : E.ty 83 = .ptr := rfl
theorem zr_83 : E.zr 83 = [.val (.pointer none)] := rfl
theorem ty_84 : E.ty 84 = .one := rfl
theorem zr_84 : E.zr 84 = [.val .nilFunc] := rfl
theorem ty_85 : E.ty 85 = .one := rfl
theorem zr_85 : E.zr 85 = [.val .nilFunc] := rfl
theorem ty_86 : E.ty 86 = .slice 25 1 24 := rfl
theorem zr_86 : E.zr 86 = [nilS] := rfl
theorem ty_87 : E.ty 87 = .slice 27 3 24 := rfl
theorem zr_87 : E.zr 87 = [nilS] := rfl
theorem ty_88 : E.ty 88 = .one := rfl
theorem zr_88 : E.zr 88 = [.val .nilFunc] := rfl
theorem ty_89 : E.ty 89 = .one := rfl
theorem zr_89 : E.zr 89 = [.val .nilFunc] := rfl
theorem ty_90 : E.ty 90 = .one := rfl
theorem zr_90 : E.zr 90 = [.val .nilFunc] := rfl
theorem ty_91 : E.ty 91 = .one := rfl
theorem zr_91 : E.zr 91 = [.val .nilFunc] := rfl
theorem ty_92 : E.ty 92 = .one := rfl
theorem zr_92 : E.zr 92 = [.val .nilFunc] := rfl
theorem ty_93 : E.ty 93 = .one := rfl
theorem zr_93 : E.zr 93 = [.val .nilFunc] := rfl
theorem ty_94 : E.ty 94 = .one := rfl
theorem zr_94 : E.zr 94 = [.val .nilFunc] := rfl
theorem ty_95 : E.ty 95 = .one := rfl
theorem zr_95 : E.zr 95 = [.val .nilFunc] := rfl
theorem ty_96 : E.ty 96 = .one := rfl
theorem zr_96 : E.zr 96 = [.val .nilFunc] := rfl
theorem ty_97 : E.ty 97 = .one := rfl
theorem zr_97 : E.zr 97 = [.val .nilFunc] := rfl
theorem ty_98 : E.ty 98 = .one := rfl
theorem zr_98 : E.zr 98 = [.val .nilFunc] := rfl
theorem ty_100 : E.ty 100 = .one := rfl
theorem zr_100 : E.zr 100 = [.val .nilFunc] := rfl
theorem ty_101 : E.ty 101 = .one := rfl
theorem zr_101 : E.zr 101 = [.val .nilFunc] := rfl
theorem ty_102 : E.ty 102 = .one := rfl
theorem zr_102 : E.zr 102 = [.val .nilFunc] := rfl
theorem ty_103 : E.ty 103 = .one := rfl
theorem zr_103 : E.zr 103 = [.val .nilFunc] := rfl
theorem ty_104 : E.ty 104 = .one := rfl
theorem zr_104 : E.zr 104 = [.val .nilFunc] := rfl
theorem ty_105 : E.ty 105 = .struct [(0, false, 1), (1, false, 1)] 2 := rfl
theorem zr_105 : E.zr 105 = GDeck.c default := rfl
theorem lv_105 : E.lv 105 = [] := rfl
theorem ty_106 : E.ty 106 = .struct [(0, false, 1), (1, false, 1)] 2 := rfl
theorem zr_106 : E.zr 106 = GDeck.c default := rfl
theorem lv_106 : E.lv 106 = [] := rfl
theorem ty_107 : E.ty 107 = .one := rfl
theorem zr_107 : E.zr 107 = [.val .nilFunc] := rfl
theorem ty_108 : E.ty 108 = .mapI .i64 .i64 := rfl
theorem zr_108 : E.zr 108 = [.val (.map none)] := rfl
theorem ty_109 : E.ty 109 = .one := rfl
theorem zr_109 : E.zr 109 = [.val .nilFunc] := rfl
theorem ty_110 : E.ty 110 = .one := rfl
theorem zr_110 : E.zr 110 = [.val .nilFunc] := rfl
theorem ty_111 : E.ty 111 = .one := rfl
theorem zr_111 : E.zr 111 = [.val .nilFunc] := rfl
theorem ty_113 : E.ty 113 = .one := rfl
theorem zr_113 : E.zr 113 = [.val .nilFunc] := rfl
theorem ty_114 : E.ty 114 = .one := rfl
theorem zr_114 : E.zr 114 = [.val .nilFunc] := rfl
theorem ty_115 : E.ty 115 = .ptr := rfl
theorem zr_115 : E.zr 115 = [.val (.pointer none)] := rfl
theorem ty_116 : E.ty 116 = .one := rfl
theorem zr_116 : E.zr 116 = [.val .nilFunc] := rfl
theorem ty_117 : E.ty 117 = .one := rfl
theorem zr_117 : E.zr 117 = [.val .nilFunc] := rfl
theorem ty_118 : E.ty 118 = .one := rfl
theorem zr_118 : E.zr 118 = [.val .nilFunc] := rfl
theorem ty_124 : E.ty 124 = .one := rfl
theorem zr_124 : E.zr 124 = [.val .nilFunc] := rfl
theorem ty_125 : E.ty 125 = .int .u32 := rfl
theorem zr_125 : E.zr 125 = [.int .u32 0] := rfl
theorem ty_129 : E.ty 129 = .ptr := rfl
theorem zr_129 : E.zr 129 = [.val (.pointer none)] := rfl
theorem ty_134 : E.ty 134 = .struct [(0, false, 1), (1, false, 1), (2, false, 1), (3, false, 1)] 4 := rfl
theorem zr_134 : E.zr 134 = GInstr.c default := rfl
theorem lv_134 : E.lv 134 = [1, 1, 1, 1] := rfl
theorem ty_135 : E.ty 135 = .struct [(0, false, 1), (1, false, 1), (2, false, 1), (3, false, 1)] 4 := rfl
theorem zr_135 : E.zr 135 = GInstr.c default := rfl
theorem lv_135 : E.lv 135 = [1, 1, 1, 1] := rfl
theorem ty_136 : E.ty 136 = .struct [(0, false, 1), (1, false, 1)] 2 := rfl
theorem zr_136 : E.zr 136 = GPageRef.c default := rfl
theorem lv_136 : E.lv 136 = [1, 0] := rfl
theorem ty_137 : E.ty 137 = .struct [(0, false, 1), (1, false, 1)] 2 := rfl
theorem zr_137 : E.zr 137 = GPageRef.c default := rfl
theorem lv_137 : E.lv 137 = [1, 0] := rfl
theorem ty_138 : E.ty 138 = .struct [(0, false, 1), (1, false, 1), (2, false, 1), (3, false, 1)] 4 := rfl
theorem zr_138 : E.zr 138 = GSlot.c default := rfl
theorem lv_138 : E.lv 138 = [1, 1, 1, 1] := rfl
theorem ty_139 : E.ty 139 = .struct [(0, false, 1), (1, false, 1), (2, false, 1), (3, false, 1)] 4 := rfl
theorem zr_139 : E.zr 139 = GSlot.c default := rfl
theorem lv_139 : E.lv 139 = [1, 1, 1, 1] := rfl
theorem ty_140 : E.ty 140 = .struct [(0, false, 1), (1, false, 1), (2, false, 1)] 3 := rfl
theorem zr_140 : E.zr 140 = GName.c default := rfl
theorem lv_140 : E.lv 140 = [] := rfl
theorem ty_141 : E.ty 141 = .struct [(0, false, 1), (1, false, 1), (2, false, 1)] 3 := rfl
theorem zr_141 : E.zr 141 = GName.c default := rfl
theorem lv_141 : E.lv 141 = [] := rfl
attribute [push_cast] ty_1 ty_2 ty_3 ty_4 ty_5 ty_9 ty_12 ty_21 ty_22 ty_23 ty_24 ty_25 ty_26 ty_27 ty_29 ty_30 ty_31 ty_32 ty_34 ty_35 ty_36 ty_37 ty_38 ty_39 ty_40 ty_41 ty_42 ty_43 ty_44 ty_45 ty_46 ty_47 ty_48 ty_49 ty_50 ty_51 ty_52 ty_53 ty_54 ty_55 ty_56 ty_57 ty_58 ty_59 ty_61 ty_63 ty_64 ty_65 ty_66 ty_68 ty_69 ty_70 ty_71 ty_73 ty_74 ty_75 ty_76 ty_77 ty_78 ty_79 ty_80 ty_81 ty_82 ty_83 ty_84 ty_85 ty_86 ty_87 ty_88 ty_89 ty_90 ty_91 ty_92 ty_93 ty_94 ty_95 ty_96 ty_97 ty_98 ty_100 ty_101 ty_102 ty_103 ty_104 ty_105 ty_106 ty_107 ty_108 ty_109 ty_110 ty_111 ty_113 ty_114 ty_115 ty_116 ty_117 ty_118 ty_124 ty_125 ty_129 ty_134 ty_135 ty_136 ty_137 ty_138 ty_139 ty_140 ty_141 zr_1 zr_2 zr_3 zr_4 zr_5 zr_9 zr_12 zr_21 zr_22 zr_23 zr_24 zr_25 zr_26 zr_27 zr_29 zr_30 zr_31 zr_32 zr_34 zr_35 zr_36 zr_37 zr_38 zr_39 zr_40 zr_41 zr_42 zr_43 zr_44 zr_45 zr_46 zr_47 zr_48 zr_49 zr_50 zr_51 zr_52 zr_53 zr_54 zr_55 zr_56 zr_57 zr_58 zr_59 zr_61 zr_63 zr_64 zr_65 zr_66 zr_68 zr_69 zr_70 zr_71 zr_73 zr_74 zr_75 zr_76 zr_77 zr_78 zr_79 zr_80 zr_81 zr_82 zr_83 zr_84 zr_85 zr_86 zr_87 zr_88 zr_89 zr_90 zr_91 zr_92 zr_93 zr_94 zr_95 zr_96 zr_97 zr_98 zr_100 zr_101 zr_102 zr_103 zr_104 zr_105 zr_106 zr_107 zr_108 zr_109 zr_110 zr_111 zr_113 zr_114 zr_115 zr_116 zr_117 zr_118 zr_124 zr_125 zr_129 zr_134 zr_135 zr_136 zr_137 zr_138 zr_139 zr_140 zr_141 lv_26 lv_27 lv_30 lv_31 lv_43 lv_44 lv_45 lv_46 lv_47 lv_50 lv_51 lv_53 lv_54 lv_56 lv_57 lv_66 lv_70 lv_79 lv_80 lv_105 lv_106 lv_134 lv_135 lv_136 lv_137 lv_138 lv_139 lv_140 lv_141
theorem call_3 : callable Try.prog 3 = true := by kernel_rfl
theorem call_4 : callable Try.prog 4 = true := by kernel_rfl
theorem call_5 : callable Try.prog 5 = true := by kernel_rfl
theorem call_6 : callable Try.prog 6 = true := by kernel_rfl
theorem call_7 : callable Try.prog 7 = true := by kernel_rfl
theorem call_8 : callable Try.prog 8 = true := by kernel_rfl
theorem call_9 : callable Try.prog 9 = true := by kernel_rfl
theorem call_10 : callable Try.prog 10 = true := by kernel_rfl
theorem call_11 : callable Try.prog 11 = true := by kernel_rfl
theorem call_12 : callable Try.prog 12 = true := by kernel_rfl
theorem call_13 : callable Try.prog 13 = true := by kernel_rfl
theorem call_14 : callable Try.prog 14 = true := by kernel_rfl
theorem call_15 : callable Try.prog 15 = true := by kernel_rfl
theorem call_16 : callable Try.prog 16 = true := by kernel_rfl
theorem call_17 : callable Try.prog 17 = true := by kernel_rfl
theorem call_18 : callable Try.prog 18 = true := by kernel_rfl
theorem call_19 : callable Try.prog 19 = true := by kernel_rfl
theorem call_20 : callable Try.prog 20 = true := by kernel_rfl
theorem call_21 : callable Try.prog 21 = true := by kernel_rfl
theorem call_22 : callable Try.prog 22 = true := by kernel_rfl
theorem call_23 : callable Try.prog 23 = true := by kernel_rfl
theorem call_24 : callable Try.prog 24 = true := by kernel_rfl
theorem call_25 : callable Try.prog 25 = true := by kernel_rfl
theorem call_26 : callable Try.prog 26 = true := by kernel_rfl
theorem call_27 : callable Try.prog 27 = true := by kernel_rfl
theorem call_28 : callable Try.prog 28 = true := by kernel_rfl
theorem call_29 : callable Try.prog 29 = true := by kernel_rfl
theorem call_30 : callable Try.prog 30 = true := by kernel_rfl
theorem call_31 : callable Try.prog 31 = true := by kernel_rfl
theorem call_32 : callable Try.prog 32 = true := by kernel_rfl
theorem call_33 : callable Try.prog 33 = true := by kernel_rfl
theorem call_34 : callable Try.prog 34 = true := by kernel_rfl
theorem call_35 : callable Try.prog 35 = true := by kernel_rfl
theorem call_36 : callable Try.prog 36 = true := by kernel_rfl
theorem call_37 : callable Try.prog 37 = true := by kernel_rfl
theorem call_38 : callable Try.prog 38 = true := by kernel_rfl
theorem call_39 : callable Try.prog 39 = true := by kernel_rfl
theorem call_40 : callable Try.prog 40 = true := by kernel_rfl
theorem call_41 : callable Try.prog 41 = true := by kernel_rfl
theorem call_42 : callable Try.prog 42 = true := by kernel_rfl
theorem call_43 : callable Try.prog 43 = true := by kernel_rfl
theorem call_44 : callable Try.prog 44 = true := by kernel_rfl
theorem call_45 : callable Try.prog 45 = true := by kernel_rfl
theorem call_46 : callable Try.prog 46 = true := by kernel_rfl
theorem call_47 : callable Try.prog 47 = true := by kernel_rfl
theorem call_48 : callable Try.prog 48 = true := by kernel_rfl
theorem call_49 : callable Try.prog 49 = true := by kernel_rfl
theorem call_50 : callable Try.prog 50 = true := by kernel_rfl
theorem call_51 : callable Try.prog 51 = true := by kernel_rfl
theorem call_52 : callable Try.prog 52 = true := by kernel_rfl
theorem call_53 : callable Try.prog 53 = true := by kernel_rfl
theorem call_54 : callable Try.prog 54 = true := by kernel_rfl
theorem call_55 : callable Try.prog 55 = true := by kernel_rfl
theorem call_56 : callable Try.prog 56 = true := by kernel_rfl
theorem call_57 : callable Try.prog 57 = true := by kernel_rfl
theorem call_58 : callable Try.prog 58 = true := by kernel_rfl
theorem call_59 : callable Try.prog 59 = true := by kernel_rfl
theorem call_60 : callable Try.prog 60 = true := by kernel_rfl
theorem call_61 : callable Try.prog 61 = true := by kernel_rfl
theorem call_62 : callable Try.prog 62 = true := by kernel_rfl
theorem call_63 : callable Try.prog 63 = true := by kernel_rfl
theorem call_64 : callable Try.prog 64 = true := by kernel_rfl
theorem call_65 : callable Try.prog 65 = true := by kernel_rfl
theorem call_66 : callable Try.prog 66 = true := by kernel_rfl
theorem call_67 : callable Try.prog 67 = true := by kernel_rfl
theorem call_68 : callable Try.prog 68 = true := by kernel_rfl
theorem call_69 : callable Try.prog 69 = true := by kernel_rfl
theorem call_70 : callable Try.prog 70 = true := by kernel_rfl
theorem call_71 : callable Try.prog 71 = true := by kernel_rfl
theorem call_72 : callable Try.prog 72 = true := by kernel_rfl
end Go.Proofs.Ytnnabccfagojhaa
