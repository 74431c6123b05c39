/-
  The types of this seat, as the evaluator sees them. Printed by a program of ours (gen_env.py).
-/
import Derived.Test.YtellbdohhnafnaaRows
import Derived.Test.YtellbdohhnafnaaLiftT
namespace Go.Proofs.Ytellbdohhnafnaa
open Go.Lift
def nilS : SV := .sl true 0 0 fun _ => []
def tyL : List TyI := [
  .bad,
  .one,
  .int .i64,
  .int .i64,
  .bool,
  .int .u8,
  .bad,
  .bad,
  .bad,
  .string,
  .bad,
  .bad,
  .int .u64,
  .bad,
  .bad,
  .bad,
  .bad,
  .bad,
  .bad,
  .bad,
  .bad,
  .int .i32,
  .slice 5 1 1,
  .one,
  .one,
  .one,
  .int .u64,
  .one,
  .one,
  .slice 35 2 16,
  .one,
  .int .i64,
  .bad,
  .one,
  .struct [(0, false, 1), (1, false, 1)] 2,
  .struct [(0, false, 1), (1, false, 1)] 2,
  .one,
  .bad,
  .one,
  .one,
  .slice 2 1 8,
  .one,
  .slice 29 1 24,
  .one,
  .one,
  .slice 26 1 8,
  .one,
  .one,
  .bad,
  .one,
  .one,
  .one,
  .bad,
  .one,
  .bad,
  .one,
  .one,
  .one,
  .one,
  .int .u64,
  .bad,
  .one,
  .one,
  .one,
  .one,
  .one,
  .one,
  .one,
  .bad,
  .bad,
  .bad,
  .bad,
  .bad,
  .one,
  .int .u32,
  .bad,
  .bad,
  .bad,
  .one,
  .bad,
  .bad,
  .bad,
  .bad,
  .bad]
def zrL : List (List SV) := [
  [],
  [.val .nilFunc],
  [.int .i64 0],
  [.int .i64 0],
  [.bool false],
  [.int .u8 0],
  [],
  [],
  [],
  [.str []],
  [],
  [],
  [.int .u64 0],
  [],
  [],
  [],
  [],
  [],
  [],
  [],
  [],
  [.int .i32 0],
  [nilS],
  [.val .nilFunc],
  [.val .nilFunc],
  [.val .nilFunc],
  [.int .u64 0],
  [.val .nilFunc],
  [.val .nilFunc],
  [nilS],
  [.val .nilFunc],
  [.int .i64 0],
  [],
  [.val .nilFunc],
  [.int .u64 0, .bool false],
  [.int .u64 0, .bool false],
  [.val .nilFunc],
  [],
  [.val .nilFunc],
  [.val .nilFunc],
  [nilS],
  [.val .nilFunc],
  [nilS],
  [.val .nilFunc],
  [.val .nilFunc],
  [nilS],
  [.val .nilFunc],
  [.val .nilFunc],
  [],
  [.val .nilFunc],
  [.val .nilFunc],
  [.val .nilFunc],
  [],
  [.val .nilFunc],
  [],
  [.val .nilFunc],
  [.val .nilFunc],
  [.val .nilFunc],
  [.val .nilFunc],
  [.int .u64 0],
  [],
  [.val .nilFunc],
  [.val .nilFunc],
  [.val .nilFunc],
  [.val .nilFunc],
  [.val (.pointer none)],
  [.val .nilFunc],
  [.val .nilFunc],
  [],
  [],
  [],
  [],
  [],
  [.val .nilFunc],
  [.int .u32 0],
  [],
  [],
  [],
  [.val (.pointer none)],
  [],
  [],
  [],
  [],
  []]
def lvL : List (List Nat) := [
  [],
  [],
  [],
  [],
  [],
  [],
  [],
  [],
  [],
  [],
  [],
  [],
  [],
  [],
  [],
  [],
  [],
  [],
  [],
  [],
  [],
  [],
  [],
  [],
  [],
  [],
  [],
  [],
  [],
  [],
  [],
  [],
  [],
  [],
  [1, 0],
  [1, 0],
  [],
  [],
  [],
  [],
  [],
  [],
  [],
  [],
  [],
  [],
  [],
  [],
  [],
  [],
  [],
  [],
  [],
  [],
  [],
  [],
  [],
  [],
  [],
  [],
  [],
  [],
  [],
  [],
  [],
  [],
  [],
  [],
  [],
  [],
  [],
  [],
  [],
  [],
  [],
  [],
  [],
  [],
  [],
  [],
  [],
  [],
  [],
  []]
def E : Env := envOf tyL zrL lvL
set_option maxRecDepth 100000 in
theorem E_ok : EnvOK Try.prog E := envOf_ok (by kernel_rfl)
theorem ty_1 : E.ty 1 = .one := rfl
theorem zr_1 : E.zr 1 = [.val .nilFunc] := rfl
theorem ty_2 : E.ty 2 = .int .i64 := rfl
theorem zr_2 : E.zr 2 = [.int .i64 0] := rfl
theorem ty_3 : E.ty 3 = .int .i64 := rfl
theorem zr_3 : E.zr 3 = [.int .i64 0] := rfl
theorem ty_4 : E.ty 4 = .bool := rfl
theorem zr_4 : E.zr 4 = [.bool false] := rfl
theorem ty_5 : E.ty 5 = .int .u8 := rfl
theorem zr_5 : E.zr 5 = [.int .u8 0] := rfl
theorem ty_9 : E.ty 9 = .string := rfl
theorem zr_9 : E.zr 9 = [.str []] := rfl
theorem ty_12 : E.ty 12 = .int .u64 := rfl
theorem zr_12 : E.zr 12 = [.int .u64 0] := rfl
theorem ty_21 : E.ty 21 = .int .i32 := rfl
theorem zr_21 : E.zr 21 = [.int .i32 0] := rfl
theorem ty_22 : E.ty 22 = .slice 5 1 1 := rfl
theorem zr_22 : E.zr 22 = [nilS] := rfl
theorem ty_23 : E.ty 23 = .one := rfl
theorem zr_23 : E.zr 23 = [.val .nilFunc] := rfl
theorem ty_24 : E.ty 24 = .one := rfl
theorem zr_24 : E.zr 24 = [.val .nilFunc] := rfl
theorem ty_25 : E.ty 25 = .one := rfl
theorem zr_25 : E.zr 25 = [.val .nilFunc] := rfl
theorem ty_26 : E.ty 26 = .int .u64 := rfl
theorem zr_26 : E.zr 26 = [.int .u64 0] := rfl
theorem ty_27 : E.ty 27 = .one := rfl
theorem zr_27 : E.zr 27 = [.val .nilFunc] := rfl
theorem ty_28 : E.ty 28 = .one := rfl
theorem zr_28 : E.zr 28 = [.val .nilFunc] := rfl
theorem ty_29 : E.ty 29 = .slice 35 2 16 := rfl
theorem zr_29 : E.zr 29 = [nilS] := rfl
theorem ty_30 : E.ty 30 = .one := rfl
theorem zr_30 : E.zr 30 = [.val .nilFunc] := rfl
theorem ty_31 : E.ty 31 = .int .i64 := rfl
theorem zr_31 : E.zr 31 = [.int .i64 0] := rfl
theorem ty_33 : E.ty 33 = .one := rfl
theorem zr_33 : E.zr 33 = [.val .nilFunc] := rfl
theorem ty_34 : E.ty 34 = .struct [(0, false, 1), (1, false, 1)] 2 := rfl
theorem zr_34 : E.zr 34 = [.int .u64 0, .bool false] := rfl
theorem lv_34 : E.lv 34 = [1, 0] := rfl
theorem ty_35 : E.ty 35 = .struct [(0, false, 1), (1, false, 1)] 2 := rfl
theorem zr_35 : E.zr 35 = [.int .u64 0, .bool false] := rfl
theorem lv_35 : E.lv 35 = [1, 0] := rfl
theorem ty_36 : E.ty 36 = .one := rfl
theorem zr_36 : E.zr 36 = [.val .nilFunc] := rfl
theorem ty_38 : E.ty 38 = .one := rfl
theorem zr_38 : E.zr 38 = [.val .nilFunc] := rfl
theorem ty_39 : E.ty 39 = .one := rfl
theorem zr_39 : E.zr 39 = [.val .nilFunc] := rfl
theorem ty_40 : E.ty 40 = .slice 2 1 8 := rfl
theorem zr_40 : E.zr 40 = [nilS] := rfl
theorem ty_41 : E.ty 41 = .one := rfl
theorem zr_41 : E.zr 41 = [.val .nilFunc] := rfl
theorem ty_42 : E.ty 42 = .slice 29 1 24 := rfl
theorem zr_42 : E.zr 42 = [nilS] := rfl
theorem ty_43 : E.ty 43 = .one := rfl
theorem zr_43 : E.zr 43 = [.val .nilFunc] := rfl
theorem ty_44 : E.ty 44 = .one := rfl
theorem zr_44 : E.zr 44 = [.val .nilFunc] := rfl
theorem ty_45 : E.ty 45 = .slice 26 1 8 := rfl
theorem zr_45 : E.zr 45 = [nilS] := rfl
theorem ty_46 : E.ty 46 = .one := rfl
theorem zr_46 : E.zr 46 = [.val .nilFunc] := rfl
theorem ty_47 : E.ty 47 = .one := rfl
theorem zr_47 : E.zr 47 = [.val .nilFunc] := rfl
theorem ty_49 : E.ty 49 = .one := rfl
theorem zr_49 : E.zr 49 = [.val .nilFunc] := rfl
theorem ty_50 : E.ty 50 = .one := rfl
theorem zr_50 : E.zr 50 = [.val .nilFunc] := rfl
theorem ty_51 : E.ty 51 = .one := rfl
theorem zr_51 : E.zr 51 = [.val .nilFunc] := rfl
theorem ty_53 : E.ty 53 = .one := rfl
theorem zr_53 : E.zr 53 = [.val .nilFunc] := rfl
theorem ty_55 : E.ty 55 = .one := rfl
theorem zr_55 : E.zr 55 = [.val .nilFunc] := rfl
theorem ty_56 : E.ty 56 = .one := rfl
theorem zr_56 : E.zr 56 = [.val .nilFunc] := rfl
theorem ty_57 : E.ty 57 = .one := rfl
theorem zr_57 : E.zr 57 = [.val .nilFunc] := rfl
theorem ty_58 : E.ty 58 = .one := rfl
theorem zr_58 : E.zr 58 = [.val .nilFunc] := rfl
theorem ty_59 : E.ty 59 = .int .u64 := rfl
theorem zr_59 : E.zr 59 = [.int .u64 0] := rfl
theorem ty_61 : E.ty 61 = .one := rfl
theorem zr_61 : E.zr 61 = [.val .nilFunc] := rfl
theorem ty_62 : E.ty 62 = .one := rfl
theorem zr_62 : E.zr 62 = [.val .nilFunc] := rfl
theorem ty_63 : E.ty 63 = .one := rfl
theorem zr_63 : E.zr 63 = [.val .nilFunc] := rfl
theorem ty_64 : E.ty 64 = .one := rfl
theorem zr_64 : E.zr 64 = [.val .nilFunc] := rfl
theorem ty_65 : E.ty 65 = .one := rfl
theorem zr_65 : E.zr 65 = [.val (.pointer none)] := rfl
theorem ty_66 : E.ty 66 = .one := rfl
theorem zr_66 : E.zr 66 = [.val .nilFunc] := rfl
theorem ty_67 : E.ty 67 = .one := rfl
theorem zr_67 : E.zr 67 = [.val .nilFunc] := rfl
theorem ty_73 : E.ty 73 = .one := rfl
theorem zr_73 : E.zr 73 = [.val .nilFunc] := rfl
theorem ty_74 : E.ty 74 = .int .u32 := rfl
theorem zr_74 : E.zr 74 = [.int .u32 0] := rfl
theorem ty_78 : E.ty 78 = .one := rfl
theorem zr_78 : E.zr 78 = [.val (.pointer none)] := rfl
theorem call_3 : callable Try.prog 3 = true := by kernel_rfl
theorem call_4 : callable Try.prog 4 = true := by kernel_rfl
theorem call_5 : callable Try.prog 5 = true := by kernel_rfl
theorem call_6 : callable Try.prog 6 = true := by kernel_rfl
theorem call_7 : callable Try.prog 7 = true := by kernel_rfl
theorem call_8 : callable Try.prog 8 = true := by kernel_rfl
theorem call_9 : callable Try.prog 9 = true := by kernel_rfl
theorem call_10 : callable Try.prog 10 = true := by kernel_rfl
theorem call_11 : callable Try.prog 11 = true := by kernel_rfl
theorem call_12 : callable Try.prog 12 = true := by kernel_rfl
theorem call_13 : callable Try.prog 13 = true := by kernel_rfl
theorem call_14 : callable Try.prog 14 = true := by kernel_rfl
theorem call_15 : callable Try.prog 15 = true := by kernel_rfl
theorem call_16 : callable Try.prog 16 = true := by kernel_rfl
theorem call_17 : callable Try.prog 17 = true := by kernel_rfl
theorem call_18 : callable Try.prog 18 = true := by kernel_rfl
theorem call_19 : callable Try.prog 19 = true := by kernel_rfl
theorem call_20 : callable Try.prog 20 = true := by kernel_rfl
theorem call_21 : callable Try.prog 21 = true := by kernel_rfl
theorem call_22 : callable Try.prog 22 = true := by kernel_rfl
theorem call_23 : callable Try.prog 23 = true := by kernel_rfl
theorem call_24 : callable Try.prog 24 = true := by kernel_rfl
theorem call_25 : callable Try.prog 25 = true := by kernel_rfl
theorem call_26 : callable Try.prog 26 = true := by kernel_rfl
theorem call_27 : callable Try.prog 27 = true := by kernel_rfl
theorem call_28 : callable Try.prog 28 = true := by kernel_rfl
theorem call_29 : callable Try.prog 29 = true := by kernel_rfl
theorem call_30 : callable Try.prog 30 = true := by kernel_rfl
theorem call_31 : callable Try.prog 31 = true := by kernel_rfl
theorem call_32 : callable Try.prog 32 = true := by kernel_rfl
theorem call_33 : callable Try.prog 33 = true := by kernel_rfl
theorem call_34 : callable Try.prog 34 = true := by kernel_rfl
theorem call_35 : callable Try.prog 35 = true := by kernel_rfl
theorem call_36 : callable Try.prog 36 = true := by kernel_rfl
theorem call_37 : callable Try.prog 37 = true := by kernel_rfl
theorem call_38 : callable Try.prog 38 = true := by kernel_rfl
theorem call_39 : callable Try.prog 39 = true := by kernel_rfl
theorem call_40 : callable Try.prog 40 = true := by kernel_rfl
theorem call_41 : callable Try.prog 41 = true := by kernel_rfl
end Go.Proofs.Ytellbdohhnafnaa
