/-
  Facts on the types of this seat's program, by program (gsatool.py).
-/
import Derived.Test.YtfcflgiignjlgaaAbU
import Derived.Test.YtfcflgiignjlgaaProg
import Derived.KernelRfl
set_option linter.unusedSimpArgs false
set_option linter.unusedVariables false
namespace Go.Ab
@[simp] theorem tyA_3 : tyA Go.Proofs.Try.prog 3 = some (false, 1) := by kernel_rfl
@[simp] theorem tyStr_3 : tyStr Go.Proofs.Try.prog 3 = false := by kernel_rfl
@[simp] theorem tySrc_3 : tySrc Go.Proofs.Try.prog 3 = false := by kernel_rfl
@[simp] theorem tyZ0_3 : tyZ0 Go.Proofs.Try.prog 3 = [D.v (.int .i64 0)] := by kernel_rfl
@[simp] theorem tyBool_3 : tyBool Go.Proofs.Try.prog 3 = false := by kernel_rfl
@[simp] theorem tyInt_3 : tyInt Go.Proofs.Try.prog 3 = some .i64 := by kernel_rfl
@[simp] theorem tyZ_3 : tyZ Go.Proofs.Try.prog 3 = some [.int .i64 0] := by kernel_rfl
@[simp] theorem tyE_3 : tyE Go.Proofs.Try.prog 3 = none := by kernel_rfl
@[simp] theorem tyA_4 : tyA Go.Proofs.Try.prog 4 = some (false, 1) := by kernel_rfl
@[simp] theorem tyStr_4 : tyStr Go.Proofs.Try.prog 4 = false := by kernel_rfl
@[simp] theorem tySrc_4 : tySrc Go.Proofs.Try.prog 4 = false := by kernel_rfl
@[simp] theorem tyZ0_4 : tyZ0 Go.Proofs.Try.prog 4 = [D.v (.bool false)] := by kernel_rfl
@[simp] theorem tyBool_4 : tyBool Go.Proofs.Try.prog 4 = true := by kernel_rfl
@[simp] theorem tyInt_4 : tyInt Go.Proofs.Try.prog 4 = none := by kernel_rfl
@[simp] theorem tyZ_4 : tyZ Go.Proofs.Try.prog 4 = some [.bool false] := by kernel_rfl
@[simp] theorem tyE_4 : tyE Go.Proofs.Try.prog 4 = none := by kernel_rfl
@[simp] theorem tyA_22 : tyA Go.Proofs.Try.prog 22 = some (false, 1) := by kernel_rfl
@[simp] theorem tyStr_22 : tyStr Go.Proofs.Try.prog 22 = false := by kernel_rfl
@[simp] theorem tySrc_22 : tySrc Go.Proofs.Try.prog 22 = true := by kernel_rfl
@[simp] theorem tyZ0_22 : tyZ0 Go.Proofs.Try.prog 22 = [D.sl []] := by kernel_rfl
@[simp] theorem tyBool_22 : tyBool Go.Proofs.Try.prog 22 = false := by kernel_rfl
@[simp] theorem tyInt_22 : tyInt Go.Proofs.Try.prog 22 = none := by kernel_rfl
@[simp] theorem tyZ_22 : tyZ Go.Proofs.Try.prog 22 = some [.slice none 0 0] := by kernel_rfl
@[simp] theorem tyE_22 : tyE Go.Proofs.Try.prog 22 = some (40, 13) := by kernel_rfl
@[simp] theorem tySl_22 : tySl Go.Proofs.Try.prog 22 = some (40, 13, 216, [.slice none 0 0, .slice none 0 0, .slice none 0 0, .slice none 0 0, .slice none 0 0, .slice none 0 0, .slice none 0 0, .int .u64 0, .int .i64 0, .int .i64 0, .int .i64 0, .int .i64 0, .int .i64 0]) := by kernel_rfl
@[simp] theorem tyArr_22 : tyArr Go.Proofs.Try.prog 22 = none := by kernel_rfl
@[simp] theorem tyA_23 : tyA Go.Proofs.Try.prog 23 = some (false, 1) := by kernel_rfl
@[simp] theorem tyStr_23 : tyStr Go.Proofs.Try.prog 23 = false := by kernel_rfl
@[simp] theorem tySrc_23 : tySrc Go.Proofs.Try.prog 23 = true := by kernel_rfl
@[simp] theorem tyZ0_23 : tyZ0 Go.Proofs.Try.prog 23 = [D.sl []] := by kernel_rfl
@[simp] theorem tyBool_23 : tyBool Go.Proofs.Try.prog 23 = false := by kernel_rfl
@[simp] theorem tyInt_23 : tyInt Go.Proofs.Try.prog 23 = none := by kernel_rfl
@[simp] theorem tyZ_23 : tyZ Go.Proofs.Try.prog 23 = some [.slice none 0 0] := by kernel_rfl
@[simp] theorem tyE_23 : tyE Go.Proofs.Try.prog 23 = some (37, 7) := by kernel_rfl
@[simp] theorem tySl_23 : tySl Go.Proofs.Try.prog 23 = some (37, 7, 56, [.int .i64 0, .int .i64 0, .int .i64 0, .int .i64 0, .int .i64 0, .int .i64 0, .int .i64 0]) := by kernel_rfl
@[simp] theorem tyArr_23 : tyArr Go.Proofs.Try.prog 23 = none := by kernel_rfl
@[simp] theorem tyA_25 : tyA Go.Proofs.Try.prog 25 = some (true, 3) := by kernel_rfl
@[simp] theorem tyStr_25 : tyStr Go.Proofs.Try.prog 25 = false := by kernel_rfl
@[simp] theorem tySrc_25 : tySrc Go.Proofs.Try.prog 25 = false := by kernel_rfl
@[simp] theorem tyZ0_25 : tyZ0 Go.Proofs.Try.prog 25 = [D.sl [], D.sl [], D.v (.bool false)] := by kernel_rfl
@[simp] theorem tyBool_25 : tyBool Go.Proofs.Try.prog 25 = false := by kernel_rfl
@[simp] theorem tyInt_25 : tyInt Go.Proofs.Try.prog 25 = none := by kernel_rfl
@[simp] theorem tyZ_25 : tyZ Go.Proofs.Try.prog 25 = some [.slice none 0 0, .slice none 0 0, .bool false] := by kernel_rfl
@[simp] theorem tyE_25 : tyE Go.Proofs.Try.prog 25 = none := by kernel_rfl
@[simp] theorem tyArr_25 : tyArr Go.Proofs.Try.prog 25 = none := by kernel_rfl
@[simp] theorem tyF_25_0 : tyF Go.Proofs.Try.prog 25 0 = some (0, false, 1) := by kernel_rfl
@[simp] theorem tyF_25_1 : tyF Go.Proofs.Try.prog 25 1 = some (1, false, 1) := by kernel_rfl
@[simp] theorem tyF_25_2 : tyF Go.Proofs.Try.prog 25 2 = some (2, false, 1) := by kernel_rfl
@[simp] theorem tyB_25 : tyB Go.Proofs.Try.prog 25 = some ([.slice none 0 0, .slice none 0 0, .bool false], [(0, 1), (1, 1), (2, 1)]) := by kernel_rfl
@[simp] theorem tyA_29 : tyA Go.Proofs.Try.prog 29 = some (false, 1) := by kernel_rfl
@[simp] theorem tyStr_29 : tyStr Go.Proofs.Try.prog 29 = false := by kernel_rfl
@[simp] theorem tySrc_29 : tySrc Go.Proofs.Try.prog 29 = true := by kernel_rfl
@[simp] theorem tyZ0_29 : tyZ0 Go.Proofs.Try.prog 29 = [D.sl []] := by kernel_rfl
@[simp] theorem tyBool_29 : tyBool Go.Proofs.Try.prog 29 = false := by kernel_rfl
@[simp] theorem tyInt_29 : tyInt Go.Proofs.Try.prog 29 = none := by kernel_rfl
@[simp] theorem tyZ_29 : tyZ Go.Proofs.Try.prog 29 = some [.slice none 0 0] := by kernel_rfl
@[simp] theorem tyE_29 : tyE Go.Proofs.Try.prog 29 = some (3, 1) := by kernel_rfl
@[simp] theorem tySl_29 : tySl Go.Proofs.Try.prog 29 = some (3, 1, 8, [.int .i64 0]) := by kernel_rfl
@[simp] theorem tyArr_29 : tyArr Go.Proofs.Try.prog 29 = none := by kernel_rfl
@[simp] theorem tyA_31 : tyA Go.Proofs.Try.prog 31 = some (false, 1) := by kernel_rfl
@[simp] theorem tyStr_31 : tyStr Go.Proofs.Try.prog 31 = false := by kernel_rfl
@[simp] theorem tySrc_31 : tySrc Go.Proofs.Try.prog 31 = true := by kernel_rfl
@[simp] theorem tyZ0_31 : tyZ0 Go.Proofs.Try.prog 31 = [D.sl []] := by kernel_rfl
@[simp] theorem tyBool_31 : tyBool Go.Proofs.Try.prog 31 = false := by kernel_rfl
@[simp] theorem tyInt_31 : tyInt Go.Proofs.Try.prog 31 = none := by kernel_rfl
@[simp] theorem tyZ_31 : tyZ Go.Proofs.Try.prog 31 = some [.slice none 0 0] := by kernel_rfl
@[simp] theorem tyE_31 : tyE Go.Proofs.Try.prog 31 = some (35, 5) := by kernel_rfl
@[simp] theorem tySl_31 : tySl Go.Proofs.Try.prog 31 = some (35, 5, 40, [.int .i64 0, .int .i64 0, .int .i64 0, .int .i64 0, .int .i64 0]) := by kernel_rfl
@[simp] theorem tyArr_31 : tyArr Go.Proofs.Try.prog 31 = none := by kernel_rfl
@[simp] theorem tyA_33 : tyA Go.Proofs.Try.prog 33 = some (false, 1) := by kernel_rfl
@[simp] theorem tyStr_33 : tyStr Go.Proofs.Try.prog 33 = false := by kernel_rfl
@[simp] theorem tySrc_33 : tySrc Go.Proofs.Try.prog 33 = true := by kernel_rfl
@[simp] theorem tyZ0_33 : tyZ0 Go.Proofs.Try.prog 33 = [D.sl []] := by kernel_rfl
@[simp] theorem tyBool_33 : tyBool Go.Proofs.Try.prog 33 = false := by kernel_rfl
@[simp] theorem tyInt_33 : tyInt Go.Proofs.Try.prog 33 = none := by kernel_rfl
@[simp] theorem tyZ_33 : tyZ Go.Proofs.Try.prog 33 = some [.slice none 0 0] := by kernel_rfl
@[simp] theorem tyE_33 : tyE Go.Proofs.Try.prog 33 = some (4, 1) := by kernel_rfl
@[simp] theorem tySl_33 : tySl Go.Proofs.Try.prog 33 = some (4, 1, 1, [.bool false]) := by kernel_rfl
@[simp] theorem tyArr_33 : tyArr Go.Proofs.Try.prog 33 = none := by kernel_rfl
@[simp] theorem tyA_35 : tyA Go.Proofs.Try.prog 35 = some (true, 5) := by kernel_rfl
@[simp] theorem tyStr_35 : tyStr Go.Proofs.Try.prog 35 = false := by kernel_rfl
@[simp] theorem tySrc_35 : tySrc Go.Proofs.Try.prog 35 = false := by kernel_rfl
@[simp] theorem tyZ0_35 : tyZ0 Go.Proofs.Try.prog 35 = [D.v (.int .i64 0), D.v (.int .i64 0), D.v (.int .i64 0), D.v (.int .i64 0), D.v (.int .i64 0)] := by kernel_rfl
@[simp] theorem tyBool_35 : tyBool Go.Proofs.Try.prog 35 = false := by kernel_rfl
@[simp] theorem tyInt_35 : tyInt Go.Proofs.Try.prog 35 = none := by kernel_rfl
@[simp] theorem tyZ_35 : tyZ Go.Proofs.Try.prog 35 = some [.int .i64 0, .int .i64 0, .int .i64 0, .int .i64 0, .int .i64 0] := by kernel_rfl
@[simp] theorem tyE_35 : tyE Go.Proofs.Try.prog 35 = none := by kernel_rfl
@[simp] theorem tyEq_35 : tyEq Go.Proofs.Try.prog 35 = some [.i .i64, .i .i64, .i .i64, .i .i64, .i .i64] := by kernel_rfl
@[simp] theorem tyArr_35 : tyArr Go.Proofs.Try.prog 35 = none := by kernel_rfl
@[simp] theorem tyF_35_0 : tyF Go.Proofs.Try.prog 35 0 = some (0, false, 1) := by kernel_rfl
@[simp] theorem tyF_35_1 : tyF Go.Proofs.Try.prog 35 1 = some (1, false, 1) := by kernel_rfl
@[simp] theorem tyF_35_2 : tyF Go.Proofs.Try.prog 35 2 = some (2, false, 1) := by kernel_rfl
@[simp] theorem tyF_35_3 : tyF Go.Proofs.Try.prog 35 3 = some (3, false, 1) := by kernel_rfl
@[simp] theorem tyF_35_4 : tyF Go.Proofs.Try.prog 35 4 = some (4, false, 1) := by kernel_rfl
@[simp] theorem tyB_35 : tyB Go.Proofs.Try.prog 35 = some ([.int .i64 0, .int .i64 0, .int .i64 0, .int .i64 0, .int .i64 0], [(0, 1), (1, 1), (2, 1), (3, 1), (4, 1)]) := by kernel_rfl
@[simp] theorem tyA_37 : tyA Go.Proofs.Try.prog 37 = some (true, 7) := by kernel_rfl
@[simp] theorem tyStr_37 : tyStr Go.Proofs.Try.prog 37 = false := by kernel_rfl
@[simp] theorem tySrc_37 : tySrc Go.Proofs.Try.prog 37 = false := by kernel_rfl
@[simp] theorem tyZ0_37 : tyZ0 Go.Proofs.Try.prog 37 = [D.v (.int .i64 0), D.v (.int .i64 0), D.v (.int .i64 0), D.v (.int .i64 0), D.v (.int .i64 0), D.v (.int .i64 0), D.v (.int .i64 0)] := by kernel_rfl
@[simp] theorem tyBool_37 : tyBool Go.Proofs.Try.prog 37 = false := by kernel_rfl
@[simp] theorem tyInt_37 : tyInt Go.Proofs.Try.prog 37 = none := by kernel_rfl
@[simp] theorem tyZ_37 : tyZ Go.Proofs.Try.prog 37 = some [.int .i64 0, .int .i64 0, .int .i64 0, .int .i64 0, .int .i64 0, .int .i64 0, .int .i64 0] := by kernel_rfl
@[simp] theorem tyE_37 : tyE Go.Proofs.Try.prog 37 = none := by kernel_rfl
@[simp] theorem tyEq_37 : tyEq Go.Proofs.Try.prog 37 = some [.i .i64, .i .i64, .i .i64, .i .i64, .i .i64, .i .i64, .i .i64] := by kernel_rfl
@[simp] theorem tyArr_37 : tyArr Go.Proofs.Try.prog 37 = none := by kernel_rfl
@[simp] theorem tyF_37_0 : tyF Go.Proofs.Try.prog 37 0 = some (0, false, 1) := by kernel_rfl
@[simp] theorem tyF_37_1 : tyF Go.Proofs.Try.prog 37 1 = some (1, false, 1) := by kernel_rfl
@[simp] theorem tyF_37_2 : tyF Go.Proofs.Try.prog 37 2 = some (2, true, 5) := by kernel_rfl
@[simp] theorem tyB_37 : tyB Go.Proofs.Try.prog 37 = some ([.int .i64 0, .int .i64 0, .int .i64 0, .int .i64 0, .int .i64 0, .int .i64 0, .int .i64 0], [(0, 1), (1, 1), (2, 5)]) := by kernel_rfl
@[simp] theorem tyA_38 : tyA Go.Proofs.Try.prog 38 = some (false, 1) := by kernel_rfl
@[simp] theorem tyStr_38 : tyStr Go.Proofs.Try.prog 38 = false := by kernel_rfl
@[simp] theorem tySrc_38 : tySrc Go.Proofs.Try.prog 38 = false := by kernel_rfl
@[simp] theorem tyZ0_38 : tyZ0 Go.Proofs.Try.prog 38 = [D.v (.int .u64 0)] := by kernel_rfl
@[simp] theorem tyBool_38 : tyBool Go.Proofs.Try.prog 38 = false := by kernel_rfl
@[simp] theorem tyInt_38 : tyInt Go.Proofs.Try.prog 38 = some .u64 := by kernel_rfl
@[simp] theorem tyZ_38 : tyZ Go.Proofs.Try.prog 38 = some [.int .u64 0] := by kernel_rfl
@[simp] theorem tyE_38 : tyE Go.Proofs.Try.prog 38 = none := by kernel_rfl
@[simp] theorem tyA_40 : tyA Go.Proofs.Try.prog 40 = some (true, 13) := by kernel_rfl
@[simp] theorem tyStr_40 : tyStr Go.Proofs.Try.prog 40 = false := by kernel_rfl
@[simp] theorem tySrc_40 : tySrc Go.Proofs.Try.prog 40 = false := by kernel_rfl
@[simp] theorem tyZ0_40 : tyZ0 Go.Proofs.Try.prog 40 = [D.sl [], D.sl [], D.sl [], D.sl [], D.sl [], D.sl [], D.sl [], D.v (.int .u64 0), D.v (.int .i64 0), D.v (.int .i64 0), D.v (.int .i64 0), D.v (.int .i64 0), D.v (.int .i64 0)] := by kernel_rfl
@[simp] theorem tyBool_40 : tyBool Go.Proofs.Try.prog 40 = false := by kernel_rfl
@[simp] theorem tyInt_40 : tyInt Go.Proofs.Try.prog 40 = none := by kernel_rfl
@[simp] theorem tyZ_40 : tyZ Go.Proofs.Try.prog 40 = some [.slice none 0 0, .slice none 0 0, .slice none 0 0, .slice none 0 0, .slice none 0 0, .slice none 0 0, .slice none 0 0, .int .u64 0, .int .i64 0, .int .i64 0, .int .i64 0, .int .i64 0, .int .i64 0] := by kernel_rfl
@[simp] theorem tyE_40 : tyE Go.Proofs.Try.prog 40 = none := by kernel_rfl
@[simp] theorem tyArr_40 : tyArr Go.Proofs.Try.prog 40 = none := by kernel_rfl
@[simp] theorem tyF_40_0 : tyF Go.Proofs.Try.prog 40 0 = some (0, false, 1) := by kernel_rfl
@[simp] theorem tyF_40_1 : tyF Go.Proofs.Try.prog 40 1 = some (1, false, 1) := by kernel_rfl
@[simp] theorem tyF_40_2 : tyF Go.Proofs.Try.prog 40 2 = some (2, false, 1) := by kernel_rfl
@[simp] theorem tyF_40_3 : tyF Go.Proofs.Try.prog 40 3 = some (3, false, 1) := by kernel_rfl
@[simp] theorem tyF_40_4 : tyF Go.Proofs.Try.prog 40 4 = some (4, false, 1) := by kernel_rfl
@[simp] theorem tyF_40_5 : tyF Go.Proofs.Try.prog 40 5 = some (5, false, 1) := by kernel_rfl
@[simp] theorem tyF_40_6 : tyF Go.Proofs.Try.prog 40 6 = some (6, false, 1) := by kernel_rfl
@[simp] theorem tyF_40_7 : tyF Go.Proofs.Try.prog 40 7 = some (7, false, 1) := by kernel_rfl
@[simp] theorem tyF_40_8 : tyF Go.Proofs.Try.prog 40 8 = some (8, false, 1) := by kernel_rfl
@[simp] theorem tyF_40_9 : tyF Go.Proofs.Try.prog 40 9 = some (9, false, 1) := by kernel_rfl
@[simp] theorem tyF_40_10 : tyF Go.Proofs.Try.prog 40 10 = some (10, false, 1) := by kernel_rfl
@[simp] theorem tyF_40_11 : tyF Go.Proofs.Try.prog 40 11 = some (11, false, 1) := by kernel_rfl
@[simp] theorem tyF_40_12 : tyF Go.Proofs.Try.prog 40 12 = some (12, false, 1) := by kernel_rfl
@[simp] theorem tyB_40 : tyB Go.Proofs.Try.prog 40 = some ([.slice none 0 0, .slice none 0 0, .slice none 0 0, .slice none 0 0, .slice none 0 0, .slice none 0 0, .slice none 0 0, .int .u64 0, .int .i64 0, .int .i64 0, .int .i64 0, .int .i64 0, .int .i64 0], [(0, 1), (1, 1), (2, 1), (3, 1), (4, 1), (5, 1), (6, 1), (7, 1), (8, 1), (9, 1), (10, 1), (11, 1), (12, 1)]) := by kernel_rfl
@[simp] theorem tyA_45 : tyA Go.Proofs.Try.prog 45 = some (false, 1) := by kernel_rfl
@[simp] theorem tyStr_45 : tyStr Go.Proofs.Try.prog 45 = false := by kernel_rfl
@[simp] theorem tySrc_45 : tySrc Go.Proofs.Try.prog 45 = true := by kernel_rfl
@[simp] theorem tyZ0_45 : tyZ0 Go.Proofs.Try.prog 45 = [D.sl []] := by kernel_rfl
@[simp] theorem tyBool_45 : tyBool Go.Proofs.Try.prog 45 = false := by kernel_rfl
@[simp] theorem tyInt_45 : tyInt Go.Proofs.Try.prog 45 = none := by kernel_rfl
@[simp] theorem tyZ_45 : tyZ Go.Proofs.Try.prog 45 = some [.slice none 0 0] := by kernel_rfl
@[simp] theorem tyE_45 : tyE Go.Proofs.Try.prog 45 = some (29, 1) := by kernel_rfl
@[simp] theorem tySl_45 : tySl Go.Proofs.Try.prog 45 = some (29, 1, 24, [.slice none 0 0]) := by kernel_rfl
@[simp] theorem tyArr_45 : tyArr Go.Proofs.Try.prog 45 = none := by kernel_rfl
@[simp] theorem enters_3 : enters Go.Proofs.Try.prog 3 = true := by kernel_rfl
@[simp] theorem enters_4 : enters Go.Proofs.Try.prog 4 = true := by kernel_rfl
@[simp] theorem enters_5 : enters Go.Proofs.Try.prog 5 = true := by kernel_rfl
@[simp] theorem enters_6 : enters Go.Proofs.Try.prog 6 = true := by kernel_rfl
@[simp] theorem enters_7 : enters Go.Proofs.Try.prog 7 = true := by kernel_rfl
@[simp] theorem enters_8 : enters Go.Proofs.Try.prog 8 = true := by kernel_rfl
@[simp] theorem enters_9 : enters Go.Proofs.Try.prog 9 = true := by kernel_rfl
@[simp] theorem enters_10 : enters Go.Proofs.Try.prog 10 = true := by kernel_rfl
@[simp] theorem enters_11 : enters Go.Proofs.Try.prog 11 = true := by kernel_rfl
@[simp] theorem enters_12 : enters Go.Proofs.Try.prog 12 = true := by kernel_rfl
@[simp] theorem enters_13 : enters Go.Proofs.Try.prog 13 = true := by kernel_rfl
@[simp] theorem enters_14 : enters Go.Proofs.Try.prog 14 = true := by kernel_rfl
@[simp] theorem enters_15 : enters Go.Proofs.Try.prog 15 = true := by kernel_rfl
@[simp] theorem enters_16 : enters Go.Proofs.Try.prog 16 = true := by kernel_rfl
@[simp] theorem enters_17 : enters Go.Proofs.Try.prog 17 = true := by kernel_rfl
@[simp] theorem enters_18 : enters Go.Proofs.Try.prog 18 = true := by kernel_rfl
@[simp] theorem enters_19 : enters Go.Proofs.Try.prog 19 = true := by kernel_rfl
@[simp] theorem enters_20 : enters Go.Proofs.Try.prog 20 = true := by kernel_rfl
@[simp] theorem enters_21 : enters Go.Proofs.Try.prog 21 = true := by kernel_rfl
@[simp] theorem enters_22 : enters Go.Proofs.Try.prog 22 = true := by kernel_rfl
@[simp] theorem enters_23 : enters Go.Proofs.Try.prog 23 = true := by kernel_rfl
@[simp] theorem enters_24 : enters Go.Proofs.Try.prog 24 = true := by kernel_rfl
@[simp] theorem enters_25 : enters Go.Proofs.Try.prog 25 = true := by kernel_rfl
end Go.Ab
