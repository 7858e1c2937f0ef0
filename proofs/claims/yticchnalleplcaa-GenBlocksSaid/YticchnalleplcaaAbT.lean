/-
  Facts on the types of this seat's program, by program (gsatool.py).
-/
import Derived.Test.YticchnalleplcaaAbU
import Derived.Test.YticchnalleplcaaProg
import Derived.KernelRfl
set_option linter.unusedSimpArgs false
set_option linter.unusedVariables false
namespace Go.Ab
@[simp] theorem tyA_3 : tyA Go.Proofs.Try.prog 3 = some (false, 1) := by kernel_rfl
@[simp] theorem tyStr_3 : tyStr Go.Proofs.Try.prog 3 = false := by kernel_rfl
@[simp] theorem tySrc_3 : tySrc Go.Proofs.Try.prog 3 = false := by kernel_rfl
@[simp] theorem tyZ0_3 : tyZ0 Go.Proofs.Try.prog 3 = [D.v (.int .i64 0)] := by kernel_rfl
@[simp] theorem tyBool_3 : tyBool Go.Proofs.Try.prog 3 = false := by kernel_rfl
@[simp] theorem tyInt_3 : tyInt Go.Proofs.Try.prog 3 = some .i64 := by kernel_rfl
@[simp] theorem tyZ_3 : tyZ Go.Proofs.Try.prog 3 = some [.int .i64 0] := by kernel_rfl
@[simp] theorem tyE_3 : tyE Go.Proofs.Try.prog 3 = none := by kernel_rfl
@[simp] theorem tyA_4 : tyA Go.Proofs.Try.prog 4 = some (false, 1) := by kernel_rfl
@[simp] theorem tyStr_4 : tyStr Go.Proofs.Try.prog 4 = false := by kernel_rfl
@[simp] theorem tySrc_4 : tySrc Go.Proofs.Try.prog 4 = false := by kernel_rfl
@[simp] theorem tyZ0_4 : tyZ0 Go.Proofs.Try.prog 4 = [D.v (.bool false)] := by kernel_rfl
@[simp] theorem tyBool_4 : tyBool Go.Proofs.Try.prog 4 = true := by kernel_rfl
@[simp] theorem tyInt_4 : tyInt Go.Proofs.Try.prog 4 = none := by kernel_rfl
@[simp] theorem tyZ_4 : tyZ Go.Proofs.Try.prog 4 = some [.bool false] := by kernel_rfl
@[simp] theorem tyE_4 : tyE Go.Proofs.Try.prog 4 = none := by kernel_rfl
@[simp] theorem tyA_5 : tyA Go.Proofs.Try.prog 5 = some (false, 1) := by kernel_rfl
@[simp] theorem tyStr_5 : tyStr Go.Proofs.Try.prog 5 = false := by kernel_rfl
@[simp] theorem tySrc_5 : tySrc Go.Proofs.Try.prog 5 = false := by kernel_rfl
@[simp] theorem tyZ0_5 : tyZ0 Go.Proofs.Try.prog 5 = [D.v (.int .u8 0)] := by kernel_rfl
@[simp] theorem tyBool_5 : tyBool Go.Proofs.Try.prog 5 = false := by kernel_rfl
@[simp] theorem tyInt_5 : tyInt Go.Proofs.Try.prog 5 = some .u8 := by kernel_rfl
@[simp] theorem tyZ_5 : tyZ Go.Proofs.Try.prog 5 = some [.int .u8 0] := by kernel_rfl
@[simp] theorem tyE_5 : tyE Go.Proofs.Try.prog 5 = none := by kernel_rfl
@[simp] theorem tyA_9 : tyA Go.Proofs.Try.prog 9 = some (false, 1) := by kernel_rfl
@[simp] theorem tyStr_9 : tyStr Go.Proofs.Try.prog 9 = true := by kernel_rfl
@[simp] theorem tySrc_9 : tySrc Go.Proofs.Try.prog 9 = true := by kernel_rfl
@[simp] theorem tyZ0_9 : tyZ0 Go.Proofs.Try.prog 9 = [D.v (.string ⟨#[]⟩)] := by kernel_rfl
@[simp] theorem tyBool_9 : tyBool Go.Proofs.Try.prog 9 = false := by kernel_rfl
@[simp] theorem tyInt_9 : tyInt Go.Proofs.Try.prog 9 = none := by kernel_rfl
@[simp] theorem tyZ_9 : tyZ Go.Proofs.Try.prog 9 = some [.string ⟨#[]⟩] := by kernel_rfl
@[simp] theorem tyE_9 : tyE Go.Proofs.Try.prog 9 = none := by kernel_rfl
@[simp] theorem tyA_22 : tyA Go.Proofs.Try.prog 22 = some (false, 1) := by kernel_rfl
@[simp] theorem tyStr_22 : tyStr Go.Proofs.Try.prog 22 = false := by kernel_rfl
@[simp] theorem tySrc_22 : tySrc Go.Proofs.Try.prog 22 = true := by kernel_rfl
@[simp] theorem tyZ0_22 : tyZ0 Go.Proofs.Try.prog 22 = [D.sl []] := by kernel_rfl
@[simp] theorem tyBool_22 : tyBool Go.Proofs.Try.prog 22 = false := by kernel_rfl
@[simp] theorem tyInt_22 : tyInt Go.Proofs.Try.prog 22 = none := by kernel_rfl
@[simp] theorem tyZ_22 : tyZ Go.Proofs.Try.prog 22 = some [.slice none 0 0] := by kernel_rfl
@[simp] theorem tyE_22 : tyE Go.Proofs.Try.prog 22 = some (9, 1) := by kernel_rfl
@[simp] theorem tySl_22 : tySl Go.Proofs.Try.prog 22 = some (9, 1, 16, [.string ⟨#[]⟩]) := by kernel_rfl
@[simp] theorem tyArr_22 : tyArr Go.Proofs.Try.prog 22 = none := by kernel_rfl
@[simp] theorem tyA_23 : tyA Go.Proofs.Try.prog 23 = some (false, 1) := by kernel_rfl
@[simp] theorem tyStr_23 : tyStr Go.Proofs.Try.prog 23 = false := by kernel_rfl
@[simp] theorem tySrc_23 : tySrc Go.Proofs.Try.prog 23 = true := by kernel_rfl
@[simp] theorem tyZ0_23 : tyZ0 Go.Proofs.Try.prog 23 = [D.sl []] := by kernel_rfl
@[simp] theorem tyBool_23 : tyBool Go.Proofs.Try.prog 23 = false := by kernel_rfl
@[simp] theorem tyInt_23 : tyInt Go.Proofs.Try.prog 23 = none := by kernel_rfl
@[simp] theorem tyZ_23 : tyZ Go.Proofs.Try.prog 23 = some [.slice none 0 0] := by kernel_rfl
@[simp] theorem tyE_23 : tyE Go.Proofs.Try.prog 23 = some (3, 1) := by kernel_rfl
@[simp] theorem tySl_23 : tySl Go.Proofs.Try.prog 23 = some (3, 1, 8, [.int .i64 0]) := by kernel_rfl
@[simp] theorem tyArr_23 : tyArr Go.Proofs.Try.prog 23 = none := by kernel_rfl
@[simp] theorem tyA_24 : tyA Go.Proofs.Try.prog 24 = some (false, 1) := by kernel_rfl
@[simp] theorem tyStr_24 : tyStr Go.Proofs.Try.prog 24 = false := by kernel_rfl
@[simp] theorem tySrc_24 : tySrc Go.Proofs.Try.prog 24 = true := by kernel_rfl
@[simp] theorem tyZ0_24 : tyZ0 Go.Proofs.Try.prog 24 = [D.sl []] := by kernel_rfl
@[simp] theorem tyBool_24 : tyBool Go.Proofs.Try.prog 24 = false := by kernel_rfl
@[simp] theorem tyInt_24 : tyInt Go.Proofs.Try.prog 24 = none := by kernel_rfl
@[simp] theorem tyZ_24 : tyZ Go.Proofs.Try.prog 24 = some [.slice none 0 0] := by kernel_rfl
@[simp] theorem tyE_24 : tyE Go.Proofs.Try.prog 24 = some (38, 9) := by kernel_rfl
@[simp] theorem tySl_24 : tySl Go.Proofs.Try.prog 24 = some (38, 9, 136, [.int .i64 0, .int .i64 0, .int .i64 0, .int .i64 0, .bool false, .slice none 0 0, .slice none 0 0, .slice none 0 0, .slice none 0 0]) := by kernel_rfl
@[simp] theorem tyArr_24 : tyArr Go.Proofs.Try.prog 24 = none := by kernel_rfl
@[simp] theorem tyA_25 : tyA Go.Proofs.Try.prog 25 = some (false, 1) := by kernel_rfl
@[simp] theorem tyStr_25 : tyStr Go.Proofs.Try.prog 25 = false := by kernel_rfl
@[simp] theorem tySrc_25 : tySrc Go.Proofs.Try.prog 25 = true := by kernel_rfl
@[simp] theorem tyZ0_25 : tyZ0 Go.Proofs.Try.prog 25 = [D.sl []] := by kernel_rfl
@[simp] theorem tyBool_25 : tyBool Go.Proofs.Try.prog 25 = false := by kernel_rfl
@[simp] theorem tyInt_25 : tyInt Go.Proofs.Try.prog 25 = none := by kernel_rfl
@[simp] theorem tyZ_25 : tyZ Go.Proofs.Try.prog 25 = some [.slice none 0 0] := by kernel_rfl
@[simp] theorem tyE_25 : tyE Go.Proofs.Try.prog 25 = some (115, 2) := by kernel_rfl
@[simp] theorem tySl_25 : tySl Go.Proofs.Try.prog 25 = some (115, 2, 32, [.bool false, .slice none 0 0]) := by kernel_rfl
@[simp] theorem tyArr_25 : tyArr Go.Proofs.Try.prog 25 = none := by kernel_rfl
@[simp] theorem tyA_26 : tyA Go.Proofs.Try.prog 26 = some (false, 1) := by kernel_rfl
@[simp] theorem tyStr_26 : tyStr Go.Proofs.Try.prog 26 = false := by kernel_rfl
@[simp] theorem tySrc_26 : tySrc Go.Proofs.Try.prog 26 = true := by kernel_rfl
@[simp] theorem tyZ0_26 : tyZ0 Go.Proofs.Try.prog 26 = [D.sl []] := by kernel_rfl
@[simp] theorem tyBool_26 : tyBool Go.Proofs.Try.prog 26 = false := by kernel_rfl
@[simp] theorem tyInt_26 : tyInt Go.Proofs.Try.prog 26 = none := by kernel_rfl
@[simp] theorem tyZ_26 : tyZ Go.Proofs.Try.prog 26 = some [.slice none 0 0] := by kernel_rfl
@[simp] theorem tyE_26 : tyE Go.Proofs.Try.prog 26 = some (119, 6) := by kernel_rfl
@[simp] theorem tySl_26 : tySl Go.Proofs.Try.prog 26 = some (119, 6, 48, [.int .i64 0, .int .i64 0, .int .i64 0, .int .i64 0, .int .i64 0, .int .i64 0]) := by kernel_rfl
@[simp] theorem tyArr_26 : tyArr Go.Proofs.Try.prog 26 = none := by kernel_rfl
@[simp] theorem tyA_28 : tyA Go.Proofs.Try.prog 28 = some (true, 15) := by kernel_rfl
@[simp] theorem tyStr_28 : tyStr Go.Proofs.Try.prog 28 = false := by kernel_rfl
@[simp] theorem tySrc_28 : tySrc Go.Proofs.Try.prog 28 = false := by kernel_rfl
@[simp] theorem tyZ0_28 : tyZ0 Go.Proofs.Try.prog 28 = [D.v (.int .i64 0), D.v (.int .i64 0), D.v (.int .i64 0), D.v (.int .i64 0), D.sl [], D.v (.int .i64 0), D.sl [], D.sl [], D.sl [], D.sl [], D.sl [], D.sl [], D.sl [], D.sl [], D.sl []] := by kernel_rfl
@[simp] theorem tyBool_28 : tyBool Go.Proofs.Try.prog 28 = false := by kernel_rfl
@[simp] theorem tyInt_28 : tyInt Go.Proofs.Try.prog 28 = none := by kernel_rfl
@[simp] theorem tyZ_28 : tyZ Go.Proofs.Try.prog 28 = some [.int .i64 0, .int .i64 0, .int .i64 0, .int .i64 0, .slice none 0 0, .int .i64 0, .slice none 0 0, .slice none 0 0, .slice none 0 0, .slice none 0 0, .slice none 0 0, .slice none 0 0, .slice none 0 0, .slice none 0 0, .slice none 0 0] := by kernel_rfl
@[simp] theorem tyE_28 : tyE Go.Proofs.Try.prog 28 = none := by kernel_rfl
@[simp] theorem tyArr_28 : tyArr Go.Proofs.Try.prog 28 = none := by kernel_rfl
@[simp] theorem tyF_28_0 : tyF Go.Proofs.Try.prog 28 0 = some (0, false, 1) := by kernel_rfl
@[simp] theorem tyF_28_1 : tyF Go.Proofs.Try.prog 28 1 = some (1, false, 1) := by kernel_rfl
@[simp] theorem tyF_28_2 : tyF Go.Proofs.Try.prog 28 2 = some (2, false, 1) := by kernel_rfl
@[simp] theorem tyF_28_3 : tyF Go.Proofs.Try.prog 28 3 = some (3, false, 1) := by kernel_rfl
@[simp] theorem tyF_28_4 : tyF Go.Proofs.Try.prog 28 4 = some (4, false, 1) := by kernel_rfl
@[simp] theorem tyF_28_5 : tyF Go.Proofs.Try.prog 28 5 = some (5, false, 1) := by kernel_rfl
@[simp] theorem tyF_28_6 : tyF Go.Proofs.Try.prog 28 6 = some (6, false, 1) := by kernel_rfl
@[simp] theorem tyF_28_7 : tyF Go.Proofs.Try.prog 28 7 = some (7, false, 1) := by kernel_rfl
@[simp] theorem tyF_28_8 : tyF Go.Proofs.Try.prog 28 8 = some (8, false, 1) := by kernel_rfl
@[simp] theorem tyF_28_9 : tyF Go.Proofs.Try.prog 28 9 = some (9, false, 1) := by kernel_rfl
@[simp] theorem tyF_28_10 : tyF Go.Proofs.Try.prog 28 10 = some (10, false, 1) := by kernel_rfl
@[simp] theorem tyF_28_11 : tyF Go.Proofs.Try.prog 28 11 = some (11, false, 1) := by kernel_rfl
@[simp] theorem tyF_28_12 : tyF Go.Proofs.Try.prog 28 12 = some (12, false, 1) := by kernel_rfl
@[simp] theorem tyF_28_13 : tyF Go.Proofs.Try.prog 28 13 = some (13, false, 1) := by kernel_rfl
@[simp] theorem tyF_28_14 : tyF Go.Proofs.Try.prog 28 14 = some (14, false, 1) := by kernel_rfl
@[simp] theorem tyB_28 : tyB Go.Proofs.Try.prog 28 = some ([.int .i64 0, .int .i64 0, .int .i64 0, .int .i64 0, .slice none 0 0, .int .i64 0, .slice none 0 0, .slice none 0 0, .slice none 0 0, .slice none 0 0, .slice none 0 0, .slice none 0 0, .slice none 0 0, .slice none 0 0, .slice none 0 0], [(0, 1), (1, 1), (2, 1), (3, 1), (4, 1), (5, 1), (6, 1), (7, 1), (8, 1), (9, 1), (10, 1), (11, 1), (12, 1), (13, 1), (14, 1)]) := by kernel_rfl
@[simp] theorem tyA_36 : tyA Go.Proofs.Try.prog 36 = some (false, 1) := by kernel_rfl
@[simp] theorem tyStr_36 : tyStr Go.Proofs.Try.prog 36 = false := by kernel_rfl
@[simp] theorem tySrc_36 : tySrc Go.Proofs.Try.prog 36 = true := by kernel_rfl
@[simp] theorem tyZ0_36 : tyZ0 Go.Proofs.Try.prog 36 = [D.sl []] := by kernel_rfl
@[simp] theorem tyBool_36 : tyBool Go.Proofs.Try.prog 36 = false := by kernel_rfl
@[simp] theorem tyInt_36 : tyInt Go.Proofs.Try.prog 36 = none := by kernel_rfl
@[simp] theorem tyZ_36 : tyZ Go.Proofs.Try.prog 36 = some [.slice none 0 0] := by kernel_rfl
@[simp] theorem tyE_36 : tyE Go.Proofs.Try.prog 36 = some (40, 4) := by kernel_rfl
@[simp] theorem tySl_36 : tySl Go.Proofs.Try.prog 36 = some (40, 4, 32, [.int .i64 0, .int .i64 0, .int .i64 0, .int .i64 0]) := by kernel_rfl
@[simp] theorem tyArr_36 : tyArr Go.Proofs.Try.prog 36 = none := by kernel_rfl
@[simp] theorem tyA_38 : tyA Go.Proofs.Try.prog 38 = some (true, 9) := by kernel_rfl
@[simp] theorem tyStr_38 : tyStr Go.Proofs.Try.prog 38 = false := by kernel_rfl
@[simp] theorem tySrc_38 : tySrc Go.Proofs.Try.prog 38 = false := by kernel_rfl
@[simp] theorem tyZ0_38 : tyZ0 Go.Proofs.Try.prog 38 = [D.v (.int .i64 0), D.v (.int .i64 0), D.v (.int .i64 0), D.v (.int .i64 0), D.v (.bool false), D.sl [], D.sl [], D.sl [], D.sl []] := by kernel_rfl
@[simp] theorem tyBool_38 : tyBool Go.Proofs.Try.prog 38 = false := by kernel_rfl
@[simp] theorem tyInt_38 : tyInt Go.Proofs.Try.prog 38 = none := by kernel_rfl
@[simp] theorem tyZ_38 : tyZ Go.Proofs.Try.prog 38 = some [.int .i64 0, .int .i64 0, .int .i64 0, .int .i64 0, .bool false, .slice none 0 0, .slice none 0 0, .slice none 0 0, .slice none 0 0] := by kernel_rfl
@[simp] theorem tyE_38 : tyE Go.Proofs.Try.prog 38 = none := by kernel_rfl
@[simp] theorem tyArr_38 : tyArr Go.Proofs.Try.prog 38 = none := by kernel_rfl
@[simp] theorem tyF_38_0 : tyF Go.Proofs.Try.prog 38 0 = some (0, false, 1) := by kernel_rfl
@[simp] theorem tyF_38_1 : tyF Go.Proofs.Try.prog 38 1 = some (1, false, 1) := by kernel_rfl
@[simp] theorem tyF_38_2 : tyF Go.Proofs.Try.prog 38 2 = some (2, false, 1) := by kernel_rfl
@[simp] theorem tyF_38_3 : tyF Go.Proofs.Try.prog 38 3 = some (3, false, 1) := by kernel_rfl
@[simp] theorem tyF_38_4 : tyF Go.Proofs.Try.prog 38 4 = some (4, false, 1) := by kernel_rfl
@[simp] theorem tyF_38_5 : tyF Go.Proofs.Try.prog 38 5 = some (5, false, 1) := by kernel_rfl
@[simp] theorem tyF_38_6 : tyF Go.Proofs.Try.prog 38 6 = some (6, false, 1) := by kernel_rfl
@[simp] theorem tyF_38_7 : tyF Go.Proofs.Try.prog 38 7 = some (7, false, 1) := by kernel_rfl
@[simp] theorem tyF_38_8 : tyF Go.Proofs.Try.prog 38 8 = some (8, false, 1) := by kernel_rfl
@[simp] theorem tyB_38 : tyB Go.Proofs.Try.prog 38 = some ([.int .i64 0, .int .i64 0, .int .i64 0, .int .i64 0, .bool false, .slice none 0 0, .slice none 0 0, .slice none 0 0, .slice none 0 0], [(0, 1), (1, 1), (2, 1), (3, 1), (4, 1), (5, 1), (6, 1), (7, 1), (8, 1)]) := by kernel_rfl
@[simp] theorem tyA_40 : tyA Go.Proofs.Try.prog 40 = some (true, 4) := by kernel_rfl
@[simp] theorem tyStr_40 : tyStr Go.Proofs.Try.prog 40 = false := by kernel_rfl
@[simp] theorem tySrc_40 : tySrc Go.Proofs.Try.prog 40 = false := by kernel_rfl
@[simp] theorem tyZ0_40 : tyZ0 Go.Proofs.Try.prog 40 = [D.v (.int .i64 0), D.v (.int .i64 0), D.v (.int .i64 0), D.v (.int .i64 0)] := by kernel_rfl
@[simp] theorem tyBool_40 : tyBool Go.Proofs.Try.prog 40 = false := by kernel_rfl
@[simp] theorem tyInt_40 : tyInt Go.Proofs.Try.prog 40 = none := by kernel_rfl
@[simp] theorem tyZ_40 : tyZ Go.Proofs.Try.prog 40 = some [.int .i64 0, .int .i64 0, .int .i64 0, .int .i64 0] := by kernel_rfl
@[simp] theorem tyE_40 : tyE Go.Proofs.Try.prog 40 = none := by kernel_rfl
@[simp] theorem tyEq_40 : tyEq Go.Proofs.Try.prog 40 = some [.i .i64, .i .i64, .i .i64, .i .i64] := by kernel_rfl
@[simp] theorem tyArr_40 : tyArr Go.Proofs.Try.prog 40 = none := by kernel_rfl
@[simp] theorem tyF_40_0 : tyF Go.Proofs.Try.prog 40 0 = some (0, false, 1) := by kernel_rfl
@[simp] theorem tyF_40_1 : tyF Go.Proofs.Try.prog 40 1 = some (1, false, 1) := by kernel_rfl
@[simp] theorem tyF_40_2 : tyF Go.Proofs.Try.prog 40 2 = some (2, false, 1) := by kernel_rfl
@[simp] theorem tyF_40_3 : tyF Go.Proofs.Try.prog 40 3 = some (3, false, 1) := by kernel_rfl
@[simp] theorem tyB_40 : tyB Go.Proofs.Try.prog 40 = some ([.int .i64 0, .int .i64 0, .int .i64 0, .int .i64 0], [(0, 1), (1, 1), (2, 1), (3, 1)]) := by kernel_rfl
@[simp] theorem tyA_42 : tyA Go.Proofs.Try.prog 42 = some (false, 1) := by kernel_rfl
@[simp] theorem tyStr_42 : tyStr Go.Proofs.Try.prog 42 = false := by kernel_rfl
@[simp] theorem tySrc_42 : tySrc Go.Proofs.Try.prog 42 = true := by kernel_rfl
@[simp] theorem tyZ0_42 : tyZ0 Go.Proofs.Try.prog 42 = [D.sl []] := by kernel_rfl
@[simp] theorem tyBool_42 : tyBool Go.Proofs.Try.prog 42 = false := by kernel_rfl
@[simp] theorem tyInt_42 : tyInt Go.Proofs.Try.prog 42 = none := by kernel_rfl
@[simp] theorem tyZ_42 : tyZ Go.Proofs.Try.prog 42 = some [.slice none 0 0] := by kernel_rfl
@[simp] theorem tyE_42 : tyE Go.Proofs.Try.prog 42 = some (49, 7) := by kernel_rfl
@[simp] theorem tySl_42 : tySl Go.Proofs.Try.prog 42 = some (49, 7, 56, [.int .i64 0, .int .i64 0, .int .i64 0, .int .i64 0, .int .i64 0, .int .i64 0, .int .i64 0]) := by kernel_rfl
@[simp] theorem tyArr_42 : tyArr Go.Proofs.Try.prog 42 = none := by kernel_rfl
@[simp] theorem tyA_47 : tyA Go.Proofs.Try.prog 47 = some (true, 5) := by kernel_rfl
@[simp] theorem tyStr_47 : tyStr Go.Proofs.Try.prog 47 = false := by kernel_rfl
@[simp] theorem tySrc_47 : tySrc Go.Proofs.Try.prog 47 = false := by kernel_rfl
@[simp] theorem tyZ0_47 : tyZ0 Go.Proofs.Try.prog 47 = [D.v (.int .i64 0), D.v (.int .i64 0), D.v (.int .i64 0), D.v (.int .i64 0), D.v (.int .i64 0)] := by kernel_rfl
@[simp] theorem tyBool_47 : tyBool Go.Proofs.Try.prog 47 = false := by kernel_rfl
@[simp] theorem tyInt_47 : tyInt Go.Proofs.Try.prog 47 = none := by kernel_rfl
@[simp] theorem tyZ_47 : tyZ Go.Proofs.Try.prog 47 = some [.int .i64 0, .int .i64 0, .int .i64 0, .int .i64 0, .int .i64 0] := by kernel_rfl
@[simp] theorem tyE_47 : tyE Go.Proofs.Try.prog 47 = none := by kernel_rfl
@[simp] theorem tyEq_47 : tyEq Go.Proofs.Try.prog 47 = some [.i .i64, .i .i64, .i .i64, .i .i64, .i .i64] := by kernel_rfl
@[simp] theorem tyArr_47 : tyArr Go.Proofs.Try.prog 47 = none := by kernel_rfl
@[simp] theorem tyF_47_0 : tyF Go.Proofs.Try.prog 47 0 = some (0, false, 1) := by kernel_rfl
@[simp] theorem tyF_47_1 : tyF Go.Proofs.Try.prog 47 1 = some (1, false, 1) := by kernel_rfl
@[simp] theorem tyF_47_2 : tyF Go.Proofs.Try.prog 47 2 = some (2, false, 1) := by kernel_rfl
@[simp] theorem tyF_47_3 : tyF Go.Proofs.Try.prog 47 3 = some (3, false, 1) := by kernel_rfl
@[simp] theorem tyF_47_4 : tyF Go.Proofs.Try.prog 47 4 = some (4, false, 1) := by kernel_rfl
@[simp] theorem tyB_47 : tyB Go.Proofs.Try.prog 47 = some ([.int .i64 0, .int .i64 0, .int .i64 0, .int .i64 0, .int .i64 0], [(0, 1), (1, 1), (2, 1), (3, 1), (4, 1)]) := by kernel_rfl
@[simp] theorem tyA_49 : tyA Go.Proofs.Try.prog 49 = some (true, 7) := by kernel_rfl
@[simp] theorem tyStr_49 : tyStr Go.Proofs.Try.prog 49 = false := by kernel_rfl
@[simp] theorem tySrc_49 : tySrc Go.Proofs.Try.prog 49 = false := by kernel_rfl
@[simp] theorem tyZ0_49 : tyZ0 Go.Proofs.Try.prog 49 = [D.v (.int .i64 0), D.v (.int .i64 0), D.v (.int .i64 0), D.v (.int .i64 0), D.v (.int .i64 0), D.v (.int .i64 0), D.v (.int .i64 0)] := by kernel_rfl
@[simp] theorem tyBool_49 : tyBool Go.Proofs.Try.prog 49 = false := by kernel_rfl
@[simp] theorem tyInt_49 : tyInt Go.Proofs.Try.prog 49 = none := by kernel_rfl
@[simp] theorem tyZ_49 : tyZ Go.Proofs.Try.prog 49 = some [.int .i64 0, .int .i64 0, .int .i64 0, .int .i64 0, .int .i64 0, .int .i64 0, .int .i64 0] := by kernel_rfl
@[simp] theorem tyE_49 : tyE Go.Proofs.Try.prog 49 = none := by kernel_rfl
@[simp] theorem tyEq_49 : tyEq Go.Proofs.Try.prog 49 = some [.i .i64, .i .i64, .i .i64, .i .i64, .i .i64, .i .i64, .i .i64] := by kernel_rfl
@[simp] theorem tyArr_49 : tyArr Go.Proofs.Try.prog 49 = none := by kernel_rfl
@[simp] theorem tyF_49_0 : tyF Go.Proofs.Try.prog 49 0 = some (0, false, 1) := by kernel_rfl
@[simp] theorem tyF_49_1 : tyF Go.Proofs.Try.prog 49 1 = some (1, false, 1) := by kernel_rfl
@[simp] theorem tyF_49_2 : tyF Go.Proofs.Try.prog 49 2 = some (2, true, 5) := by kernel_rfl
@[simp] theorem tyB_49 : tyB Go.Proofs.Try.prog 49 = some ([.int .i64 0, .int .i64 0, .int .i64 0, .int .i64 0, .int .i64 0, .int .i64 0, .int .i64 0], [(0, 1), (1, 1), (2, 5)]) := by kernel_rfl
@[simp] theorem tyA_50 : tyA Go.Proofs.Try.prog 50 = some (false, 1) := by kernel_rfl
@[simp] theorem tyStr_50 : tyStr Go.Proofs.Try.prog 50 = false := by kernel_rfl
@[simp] theorem tySrc_50 : tySrc Go.Proofs.Try.prog 50 = false := by kernel_rfl
@[simp] theorem tyZ0_50 : tyZ0 Go.Proofs.Try.prog 50 = [D.v (.nilFunc)] := by kernel_rfl
@[simp] theorem tyBool_50 : tyBool Go.Proofs.Try.prog 50 = false := by kernel_rfl
@[simp] theorem tyInt_50 : tyInt Go.Proofs.Try.prog 50 = none := by kernel_rfl
@[simp] theorem tyZ_50 : tyZ Go.Proofs.Try.prog 50 = some [.nilFunc] := by kernel_rfl
@[simp] theorem tyE_50 : tyE Go.Proofs.Try.prog 50 = none := by kernel_rfl
@[simp] theorem tyA_51 : tyA Go.Proofs.Try.prog 51 = some (false, 1) := by kernel_rfl
@[simp] theorem tyStr_51 : tyStr Go.Proofs.Try.prog 51 = false := by kernel_rfl
@[simp] theorem tySrc_51 : tySrc Go.Proofs.Try.prog 51 = true := by kernel_rfl
@[simp] theorem tyZ0_51 : tyZ0 Go.Proofs.Try.prog 51 = [D.sl []] := by kernel_rfl
@[simp] theorem tyBool_51 : tyBool Go.Proofs.Try.prog 51 = false := by kernel_rfl
@[simp] theorem tyInt_51 : tyInt Go.Proofs.Try.prog 51 = none := by kernel_rfl
@[simp] theorem tyZ_51 : tyZ Go.Proofs.Try.prog 51 = some [.slice none 0 0] := by kernel_rfl
@[simp] theorem tyE_51 : tyE Go.Proofs.Try.prog 51 = some (53, 5) := by kernel_rfl
@[simp] theorem tySl_51 : tySl Go.Proofs.Try.prog 51 = some (53, 5, 64, [.int .i64 0, .int .i64 0, .int .i64 0, .string ⟨#[]⟩, .slice none 0 0]) := by kernel_rfl
@[simp] theorem tyArr_51 : tyArr Go.Proofs.Try.prog 51 = none := by kernel_rfl
@[simp] theorem tyA_53 : tyA Go.Proofs.Try.prog 53 = some (true, 5) := by kernel_rfl
@[simp] theorem tyStr_53 : tyStr Go.Proofs.Try.prog 53 = false := by kernel_rfl
@[simp] theorem tySrc_53 : tySrc Go.Proofs.Try.prog 53 = false := by kernel_rfl
@[simp] theorem tyZ0_53 : tyZ0 Go.Proofs.Try.prog 53 = [D.v (.int .i64 0), D.v (.int .i64 0), D.v (.int .i64 0), D.v (.string ⟨#[]⟩), D.sl []] := by kernel_rfl
@[simp] theorem tyBool_53 : tyBool Go.Proofs.Try.prog 53 = false := by kernel_rfl
@[simp] theorem tyInt_53 : tyInt Go.Proofs.Try.prog 53 = none := by kernel_rfl
@[simp] theorem tyZ_53 : tyZ Go.Proofs.Try.prog 53 = some [.int .i64 0, .int .i64 0, .int .i64 0, .string ⟨#[]⟩, .slice none 0 0] := by kernel_rfl
@[simp] theorem tyE_53 : tyE Go.Proofs.Try.prog 53 = none := by kernel_rfl
@[simp] theorem tyArr_53 : tyArr Go.Proofs.Try.prog 53 = none := by kernel_rfl
@[simp] theorem tyF_53_0 : tyF Go.Proofs.Try.prog 53 0 = some (0, false, 1) := by kernel_rfl
@[simp] theorem tyF_53_1 : tyF Go.Proofs.Try.prog 53 1 = some (1, false, 1) := by kernel_rfl
@[simp] theorem tyF_53_2 : tyF Go.Proofs.Try.prog 53 2 = some (2, false, 1) := by kernel_rfl
@[simp] theorem tyF_53_3 : tyF Go.Proofs.Try.prog 53 3 = some (3, false, 1) := by kernel_rfl
@[simp] theorem tyF_53_4 : tyF Go.Proofs.Try.prog 53 4 = some (4, false, 1) := by kernel_rfl
@[simp] theorem tyB_53 : tyB Go.Proofs.Try.prog 53 = some ([.int .i64 0, .int .i64 0, .int .i64 0, .string ⟨#[]⟩, .slice none 0 0], [(0, 1), (1, 1), (2, 1), (3, 1), (4, 1)]) := by kernel_rfl
@[simp] theorem tyA_57 : tyA Go.Proofs.Try.prog 57 = some (false, 1) := by kernel_rfl
@[simp] theorem tyStr_57 : tyStr Go.Proofs.Try.prog 57 = false := by kernel_rfl
@[simp] theorem tySrc_57 : tySrc Go.Proofs.Try.prog 57 = true := by kernel_rfl
@[simp] theorem tyZ0_57 : tyZ0 Go.Proofs.Try.prog 57 = [D.sl []] := by kernel_rfl
@[simp] theorem tyBool_57 : tyBool Go.Proofs.Try.prog 57 = false := by kernel_rfl
@[simp] theorem tyInt_57 : tyInt Go.Proofs.Try.prog 57 = none := by kernel_rfl
@[simp] theorem tyZ_57 : tyZ Go.Proofs.Try.prog 57 = some [.slice none 0 0] := by kernel_rfl
@[simp] theorem tyE_57 : tyE Go.Proofs.Try.prog 57 = some (64, 2) := by kernel_rfl
@[simp] theorem tySl_57 : tySl Go.Proofs.Try.prog 57 = some (64, 2, 16, [.int .i64 0, .int .i64 0]) := by kernel_rfl
@[simp] theorem tyArr_57 : tyArr Go.Proofs.Try.prog 57 = none := by kernel_rfl
@[simp] theorem tyA_59 : tyA Go.Proofs.Try.prog 59 = some (false, 1) := by kernel_rfl
@[simp] theorem tyStr_59 : tyStr Go.Proofs.Try.prog 59 = false := by kernel_rfl
@[simp] theorem tySrc_59 : tySrc Go.Proofs.Try.prog 59 = true := by kernel_rfl
@[simp] theorem tyZ0_59 : tyZ0 Go.Proofs.Try.prog 59 = [D.sl []] := by kernel_rfl
@[simp] theorem tyBool_59 : tyBool Go.Proofs.Try.prog 59 = false := by kernel_rfl
@[simp] theorem tyInt_59 : tyInt Go.Proofs.Try.prog 59 = none := by kernel_rfl
@[simp] theorem tyZ_59 : tyZ Go.Proofs.Try.prog 59 = some [.slice none 0 0] := by kernel_rfl
@[simp] theorem tyE_59 : tyE Go.Proofs.Try.prog 59 = some (94, 6) := by kernel_rfl
@[simp] theorem tySl_59 : tySl Go.Proofs.Try.prog 59 = some (94, 6, 104, [.int .i64 0, .int .i64 0, .string ⟨#[]⟩, .slice none 0 0, .slice none 0 0, .slice none 0 0]) := by kernel_rfl
@[simp] theorem tyArr_59 : tyArr Go.Proofs.Try.prog 59 = none := by kernel_rfl
@[simp] theorem tyA_64 : tyA Go.Proofs.Try.prog 64 = some (true, 2) := by kernel_rfl
@[simp] theorem tyStr_64 : tyStr Go.Proofs.Try.prog 64 = false := by kernel_rfl
@[simp] theorem tySrc_64 : tySrc Go.Proofs.Try.prog 64 = false := by kernel_rfl
@[simp] theorem tyZ0_64 : tyZ0 Go.Proofs.Try.prog 64 = [D.v (.int .i64 0), D.v (.int .i64 0)] := by kernel_rfl
@[simp] theorem tyBool_64 : tyBool Go.Proofs.Try.prog 64 = false := by kernel_rfl
@[simp] theorem tyInt_64 : tyInt Go.Proofs.Try.prog 64 = none := by kernel_rfl
@[simp] theorem tyZ_64 : tyZ Go.Proofs.Try.prog 64 = some [.int .i64 0, .int .i64 0] := by kernel_rfl
@[simp] theorem tyE_64 : tyE Go.Proofs.Try.prog 64 = none := by kernel_rfl
@[simp] theorem tyEq_64 : tyEq Go.Proofs.Try.prog 64 = some [.i .i64, .i .i64] := by kernel_rfl
@[simp] theorem tyArr_64 : tyArr Go.Proofs.Try.prog 64 = none := by kernel_rfl
@[simp] theorem tyF_64_0 : tyF Go.Proofs.Try.prog 64 0 = some (0, false, 1) := by kernel_rfl
@[simp] theorem tyF_64_1 : tyF Go.Proofs.Try.prog 64 1 = some (1, false, 1) := by kernel_rfl
@[simp] theorem tyB_64 : tyB Go.Proofs.Try.prog 64 = some ([.int .i64 0, .int .i64 0], [(0, 1), (1, 1)]) := by kernel_rfl
@[simp] theorem tyA_66 : tyA Go.Proofs.Try.prog 66 = some (false, 1) := by kernel_rfl
@[simp] theorem tyStr_66 : tyStr Go.Proofs.Try.prog 66 = false := by kernel_rfl
@[simp] theorem tySrc_66 : tySrc Go.Proofs.Try.prog 66 = true := by kernel_rfl
@[simp] theorem tyZ0_66 : tyZ0 Go.Proofs.Try.prog 66 = [D.sl []] := by kernel_rfl
@[simp] theorem tyBool_66 : tyBool Go.Proofs.Try.prog 66 = false := by kernel_rfl
@[simp] theorem tyInt_66 : tyInt Go.Proofs.Try.prog 66 = none := by kernel_rfl
@[simp] theorem tyZ_66 : tyZ Go.Proofs.Try.prog 66 = some [.slice none 0 0] := by kernel_rfl
@[simp] theorem tyE_66 : tyE Go.Proofs.Try.prog 66 = some (4, 1) := by kernel_rfl
@[simp] theorem tySl_66 : tySl Go.Proofs.Try.prog 66 = some (4, 1, 1, [.bool false]) := by kernel_rfl
@[simp] theorem tyArr_66 : tyArr Go.Proofs.Try.prog 66 = none := by kernel_rfl
@[simp] theorem tyA_70 : tyA Go.Proofs.Try.prog 70 = some (false, 1) := by kernel_rfl
@[simp] theorem tyStr_70 : tyStr Go.Proofs.Try.prog 70 = false := by kernel_rfl
@[simp] theorem tySrc_70 : tySrc Go.Proofs.Try.prog 70 = false := by kernel_rfl
@[simp] theorem tyZ0_70 : tyZ0 Go.Proofs.Try.prog 70 = [D.v (.map none)] := by kernel_rfl
@[simp] theorem tyBool_70 : tyBool Go.Proofs.Try.prog 70 = false := by kernel_rfl
@[simp] theorem tyInt_70 : tyInt Go.Proofs.Try.prog 70 = none := by kernel_rfl
@[simp] theorem tyZ_70 : tyZ Go.Proofs.Try.prog 70 = some [.map none] := by kernel_rfl
@[simp] theorem tyE_70 : tyE Go.Proofs.Try.prog 70 = none := by kernel_rfl
@[simp] theorem tyA_73 : tyA Go.Proofs.Try.prog 73 = some (true, 3) := by kernel_rfl
@[simp] theorem tyStr_73 : tyStr Go.Proofs.Try.prog 73 = false := by kernel_rfl
@[simp] theorem tySrc_73 : tySrc Go.Proofs.Try.prog 73 = false := by kernel_rfl
@[simp] theorem tyZ0_73 : tyZ0 Go.Proofs.Try.prog 73 = [D.v (.int .i64 0), D.v (.int .i64 0), D.v (.int .i64 0)] := by kernel_rfl
@[simp] theorem tyBool_73 : tyBool Go.Proofs.Try.prog 73 = false := by kernel_rfl
@[simp] theorem tyInt_73 : tyInt Go.Proofs.Try.prog 73 = none := by kernel_rfl
@[simp] theorem tyZ_73 : tyZ Go.Proofs.Try.prog 73 = some [.int .i64 0, .int .i64 0, .int .i64 0] := by kernel_rfl
@[simp] theorem tyE_73 : tyE Go.Proofs.Try.prog 73 = none := by kernel_rfl
@[simp] theorem tyEq_73 : tyEq Go.Proofs.Try.prog 73 = some [.i .i64, .i .i64, .i .i64] := by kernel_rfl
@[simp] theorem tyArr_73 : tyArr Go.Proofs.Try.prog 73 = none := by kernel_rfl
@[simp] theorem tyF_73_0 : tyF Go.Proofs.Try.prog 73 0 = some (0, false, 1) := by kernel_rfl
@[simp] theorem tyF_73_1 : tyF Go.Proofs.Try.prog 73 1 = some (1, false, 1) := by kernel_rfl
@[simp] theorem tyF_73_2 : tyF Go.Proofs.Try.prog 73 2 = some (2, false, 1) := by kernel_rfl
@[simp] theorem tyB_73 : tyB Go.Proofs.Try.prog 73 = some ([.int .i64 0, .int .i64 0, .int .i64 0], [(0, 1), (1, 1), (2, 1)]) := by kernel_rfl
@[simp] theorem tyA_77 : tyA Go.Proofs.Try.prog 77 = some (false, 1) := by kernel_rfl
@[simp] theorem tyStr_77 : tyStr Go.Proofs.Try.prog 77 = false := by kernel_rfl
@[simp] theorem tySrc_77 : tySrc Go.Proofs.Try.prog 77 = false := by kernel_rfl
@[simp] theorem tyZ0_77 : tyZ0 Go.Proofs.Try.prog 77 = [D.v (.nilFunc)] := by kernel_rfl
@[simp] theorem tyBool_77 : tyBool Go.Proofs.Try.prog 77 = false := by kernel_rfl
@[simp] theorem tyInt_77 : tyInt Go.Proofs.Try.prog 77 = none := by kernel_rfl
@[simp] theorem tyZ_77 : tyZ Go.Proofs.Try.prog 77 = some [.nilFunc] := by kernel_rfl
@[simp] theorem tyE_77 : tyE Go.Proofs.Try.prog 77 = none := by kernel_rfl
@[simp] theorem tyA_80 : tyA Go.Proofs.Try.prog 80 = some (false, 1) := by kernel_rfl
@[simp] theorem tyStr_80 : tyStr Go.Proofs.Try.prog 80 = false := by kernel_rfl
@[simp] theorem tySrc_80 : tySrc Go.Proofs.Try.prog 80 = false := by kernel_rfl
@[simp] theorem tyZ0_80 : tyZ0 Go.Proofs.Try.prog 80 = [D.v (.pointer none)] := by kernel_rfl
@[simp] theorem tyBool_80 : tyBool Go.Proofs.Try.prog 80 = false := by kernel_rfl
@[simp] theorem tyInt_80 : tyInt Go.Proofs.Try.prog 80 = none := by kernel_rfl
@[simp] theorem tyZ_80 : tyZ Go.Proofs.Try.prog 80 = some [.pointer none] := by kernel_rfl
@[simp] theorem tyE_80 : tyE Go.Proofs.Try.prog 80 = none := by kernel_rfl
@[simp] theorem tyA_81 : tyA Go.Proofs.Try.prog 81 = some (false, 1) := by kernel_rfl
@[simp] theorem tyStr_81 : tyStr Go.Proofs.Try.prog 81 = false := by kernel_rfl
@[simp] theorem tySrc_81 : tySrc Go.Proofs.Try.prog 81 = true := by kernel_rfl
@[simp] theorem tyZ0_81 : tyZ0 Go.Proofs.Try.prog 81 = [D.sl []] := by kernel_rfl
@[simp] theorem tyBool_81 : tyBool Go.Proofs.Try.prog 81 = false := by kernel_rfl
@[simp] theorem tyInt_81 : tyInt Go.Proofs.Try.prog 81 = none := by kernel_rfl
@[simp] theorem tyZ_81 : tyZ Go.Proofs.Try.prog 81 = some [.slice none 0 0] := by kernel_rfl
@[simp] theorem tyE_81 : tyE Go.Proofs.Try.prog 81 = some (5, 1) := by kernel_rfl
@[simp] theorem tySl_81 : tySl Go.Proofs.Try.prog 81 = some (5, 1, 1, [.int .u8 0]) := by kernel_rfl
@[simp] theorem tyArr_81 : tyArr Go.Proofs.Try.prog 81 = none := by kernel_rfl
@[simp] theorem tyA_83 : tyA Go.Proofs.Try.prog 83 = some (true, 2) := by kernel_rfl
@[simp] theorem tyStr_83 : tyStr Go.Proofs.Try.prog 83 = false := by kernel_rfl
@[simp] theorem tySrc_83 : tySrc Go.Proofs.Try.prog 83 = false := by kernel_rfl
@[simp] theorem tyZ0_83 : tyZ0 Go.Proofs.Try.prog 83 = [D.v (.pointer none), D.sl []] := by kernel_rfl
@[simp] theorem tyBool_83 : tyBool Go.Proofs.Try.prog 83 = false := by kernel_rfl
@[simp] theorem tyInt_83 : tyInt Go.Proofs.Try.prog 83 = none := by kernel_rfl
@[simp] theorem tyZ_83 : tyZ Go.Proofs.Try.prog 83 = some [.pointer none, .slice none 0 0] := by kernel_rfl
@[simp] theorem tyE_83 : tyE Go.Proofs.Try.prog 83 = none := by kernel_rfl
@[simp] theorem tyArr_83 : tyArr Go.Proofs.Try.prog 83 = none := by kernel_rfl
@[simp] theorem tyF_83_0 : tyF Go.Proofs.Try.prog 83 0 = some (0, false, 1) := by kernel_rfl
@[simp] theorem tyF_83_1 : tyF Go.Proofs.Try.prog 83 1 = some (1, false, 1) := by kernel_rfl
@[simp] theorem tyB_83 : tyB Go.Proofs.Try.prog 83 = some ([.pointer none, .slice none 0 0], [(0, 1), (1, 1)]) := by kernel_rfl
@[simp] theorem tyA_85 : tyA Go.Proofs.Try.prog 85 = some (false, 1) := by kernel_rfl
@[simp] theorem tyStr_85 : tyStr Go.Proofs.Try.prog 85 = false := by kernel_rfl
@[simp] theorem tySrc_85 : tySrc Go.Proofs.Try.prog 85 = false := by kernel_rfl
@[simp] theorem tyZ0_85 : tyZ0 Go.Proofs.Try.prog 85 = [D.v (.nilIface)] := by kernel_rfl
@[simp] theorem tyBool_85 : tyBool Go.Proofs.Try.prog 85 = false := by kernel_rfl
@[simp] theorem tyInt_85 : tyInt Go.Proofs.Try.prog 85 = none := by kernel_rfl
@[simp] theorem tyZ_85 : tyZ Go.Proofs.Try.prog 85 = some [.nilIface] := by kernel_rfl
@[simp] theorem tyE_85 : tyE Go.Proofs.Try.prog 85 = none := by kernel_rfl
@[simp] theorem tyA_94 : tyA Go.Proofs.Try.prog 94 = some (true, 6) := by kernel_rfl
@[simp] theorem tyStr_94 : tyStr Go.Proofs.Try.prog 94 = false := by kernel_rfl
@[simp] theorem tySrc_94 : tySrc Go.Proofs.Try.prog 94 = false := by kernel_rfl
@[simp] theorem tyZ0_94 : tyZ0 Go.Proofs.Try.prog 94 = [D.v (.int .i64 0), D.v (.int .i64 0), D.v (.string ⟨#[]⟩), D.sl [], D.sl [], D.sl []] := by kernel_rfl
@[simp] theorem tyBool_94 : tyBool Go.Proofs.Try.prog 94 = false := by kernel_rfl
@[simp] theorem tyInt_94 : tyInt Go.Proofs.Try.prog 94 = none := by kernel_rfl
@[simp] theorem tyZ_94 : tyZ Go.Proofs.Try.prog 94 = some [.int .i64 0, .int .i64 0, .string ⟨#[]⟩, .slice none 0 0, .slice none 0 0, .slice none 0 0] := by kernel_rfl
@[simp] theorem tyE_94 : tyE Go.Proofs.Try.prog 94 = none := by kernel_rfl
@[simp] theorem tyArr_94 : tyArr Go.Proofs.Try.prog 94 = none := by kernel_rfl
@[simp] theorem tyF_94_0 : tyF Go.Proofs.Try.prog 94 0 = some (0, false, 1) := by kernel_rfl
@[simp] theorem tyF_94_1 : tyF Go.Proofs.Try.prog 94 1 = some (1, false, 1) := by kernel_rfl
@[simp] theorem tyF_94_2 : tyF Go.Proofs.Try.prog 94 2 = some (2, false, 1) := by kernel_rfl
@[simp] theorem tyF_94_3 : tyF Go.Proofs.Try.prog 94 3 = some (3, false, 1) := by kernel_rfl
@[simp] theorem tyF_94_4 : tyF Go.Proofs.Try.prog 94 4 = some (4, false, 1) := by kernel_rfl
@[simp] theorem tyF_94_5 : tyF Go.Proofs.Try.prog 94 5 = some (5, false, 1) := by kernel_rfl
@[simp] theorem tyB_94 : tyB Go.Proofs.Try.prog 94 = some ([.int .i64 0, .int .i64 0, .string ⟨#[]⟩, .slice none 0 0, .slice none 0 0, .slice none 0 0], [(0, 1), (1, 1), (2, 1), (3, 1), (4, 1), (5, 1)]) := by kernel_rfl
@[simp] theorem tyA_95 : tyA Go.Proofs.Try.prog 95 = some (false, 1) := by kernel_rfl
@[simp] theorem tyStr_95 : tyStr Go.Proofs.Try.prog 95 = false := by kernel_rfl
@[simp] theorem tySrc_95 : tySrc Go.Proofs.Try.prog 95 = false := by kernel_rfl
@[simp] theorem tyZ0_95 : tyZ0 Go.Proofs.Try.prog 95 = [D.v (.pointer none)] := by kernel_rfl
@[simp] theorem tyBool_95 : tyBool Go.Proofs.Try.prog 95 = false := by kernel_rfl
@[simp] theorem tyInt_95 : tyInt Go.Proofs.Try.prog 95 = none := by kernel_rfl
@[simp] theorem tyZ_95 : tyZ Go.Proofs.Try.prog 95 = some [.pointer none] := by kernel_rfl
@[simp] theorem tyE_95 : tyE Go.Proofs.Try.prog 95 = none := by kernel_rfl
@[simp] theorem tyA_97 : tyA Go.Proofs.Try.prog 97 = some (true, 2) := by kernel_rfl
@[simp] theorem tyStr_97 : tyStr Go.Proofs.Try.prog 97 = false := by kernel_rfl
@[simp] theorem tySrc_97 : tySrc Go.Proofs.Try.prog 97 = false := by kernel_rfl
@[simp] theorem tyZ0_97 : tyZ0 Go.Proofs.Try.prog 97 = [D.sl [], D.v (.int .i64 0)] := by kernel_rfl
@[simp] theorem tyBool_97 : tyBool Go.Proofs.Try.prog 97 = false := by kernel_rfl
@[simp] theorem tyInt_97 : tyInt Go.Proofs.Try.prog 97 = none := by kernel_rfl
@[simp] theorem tyZ_97 : tyZ Go.Proofs.Try.prog 97 = some [.slice none 0 0, .int .i64 0] := by kernel_rfl
@[simp] theorem tyE_97 : tyE Go.Proofs.Try.prog 97 = none := by kernel_rfl
@[simp] theorem tyArr_97 : tyArr Go.Proofs.Try.prog 97 = none := by kernel_rfl
@[simp] theorem tyF_97_0 : tyF Go.Proofs.Try.prog 97 0 = some (0, false, 1) := by kernel_rfl
@[simp] theorem tyF_97_1 : tyF Go.Proofs.Try.prog 97 1 = some (1, false, 1) := by kernel_rfl
@[simp] theorem tyB_97 : tyB Go.Proofs.Try.prog 97 = some ([.slice none 0 0, .int .i64 0], [(0, 1), (1, 1)]) := by kernel_rfl
@[simp] theorem tyA_113 : tyA Go.Proofs.Try.prog 113 = some (false, 1) := by kernel_rfl
@[simp] theorem tyStr_113 : tyStr Go.Proofs.Try.prog 113 = false := by kernel_rfl
@[simp] theorem tySrc_113 : tySrc Go.Proofs.Try.prog 113 = true := by kernel_rfl
@[simp] theorem tyZ0_113 : tyZ0 Go.Proofs.Try.prog 113 = [D.sl []] := by kernel_rfl
@[simp] theorem tyBool_113 : tyBool Go.Proofs.Try.prog 113 = false := by kernel_rfl
@[simp] theorem tyInt_113 : tyInt Go.Proofs.Try.prog 113 = none := by kernel_rfl
@[simp] theorem tyZ_113 : tyZ Go.Proofs.Try.prog 113 = some [.slice none 0 0] := by kernel_rfl
@[simp] theorem tyE_113 : tyE Go.Proofs.Try.prog 113 = some (117, 1) := by kernel_rfl
@[simp] theorem tySl_113 : tySl Go.Proofs.Try.prog 113 = some (117, 1, 24, [.slice none 0 0]) := by kernel_rfl
@[simp] theorem tyArr_113 : tyArr Go.Proofs.Try.prog 113 = none := by kernel_rfl
@[simp] theorem tyA_115 : tyA Go.Proofs.Try.prog 115 = some (true, 2) := by kernel_rfl
@[simp] theorem tyStr_115 : tyStr Go.Proofs.Try.prog 115 = false := by kernel_rfl
@[simp] theorem tySrc_115 : tySrc Go.Proofs.Try.prog 115 = false := by kernel_rfl
@[simp] theorem tyZ0_115 : tyZ0 Go.Proofs.Try.prog 115 = [D.v (.bool false), D.sl []] := by kernel_rfl
@[simp] theorem tyBool_115 : tyBool Go.Proofs.Try.prog 115 = false := by kernel_rfl
@[simp] theorem tyInt_115 : tyInt Go.Proofs.Try.prog 115 = none := by kernel_rfl
@[simp] theorem tyZ_115 : tyZ Go.Proofs.Try.prog 115 = some [.bool false, .slice none 0 0] := by kernel_rfl
@[simp] theorem tyE_115 : tyE Go.Proofs.Try.prog 115 = none := by kernel_rfl
@[simp] theorem tyArr_115 : tyArr Go.Proofs.Try.prog 115 = none := by kernel_rfl
@[simp] theorem tyF_115_0 : tyF Go.Proofs.Try.prog 115 0 = some (0, false, 1) := by kernel_rfl
@[simp] theorem tyF_115_1 : tyF Go.Proofs.Try.prog 115 1 = some (1, false, 1) := by kernel_rfl
@[simp] theorem tyB_115 : tyB Go.Proofs.Try.prog 115 = some ([.bool false, .slice none 0 0], [(0, 1), (1, 1)]) := by kernel_rfl
@[simp] theorem tyA_117 : tyA Go.Proofs.Try.prog 117 = some (false, 1) := by kernel_rfl
@[simp] theorem tyStr_117 : tyStr Go.Proofs.Try.prog 117 = false := by kernel_rfl
@[simp] theorem tySrc_117 : tySrc Go.Proofs.Try.prog 117 = true := by kernel_rfl
@[simp] theorem tyZ0_117 : tyZ0 Go.Proofs.Try.prog 117 = [D.sl []] := by kernel_rfl
@[simp] theorem tyBool_117 : tyBool Go.Proofs.Try.prog 117 = false := by kernel_rfl
@[simp] theorem tyInt_117 : tyInt Go.Proofs.Try.prog 117 = none := by kernel_rfl
@[simp] theorem tyZ_117 : tyZ Go.Proofs.Try.prog 117 = some [.slice none 0 0] := by kernel_rfl
@[simp] theorem tyE_117 : tyE Go.Proofs.Try.prog 117 = some (135, 2) := by kernel_rfl
@[simp] theorem tySl_117 : tySl Go.Proofs.Try.prog 117 = some (135, 2, 32, [.int .i64 0, .slice none 0 0]) := by kernel_rfl
@[simp] theorem tyArr_117 : tyArr Go.Proofs.Try.prog 117 = none := by kernel_rfl
@[simp] theorem tyA_119 : tyA Go.Proofs.Try.prog 119 = some (true, 6) := by kernel_rfl
@[simp] theorem tyStr_119 : tyStr Go.Proofs.Try.prog 119 = false := by kernel_rfl
@[simp] theorem tySrc_119 : tySrc Go.Proofs.Try.prog 119 = false := by kernel_rfl
@[simp] theorem tyZ0_119 : tyZ0 Go.Proofs.Try.prog 119 = [D.v (.int .i64 0), D.v (.int .i64 0), D.v (.int .i64 0), D.v (.int .i64 0), D.v (.int .i64 0), D.v (.int .i64 0)] := by kernel_rfl
@[simp] theorem tyBool_119 : tyBool Go.Proofs.Try.prog 119 = false := by kernel_rfl
@[simp] theorem tyInt_119 : tyInt Go.Proofs.Try.prog 119 = none := by kernel_rfl
@[simp] theorem tyZ_119 : tyZ Go.Proofs.Try.prog 119 = some [.int .i64 0, .int .i64 0, .int .i64 0, .int .i64 0, .int .i64 0, .int .i64 0] := by kernel_rfl
@[simp] theorem tyE_119 : tyE Go.Proofs.Try.prog 119 = none := by kernel_rfl
@[simp] theorem tyEq_119 : tyEq Go.Proofs.Try.prog 119 = some [.i .i64, .i .i64, .i .i64, .i .i64, .i .i64, .i .i64] := by kernel_rfl
@[simp] theorem tyArr_119 : tyArr Go.Proofs.Try.prog 119 = none := by kernel_rfl
@[simp] theorem tyF_119_0 : tyF Go.Proofs.Try.prog 119 0 = some (0, false, 1) := by kernel_rfl
@[simp] theorem tyF_119_1 : tyF Go.Proofs.Try.prog 119 1 = some (1, false, 1) := by kernel_rfl
@[simp] theorem tyF_119_2 : tyF Go.Proofs.Try.prog 119 2 = some (2, false, 1) := by kernel_rfl
@[simp] theorem tyF_119_3 : tyF Go.Proofs.Try.prog 119 3 = some (3, false, 1) := by kernel_rfl
@[simp] theorem tyF_119_4 : tyF Go.Proofs.Try.prog 119 4 = some (4, false, 1) := by kernel_rfl
@[simp] theorem tyF_119_5 : tyF Go.Proofs.Try.prog 119 5 = some (5, false, 1) := by kernel_rfl
@[simp] theorem tyB_119 : tyB Go.Proofs.Try.prog 119 = some ([.int .i64 0, .int .i64 0, .int .i64 0, .int .i64 0, .int .i64 0, .int .i64 0], [(0, 1), (1, 1), (2, 1), (3, 1), (4, 1), (5, 1)]) := by kernel_rfl
@[simp] theorem tyA_120 : tyA Go.Proofs.Try.prog 120 = some (true, 13) := by kernel_rfl
@[simp] theorem tyStr_120 : tyStr Go.Proofs.Try.prog 120 = false := by kernel_rfl
@[simp] theorem tySrc_120 : tySrc Go.Proofs.Try.prog 120 = false := by kernel_rfl
@[simp] theorem tyZ0_120 : tyZ0 Go.Proofs.Try.prog 120 = [D.v (.string ⟨#[]⟩), D.v (.string ⟨#[]⟩), D.v (.string ⟨#[]⟩), D.v (.string ⟨#[]⟩), D.v (.string ⟨#[]⟩), D.v (.string ⟨#[]⟩), D.v (.string ⟨#[]⟩), D.v (.string ⟨#[]⟩), D.v (.string ⟨#[]⟩), D.v (.string ⟨#[]⟩), D.v (.string ⟨#[]⟩), D.v (.string ⟨#[]⟩), D.v (.string ⟨#[]⟩)] := by kernel_rfl
@[simp] theorem tyBool_120 : tyBool Go.Proofs.Try.prog 120 = false := by kernel_rfl
@[simp] theorem tyInt_120 : tyInt Go.Proofs.Try.prog 120 = none := by kernel_rfl
@[simp] theorem tyZ_120 : tyZ Go.Proofs.Try.prog 120 = some [.string ⟨#[]⟩, .string ⟨#[]⟩, .string ⟨#[]⟩, .string ⟨#[]⟩, .string ⟨#[]⟩, .string ⟨#[]⟩, .string ⟨#[]⟩, .string ⟨#[]⟩, .string ⟨#[]⟩, .string ⟨#[]⟩, .string ⟨#[]⟩, .string ⟨#[]⟩, .string ⟨#[]⟩] := by kernel_rfl
@[simp] theorem tyE_120 : tyE Go.Proofs.Try.prog 120 = none := by kernel_rfl
@[simp] theorem tyArr_120 : tyArr Go.Proofs.Try.prog 120 = some (13, false, 1) := by kernel_rfl
@[simp] theorem tyB_120 : tyB Go.Proofs.Try.prog 120 = some ([.string ⟨#[]⟩, .string ⟨#[]⟩, .string ⟨#[]⟩, .string ⟨#[]⟩, .string ⟨#[]⟩, .string ⟨#[]⟩, .string ⟨#[]⟩, .string ⟨#[]⟩, .string ⟨#[]⟩, .string ⟨#[]⟩, .string ⟨#[]⟩, .string ⟨#[]⟩, .string ⟨#[]⟩], [(0, 1), (1, 1), (2, 1), (3, 1), (4, 1), (5, 1), (6, 1), (7, 1), (8, 1), (9, 1), (10, 1), (11, 1), (12, 1)]) := by kernel_rfl
@[simp] theorem tyA_121 : tyA Go.Proofs.Try.prog 121 = some (false, 1) := by kernel_rfl
@[simp] theorem tyStr_121 : tyStr Go.Proofs.Try.prog 121 = false := by kernel_rfl
@[simp] theorem tySrc_121 : tySrc Go.Proofs.Try.prog 121 = false := by kernel_rfl
@[simp] theorem tyZ0_121 : tyZ0 Go.Proofs.Try.prog 121 = [D.v (.pointer none)] := by kernel_rfl
@[simp] theorem tyBool_121 : tyBool Go.Proofs.Try.prog 121 = false := by kernel_rfl
@[simp] theorem tyInt_121 : tyInt Go.Proofs.Try.prog 121 = none := by kernel_rfl
@[simp] theorem tyZ_121 : tyZ Go.Proofs.Try.prog 121 = some [.pointer none] := by kernel_rfl
@[simp] theorem tyE_121 : tyE Go.Proofs.Try.prog 121 = none := by kernel_rfl
@[simp] theorem tyA_133 : tyA Go.Proofs.Try.prog 133 = some (false, 1) := by kernel_rfl
@[simp] theorem tyStr_133 : tyStr Go.Proofs.Try.prog 133 = false := by kernel_rfl
@[simp] theorem tySrc_133 : tySrc Go.Proofs.Try.prog 133 = false := by kernel_rfl
@[simp] theorem tyZ0_133 : tyZ0 Go.Proofs.Try.prog 133 = [D.v (.int .i16 0)] := by kernel_rfl
@[simp] theorem tyBool_133 : tyBool Go.Proofs.Try.prog 133 = false := by kernel_rfl
@[simp] theorem tyInt_133 : tyInt Go.Proofs.Try.prog 133 = some .i16 := by kernel_rfl
@[simp] theorem tyZ_133 : tyZ Go.Proofs.Try.prog 133 = some [.int .i16 0] := by kernel_rfl
@[simp] theorem tyE_133 : tyE Go.Proofs.Try.prog 133 = none := by kernel_rfl
@[simp] theorem tyA_135 : tyA Go.Proofs.Try.prog 135 = some (true, 2) := by kernel_rfl
@[simp] theorem tyStr_135 : tyStr Go.Proofs.Try.prog 135 = false := by kernel_rfl
@[simp] theorem tySrc_135 : tySrc Go.Proofs.Try.prog 135 = false := by kernel_rfl
@[simp] theorem tyZ0_135 : tyZ0 Go.Proofs.Try.prog 135 = [D.v (.int .i64 0), D.sl []] := by kernel_rfl
@[simp] theorem tyBool_135 : tyBool Go.Proofs.Try.prog 135 = false := by kernel_rfl
@[simp] theorem tyInt_135 : tyInt Go.Proofs.Try.prog 135 = none := by kernel_rfl
@[simp] theorem tyZ_135 : tyZ Go.Proofs.Try.prog 135 = some [.int .i64 0, .slice none 0 0] := by kernel_rfl
@[simp] theorem tyE_135 : tyE Go.Proofs.Try.prog 135 = none := by kernel_rfl
@[simp] theorem tyArr_135 : tyArr Go.Proofs.Try.prog 135 = none := by kernel_rfl
@[simp] theorem tyF_135_0 : tyF Go.Proofs.Try.prog 135 0 = some (0, false, 1) := by kernel_rfl
@[simp] theorem tyF_135_1 : tyF Go.Proofs.Try.prog 135 1 = some (1, false, 1) := by kernel_rfl
@[simp] theorem tyB_135 : tyB Go.Proofs.Try.prog 135 = some ([.int .i64 0, .slice none 0 0], [(0, 1), (1, 1)]) := by kernel_rfl
@[simp] theorem tyA_136 : tyA Go.Proofs.Try.prog 136 = some (false, 1) := by kernel_rfl
@[simp] theorem tyStr_136 : tyStr Go.Proofs.Try.prog 136 = false := by kernel_rfl
@[simp] theorem tySrc_136 : tySrc Go.Proofs.Try.prog 136 = false := by kernel_rfl
@[simp] theorem tyZ0_136 : tyZ0 Go.Proofs.Try.prog 136 = [D.v (.pointer none)] := by kernel_rfl
@[simp] theorem tyBool_136 : tyBool Go.Proofs.Try.prog 136 = false := by kernel_rfl
@[simp] theorem tyInt_136 : tyInt Go.Proofs.Try.prog 136 = none := by kernel_rfl
@[simp] theorem tyZ_136 : tyZ Go.Proofs.Try.prog 136 = some [.pointer none] := by kernel_rfl
@[simp] theorem tyE_136 : tyE Go.Proofs.Try.prog 136 = none := by kernel_rfl
@[simp] theorem enters_3 : enters Go.Proofs.Try.prog 3 = true := by kernel_rfl
@[simp] theorem enters_4 : enters Go.Proofs.Try.prog 4 = true := by kernel_rfl
@[simp] theorem enters_5 : enters Go.Proofs.Try.prog 5 = true := by kernel_rfl
@[simp] theorem enters_6 : enters Go.Proofs.Try.prog 6 = true := by kernel_rfl
@[simp] theorem enters_7 : enters Go.Proofs.Try.prog 7 = true := by kernel_rfl
@[simp] theorem enters_8 : enters Go.Proofs.Try.prog 8 = true := by kernel_rfl
@[simp] theorem enters_9 : enters Go.Proofs.Try.prog 9 = true := by kernel_rfl
@[simp] theorem enters_10 : enters Go.Proofs.Try.prog 10 = true := by kernel_rfl
@[simp] theorem enters_11 : enters Go.Proofs.Try.prog 11 = true := by kernel_rfl
@[simp] theorem enters_12 : enters Go.Proofs.Try.prog 12 = true := by kernel_rfl
@[simp] theorem enters_13 : enters Go.Proofs.Try.prog 13 = true := by kernel_rfl
@[simp] theorem enters_14 : enters Go.Proofs.Try.prog 14 = true := by kernel_rfl
@[simp] theorem enters_15 : enters Go.Proofs.Try.prog 15 = true := by kernel_rfl
@[simp] theorem enters_16 : enters Go.Proofs.Try.prog 16 = true := by kernel_rfl
@[simp] theorem enters_17 : enters Go.Proofs.Try.prog 17 = true := by kernel_rfl
@[simp] theorem enters_18 : enters Go.Proofs.Try.prog 18 = true := by kernel_rfl
@[simp] theorem enters_19 : enters Go.Proofs.Try.prog 19 = true := by kernel_rfl
@[simp] theorem enters_20 : enters Go.Proofs.Try.prog 20 = true := by kernel_rfl
@[simp] theorem enters_21 : enters Go.Proofs.Try.prog 21 = true := by kernel_rfl
@[simp] theorem enters_22 : enters Go.Proofs.Try.prog 22 = true := by kernel_rfl
@[simp] theorem enters_23 : enters Go.Proofs.Try.prog 23 = true := by kernel_rfl
@[simp] theorem enters_24 : enters Go.Proofs.Try.prog 24 = true := by kernel_rfl
@[simp] theorem enters_25 : enters Go.Proofs.Try.prog 25 = true := by kernel_rfl
@[simp] theorem enters_26 : enters Go.Proofs.Try.prog 26 = true := by kernel_rfl
@[simp] theorem enters_27 : enters Go.Proofs.Try.prog 27 = true := by kernel_rfl
@[simp] theorem enters_28 : enters Go.Proofs.Try.prog 28 = true := by kernel_rfl
@[simp] theorem enters_29 : enters Go.Proofs.Try.prog 29 = true := by kernel_rfl
@[simp] theorem enters_30 : enters Go.Proofs.Try.prog 30 = true := by kernel_rfl
@[simp] theorem enters_31 : enters Go.Proofs.Try.prog 31 = true := by kernel_rfl
@[simp] theorem enters_32 : enters Go.Proofs.Try.prog 32 = true := by kernel_rfl
@[simp] theorem enters_33 : enters Go.Proofs.Try.prog 33 = true := by kernel_rfl
@[simp] theorem enters_34 : enters Go.Proofs.Try.prog 34 = true := by kernel_rfl
@[simp] theorem enters_35 : enters Go.Proofs.Try.prog 35 = true := by kernel_rfl
@[simp] theorem enters_36 : enters Go.Proofs.Try.prog 36 = true := by kernel_rfl
@[simp] theorem enters_37 : enters Go.Proofs.Try.prog 37 = true := by kernel_rfl
@[simp] theorem enters_38 : enters Go.Proofs.Try.prog 38 = true := by kernel_rfl
@[simp] theorem enters_39 : enters Go.Proofs.Try.prog 39 = true := by kernel_rfl
@[simp] theorem enters_40 : enters Go.Proofs.Try.prog 40 = true := by kernel_rfl
@[simp] theorem enters_41 : enters Go.Proofs.Try.prog 41 = true := by kernel_rfl
@[simp] theorem enters_42 : enters Go.Proofs.Try.prog 42 = true := by kernel_rfl
@[simp] theorem enters_43 : enters Go.Proofs.Try.prog 43 = true := by kernel_rfl
@[simp] theorem enters_44 : enters Go.Proofs.Try.prog 44 = true := by kernel_rfl
@[simp] theorem enters_45 : enters Go.Proofs.Try.prog 45 = true := by kernel_rfl
@[simp] theorem enters_46 : enters Go.Proofs.Try.prog 46 = true := by kernel_rfl
@[simp] theorem enters_47 : enters Go.Proofs.Try.prog 47 = true := by kernel_rfl
@[simp] theorem enters_48 : enters Go.Proofs.Try.prog 48 = true := by kernel_rfl
@[simp] theorem enters_49 : enters Go.Proofs.Try.prog 49 = true := by kernel_rfl
@[simp] theorem enters_50 : enters Go.Proofs.Try.prog 50 = true := by kernel_rfl
@[simp] theorem enters_51 : enters Go.Proofs.Try.prog 51 = true := by kernel_rfl
@[simp] theorem enters_52 : enters Go.Proofs.Try.prog 52 = true := by kernel_rfl
@[simp] theorem enters_53 : enters Go.Proofs.Try.prog 53 = true := by kernel_rfl
@[simp] theorem enters_54 : enters Go.Proofs.Try.prog 54 = true := by kernel_rfl
@[simp] theorem enters_55 : enters Go.Proofs.Try.prog 55 = true := by kernel_rfl
@[simp] theorem enters_56 : enters Go.Proofs.Try.prog 56 = true := by kernel_rfl
@[simp] theorem enters_57 : enters Go.Proofs.Try.prog 57 = true := by kernel_rfl
@[simp] theorem enters_58 : enters Go.Proofs.Try.prog 58 = true := by kernel_rfl
@[simp] theorem enters_59 : enters Go.Proofs.Try.prog 59 = true := by kernel_rfl
@[simp] theorem enters_60 : enters Go.Proofs.Try.prog 60 = true := by kernel_rfl
@[simp] theorem enters_61 : enters Go.Proofs.Try.prog 61 = true := by kernel_rfl
@[simp] theorem enters_62 : enters Go.Proofs.Try.prog 62 = true := by kernel_rfl
@[simp] theorem enters_63 : enters Go.Proofs.Try.prog 63 = true := by kernel_rfl
@[simp] theorem enters_64 : enters Go.Proofs.Try.prog 64 = true := by kernel_rfl
@[simp] theorem enters_65 : enters Go.Proofs.Try.prog 65 = true := by kernel_rfl
@[simp] theorem enters_66 : enters Go.Proofs.Try.prog 66 = true := by kernel_rfl
@[simp] theorem enters_67 : enters Go.Proofs.Try.prog 67 = true := by kernel_rfl
@[simp] theorem enters_68 : enters Go.Proofs.Try.prog 68 = true := by kernel_rfl
@[simp] theorem enters_69 : enters Go.Proofs.Try.prog 69 = true := by kernel_rfl
@[simp] theorem enters_70 : enters Go.Proofs.Try.prog 70 = true := by kernel_rfl
@[simp] theorem enters_71 : enters Go.Proofs.Try.prog 71 = true := by kernel_rfl
@[simp] theorem enters_72 : enters Go.Proofs.Try.prog 72 = true := by kernel_rfl
@[simp] theorem enters_73 : enters Go.Proofs.Try.prog 73 = true := by kernel_rfl
@[simp] theorem enters_74 : enters Go.Proofs.Try.prog 74 = true := by kernel_rfl
@[simp] theorem enters_75 : enters Go.Proofs.Try.prog 75 = true := by kernel_rfl
@[simp] theorem enters_76 : enters Go.Proofs.Try.prog 76 = true := by kernel_rfl
@[simp] theorem enters_77 : enters Go.Proofs.Try.prog 77 = true := by kernel_rfl
@[simp] theorem enters_78 : enters Go.Proofs.Try.prog 78 = true := by kernel_rfl
@[simp] theorem enters_79 : enters Go.Proofs.Try.prog 79 = true := by kernel_rfl
@[simp] theorem enters_80 : enters Go.Proofs.Try.prog 80 = true := by kernel_rfl
@[simp] theorem enters_81 : enters Go.Proofs.Try.prog 81 = true := by kernel_rfl
@[simp] theorem enters_82 : enters Go.Proofs.Try.prog 82 = true := by kernel_rfl
@[simp] theorem enters_83 : enters Go.Proofs.Try.prog 83 = true := by kernel_rfl
@[simp] theorem enters_84 : enters Go.Proofs.Try.prog 84 = true := by kernel_rfl
@[simp] theorem enters_85 : enters Go.Proofs.Try.prog 85 = true := by kernel_rfl
@[simp] theorem enters_86 : enters Go.Proofs.Try.prog 86 = true := by kernel_rfl
@[simp] theorem enters_87 : enters Go.Proofs.Try.prog 87 = true := by kernel_rfl
@[simp] theorem enters_88 : enters Go.Proofs.Try.prog 88 = true := by kernel_rfl
@[simp] theorem enters_89 : enters Go.Proofs.Try.prog 89 = true := by kernel_rfl
@[simp] theorem enters_90 : enters Go.Proofs.Try.prog 90 = true := by kernel_rfl
@[simp] theorem enters_91 : enters Go.Proofs.Try.prog 91 = true := by kernel_rfl
@[simp] theorem enters_92 : enters Go.Proofs.Try.prog 92 = true := by kernel_rfl
@[simp] theorem enters_93 : enters Go.Proofs.Try.prog 93 = true := by kernel_rfl
@[simp] theorem enters_94 : enters Go.Proofs.Try.prog 94 = true := by kernel_rfl
@[simp] theorem enters_95 : enters Go.Proofs.Try.prog 95 = true := by kernel_rfl
@[simp] theorem enters_96 : enters Go.Proofs.Try.prog 96 = true := by kernel_rfl
@[simp] theorem enters_97 : enters Go.Proofs.Try.prog 97 = true := by kernel_rfl
@[simp] theorem enters_98 : enters Go.Proofs.Try.prog 98 = true := by kernel_rfl
@[simp] theorem enters_99 : enters Go.Proofs.Try.prog 99 = true := by kernel_rfl
@[simp] theorem enters_100 : enters Go.Proofs.Try.prog 100 = true := by kernel_rfl
@[simp] theorem enters_101 : enters Go.Proofs.Try.prog 101 = true := by kernel_rfl
@[simp] theorem enters_102 : enters Go.Proofs.Try.prog 102 = true := by kernel_rfl
@[simp] theorem enters_103 : enters Go.Proofs.Try.prog 103 = true := by kernel_rfl
@[simp] theorem enters_104 : enters Go.Proofs.Try.prog 104 = true := by kernel_rfl
@[simp] theorem enters_105 : enters Go.Proofs.Try.prog 105 = true := by kernel_rfl
@[simp] theorem enters_107 : enters Go.Proofs.Try.prog 107 = true := by kernel_rfl
@[simp] theorem enters_108 : enters Go.Proofs.Try.prog 108 = true := by kernel_rfl
@[simp] theorem enters_109 : enters Go.Proofs.Try.prog 109 = true := by kernel_rfl
@[simp] theorem enters_110 : enters Go.Proofs.Try.prog 110 = true := by kernel_rfl
@[simp] theorem enters_111 : enters Go.Proofs.Try.prog 111 = true := by kernel_rfl
@[simp] theorem enters_112 : enters Go.Proofs.Try.prog 112 = true := by kernel_rfl
@[simp] theorem enters_113 : enters Go.Proofs.Try.prog 113 = true := by kernel_rfl
@[simp] theorem enters_114 : enters Go.Proofs.Try.prog 114 = true := by kernel_rfl
@[simp] theorem enters_115 : enters Go.Proofs.Try.prog 115 = true := by kernel_rfl
@[simp] theorem enters_116 : enters Go.Proofs.Try.prog 116 = true := by kernel_rfl
@[simp] theorem enters_117 : enters Go.Proofs.Try.prog 117 = true := by kernel_rfl
@[simp] theorem enters_118 : enters Go.Proofs.Try.prog 118 = true := by kernel_rfl
@[simp] theorem enters_119 : enters Go.Proofs.Try.prog 119 = true := by kernel_rfl
@[simp] theorem enters_120 : enters Go.Proofs.Try.prog 120 = true := by kernel_rfl
@[simp] theorem enters_121 : enters Go.Proofs.Try.prog 121 = true := by kernel_rfl
@[simp] theorem enters_122 : enters Go.Proofs.Try.prog 122 = true := by kernel_rfl
@[simp] theorem enters_123 : enters Go.Proofs.Try.prog 123 = true := by kernel_rfl
@[simp] theorem enters_124 : enters Go.Proofs.Try.prog 124 = true := by kernel_rfl
end Go.Ab
