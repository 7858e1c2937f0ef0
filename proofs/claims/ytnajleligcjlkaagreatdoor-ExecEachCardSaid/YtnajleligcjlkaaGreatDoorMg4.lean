/-
  The texts T Gs, one behind the other.
-/
import Derived.Test.YtnajleligcjlkaaGreatDoorMg3
import Derived.Test.YtnajleligcjlkaaGreatDoorProg
import Derived.KernelRfl
set_option linter.unusedSimpArgs false
set_option linter.unusedVariables false
namespace Go.Ab
open Go.Proofs
@[simp] theorem tyA_3 : tyA Tryz.prog 3 = some (false, 1) := by kernel_rfl
@[simp] theorem tyStr_3 : tyStr Tryz.prog 3 = false := by kernel_rfl
@[simp] theorem tySrc_3 : tySrc Tryz.prog 3 = false := by kernel_rfl
@[simp] theorem tyZ0_3 : tyZ0 Tryz.prog 3 = [D.v (.int .i64 0)] := by kernel_rfl
@[simp] theorem tyBool_3 : tyBool Tryz.prog 3 = false := by kernel_rfl
@[simp] theorem tyInt_3 : tyInt Tryz.prog 3 = some .i64 := by kernel_rfl
@[simp] theorem tyZ_3 : tyZ Tryz.prog 3 = some [.int .i64 0] := by kernel_rfl
@[simp] theorem tyConc_3 : tyConc Tryz.prog 3 = true := by kernel_rfl
@[simp] theorem tyIfc_3 : tyIfc Tryz.prog 3 = false := by kernel_rfl
@[simp] theorem hasZ_3 : hasZ Tryz.prog 3 = true := by kernel_rfl
@[simp] theorem zeroV_3 : zeroV Tryz.prog 3 = V.d (D.v (.int .i64 0)) := by kernel_rfl
@[simp] theorem tyE_3 : tyE Tryz.prog 3 = none := by kernel_rfl
@[simp] theorem tyPtr_3 : tyPtr Tryz.prog 3 = none := by kernel_rfl
@[simp] theorem tyM_3 : tyM Tryz.prog 3 = none := by kernel_rfl
@[simp] theorem tyZV_3 : tyZV Tryz.prog 3 = some (V.d (D.v (.int .i64 0))) := by kernel_rfl
@[simp] theorem tyA_4 : tyA Tryz.prog 4 = some (false, 1) := by kernel_rfl
@[simp] theorem tyStr_4 : tyStr Tryz.prog 4 = false := by kernel_rfl
@[simp] theorem tySrc_4 : tySrc Tryz.prog 4 = false := by kernel_rfl
@[simp] theorem tyZ0_4 : tyZ0 Tryz.prog 4 = [D.v (.bool false)] := by kernel_rfl
@[simp] theorem tyBool_4 : tyBool Tryz.prog 4 = true := by kernel_rfl
@[simp] theorem tyInt_4 : tyInt Tryz.prog 4 = none := by kernel_rfl
@[simp] theorem tyZ_4 : tyZ Tryz.prog 4 = some [.bool false] := by kernel_rfl
@[simp] theorem tyConc_4 : tyConc Tryz.prog 4 = true := by kernel_rfl
@[simp] theorem tyIfc_4 : tyIfc Tryz.prog 4 = false := by kernel_rfl
@[simp] theorem hasZ_4 : hasZ Tryz.prog 4 = true := by kernel_rfl
@[simp] theorem zeroV_4 : zeroV Tryz.prog 4 = V.d (D.v (.bool false)) := by kernel_rfl
@[simp] theorem tyE_4 : tyE Tryz.prog 4 = none := by kernel_rfl
@[simp] theorem tyPtr_4 : tyPtr Tryz.prog 4 = none := by kernel_rfl
@[simp] theorem tyM_4 : tyM Tryz.prog 4 = none := by kernel_rfl
@[simp] theorem tyZV_4 : tyZV Tryz.prog 4 = some (V.d (D.v (.bool false))) := by kernel_rfl
@[simp] theorem tyA_5 : tyA Tryz.prog 5 = some (false, 1) := by kernel_rfl
@[simp] theorem tyStr_5 : tyStr Tryz.prog 5 = false := by kernel_rfl
@[simp] theorem tySrc_5 : tySrc Tryz.prog 5 = false := by kernel_rfl
@[simp] theorem tyZ0_5 : tyZ0 Tryz.prog 5 = [D.v (.int .u8 0)] := by kernel_rfl
@[simp] theorem tyBool_5 : tyBool Tryz.prog 5 = false := by kernel_rfl
@[simp] theorem tyInt_5 : tyInt Tryz.prog 5 = some .u8 := by kernel_rfl
@[simp] theorem tyZ_5 : tyZ Tryz.prog 5 = some [.int .u8 0] := by kernel_rfl
@[simp] theorem tyConc_5 : tyConc Tryz.prog 5 = true := by kernel_rfl
@[simp] theorem tyIfc_5 : tyIfc Tryz.prog 5 = false := by kernel_rfl
@[simp] theorem hasZ_5 : hasZ Tryz.prog 5 = true := by kernel_rfl
@[simp] theorem zeroV_5 : zeroV Tryz.prog 5 = V.d (D.v (.int .u8 0)) := by kernel_rfl
@[simp] theorem tyE_5 : tyE Tryz.prog 5 = none := by kernel_rfl
@[simp] theorem tyPtr_5 : tyPtr Tryz.prog 5 = none := by kernel_rfl
@[simp] theorem cellsOf_5 : Go.Program.cellsOf Tryz.prog 5 = 1 := by kernel_rfl
@[simp] theorem tyM_5 : tyM Tryz.prog 5 = none := by kernel_rfl
@[simp] theorem tyZV_5 : tyZV Tryz.prog 5 = some (V.d (D.v (.int .u8 0))) := by kernel_rfl
@[simp] theorem tyA_9 : tyA Tryz.prog 9 = some (false, 1) := by kernel_rfl
@[simp] theorem tyStr_9 : tyStr Tryz.prog 9 = true := by kernel_rfl
@[simp] theorem tySrc_9 : tySrc Tryz.prog 9 = true := by kernel_rfl
@[simp] theorem tyZ0_9 : tyZ0 Tryz.prog 9 = [D.v (.string ⟨#[]⟩)] := by kernel_rfl
@[simp] theorem tyBool_9 : tyBool Tryz.prog 9 = false := by kernel_rfl
@[simp] theorem tyInt_9 : tyInt Tryz.prog 9 = none := by kernel_rfl
@[simp] theorem tyZ_9 : tyZ Tryz.prog 9 = some [.string ⟨#[]⟩] := by kernel_rfl
@[simp] theorem tyConc_9 : tyConc Tryz.prog 9 = true := by kernel_rfl
@[simp] theorem tyIfc_9 : tyIfc Tryz.prog 9 = false := by kernel_rfl
@[simp] theorem hasZ_9 : hasZ Tryz.prog 9 = true := by kernel_rfl
@[simp] theorem zeroV_9 : zeroV Tryz.prog 9 = V.d (D.v (.string ⟨#[]⟩)) := by kernel_rfl
@[simp] theorem tyE_9 : tyE Tryz.prog 9 = none := by kernel_rfl
@[simp] theorem tyPtr_9 : tyPtr Tryz.prog 9 = none := by kernel_rfl
@[simp] theorem tyM_9 : tyM Tryz.prog 9 = none := by kernel_rfl
@[simp] theorem tyZV_9 : tyZV Tryz.prog 9 = some (V.d (D.v (.string ⟨#[]⟩))) := by kernel_rfl
@[simp] theorem tyA_20 : tyA Tryz.prog 20 = some (false, 1) := by kernel_rfl
@[simp] theorem tyStr_20 : tyStr Tryz.prog 20 = false := by kernel_rfl
@[simp] theorem tySrc_20 : tySrc Tryz.prog 20 = false := by kernel_rfl
@[simp] theorem tyZ0_20 : tyZ0 Tryz.prog 20 = [D.v (.nilIface)] := by kernel_rfl
@[simp] theorem tyBool_20 : tyBool Tryz.prog 20 = false := by kernel_rfl
@[simp] theorem tyInt_20 : tyInt Tryz.prog 20 = none := by kernel_rfl
@[simp] theorem tyZ_20 : tyZ Tryz.prog 20 = some [.nilIface] := by kernel_rfl
@[simp] theorem tyConc_20 : tyConc Tryz.prog 20 = false := by kernel_rfl
@[simp] theorem tyIfc_20 : tyIfc Tryz.prog 20 = true := by kernel_rfl
@[simp] theorem hasZ_20 : hasZ Tryz.prog 20 = true := by kernel_rfl
@[simp] theorem zeroV_20 : zeroV Tryz.prog 20 = V.d (D.v (.nilIface)) := by kernel_rfl
@[simp] theorem tyE_20 : tyE Tryz.prog 20 = none := by kernel_rfl
@[simp] theorem tyPtr_20 : tyPtr Tryz.prog 20 = none := by kernel_rfl
@[simp] theorem tyM_20 : tyM Tryz.prog 20 = none := by kernel_rfl
@[simp] theorem tyZV_20 : tyZV Tryz.prog 20 = some (V.d (D.v (.nilIface))) := by kernel_rfl
@[simp] theorem tyA_22 : tyA Tryz.prog 22 = some (false, 1) := by kernel_rfl
@[simp] theorem tyStr_22 : tyStr Tryz.prog 22 = false := by kernel_rfl
@[simp] theorem tySrc_22 : tySrc Tryz.prog 22 = true := by kernel_rfl
@[simp] theorem tyZ0_22 : tyZ0 Tryz.prog 22 = [D.sl []] := by kernel_rfl
@[simp] theorem tyBool_22 : tyBool Tryz.prog 22 = false := by kernel_rfl
@[simp] theorem tyInt_22 : tyInt Tryz.prog 22 = none := by kernel_rfl
@[simp] theorem tyZ_22 : tyZ Tryz.prog 22 = some [.slice none 0 0] := by kernel_rfl
@[simp] theorem tyConc_22 : tyConc Tryz.prog 22 = true := by kernel_rfl
@[simp] theorem tyIfc_22 : tyIfc Tryz.prog 22 = false := by kernel_rfl
@[simp] theorem hasZ_22 : hasZ Tryz.prog 22 = true := by kernel_rfl
@[simp] theorem zeroV_22 : zeroV Tryz.prog 22 = V.d (D.v (.slice none 0 0)) := by kernel_rfl
@[simp] theorem tyE_22 : tyE Tryz.prog 22 = some (9, 1) := by kernel_rfl
@[simp] theorem tySl_22 : tySl Tryz.prog 22 = some (9, 1, 16, [.string ⟨#[]⟩]) := by kernel_rfl
@[simp] theorem tyPtr_22 : tyPtr Tryz.prog 22 = none := by kernel_rfl
@[simp] theorem tyM_22 : tyM Tryz.prog 22 = none := by kernel_rfl
@[simp] theorem tyZV_22 : tyZV Tryz.prog 22 = some (V.d (D.sl [])) := by kernel_rfl
@[simp] theorem tyArr_22 : tyArr Tryz.prog 22 = none := by kernel_rfl
@[simp] theorem tyA_23 : tyA Tryz.prog 23 = some (false, 1) := by kernel_rfl
@[simp] theorem tyStr_23 : tyStr Tryz.prog 23 = false := by kernel_rfl
@[simp] theorem tySrc_23 : tySrc Tryz.prog 23 = true := by kernel_rfl
@[simp] theorem tyZ0_23 : tyZ0 Tryz.prog 23 = [D.sl []] := by kernel_rfl
@[simp] theorem tyBool_23 : tyBool Tryz.prog 23 = false := by kernel_rfl
@[simp] theorem tyInt_23 : tyInt Tryz.prog 23 = none := by kernel_rfl
@[simp] theorem tyZ_23 : tyZ Tryz.prog 23 = some [.slice none 0 0] := by kernel_rfl
@[simp] theorem tyConc_23 : tyConc Tryz.prog 23 = true := by kernel_rfl
@[simp] theorem tyIfc_23 : tyIfc Tryz.prog 23 = false := by kernel_rfl
@[simp] theorem hasZ_23 : hasZ Tryz.prog 23 = true := by kernel_rfl
@[simp] theorem zeroV_23 : zeroV Tryz.prog 23 = V.d (D.v (.slice none 0 0)) := by kernel_rfl
@[simp] theorem tyE_23 : tyE Tryz.prog 23 = some (3, 1) := by kernel_rfl
@[simp] theorem tySl_23 : tySl Tryz.prog 23 = some (3, 1, 8, [.int .i64 0]) := by kernel_rfl
@[simp] theorem tyPtr_23 : tyPtr Tryz.prog 23 = none := by kernel_rfl
@[simp] theorem tyM_23 : tyM Tryz.prog 23 = none := by kernel_rfl
@[simp] theorem tyZV_23 : tyZV Tryz.prog 23 = some (V.d (D.sl [])) := by kernel_rfl
@[simp] theorem tyArr_23 : tyArr Tryz.prog 23 = none := by kernel_rfl
@[simp] theorem tyA_24 : tyA Tryz.prog 24 = some (false, 1) := by kernel_rfl
@[simp] theorem tyStr_24 : tyStr Tryz.prog 24 = false := by kernel_rfl
@[simp] theorem tySrc_24 : tySrc Tryz.prog 24 = true := by kernel_rfl
@[simp] theorem tyZ0_24 : tyZ0 Tryz.prog 24 = [D.sl []] := by kernel_rfl
@[simp] theorem tyBool_24 : tyBool Tryz.prog 24 = false := by kernel_rfl
@[simp] theorem tyInt_24 : tyInt Tryz.prog 24 = none := by kernel_rfl
@[simp] theorem tyZ_24 : tyZ Tryz.prog 24 = some [.slice none 0 0] := by kernel_rfl
@[simp] theorem tyConc_24 : tyConc Tryz.prog 24 = true := by kernel_rfl
@[simp] theorem tyIfc_24 : tyIfc Tryz.prog 24 = false := by kernel_rfl
@[simp] theorem hasZ_24 : hasZ Tryz.prog 24 = true := by kernel_rfl
@[simp] theorem zeroV_24 : zeroV Tryz.prog 24 = V.d (D.v (.slice none 0 0)) := by kernel_rfl
@[simp] theorem tyE_24 : tyE Tryz.prog 24 = some (37, 9) := by kernel_rfl
@[simp] theorem tySl_24 : tySl Tryz.prog 24 = some (37, 9, 136, [.int .i64 0, .int .i64 0, .int .i64 0, .int .i64 0, .bool false, .slice none 0 0, .slice none 0 0, .slice none 0 0, .slice none 0 0]) := by kernel_rfl
@[simp] theorem tyPtr_24 : tyPtr Tryz.prog 24 = none := by kernel_rfl
@[simp] theorem tyM_24 : tyM Tryz.prog 24 = none := by kernel_rfl
@[simp] theorem tyZV_24 : tyZV Tryz.prog 24 = some (V.d (D.sl [])) := by kernel_rfl
@[simp] theorem tyArr_24 : tyArr Tryz.prog 24 = none := by kernel_rfl
@[simp] theorem tyA_25 : tyA Tryz.prog 25 = some (false, 1) := by kernel_rfl
@[simp] theorem tyStr_25 : tyStr Tryz.prog 25 = false := by kernel_rfl
@[simp] theorem tySrc_25 : tySrc Tryz.prog 25 = true := by kernel_rfl
@[simp] theorem tyZ0_25 : tyZ0 Tryz.prog 25 = [D.sl []] := by kernel_rfl
@[simp] theorem tyBool_25 : tyBool Tryz.prog 25 = false := by kernel_rfl
@[simp] theorem tyInt_25 : tyInt Tryz.prog 25 = none := by kernel_rfl
@[simp] theorem tyZ_25 : tyZ Tryz.prog 25 = some [.slice none 0 0] := by kernel_rfl
@[simp] theorem tyConc_25 : tyConc Tryz.prog 25 = true := by kernel_rfl
@[simp] theorem tyIfc_25 : tyIfc Tryz.prog 25 = false := by kernel_rfl
@[simp] theorem hasZ_25 : hasZ Tryz.prog 25 = true := by kernel_rfl
@[simp] theorem zeroV_25 : zeroV Tryz.prog 25 = V.d (D.v (.slice none 0 0)) := by kernel_rfl
@[simp] theorem tyE_25 : tyE Tryz.prog 25 = some (135, 2) := by kernel_rfl
@[simp] theorem tySl_25 : tySl Tryz.prog 25 = some (135, 2, 32, [.bool false, .slice none 0 0]) := by kernel_rfl
@[simp] theorem tyPtr_25 : tyPtr Tryz.prog 25 = none := by kernel_rfl
@[simp] theorem tyM_25 : tyM Tryz.prog 25 = none := by kernel_rfl
@[simp] theorem tyZV_25 : tyZV Tryz.prog 25 = some (V.d (D.sl [])) := by kernel_rfl
@[simp] theorem tyArr_25 : tyArr Tryz.prog 25 = none := by kernel_rfl
@[simp] theorem tyA_26 : tyA Tryz.prog 26 = some (false, 1) := by kernel_rfl
@[simp] theorem tyStr_26 : tyStr Tryz.prog 26 = false := by kernel_rfl
@[simp] theorem tySrc_26 : tySrc Tryz.prog 26 = true := by kernel_rfl
@[simp] theorem tyZ0_26 : tyZ0 Tryz.prog 26 = [D.sl []] := by kernel_rfl
@[simp] theorem tyBool_26 : tyBool Tryz.prog 26 = false := by kernel_rfl
@[simp] theorem tyInt_26 : tyInt Tryz.prog 26 = none := by kernel_rfl
@[simp] theorem tyZ_26 : tyZ Tryz.prog 26 = some [.slice none 0 0] := by kernel_rfl
@[simp] theorem tyConc_26 : tyConc Tryz.prog 26 = true := by kernel_rfl
@[simp] theorem tyIfc_26 : tyIfc Tryz.prog 26 = false := by kernel_rfl
@[simp] theorem hasZ_26 : hasZ Tryz.prog 26 = true := by kernel_rfl
@[simp] theorem zeroV_26 : zeroV Tryz.prog 26 = V.d (D.v (.slice none 0 0)) := by kernel_rfl
@[simp] theorem tyE_26 : tyE Tryz.prog 26 = some (139, 6) := by kernel_rfl
@[simp] theorem tySl_26 : tySl Tryz.prog 26 = some (139, 6, 48, [.int .i64 0, .int .i64 0, .int .i64 0, .int .i64 0, .int .i64 0, .int .i64 0]) := by kernel_rfl
@[simp] theorem tyPtr_26 : tyPtr Tryz.prog 26 = none := by kernel_rfl
@[simp] theorem tyM_26 : tyM Tryz.prog 26 = none := by kernel_rfl
@[simp] theorem tyZV_26 : tyZV Tryz.prog 26 = some (V.d (D.sl [])) := by kernel_rfl
@[simp] theorem tyArr_26 : tyArr Tryz.prog 26 = none := by kernel_rfl
@[simp] theorem tyA_28 : tyA Tryz.prog 28 = some (true, 15) := by kernel_rfl
@[simp] theorem tyStr_28 : tyStr Tryz.prog 28 = false := by kernel_rfl
@[simp] theorem tySrc_28 : tySrc Tryz.prog 28 = false := by kernel_rfl
@[simp] theorem tyZ0_28 : tyZ0 Tryz.prog 28 = [D.v (.int .i64 0), D.v (.int .i64 0), D.v (.int .i64 0), D.v (.int .i64 0), D.sl [], D.v (.int .i64 0), D.sl [], D.sl [], D.sl [], D.sl [], D.sl [], D.sl [], D.sl [], D.sl [], D.sl []] := by kernel_rfl
@[simp] theorem tyBool_28 : tyBool Tryz.prog 28 = false := by kernel_rfl
@[simp] theorem tyInt_28 : tyInt Tryz.prog 28 = none := by kernel_rfl
@[simp] theorem tyZ_28 : tyZ Tryz.prog 28 = some [.int .i64 0, .int .i64 0, .int .i64 0, .int .i64 0, .slice none 0 0, .int .i64 0, .slice none 0 0, .slice none 0 0, .slice none 0 0, .slice none 0 0, .slice none 0 0, .slice none 0 0, .slice none 0 0, .slice none 0 0, .slice none 0 0] := by kernel_rfl
@[simp] theorem tyConc_28 : tyConc Tryz.prog 28 = true := by kernel_rfl
@[simp] theorem tyIfc_28 : tyIfc Tryz.prog 28 = false := by kernel_rfl
@[simp] theorem hasZ_28 : hasZ Tryz.prog 28 = true := by kernel_rfl
@[simp] theorem zeroV_28 : zeroV Tryz.prog 28 = .agg [V.d (D.v (.int .i64 0)), V.d (D.v (.int .i64 0)), V.d (D.v (.int .i64 0)), V.d (D.v (.int .i64 0)), V.d (D.v (.slice none 0 0)), V.d (D.v (.int .i64 0)), V.d (D.v (.slice none 0 0)), V.d (D.v (.slice none 0 0)), V.d (D.v (.slice none 0 0)), V.d (D.v (.slice none 0 0)), V.d (D.v (.slice none 0 0)), V.d (D.v (.slice none 0 0)), V.d (D.v (.slice none 0 0)), V.d (D.v (.slice none 0 0)), V.d (D.v (.slice none 0 0))] := by kernel_rfl
@[simp] theorem tyE_28 : tyE Tryz.prog 28 = none := by kernel_rfl
@[simp] theorem tyPtr_28 : tyPtr Tryz.prog 28 = none := by kernel_rfl
@[simp] theorem tyM_28 : tyM Tryz.prog 28 = none := by kernel_rfl
@[simp] theorem tyZV_28 : tyZV Tryz.prog 28 = some (.agg [V.d (D.v (.int .i64 0)), V.d (D.v (.int .i64 0)), V.d (D.v (.int .i64 0)), V.d (D.v (.int .i64 0)), V.d (D.sl []), V.d (D.v (.int .i64 0)), V.d (D.sl []), V.d (D.sl []), V.d (D.sl []), V.d (D.sl []), V.d (D.sl []), V.d (D.sl []), V.d (D.sl []), V.d (D.sl []), V.d (D.sl [])]) := by kernel_rfl
@[simp] theorem tyArr_28 : tyArr Tryz.prog 28 = none := by kernel_rfl
@[simp] theorem tyF_28_0 : tyF Tryz.prog 28 0 = some (0, false, 1) := by kernel_rfl
@[simp] theorem tyF_28_1 : tyF Tryz.prog 28 1 = some (1, false, 1) := by kernel_rfl
@[simp] theorem tyF_28_2 : tyF Tryz.prog 28 2 = some (2, false, 1) := by kernel_rfl
@[simp] theorem tyF_28_3 : tyF Tryz.prog 28 3 = some (3, false, 1) := by kernel_rfl
@[simp] theorem tyF_28_4 : tyF Tryz.prog 28 4 = some (4, false, 1) := by kernel_rfl
@[simp] theorem tyF_28_5 : tyF Tryz.prog 28 5 = some (5, false, 1) := by kernel_rfl
@[simp] theorem tyF_28_6 : tyF Tryz.prog 28 6 = some (6, false, 1) := by kernel_rfl
@[simp] theorem tyF_28_7 : tyF Tryz.prog 28 7 = some (7, false, 1) := by kernel_rfl
@[simp] theorem tyF_28_8 : tyF Tryz.prog 28 8 = some (8, false, 1) := by kernel_rfl
@[simp] theorem tyF_28_9 : tyF Tryz.prog 28 9 = some (9, false, 1) := by kernel_rfl
@[simp] theorem tyF_28_10 : tyF Tryz.prog 28 10 = some (10, false, 1) := by kernel_rfl
@[simp] theorem tyF_28_11 : tyF Tryz.prog 28 11 = some (11, false, 1) := by kernel_rfl
@[simp] theorem tyF_28_12 : tyF Tryz.prog 28 12 = some (12, false, 1) := by kernel_rfl
@[simp] theorem tyF_28_13 : tyF Tryz.prog 28 13 = some (13, false, 1) := by kernel_rfl
@[simp] theorem tyF_28_14 : tyF Tryz.prog 28 14 = some (14, false, 1) := by kernel_rfl
@[simp] theorem tyB_28 : tyB Tryz.prog 28 = some ([.int .i64 0, .int .i64 0, .int .i64 0, .int .i64 0, .slice none 0 0, .int .i64 0, .slice none 0 0, .slice none 0 0, .slice none 0 0, .slice none 0 0, .slice none 0 0, .slice none 0 0, .slice none 0 0, .slice none 0 0, .slice none 0 0], [(0, 1), (1, 1), (2, 1), (3, 1), (4, 1), (5, 1), (6, 1), (7, 1), (8, 1), (9, 1), (10, 1), (11, 1), (12, 1), (13, 1), (14, 1)]) := by kernel_rfl
@[simp] theorem tyA_29 : tyA Tryz.prog 29 = some (false, 1) := by kernel_rfl
@[simp] theorem tyStr_29 : tyStr Tryz.prog 29 = false := by kernel_rfl
@[simp] theorem tySrc_29 : tySrc Tryz.prog 29 = false := by kernel_rfl
@[simp] theorem tyZ0_29 : tyZ0 Tryz.prog 29 = [D.v (.int .u64 0)] := by kernel_rfl
@[simp] theorem tyBool_29 : tyBool Tryz.prog 29 = false := by kernel_rfl
@[simp] theorem tyInt_29 : tyInt Tryz.prog 29 = some .u64 := by kernel_rfl
@[simp] theorem tyZ_29 : tyZ Tryz.prog 29 = some [.int .u64 0] := by kernel_rfl
@[simp] theorem tyConc_29 : tyConc Tryz.prog 29 = true := by kernel_rfl
@[simp] theorem tyIfc_29 : tyIfc Tryz.prog 29 = false := by kernel_rfl
@[simp] theorem hasZ_29 : hasZ Tryz.prog 29 = true := by kernel_rfl
@[simp] theorem zeroV_29 : zeroV Tryz.prog 29 = V.d (D.v (.int .u64 0)) := by kernel_rfl
@[simp] theorem tyE_29 : tyE Tryz.prog 29 = none := by kernel_rfl
@[simp] theorem tyPtr_29 : tyPtr Tryz.prog 29 = none := by kernel_rfl
@[simp] theorem tyM_29 : tyM Tryz.prog 29 = none := by kernel_rfl
@[simp] theorem tyZV_29 : tyZV Tryz.prog 29 = some (V.d (D.v (.int .u64 0))) := by kernel_rfl
@[simp] theorem tyA_31 : tyA Tryz.prog 31 = some (true, 13) := by kernel_rfl
@[simp] theorem tyStr_31 : tyStr Tryz.prog 31 = false := by kernel_rfl
@[simp] theorem tySrc_31 : tySrc Tryz.prog 31 = false := by kernel_rfl
@[simp] theorem tyZ0_31 : tyZ0 Tryz.prog 31 = [D.sl [], D.sl [], D.sl [], D.sl [], D.sl [], D.sl [], D.sl [], D.v (.int .u64 0), D.v (.int .i64 0), D.v (.int .i64 0), D.v (.int .i64 0), D.v (.int .i64 0), D.v (.int .i64 0)] := by kernel_rfl
@[simp] theorem tyBool_31 : tyBool Tryz.prog 31 = false := by kernel_rfl
@[simp] theorem tyInt_31 : tyInt Tryz.prog 31 = none := by kernel_rfl
@[simp] theorem tyZ_31 : tyZ Tryz.prog 31 = some [.slice none 0 0, .slice none 0 0, .slice none 0 0, .slice none 0 0, .slice none 0 0, .slice none 0 0, .slice none 0 0, .int .u64 0, .int .i64 0, .int .i64 0, .int .i64 0, .int .i64 0, .int .i64 0] := by kernel_rfl
@[simp] theorem tyConc_31 : tyConc Tryz.prog 31 = true := by kernel_rfl
@[simp] theorem tyIfc_31 : tyIfc Tryz.prog 31 = false := by kernel_rfl
@[simp] theorem hasZ_31 : hasZ Tryz.prog 31 = true := by kernel_rfl
@[simp] theorem zeroV_31 : zeroV Tryz.prog 31 = .agg [V.d (D.v (.slice none 0 0)), V.d (D.v (.slice none 0 0)), V.d (D.v (.slice none 0 0)), V.d (D.v (.slice none 0 0)), V.d (D.v (.slice none 0 0)), V.d (D.v (.slice none 0 0)), V.d (D.v (.slice none 0 0)), V.d (D.v (.int .u64 0)), V.d (D.v (.int .i64 0)), V.d (D.v (.int .i64 0)), V.d (D.v (.int .i64 0)), V.d (D.v (.int .i64 0)), V.d (D.v (.int .i64 0))] := by kernel_rfl
@[simp] theorem tyE_31 : tyE Tryz.prog 31 = none := by kernel_rfl
@[simp] theorem tyPtr_31 : tyPtr Tryz.prog 31 = none := by kernel_rfl
@[simp] theorem tyM_31 : tyM Tryz.prog 31 = none := by kernel_rfl
@[simp] theorem tyZV_31 : tyZV Tryz.prog 31 = some (.agg [V.d (D.sl []), V.d (D.sl []), V.d (D.sl []), V.d (D.sl []), V.d (D.sl []), V.d (D.sl []), V.d (D.sl []), V.d (D.v (.int .u64 0)), V.d (D.v (.int .i64 0)), V.d (D.v (.int .i64 0)), V.d (D.v (.int .i64 0)), V.d (D.v (.int .i64 0)), V.d (D.v (.int .i64 0))]) := by kernel_rfl
@[simp] theorem tyArr_31 : tyArr Tryz.prog 31 = none := by kernel_rfl
@[simp] theorem tyF_31_0 : tyF Tryz.prog 31 0 = some (0, false, 1) := by kernel_rfl
@[simp] theorem tyF_31_1 : tyF Tryz.prog 31 1 = some (1, false, 1) := by kernel_rfl
@[simp] theorem tyF_31_2 : tyF Tryz.prog 31 2 = some (2, false, 1) := by kernel_rfl
@[simp] theorem tyF_31_3 : tyF Tryz.prog 31 3 = some (3, false, 1) := by kernel_rfl
@[simp] theorem tyF_31_4 : tyF Tryz.prog 31 4 = some (4, false, 1) := by kernel_rfl
@[simp] theorem tyF_31_5 : tyF Tryz.prog 31 5 = some (5, false, 1) := by kernel_rfl
@[simp] theorem tyF_31_6 : tyF Tryz.prog 31 6 = some (6, false, 1) := by kernel_rfl
@[simp] theorem tyF_31_7 : tyF Tryz.prog 31 7 = some (7, false, 1) := by kernel_rfl
@[simp] theorem tyF_31_8 : tyF Tryz.prog 31 8 = some (8, false, 1) := by kernel_rfl
@[simp] theorem tyF_31_9 : tyF Tryz.prog 31 9 = some (9, false, 1) := by kernel_rfl
@[simp] theorem tyF_31_10 : tyF Tryz.prog 31 10 = some (10, false, 1) := by kernel_rfl
@[simp] theorem tyF_31_11 : tyF Tryz.prog 31 11 = some (11, false, 1) := by kernel_rfl
@[simp] theorem tyF_31_12 : tyF Tryz.prog 31 12 = some (12, false, 1) := by kernel_rfl
@[simp] theorem tyB_31 : tyB Tryz.prog 31 = some ([.slice none 0 0, .slice none 0 0, .slice none 0 0, .slice none 0 0, .slice none 0 0, .slice none 0 0, .slice none 0 0, .int .u64 0, .int .i64 0, .int .i64 0, .int .i64 0, .int .i64 0, .int .i64 0], [(0, 1), (1, 1), (2, 1), (3, 1), (4, 1), (5, 1), (6, 1), (7, 1), (8, 1), (9, 1), (10, 1), (11, 1), (12, 1)]) := by kernel_rfl
@[simp] theorem tyA_35 : tyA Tryz.prog 35 = some (false, 1) := by kernel_rfl
@[simp] theorem tyStr_35 : tyStr Tryz.prog 35 = false := by kernel_rfl
@[simp] theorem tySrc_35 : tySrc Tryz.prog 35 = true := by kernel_rfl
@[simp] theorem tyZ0_35 : tyZ0 Tryz.prog 35 = [D.sl []] := by kernel_rfl
@[simp] theorem tyBool_35 : tyBool Tryz.prog 35 = false := by kernel_rfl
@[simp] theorem tyInt_35 : tyInt Tryz.prog 35 = none := by kernel_rfl
@[simp] theorem tyZ_35 : tyZ Tryz.prog 35 = some [.slice none 0 0] := by kernel_rfl
@[simp] theorem tyConc_35 : tyConc Tryz.prog 35 = true := by kernel_rfl
@[simp] theorem tyIfc_35 : tyIfc Tryz.prog 35 = false := by kernel_rfl
@[simp] theorem hasZ_35 : hasZ Tryz.prog 35 = true := by kernel_rfl
@[simp] theorem zeroV_35 : zeroV Tryz.prog 35 = V.d (D.v (.slice none 0 0)) := by kernel_rfl
@[simp] theorem tyE_35 : tyE Tryz.prog 35 = some (191, 4) := by kernel_rfl
@[simp] theorem tySl_35 : tySl Tryz.prog 35 = some (191, 4, 32, [.int .i64 0, .int .i64 0, .int .i64 0, .int .i64 0]) := by kernel_rfl
@[simp] theorem tyPtr_35 : tyPtr Tryz.prog 35 = none := by kernel_rfl
@[simp] theorem tyM_35 : tyM Tryz.prog 35 = none := by kernel_rfl
@[simp] theorem tyZV_35 : tyZV Tryz.prog 35 = some (V.d (D.sl [])) := by kernel_rfl
@[simp] theorem tyArr_35 : tyArr Tryz.prog 35 = none := by kernel_rfl
@[simp] theorem tyA_37 : tyA Tryz.prog 37 = some (true, 9) := by kernel_rfl
@[simp] theorem tyStr_37 : tyStr Tryz.prog 37 = false := by kernel_rfl
@[simp] theorem tySrc_37 : tySrc Tryz.prog 37 = false := by kernel_rfl
@[simp] theorem tyZ0_37 : tyZ0 Tryz.prog 37 = [D.v (.int .i64 0), D.v (.int .i64 0), D.v (.int .i64 0), D.v (.int .i64 0), D.v (.bool false), D.sl [], D.sl [], D.sl [], D.sl []] := by kernel_rfl
@[simp] theorem tyBool_37 : tyBool Tryz.prog 37 = false := by kernel_rfl
@[simp] theorem tyInt_37 : tyInt Tryz.prog 37 = none := by kernel_rfl
@[simp] theorem tyZ_37 : tyZ Tryz.prog 37 = some [.int .i64 0, .int .i64 0, .int .i64 0, .int .i64 0, .bool false, .slice none 0 0, .slice none 0 0, .slice none 0 0, .slice none 0 0] := by kernel_rfl
@[simp] theorem tyConc_37 : tyConc Tryz.prog 37 = true := by kernel_rfl
@[simp] theorem tyIfc_37 : tyIfc Tryz.prog 37 = false := by kernel_rfl
@[simp] theorem hasZ_37 : hasZ Tryz.prog 37 = true := by kernel_rfl
@[simp] theorem zeroV_37 : zeroV Tryz.prog 37 = .agg [V.d (D.v (.int .i64 0)), V.d (D.v (.int .i64 0)), V.d (D.v (.int .i64 0)), V.d (D.v (.int .i64 0)), V.d (D.v (.bool false)), V.d (D.v (.slice none 0 0)), V.d (D.v (.slice none 0 0)), V.d (D.v (.slice none 0 0)), V.d (D.v (.slice none 0 0))] := by kernel_rfl
@[simp] theorem tyE_37 : tyE Tryz.prog 37 = none := by kernel_rfl
@[simp] theorem tyPtr_37 : tyPtr Tryz.prog 37 = none := by kernel_rfl
@[simp] theorem tyM_37 : tyM Tryz.prog 37 = none := by kernel_rfl
@[simp] theorem tyZV_37 : tyZV Tryz.prog 37 = some (.agg [V.d (D.v (.int .i64 0)), V.d (D.v (.int .i64 0)), V.d (D.v (.int .i64 0)), V.d (D.v (.int .i64 0)), V.d (D.v (.bool false)), V.d (D.sl []), V.d (D.sl []), V.d (D.sl []), V.d (D.sl [])]) := by kernel_rfl
@[simp] theorem tyArr_37 : tyArr Tryz.prog 37 = none := by kernel_rfl
@[simp] theorem tyF_37_0 : tyF Tryz.prog 37 0 = some (0, false, 1) := by kernel_rfl
@[simp] theorem tyF_37_1 : tyF Tryz.prog 37 1 = some (1, false, 1) := by kernel_rfl
@[simp] theorem tyF_37_2 : tyF Tryz.prog 37 2 = some (2, false, 1) := by kernel_rfl
@[simp] theorem tyF_37_3 : tyF Tryz.prog 37 3 = some (3, false, 1) := by kernel_rfl
@[simp] theorem tyF_37_4 : tyF Tryz.prog 37 4 = some (4, false, 1) := by kernel_rfl
@[simp] theorem tyF_37_5 : tyF Tryz.prog 37 5 = some (5, false, 1) := by kernel_rfl
@[simp] theorem tyF_37_6 : tyF Tryz.prog 37 6 = some (6, false, 1) := by kernel_rfl
@[simp] theorem tyF_37_7 : tyF Tryz.prog 37 7 = some (7, false, 1) := by kernel_rfl
@[simp] theorem tyF_37_8 : tyF Tryz.prog 37 8 = some (8, false, 1) := by kernel_rfl
@[simp] theorem tyB_37 : tyB Tryz.prog 37 = some ([.int .i64 0, .int .i64 0, .int .i64 0, .int .i64 0, .bool false, .slice none 0 0, .slice none 0 0, .slice none 0 0, .slice none 0 0], [(0, 1), (1, 1), (2, 1), (3, 1), (4, 1), (5, 1), (6, 1), (7, 1), (8, 1)]) := by kernel_rfl
@[simp] theorem tyA_38 : tyA Tryz.prog 38 = some (false, 1) := by kernel_rfl
@[simp] theorem tyStr_38 : tyStr Tryz.prog 38 = false := by kernel_rfl
@[simp] theorem tySrc_38 : tySrc Tryz.prog 38 = true := by kernel_rfl
@[simp] theorem tyZ0_38 : tyZ0 Tryz.prog 38 = [D.sl []] := by kernel_rfl
@[simp] theorem tyBool_38 : tyBool Tryz.prog 38 = false := by kernel_rfl
@[simp] theorem tyInt_38 : tyInt Tryz.prog 38 = none := by kernel_rfl
@[simp] theorem tyZ_38 : tyZ Tryz.prog 38 = some [.slice none 0 0] := by kernel_rfl
@[simp] theorem tyConc_38 : tyConc Tryz.prog 38 = true := by kernel_rfl
@[simp] theorem tyIfc_38 : tyIfc Tryz.prog 38 = false := by kernel_rfl
@[simp] theorem hasZ_38 : hasZ Tryz.prog 38 = true := by kernel_rfl
@[simp] theorem zeroV_38 : zeroV Tryz.prog 38 = V.d (D.v (.slice none 0 0)) := by kernel_rfl
@[simp] theorem tyE_38 : tyE Tryz.prog 38 = some (40, 5) := by kernel_rfl
@[simp] theorem tySl_38 : tySl Tryz.prog 38 = some (40, 5, 64, [.int .i64 0, .int .i64 0, .int .i64 0, .string ⟨#[]⟩, .slice none 0 0]) := by kernel_rfl
@[simp] theorem tyPtr_38 : tyPtr Tryz.prog 38 = none := by kernel_rfl
@[simp] theorem tyM_38 : tyM Tryz.prog 38 = none := by kernel_rfl
@[simp] theorem tyZV_38 : tyZV Tryz.prog 38 = some (V.d (D.sl [])) := by kernel_rfl
@[simp] theorem tyArr_38 : tyArr Tryz.prog 38 = none := by kernel_rfl
@[simp] theorem tyA_40 : tyA Tryz.prog 40 = some (true, 5) := by kernel_rfl
@[simp] theorem tyStr_40 : tyStr Tryz.prog 40 = false := by kernel_rfl
@[simp] theorem tySrc_40 : tySrc Tryz.prog 40 = false := by kernel_rfl
@[simp] theorem tyZ0_40 : tyZ0 Tryz.prog 40 = [D.v (.int .i64 0), D.v (.int .i64 0), D.v (.int .i64 0), D.v (.string ⟨#[]⟩), D.sl []] := by kernel_rfl
@[simp] theorem tyBool_40 : tyBool Tryz.prog 40 = false := by kernel_rfl
@[simp] theorem tyInt_40 : tyInt Tryz.prog 40 = none := by kernel_rfl
@[simp] theorem tyZ_40 : tyZ Tryz.prog 40 = some [.int .i64 0, .int .i64 0, .int .i64 0, .string ⟨#[]⟩, .slice none 0 0] := by kernel_rfl
@[simp] theorem tyConc_40 : tyConc Tryz.prog 40 = true := by kernel_rfl
@[simp] theorem tyIfc_40 : tyIfc Tryz.prog 40 = false := by kernel_rfl
@[simp] theorem hasZ_40 : hasZ Tryz.prog 40 = true := by kernel_rfl
@[simp] theorem zeroV_40 : zeroV Tryz.prog 40 = .agg [V.d (D.v (.int .i64 0)), V.d (D.v (.int .i64 0)), V.d (D.v (.int .i64 0)), V.d (D.v (.string ⟨#[]⟩)), V.d (D.v (.slice none 0 0))] := by kernel_rfl
@[simp] theorem tyE_40 : tyE Tryz.prog 40 = none := by kernel_rfl
@[simp] theorem tyPtr_40 : tyPtr Tryz.prog 40 = none := by kernel_rfl
@[simp] theorem tyM_40 : tyM Tryz.prog 40 = none := by kernel_rfl
@[simp] theorem tyZV_40 : tyZV Tryz.prog 40 = some (.agg [V.d (D.v (.int .i64 0)), V.d (D.v (.int .i64 0)), V.d (D.v (.int .i64 0)), V.d (D.v (.string ⟨#[]⟩)), V.d (D.sl [])]) := by kernel_rfl
@[simp] theorem tyArr_40 : tyArr Tryz.prog 40 = none := by kernel_rfl
@[simp] theorem tyF_40_0 : tyF Tryz.prog 40 0 = some (0, false, 1) := by kernel_rfl
@[simp] theorem tyF_40_1 : tyF Tryz.prog 40 1 = some (1, false, 1) := by kernel_rfl
@[simp] theorem tyF_40_2 : tyF Tryz.prog 40 2 = some (2, false, 1) := by kernel_rfl
@[simp] theorem tyF_40_3 : tyF Tryz.prog 40 3 = some (3, false, 1) := by kernel_rfl
@[simp] theorem tyF_40_4 : tyF Tryz.prog 40 4 = some (4, false, 1) := by kernel_rfl
@[simp] theorem tyB_40 : tyB Tryz.prog 40 = some ([.int .i64 0, .int .i64 0, .int .i64 0, .string ⟨#[]⟩, .slice none 0 0], [(0, 1), (1, 1), (2, 1), (3, 1), (4, 1)]) := by kernel_rfl
@[simp] theorem tyA_41 : tyA Tryz.prog 41 = some (false, 1) := by kernel_rfl
@[simp] theorem tyStr_41 : tyStr Tryz.prog 41 = false := by kernel_rfl
@[simp] theorem tySrc_41 : tySrc Tryz.prog 41 = true := by kernel_rfl
@[simp] theorem tyZ0_41 : tyZ0 Tryz.prog 41 = [D.sl []] := by kernel_rfl
@[simp] theorem tyBool_41 : tyBool Tryz.prog 41 = false := by kernel_rfl
@[simp] theorem tyInt_41 : tyInt Tryz.prog 41 = none := by kernel_rfl
@[simp] theorem tyZ_41 : tyZ Tryz.prog 41 = some [.slice none 0 0] := by kernel_rfl
@[simp] theorem tyConc_41 : tyConc Tryz.prog 41 = true := by kernel_rfl
@[simp] theorem tyIfc_41 : tyIfc Tryz.prog 41 = false := by kernel_rfl
@[simp] theorem hasZ_41 : hasZ Tryz.prog 41 = true := by kernel_rfl
@[simp] theorem zeroV_41 : zeroV Tryz.prog 41 = V.d (D.v (.slice none 0 0)) := by kernel_rfl
@[simp] theorem tyE_41 : tyE Tryz.prog 41 = some (43, 6) := by kernel_rfl
@[simp] theorem tySl_41 : tySl Tryz.prog 41 = some (43, 6, 104, [.int .i64 0, .int .i64 0, .string ⟨#[]⟩, .slice none 0 0, .slice none 0 0, .slice none 0 0]) := by kernel_rfl
@[simp] theorem tyPtr_41 : tyPtr Tryz.prog 41 = none := by kernel_rfl
@[simp] theorem tyM_41 : tyM Tryz.prog 41 = none := by kernel_rfl
@[simp] theorem tyZV_41 : tyZV Tryz.prog 41 = some (V.d (D.sl [])) := by kernel_rfl
@[simp] theorem tyArr_41 : tyArr Tryz.prog 41 = none := by kernel_rfl
@[simp] theorem tyA_43 : tyA Tryz.prog 43 = some (true, 6) := by kernel_rfl
@[simp] theorem tyStr_43 : tyStr Tryz.prog 43 = false := by kernel_rfl
@[simp] theorem tySrc_43 : tySrc Tryz.prog 43 = false := by kernel_rfl
@[simp] theorem tyZ0_43 : tyZ0 Tryz.prog 43 = [D.v (.int .i64 0), D.v (.int .i64 0), D.v (.string ⟨#[]⟩), D.sl [], D.sl [], D.sl []] := by kernel_rfl
@[simp] theorem tyBool_43 : tyBool Tryz.prog 43 = false := by kernel_rfl
@[simp] theorem tyInt_43 : tyInt Tryz.prog 43 = none := by kernel_rfl
@[simp] theorem tyZ_43 : tyZ Tryz.prog 43 = some [.int .i64 0, .int .i64 0, .string ⟨#[]⟩, .slice none 0 0, .slice none 0 0, .slice none 0 0] := by kernel_rfl
@[simp] theorem tyConc_43 : tyConc Tryz.prog 43 = true := by kernel_rfl
@[simp] theorem tyIfc_43 : tyIfc Tryz.prog 43 = false := by kernel_rfl
@[simp] theorem hasZ_43 : hasZ Tryz.prog 43 = true := by kernel_rfl
@[simp] theorem zeroV_43 : zeroV Tryz.prog 43 = .agg [V.d (D.v (.int .i64 0)), V.d (D.v (.int .i64 0)), V.d (D.v (.string ⟨#[]⟩)), V.d (D.v (.slice none 0 0)), V.d (D.v (.slice none 0 0)), V.d (D.v (.slice none 0 0))] := by kernel_rfl
@[simp] theorem tyE_43 : tyE Tryz.prog 43 = none := by kernel_rfl
@[simp] theorem tyPtr_43 : tyPtr Tryz.prog 43 = none := by kernel_rfl
@[simp] theorem tyM_43 : tyM Tryz.prog 43 = none := by kernel_rfl
@[simp] theorem tyZV_43 : tyZV Tryz.prog 43 = some (.agg [V.d (D.v (.int .i64 0)), V.d (D.v (.int .i64 0)), V.d (D.v (.string ⟨#[]⟩)), V.d (D.sl []), V.d (D.sl []), V.d (D.sl [])]) := by kernel_rfl
@[simp] theorem tyArr_43 : tyArr Tryz.prog 43 = none := by kernel_rfl
@[simp] theorem tyF_43_0 : tyF Tryz.prog 43 0 = some (0, false, 1) := by kernel_rfl
@[simp] theorem tyF_43_1 : tyF Tryz.prog 43 1 = some (1, false, 1) := by kernel_rfl
@[simp] theorem tyF_43_2 : tyF Tryz.prog 43 2 = some (2, false, 1) := by kernel_rfl
@[simp] theorem tyF_43_3 : tyF Tryz.prog 43 3 = some (3, false, 1) := by kernel_rfl
@[simp] theorem tyF_43_4 : tyF Tryz.prog 43 4 = some (4, false, 1) := by kernel_rfl
@[simp] theorem tyF_43_5 : tyF Tryz.prog 43 5 = some (5, false, 1) := by kernel_rfl
@[simp] theorem tyB_43 : tyB Tryz.prog 43 = some ([.int .i64 0, .int .i64 0, .string ⟨#[]⟩, .slice none 0 0, .slice none 0 0, .slice none 0 0], [(0, 1), (1, 1), (2, 1), (3, 1), (4, 1), (5, 1)]) := by kernel_rfl
@[simp] theorem tyA_44 : tyA Tryz.prog 44 = some (false, 1) := by kernel_rfl
@[simp] theorem tyStr_44 : tyStr Tryz.prog 44 = false := by kernel_rfl
@[simp] theorem tySrc_44 : tySrc Tryz.prog 44 = false := by kernel_rfl
@[simp] theorem tyZ0_44 : tyZ0 Tryz.prog 44 = [D.v (.int .i64 0)] := by kernel_rfl
@[simp] theorem tyBool_44 : tyBool Tryz.prog 44 = false := by kernel_rfl
@[simp] theorem tyInt_44 : tyInt Tryz.prog 44 = some .i64 := by kernel_rfl
@[simp] theorem tyZ_44 : tyZ Tryz.prog 44 = some [.int .i64 0] := by kernel_rfl
@[simp] theorem tyConc_44 : tyConc Tryz.prog 44 = true := by kernel_rfl
@[simp] theorem tyIfc_44 : tyIfc Tryz.prog 44 = false := by kernel_rfl
@[simp] theorem hasZ_44 : hasZ Tryz.prog 44 = true := by kernel_rfl
@[simp] theorem zeroV_44 : zeroV Tryz.prog 44 = V.d (D.v (.int .i64 0)) := by kernel_rfl
@[simp] theorem tyE_44 : tyE Tryz.prog 44 = none := by kernel_rfl
@[simp] theorem tyPtr_44 : tyPtr Tryz.prog 44 = none := by kernel_rfl
@[simp] theorem tyM_44 : tyM Tryz.prog 44 = none := by kernel_rfl
@[simp] theorem tyZV_44 : tyZV Tryz.prog 44 = some (V.d (D.v (.int .i64 0))) := by kernel_rfl
@[simp] theorem tyA_46 : tyA Tryz.prog 46 = some (true, 18) := by kernel_rfl
@[simp] theorem tyStr_46 : tyStr Tryz.prog 46 = false := by kernel_rfl
@[simp] theorem tySrc_46 : tySrc Tryz.prog 46 = false := by kernel_rfl
@[simp] theorem tyZ0_46 : tyZ0 Tryz.prog 46 = [D.v (.int .i64 0), D.sl [], D.sl [], D.sl [], D.sl [], D.sl [], D.sl [], D.sl [], D.v (.int .u64 0), D.v (.int .i64 0), D.v (.int .i64 0), D.v (.int .i64 0), D.v (.int .i64 0), D.v (.int .i64 0), D.v (.string ⟨#[]⟩), D.v (.int .i64 0), D.v (.bool false), D.v (.int .i64 0)] := by kernel_rfl
@[simp] theorem tyBool_46 : tyBool Tryz.prog 46 = false := by kernel_rfl
@[simp] theorem tyInt_46 : tyInt Tryz.prog 46 = none := by kernel_rfl
@[simp] theorem tyZ_46 : tyZ Tryz.prog 46 = some [.int .i64 0, .slice none 0 0, .slice none 0 0, .slice none 0 0, .slice none 0 0, .slice none 0 0, .slice none 0 0, .slice none 0 0, .int .u64 0, .int .i64 0, .int .i64 0, .int .i64 0, .int .i64 0, .int .i64 0, .string ⟨#[]⟩, .int .i64 0, .bool false, .int .i64 0] := by kernel_rfl
@[simp] theorem tyConc_46 : tyConc Tryz.prog 46 = true := by kernel_rfl
@[simp] theorem tyIfc_46 : tyIfc Tryz.prog 46 = false := by kernel_rfl
@[simp] theorem hasZ_46 : hasZ Tryz.prog 46 = true := by kernel_rfl
@[simp] theorem zeroV_46 : zeroV Tryz.prog 46 = .agg [V.d (D.v (.int .i64 0)), V.d (D.v (.slice none 0 0)), V.d (D.v (.slice none 0 0)), V.d (D.v (.slice none 0 0)), V.d (D.v (.slice none 0 0)), V.d (D.v (.slice none 0 0)), V.d (D.v (.slice none 0 0)), V.d (D.v (.slice none 0 0)), V.d (D.v (.int .u64 0)), V.d (D.v (.int .i64 0)), V.d (D.v (.int .i64 0)), V.d (D.v (.int .i64 0)), V.d (D.v (.int .i64 0)), V.d (D.v (.int .i64 0)), V.d (D.v (.string ⟨#[]⟩)), V.d (D.v (.int .i64 0)), V.d (D.v (.bool false)), V.d (D.v (.int .i64 0))] := by kernel_rfl
@[simp] theorem tyE_46 : tyE Tryz.prog 46 = none := by kernel_rfl
@[simp] theorem tyPtr_46 : tyPtr Tryz.prog 46 = none := by kernel_rfl
@[simp] theorem tyM_46 : tyM Tryz.prog 46 = none := by kernel_rfl
@[simp] theorem tyZV_46 : tyZV Tryz.prog 46 = some (.agg [V.d (D.v (.int .i64 0)), V.d (D.sl []), V.d (D.sl []), V.d (D.sl []), V.d (D.sl []), V.d (D.sl []), V.d (D.sl []), V.d (D.sl []), V.d (D.v (.int .u64 0)), V.d (D.v (.int .i64 0)), V.d (D.v (.int .i64 0)), V.d (D.v (.int .i64 0)), V.d (D.v (.int .i64 0)), V.d (D.v (.int .i64 0)), V.d (D.v (.string ⟨#[]⟩)), V.d (D.v (.int .i64 0)), V.d (D.v (.bool false)), V.d (D.v (.int .i64 0))]) := by kernel_rfl
@[simp] theorem tyArr_46 : tyArr Tryz.prog 46 = none := by kernel_rfl
@[simp] theorem tyF_46_0 : tyF Tryz.prog 46 0 = some (0, false, 1) := by kernel_rfl
@[simp] theorem tyF_46_1 : tyF Tryz.prog 46 1 = some (1, true, 13) := by kernel_rfl
@[simp] theorem tyF_46_2 : tyF Tryz.prog 46 2 = some (14, false, 1) := by kernel_rfl
@[simp] theorem tyF_46_3 : tyF Tryz.prog 46 3 = some (15, false, 1) := by kernel_rfl
@[simp] theorem tyF_46_4 : tyF Tryz.prog 46 4 = some (16, false, 1) := by kernel_rfl
@[simp] theorem tyF_46_5 : tyF Tryz.prog 46 5 = some (17, false, 1) := by kernel_rfl
@[simp] theorem tyB_46 : tyB Tryz.prog 46 = some ([.int .i64 0, .slice none 0 0, .slice none 0 0, .slice none 0 0, .slice none 0 0, .slice none 0 0, .slice none 0 0, .slice none 0 0, .int .u64 0, .int .i64 0, .int .i64 0, .int .i64 0, .int .i64 0, .int .i64 0, .string ⟨#[]⟩, .int .i64 0, .bool false, .int .i64 0], [(0, 1), (1, 13), (14, 1), (15, 1), (16, 1), (17, 1)]) := by kernel_rfl
@[simp] theorem tyA_48 : tyA Tryz.prog 48 = some (false, 1) := by kernel_rfl
@[simp] theorem tyStr_48 : tyStr Tryz.prog 48 = false := by kernel_rfl
@[simp] theorem tySrc_48 : tySrc Tryz.prog 48 = true := by kernel_rfl
@[simp] theorem tyZ0_48 : tyZ0 Tryz.prog 48 = [D.sl []] := by kernel_rfl
@[simp] theorem tyBool_48 : tyBool Tryz.prog 48 = false := by kernel_rfl
@[simp] theorem tyInt_48 : tyInt Tryz.prog 48 = none := by kernel_rfl
@[simp] theorem tyZ_48 : tyZ Tryz.prog 48 = some [.slice none 0 0] := by kernel_rfl
@[simp] theorem tyConc_48 : tyConc Tryz.prog 48 = true := by kernel_rfl
@[simp] theorem tyIfc_48 : tyIfc Tryz.prog 48 = false := by kernel_rfl
@[simp] theorem hasZ_48 : hasZ Tryz.prog 48 = true := by kernel_rfl
@[simp] theorem zeroV_48 : zeroV Tryz.prog 48 = V.d (D.v (.slice none 0 0)) := by kernel_rfl
@[simp] theorem tyE_48 : tyE Tryz.prog 48 = some (41, 1) := by kernel_rfl
@[simp] theorem tySl_48 : tySl Tryz.prog 48 = some (41, 1, 24, [.slice none 0 0]) := by kernel_rfl
@[simp] theorem tyPtr_48 : tyPtr Tryz.prog 48 = none := by kernel_rfl
@[simp] theorem tyM_48 : tyM Tryz.prog 48 = none := by kernel_rfl
@[simp] theorem tyZV_48 : tyZV Tryz.prog 48 = some (V.d (D.sl [])) := by kernel_rfl
@[simp] theorem tyArr_48 : tyArr Tryz.prog 48 = none := by kernel_rfl
@[simp] theorem tyA_50 : tyA Tryz.prog 50 = some (true, 16) := by kernel_rfl
@[simp] theorem tyStr_50 : tyStr Tryz.prog 50 = false := by kernel_rfl
@[simp] theorem tySrc_50 : tySrc Tryz.prog 50 = false := by kernel_rfl
@[simp] theorem tyZ0_50 : tyZ0 Tryz.prog 50 = [D.v (.int .i64 0), D.v (.int .i64 0), D.v (.int .i64 0), D.v (.int .i64 0), D.sl [], D.v (.int .i64 0), D.sl [], D.sl [], D.sl [], D.sl [], D.sl [], D.sl [], D.sl [], D.sl [], D.sl [], D.sl []] := by kernel_rfl
@[simp] theorem tyBool_50 : tyBool Tryz.prog 50 = false := by kernel_rfl
@[simp] theorem tyInt_50 : tyInt Tryz.prog 50 = none := by kernel_rfl
@[simp] theorem tyZ_50 : tyZ Tryz.prog 50 = some [.int .i64 0, .int .i64 0, .int .i64 0, .int .i64 0, .slice none 0 0, .int .i64 0, .slice none 0 0, .slice none 0 0, .slice none 0 0, .slice none 0 0, .slice none 0 0, .slice none 0 0, .slice none 0 0, .slice none 0 0, .slice none 0 0, .slice none 0 0] := by kernel_rfl
@[simp] theorem tyConc_50 : tyConc Tryz.prog 50 = true := by kernel_rfl
@[simp] theorem tyIfc_50 : tyIfc Tryz.prog 50 = false := by kernel_rfl
@[simp] theorem hasZ_50 : hasZ Tryz.prog 50 = true := by kernel_rfl
@[simp] theorem zeroV_50 : zeroV Tryz.prog 50 = .agg [V.d (D.v (.int .i64 0)), V.d (D.v (.int .i64 0)), V.d (D.v (.int .i64 0)), V.d (D.v (.int .i64 0)), V.d (D.v (.slice none 0 0)), V.d (D.v (.int .i64 0)), V.d (D.v (.slice none 0 0)), V.d (D.v (.slice none 0 0)), V.d (D.v (.slice none 0 0)), V.d (D.v (.slice none 0 0)), V.d (D.v (.slice none 0 0)), V.d (D.v (.slice none 0 0)), V.d (D.v (.slice none 0 0)), V.d (D.v (.slice none 0 0)), V.d (D.v (.slice none 0 0)), V.d (D.v (.slice none 0 0))] := by kernel_rfl
@[simp] theorem tyE_50 : tyE Tryz.prog 50 = none := by kernel_rfl
@[simp] theorem tyPtr_50 : tyPtr Tryz.prog 50 = none := by kernel_rfl
@[simp] theorem tyM_50 : tyM Tryz.prog 50 = none := by kernel_rfl
@[simp] theorem tyZV_50 : tyZV Tryz.prog 50 = some (.agg [V.d (D.v (.int .i64 0)), V.d (D.v (.int .i64 0)), V.d (D.v (.int .i64 0)), V.d (D.v (.int .i64 0)), V.d (D.sl []), V.d (D.v (.int .i64 0)), V.d (D.sl []), V.d (D.sl []), V.d (D.sl []), V.d (D.sl []), V.d (D.sl []), V.d (D.sl []), V.d (D.sl []), V.d (D.sl []), V.d (D.sl []), V.d (D.sl [])]) := by kernel_rfl
@[simp] theorem tyArr_50 : tyArr Tryz.prog 50 = none := by kernel_rfl
@[simp] theorem tyF_50_0 : tyF Tryz.prog 50 0 = some (0, true, 15) := by kernel_rfl
@[simp] theorem tyF_50_1 : tyF Tryz.prog 50 1 = some (15, false, 1) := by kernel_rfl
@[simp] theorem tyB_50 : tyB Tryz.prog 50 = some ([.int .i64 0, .int .i64 0, .int .i64 0, .int .i64 0, .slice none 0 0, .int .i64 0, .slice none 0 0, .slice none 0 0, .slice none 0 0, .slice none 0 0, .slice none 0 0, .slice none 0 0, .slice none 0 0, .slice none 0 0, .slice none 0 0, .slice none 0 0], [(0, 15), (15, 1)]) := by kernel_rfl
@[simp] theorem tyA_52 : tyA Tryz.prog 52 = some (true, 3) := by kernel_rfl
@[simp] theorem tyStr_52 : tyStr Tryz.prog 52 = false := by kernel_rfl
@[simp] theorem tySrc_52 : tySrc Tryz.prog 52 = false := by kernel_rfl
@[simp] theorem tyZ0_52 : tyZ0 Tryz.prog 52 = [D.v (.int .i64 0), D.v (.int .i64 0), D.v (.int .i64 0)] := by kernel_rfl
@[simp] theorem tyBool_52 : tyBool Tryz.prog 52 = false := by kernel_rfl
@[simp] theorem tyInt_52 : tyInt Tryz.prog 52 = none := by kernel_rfl
@[simp] theorem tyZ_52 : tyZ Tryz.prog 52 = some [.int .i64 0, .int .i64 0, .int .i64 0] := by kernel_rfl
@[simp] theorem tyConc_52 : tyConc Tryz.prog 52 = true := by kernel_rfl
@[simp] theorem tyIfc_52 : tyIfc Tryz.prog 52 = false := by kernel_rfl
@[simp] theorem hasZ_52 : hasZ Tryz.prog 52 = true := by kernel_rfl
@[simp] theorem zeroV_52 : zeroV Tryz.prog 52 = .agg [V.d (D.v (.int .i64 0)), V.d (D.v (.int .i64 0)), V.d (D.v (.int .i64 0))] := by kernel_rfl
@[simp] theorem tyE_52 : tyE Tryz.prog 52 = none := by kernel_rfl
@[simp] theorem tyPtr_52 : tyPtr Tryz.prog 52 = none := by kernel_rfl
@[simp] theorem tyM_52 : tyM Tryz.prog 52 = none := by kernel_rfl
@[simp] theorem tyZV_52 : tyZV Tryz.prog 52 = some (.agg [V.d (D.v (.int .i64 0)), V.d (D.v (.int .i64 0)), V.d (D.v (.int .i64 0))]) := by kernel_rfl
@[simp] theorem tyEq_52 : tyEq Tryz.prog 52 = some [.i .i64, .i .i64, .i .i64] := by kernel_rfl
@[simp] theorem tyArr_52 : tyArr Tryz.prog 52 = none := by kernel_rfl
@[simp] theorem tyF_52_0 : tyF Tryz.prog 52 0 = some (0, false, 1) := by kernel_rfl
@[simp] theorem tyF_52_1 : tyF Tryz.prog 52 1 = some (1, false, 1) := by kernel_rfl
@[simp] theorem tyF_52_2 : tyF Tryz.prog 52 2 = some (2, false, 1) := by kernel_rfl
@[simp] theorem tyB_52 : tyB Tryz.prog 52 = some ([.int .i64 0, .int .i64 0, .int .i64 0], [(0, 1), (1, 1), (2, 1)]) := by kernel_rfl
@[simp] theorem tyA_59 : tyA Tryz.prog 59 = some (false, 1) := by kernel_rfl
@[simp] theorem tyStr_59 : tyStr Tryz.prog 59 = false := by kernel_rfl
@[simp] theorem tySrc_59 : tySrc Tryz.prog 59 = true := by kernel_rfl
@[simp] theorem tyZ0_59 : tyZ0 Tryz.prog 59 = [D.sl []] := by kernel_rfl
@[simp] theorem tyBool_59 : tyBool Tryz.prog 59 = false := by kernel_rfl
@[simp] theorem tyInt_59 : tyInt Tryz.prog 59 = none := by kernel_rfl
@[simp] theorem tyZ_59 : tyZ Tryz.prog 59 = some [.slice none 0 0] := by kernel_rfl
@[simp] theorem tyConc_59 : tyConc Tryz.prog 59 = true := by kernel_rfl
@[simp] theorem tyIfc_59 : tyIfc Tryz.prog 59 = false := by kernel_rfl
@[simp] theorem hasZ_59 : hasZ Tryz.prog 59 = true := by kernel_rfl
@[simp] theorem zeroV_59 : zeroV Tryz.prog 59 = V.d (D.v (.slice none 0 0)) := by kernel_rfl
@[simp] theorem tyE_59 : tyE Tryz.prog 59 = some (5, 1) := by kernel_rfl
@[simp] theorem tySl_59 : tySl Tryz.prog 59 = some (5, 1, 1, [.int .u8 0]) := by kernel_rfl
@[simp] theorem tyPtr_59 : tyPtr Tryz.prog 59 = none := by kernel_rfl
@[simp] theorem tyM_59 : tyM Tryz.prog 59 = none := by kernel_rfl
@[simp] theorem tyZV_59 : tyZV Tryz.prog 59 = some (V.d (D.sl [])) := by kernel_rfl
@[simp] theorem tyArr_59 : tyArr Tryz.prog 59 = none := by kernel_rfl
@[simp] theorem tyA_76 : tyA Tryz.prog 76 = some (false, 1) := by kernel_rfl
@[simp] theorem tyStr_76 : tyStr Tryz.prog 76 = false := by kernel_rfl
@[simp] theorem tySrc_76 : tySrc Tryz.prog 76 = false := by kernel_rfl
@[simp] theorem tyZ0_76 : tyZ0 Tryz.prog 76 = [D.v (.nilFunc)] := by kernel_rfl
@[simp] theorem tyBool_76 : tyBool Tryz.prog 76 = false := by kernel_rfl
@[simp] theorem tyInt_76 : tyInt Tryz.prog 76 = none := by kernel_rfl
@[simp] theorem tyZ_76 : tyZ Tryz.prog 76 = some [.nilFunc] := by kernel_rfl
@[simp] theorem tyConc_76 : tyConc Tryz.prog 76 = true := by kernel_rfl
@[simp] theorem tyIfc_76 : tyIfc Tryz.prog 76 = false := by kernel_rfl
@[simp] theorem hasZ_76 : hasZ Tryz.prog 76 = true := by kernel_rfl
@[simp] theorem zeroV_76 : zeroV Tryz.prog 76 = V.d (D.v (.nilFunc)) := by kernel_rfl
@[simp] theorem tyE_76 : tyE Tryz.prog 76 = none := by kernel_rfl
@[simp] theorem tyPtr_76 : tyPtr Tryz.prog 76 = none := by kernel_rfl
@[simp] theorem tyM_76 : tyM Tryz.prog 76 = none := by kernel_rfl
@[simp] theorem tyZV_76 : tyZV Tryz.prog 76 = some (V.d (D.v (.nilFunc))) := by kernel_rfl
@[simp] theorem tyA_81 : tyA Tryz.prog 81 = some (false, 1) := by kernel_rfl
@[simp] theorem tyStr_81 : tyStr Tryz.prog 81 = false := by kernel_rfl
@[simp] theorem tySrc_81 : tySrc Tryz.prog 81 = false := by kernel_rfl
@[simp] theorem tyZ0_81 : tyZ0 Tryz.prog 81 = [D.v (.pointer none)] := by kernel_rfl
@[simp] theorem tyBool_81 : tyBool Tryz.prog 81 = false := by kernel_rfl
@[simp] theorem tyInt_81 : tyInt Tryz.prog 81 = none := by kernel_rfl
@[simp] theorem tyZ_81 : tyZ Tryz.prog 81 = some [.pointer none] := by kernel_rfl
@[simp] theorem tyConc_81 : tyConc Tryz.prog 81 = true := by kernel_rfl
@[simp] theorem tyIfc_81 : tyIfc Tryz.prog 81 = false := by kernel_rfl
@[simp] theorem hasZ_81 : hasZ Tryz.prog 81 = true := by kernel_rfl
@[simp] theorem zeroV_81 : zeroV Tryz.prog 81 = V.d (D.v (.pointer none)) := by kernel_rfl
@[simp] theorem tyE_81 : tyE Tryz.prog 81 = none := by kernel_rfl
@[simp] theorem tyPtr_81 : tyPtr Tryz.prog 81 = some 86 := by kernel_rfl
@[simp] theorem tyM_81 : tyM Tryz.prog 81 = none := by kernel_rfl
@[simp] theorem tyZV_81 : tyZV Tryz.prog 81 = some (V.d (D.v (.pointer none))) := by kernel_rfl
@[simp] theorem tyA_82 : tyA Tryz.prog 82 = some (false, 1) := by kernel_rfl
@[simp] theorem tyStr_82 : tyStr Tryz.prog 82 = false := by kernel_rfl
@[simp] theorem tySrc_82 : tySrc Tryz.prog 82 = false := by kernel_rfl
@[simp] theorem tyZ0_82 : tyZ0 Tryz.prog 82 = [D.v (.pointer none)] := by kernel_rfl
@[simp] theorem tyBool_82 : tyBool Tryz.prog 82 = false := by kernel_rfl
@[simp] theorem tyInt_82 : tyInt Tryz.prog 82 = none := by kernel_rfl
@[simp] theorem tyZ_82 : tyZ Tryz.prog 82 = some [.pointer none] := by kernel_rfl
@[simp] theorem tyConc_82 : tyConc Tryz.prog 82 = true := by kernel_rfl
@[simp] theorem tyIfc_82 : tyIfc Tryz.prog 82 = false := by kernel_rfl
@[simp] theorem hasZ_82 : hasZ Tryz.prog 82 = true := by kernel_rfl
@[simp] theorem zeroV_82 : zeroV Tryz.prog 82 = V.d (D.v (.pointer none)) := by kernel_rfl
@[simp] theorem tyE_82 : tyE Tryz.prog 82 = none := by kernel_rfl
@[simp] theorem tyPtr_82 : tyPtr Tryz.prog 82 = some 84 := by kernel_rfl
@[simp] theorem tyM_82 : tyM Tryz.prog 82 = none := by kernel_rfl
@[simp] theorem tyZV_82 : tyZV Tryz.prog 82 = some (V.d (D.v (.pointer none))) := by kernel_rfl
@[simp] theorem tyA_84 : tyA Tryz.prog 84 = some (true, 2) := by kernel_rfl
@[simp] theorem tyStr_84 : tyStr Tryz.prog 84 = false := by kernel_rfl
@[simp] theorem tySrc_84 : tySrc Tryz.prog 84 = false := by kernel_rfl
@[simp] theorem tyZ0_84 : tyZ0 Tryz.prog 84 = [D.v (.pointer none), D.sl []] := by kernel_rfl
@[simp] theorem tyBool_84 : tyBool Tryz.prog 84 = false := by kernel_rfl
@[simp] theorem tyInt_84 : tyInt Tryz.prog 84 = none := by kernel_rfl
@[simp] theorem tyZ_84 : tyZ Tryz.prog 84 = some [.pointer none, .slice none 0 0] := by kernel_rfl
@[simp] theorem tyConc_84 : tyConc Tryz.prog 84 = true := by kernel_rfl
@[simp] theorem tyIfc_84 : tyIfc Tryz.prog 84 = false := by kernel_rfl
@[simp] theorem hasZ_84 : hasZ Tryz.prog 84 = true := by kernel_rfl
@[simp] theorem zeroV_84 : zeroV Tryz.prog 84 = .agg [V.d (D.v (.pointer none)), V.d (D.v (.slice none 0 0))] := by kernel_rfl
@[simp] theorem tyE_84 : tyE Tryz.prog 84 = none := by kernel_rfl
@[simp] theorem tyPtr_84 : tyPtr Tryz.prog 84 = none := by kernel_rfl
@[simp] theorem tyM_84 : tyM Tryz.prog 84 = none := by kernel_rfl
@[simp] theorem tyZV_84 : tyZV Tryz.prog 84 = some (.agg [V.d (D.v (.pointer none)), V.d (D.sl [])]) := by kernel_rfl
@[simp] theorem tyArr_84 : tyArr Tryz.prog 84 = none := by kernel_rfl
@[simp] theorem tyF_84_0 : tyF Tryz.prog 84 0 = some (0, false, 1) := by kernel_rfl
@[simp] theorem tyF_84_1 : tyF Tryz.prog 84 1 = some (1, false, 1) := by kernel_rfl
@[simp] theorem tyB_84 : tyB Tryz.prog 84 = some ([.pointer none, .slice none 0 0], [(0, 1), (1, 1)]) := by kernel_rfl
@[simp] theorem tyA_86 : tyA Tryz.prog 86 = some (true, 37) := by kernel_rfl
@[simp] theorem tyStr_86 : tyStr Tryz.prog 86 = false := by kernel_rfl
@[simp] theorem tySrc_86 : tySrc Tryz.prog 86 = false := by kernel_rfl
@[simp] theorem tyZ0_86 : tyZ0 Tryz.prog 86 = [D.v (.int .i64 0), D.v (.int .i64 0), D.v (.int .i64 0), D.v (.int .i64 0), D.sl [], D.v (.int .i64 0), D.sl [], D.sl [], D.sl [], D.sl [], D.sl [], D.sl [], D.sl [], D.sl [], D.sl [], D.sl [], D.sl [], D.sl [], D.sl [], D.sl [], D.sl [], D.sl [], D.sl [], D.v (.int .u64 0), D.v (.int .i64 0), D.v (.int .i64 0), D.v (.int .i64 0), D.v (.int .i64 0), D.v (.int .i64 0), D.v (.int .i64 0), D.v (.int .i64 0), D.v (.int .i64 0), D.v (.pointer none), D.sl [], D.v (.int .i64 0), D.v (.int .i64 0), D.v (.int .i64 0)] := by kernel_rfl
@[simp] theorem tyBool_86 : tyBool Tryz.prog 86 = false := by kernel_rfl
@[simp] theorem tyInt_86 : tyInt Tryz.prog 86 = none := by kernel_rfl
@[simp] theorem tyZ_86 : tyZ Tryz.prog 86 = some [.int .i64 0, .int .i64 0, .int .i64 0, .int .i64 0, .slice none 0 0, .int .i64 0, .slice none 0 0, .slice none 0 0, .slice none 0 0, .slice none 0 0, .slice none 0 0, .slice none 0 0, .slice none 0 0, .slice none 0 0, .slice none 0 0, .slice none 0 0, .slice none 0 0, .slice none 0 0, .slice none 0 0, .slice none 0 0, .slice none 0 0, .slice none 0 0, .slice none 0 0, .int .u64 0, .int .i64 0, .int .i64 0, .int .i64 0, .int .i64 0, .int .i64 0, .int .i64 0, .int .i64 0, .int .i64 0, .pointer none, .slice none 0 0, .int .i64 0, .int .i64 0, .int .i64 0] := by kernel_rfl
@[simp] theorem tyConc_86 : tyConc Tryz.prog 86 = true := by kernel_rfl
@[simp] theorem tyIfc_86 : tyIfc Tryz.prog 86 = false := by kernel_rfl
@[simp] theorem hasZ_86 : hasZ Tryz.prog 86 = true := by kernel_rfl
@[simp] theorem zeroV_86 : zeroV Tryz.prog 86 = .agg [V.d (D.v (.int .i64 0)), V.d (D.v (.int .i64 0)), V.d (D.v (.int .i64 0)), V.d (D.v (.int .i64 0)), V.d (D.v (.slice none 0 0)), V.d (D.v (.int .i64 0)), V.d (D.v (.slice none 0 0)), V.d (D.v (.slice none 0 0)), V.d (D.v (.slice none 0 0)), V.d (D.v (.slice none 0 0)), V.d (D.v (.slice none 0 0)), V.d (D.v (.slice none 0 0)), V.d (D.v (.slice none 0 0)), V.d (D.v (.slice none 0 0)), V.d (D.v (.slice none 0 0)), V.d (D.v (.slice none 0 0)), V.d (D.v (.slice none 0 0)), V.d (D.v (.slice none 0 0)), V.d (D.v (.slice none 0 0)), V.d (D.v (.slice none 0 0)), V.d (D.v (.slice none 0 0)), V.d (D.v (.slice none 0 0)), V.d (D.v (.slice none 0 0)), V.d (D.v (.int .u64 0)), V.d (D.v (.int .i64 0)), V.d (D.v (.int .i64 0)), V.d (D.v (.int .i64 0)), V.d (D.v (.int .i64 0)), V.d (D.v (.int .i64 0)), V.d (D.v (.int .i64 0)), V.d (D.v (.int .i64 0)), V.d (D.v (.int .i64 0)), V.d (D.v (.pointer none)), V.d (D.v (.slice none 0 0)), V.d (D.v (.int .i64 0)), V.d (D.v (.int .i64 0)), V.d (D.v (.int .i64 0))] := by kernel_rfl
@[simp] theorem tyE_86 : tyE Tryz.prog 86 = none := by kernel_rfl
@[simp] theorem tyPtr_86 : tyPtr Tryz.prog 86 = none := by kernel_rfl
@[simp] theorem tyM_86 : tyM Tryz.prog 86 = none := by kernel_rfl
@[simp] theorem tyZV_86 : tyZV Tryz.prog 86 = some (.agg [V.d (D.v (.int .i64 0)), V.d (D.v (.int .i64 0)), V.d (D.v (.int .i64 0)), V.d (D.v (.int .i64 0)), V.d (D.sl []), V.d (D.v (.int .i64 0)), V.d (D.sl []), V.d (D.sl []), V.d (D.sl []), V.d (D.sl []), V.d (D.sl []), V.d (D.sl []), V.d (D.sl []), V.d (D.sl []), V.d (D.sl []), V.d (D.sl []), V.d (D.sl []), V.d (D.sl []), V.d (D.sl []), V.d (D.sl []), V.d (D.sl []), V.d (D.sl []), V.d (D.sl []), V.d (D.v (.int .u64 0)), V.d (D.v (.int .i64 0)), V.d (D.v (.int .i64 0)), V.d (D.v (.int .i64 0)), V.d (D.v (.int .i64 0)), V.d (D.v (.int .i64 0)), V.d (D.v (.int .i64 0)), V.d (D.v (.int .i64 0)), V.d (D.v (.int .i64 0)), V.d (D.v (.pointer none)), V.d (D.sl []), V.d (D.v (.int .i64 0)), V.d (D.v (.int .i64 0)), V.d (D.v (.int .i64 0))]) := by kernel_rfl
@[simp] theorem tyArr_86 : tyArr Tryz.prog 86 = none := by kernel_rfl
@[simp] theorem tyF_86_0 : tyF Tryz.prog 86 0 = some (0, true, 16) := by kernel_rfl
@[simp] theorem tyF_86_1 : tyF Tryz.prog 86 1 = some (16, true, 13) := by kernel_rfl
@[simp] theorem tyF_86_2 : tyF Tryz.prog 86 2 = some (29, true, 3) := by kernel_rfl
@[simp] theorem tyF_86_3 : tyF Tryz.prog 86 3 = some (32, true, 2) := by kernel_rfl
@[simp] theorem tyF_86_4 : tyF Tryz.prog 86 4 = some (34, false, 1) := by kernel_rfl
@[simp] theorem tyF_86_5 : tyF Tryz.prog 86 5 = some (35, false, 1) := by kernel_rfl
@[simp] theorem tyF_86_6 : tyF Tryz.prog 86 6 = some (36, false, 1) := by kernel_rfl
@[simp] theorem tyB_86 : tyB Tryz.prog 86 = some ([.int .i64 0, .int .i64 0, .int .i64 0, .int .i64 0, .slice none 0 0, .int .i64 0, .slice none 0 0, .slice none 0 0, .slice none 0 0, .slice none 0 0, .slice none 0 0, .slice none 0 0, .slice none 0 0, .slice none 0 0, .slice none 0 0, .slice none 0 0, .slice none 0 0, .slice none 0 0, .slice none 0 0, .slice none 0 0, .slice none 0 0, .slice none 0 0, .slice none 0 0, .int .u64 0, .int .i64 0, .int .i64 0, .int .i64 0, .int .i64 0, .int .i64 0, .int .i64 0, .int .i64 0, .int .i64 0, .pointer none, .slice none 0 0, .int .i64 0, .int .i64 0, .int .i64 0], [(0, 16), (16, 13), (29, 3), (32, 2), (34, 1), (35, 1), (36, 1)]) := by kernel_rfl
@[simp] theorem tyA_89 : tyA Tryz.prog 89 = some (false, 1) := by kernel_rfl
@[simp] theorem tyStr_89 : tyStr Tryz.prog 89 = false := by kernel_rfl
@[simp] theorem tySrc_89 : tySrc Tryz.prog 89 = false := by kernel_rfl
@[simp] theorem tyZ0_89 : tyZ0 Tryz.prog 89 = [D.v (.nilFunc)] := by kernel_rfl
@[simp] theorem tyBool_89 : tyBool Tryz.prog 89 = false := by kernel_rfl
@[simp] theorem tyInt_89 : tyInt Tryz.prog 89 = none := by kernel_rfl
@[simp] theorem tyZ_89 : tyZ Tryz.prog 89 = some [.nilFunc] := by kernel_rfl
@[simp] theorem tyConc_89 : tyConc Tryz.prog 89 = true := by kernel_rfl
@[simp] theorem tyIfc_89 : tyIfc Tryz.prog 89 = false := by kernel_rfl
@[simp] theorem hasZ_89 : hasZ Tryz.prog 89 = true := by kernel_rfl
@[simp] theorem zeroV_89 : zeroV Tryz.prog 89 = V.d (D.v (.nilFunc)) := by kernel_rfl
@[simp] theorem tyE_89 : tyE Tryz.prog 89 = none := by kernel_rfl
@[simp] theorem tyPtr_89 : tyPtr Tryz.prog 89 = none := by kernel_rfl
@[simp] theorem tyM_89 : tyM Tryz.prog 89 = none := by kernel_rfl
@[simp] theorem tyZV_89 : tyZV Tryz.prog 89 = some (V.d (D.v (.nilFunc))) := by kernel_rfl
@[simp] theorem tyA_92 : tyA Tryz.prog 92 = some (false, 1) := by kernel_rfl
@[simp] theorem tyStr_92 : tyStr Tryz.prog 92 = false := by kernel_rfl
@[simp] theorem tySrc_92 : tySrc Tryz.prog 92 = false := by kernel_rfl
@[simp] theorem tyZ0_92 : tyZ0 Tryz.prog 92 = [D.v (.nilFunc)] := by kernel_rfl
@[simp] theorem tyBool_92 : tyBool Tryz.prog 92 = false := by kernel_rfl
@[simp] theorem tyInt_92 : tyInt Tryz.prog 92 = none := by kernel_rfl
@[simp] theorem tyZ_92 : tyZ Tryz.prog 92 = some [.nilFunc] := by kernel_rfl
@[simp] theorem tyConc_92 : tyConc Tryz.prog 92 = true := by kernel_rfl
@[simp] theorem tyIfc_92 : tyIfc Tryz.prog 92 = false := by kernel_rfl
@[simp] theorem hasZ_92 : hasZ Tryz.prog 92 = true := by kernel_rfl
@[simp] theorem zeroV_92 : zeroV Tryz.prog 92 = V.d (D.v (.nilFunc)) := by kernel_rfl
@[simp] theorem tyE_92 : tyE Tryz.prog 92 = none := by kernel_rfl
@[simp] theorem tyPtr_92 : tyPtr Tryz.prog 92 = none := by kernel_rfl
@[simp] theorem tyM_92 : tyM Tryz.prog 92 = none := by kernel_rfl
@[simp] theorem tyZV_92 : tyZV Tryz.prog 92 = some (V.d (D.v (.nilFunc))) := by kernel_rfl
@[simp] theorem tyA_103 : tyA Tryz.prog 103 = some (true, 1) := by kernel_rfl
@[simp] theorem tyStr_103 : tyStr Tryz.prog 103 = false := by kernel_rfl
@[simp] theorem tySrc_103 : tySrc Tryz.prog 103 = false := by kernel_rfl
@[simp] theorem tyZ0_103 : tyZ0 Tryz.prog 103 = [D.v (.int .i64 0)] := by kernel_rfl
@[simp] theorem tyBool_103 : tyBool Tryz.prog 103 = false := by kernel_rfl
@[simp] theorem tyInt_103 : tyInt Tryz.prog 103 = none := by kernel_rfl
@[simp] theorem tyZ_103 : tyZ Tryz.prog 103 = some [.int .i64 0] := by kernel_rfl
@[simp] theorem tyConc_103 : tyConc Tryz.prog 103 = true := by kernel_rfl
@[simp] theorem tyIfc_103 : tyIfc Tryz.prog 103 = false := by kernel_rfl
@[simp] theorem hasZ_103 : hasZ Tryz.prog 103 = true := by kernel_rfl
@[simp] theorem zeroV_103 : zeroV Tryz.prog 103 = .agg [V.d (D.v (.int .i64 0))] := by kernel_rfl
@[simp] theorem tyE_103 : tyE Tryz.prog 103 = none := by kernel_rfl
@[simp] theorem tyPtr_103 : tyPtr Tryz.prog 103 = none := by kernel_rfl
@[simp] theorem tyM_103 : tyM Tryz.prog 103 = none := by kernel_rfl
@[simp] theorem tyZV_103 : tyZV Tryz.prog 103 = some (.agg [V.d (D.v (.int .i64 0))]) := by kernel_rfl
@[simp] theorem tyEq_103 : tyEq Tryz.prog 103 = some [.i .i64] := by kernel_rfl
@[simp] theorem tyArr_103 : tyArr Tryz.prog 103 = none := by kernel_rfl
@[simp] theorem tyF_103_0 : tyF Tryz.prog 103 0 = some (0, false, 1) := by kernel_rfl
@[simp] theorem tyB_103 : tyB Tryz.prog 103 = some ([.int .i64 0], [(0, 1)]) := by kernel_rfl
@[simp] theorem tyA_133 : tyA Tryz.prog 133 = some (false, 1) := by kernel_rfl
@[simp] theorem tyStr_133 : tyStr Tryz.prog 133 = false := by kernel_rfl
@[simp] theorem tySrc_133 : tySrc Tryz.prog 133 = true := by kernel_rfl
@[simp] theorem tyZ0_133 : tyZ0 Tryz.prog 133 = [D.sl []] := by kernel_rfl
@[simp] theorem tyBool_133 : tyBool Tryz.prog 133 = false := by kernel_rfl
@[simp] theorem tyInt_133 : tyInt Tryz.prog 133 = none := by kernel_rfl
@[simp] theorem tyZ_133 : tyZ Tryz.prog 133 = some [.slice none 0 0] := by kernel_rfl
@[simp] theorem tyConc_133 : tyConc Tryz.prog 133 = true := by kernel_rfl
@[simp] theorem tyIfc_133 : tyIfc Tryz.prog 133 = false := by kernel_rfl
@[simp] theorem hasZ_133 : hasZ Tryz.prog 133 = true := by kernel_rfl
@[simp] theorem zeroV_133 : zeroV Tryz.prog 133 = V.d (D.v (.slice none 0 0)) := by kernel_rfl
@[simp] theorem tyE_133 : tyE Tryz.prog 133 = some (137, 1) := by kernel_rfl
@[simp] theorem tySl_133 : tySl Tryz.prog 133 = some (137, 1, 24, [.slice none 0 0]) := by kernel_rfl
@[simp] theorem tyPtr_133 : tyPtr Tryz.prog 133 = none := by kernel_rfl
@[simp] theorem tyM_133 : tyM Tryz.prog 133 = none := by kernel_rfl
@[simp] theorem tyZV_133 : tyZV Tryz.prog 133 = some (V.d (D.sl [])) := by kernel_rfl
@[simp] theorem tyArr_133 : tyArr Tryz.prog 133 = none := by kernel_rfl
@[simp] theorem tyA_135 : tyA Tryz.prog 135 = some (true, 2) := by kernel_rfl
@[simp] theorem tyStr_135 : tyStr Tryz.prog 135 = false := by kernel_rfl
@[simp] theorem tySrc_135 : tySrc Tryz.prog 135 = false := by kernel_rfl
@[simp] theorem tyZ0_135 : tyZ0 Tryz.prog 135 = [D.v (.bool false), D.sl []] := by kernel_rfl
@[simp] theorem tyBool_135 : tyBool Tryz.prog 135 = false := by kernel_rfl
@[simp] theorem tyInt_135 : tyInt Tryz.prog 135 = none := by kernel_rfl
@[simp] theorem tyZ_135 : tyZ Tryz.prog 135 = some [.bool false, .slice none 0 0] := by kernel_rfl
@[simp] theorem tyConc_135 : tyConc Tryz.prog 135 = true := by kernel_rfl
@[simp] theorem tyIfc_135 : tyIfc Tryz.prog 135 = false := by kernel_rfl
@[simp] theorem hasZ_135 : hasZ Tryz.prog 135 = true := by kernel_rfl
@[simp] theorem zeroV_135 : zeroV Tryz.prog 135 = .agg [V.d (D.v (.bool false)), V.d (D.v (.slice none 0 0))] := by kernel_rfl
@[simp] theorem tyE_135 : tyE Tryz.prog 135 = none := by kernel_rfl
@[simp] theorem tyPtr_135 : tyPtr Tryz.prog 135 = none := by kernel_rfl
@[simp] theorem tyM_135 : tyM Tryz.prog 135 = none := by kernel_rfl
@[simp] theorem tyZV_135 : tyZV Tryz.prog 135 = some (.agg [V.d (D.v (.bool false)), V.d (D.sl [])]) := by kernel_rfl
@[simp] theorem tyArr_135 : tyArr Tryz.prog 135 = none := by kernel_rfl
@[simp] theorem tyF_135_0 : tyF Tryz.prog 135 0 = some (0, false, 1) := by kernel_rfl
@[simp] theorem tyF_135_1 : tyF Tryz.prog 135 1 = some (1, false, 1) := by kernel_rfl
@[simp] theorem tyB_135 : tyB Tryz.prog 135 = some ([.bool false, .slice none 0 0], [(0, 1), (1, 1)]) := by kernel_rfl
@[simp] theorem tyA_137 : tyA Tryz.prog 137 = some (false, 1) := by kernel_rfl
@[simp] theorem tyStr_137 : tyStr Tryz.prog 137 = false := by kernel_rfl
@[simp] theorem tySrc_137 : tySrc Tryz.prog 137 = true := by kernel_rfl
@[simp] theorem tyZ0_137 : tyZ0 Tryz.prog 137 = [D.sl []] := by kernel_rfl
@[simp] theorem tyBool_137 : tyBool Tryz.prog 137 = false := by kernel_rfl
@[simp] theorem tyInt_137 : tyInt Tryz.prog 137 = none := by kernel_rfl
@[simp] theorem tyZ_137 : tyZ Tryz.prog 137 = some [.slice none 0 0] := by kernel_rfl
@[simp] theorem tyConc_137 : tyConc Tryz.prog 137 = true := by kernel_rfl
@[simp] theorem tyIfc_137 : tyIfc Tryz.prog 137 = false := by kernel_rfl
@[simp] theorem hasZ_137 : hasZ Tryz.prog 137 = true := by kernel_rfl
@[simp] theorem zeroV_137 : zeroV Tryz.prog 137 = V.d (D.v (.slice none 0 0)) := by kernel_rfl
@[simp] theorem tyE_137 : tyE Tryz.prog 137 = some (193, 2) := by kernel_rfl
@[simp] theorem tySl_137 : tySl Tryz.prog 137 = some (193, 2, 32, [.int .i64 0, .slice none 0 0]) := by kernel_rfl
@[simp] theorem tyPtr_137 : tyPtr Tryz.prog 137 = none := by kernel_rfl
@[simp] theorem tyM_137 : tyM Tryz.prog 137 = none := by kernel_rfl
@[simp] theorem tyZV_137 : tyZV Tryz.prog 137 = some (V.d (D.sl [])) := by kernel_rfl
@[simp] theorem tyArr_137 : tyArr Tryz.prog 137 = none := by kernel_rfl
@[simp] theorem tyA_139 : tyA Tryz.prog 139 = some (true, 6) := by kernel_rfl
@[simp] theorem tyStr_139 : tyStr Tryz.prog 139 = false := by kernel_rfl
@[simp] theorem tySrc_139 : tySrc Tryz.prog 139 = false := by kernel_rfl
@[simp] theorem tyZ0_139 : tyZ0 Tryz.prog 139 = [D.v (.int .i64 0), D.v (.int .i64 0), D.v (.int .i64 0), D.v (.int .i64 0), D.v (.int .i64 0), D.v (.int .i64 0)] := by kernel_rfl
@[simp] theorem tyBool_139 : tyBool Tryz.prog 139 = false := by kernel_rfl
@[simp] theorem tyInt_139 : tyInt Tryz.prog 139 = none := by kernel_rfl
@[simp] theorem tyZ_139 : tyZ Tryz.prog 139 = some [.int .i64 0, .int .i64 0, .int .i64 0, .int .i64 0, .int .i64 0, .int .i64 0] := by kernel_rfl
@[simp] theorem tyConc_139 : tyConc Tryz.prog 139 = true := by kernel_rfl
@[simp] theorem tyIfc_139 : tyIfc Tryz.prog 139 = false := by kernel_rfl
@[simp] theorem hasZ_139 : hasZ Tryz.prog 139 = true := by kernel_rfl
@[simp] theorem zeroV_139 : zeroV Tryz.prog 139 = .agg [V.d (D.v (.int .i64 0)), V.d (D.v (.int .i64 0)), V.d (D.v (.int .i64 0)), V.d (D.v (.int .i64 0)), V.d (D.v (.int .i64 0)), V.d (D.v (.int .i64 0))] := by kernel_rfl
@[simp] theorem tyE_139 : tyE Tryz.prog 139 = none := by kernel_rfl
@[simp] theorem tyPtr_139 : tyPtr Tryz.prog 139 = none := by kernel_rfl
@[simp] theorem tyM_139 : tyM Tryz.prog 139 = none := by kernel_rfl
@[simp] theorem tyZV_139 : tyZV Tryz.prog 139 = some (.agg [V.d (D.v (.int .i64 0)), V.d (D.v (.int .i64 0)), V.d (D.v (.int .i64 0)), V.d (D.v (.int .i64 0)), V.d (D.v (.int .i64 0)), V.d (D.v (.int .i64 0))]) := by kernel_rfl
@[simp] theorem tyEq_139 : tyEq Tryz.prog 139 = some [.i .i64, .i .i64, .i .i64, .i .i64, .i .i64, .i .i64] := by kernel_rfl
@[simp] theorem tyArr_139 : tyArr Tryz.prog 139 = none := by kernel_rfl
@[simp] theorem tyF_139_0 : tyF Tryz.prog 139 0 = some (0, false, 1) := by kernel_rfl
@[simp] theorem tyF_139_1 : tyF Tryz.prog 139 1 = some (1, false, 1) := by kernel_rfl
@[simp] theorem tyF_139_2 : tyF Tryz.prog 139 2 = some (2, false, 1) := by kernel_rfl
@[simp] theorem tyF_139_3 : tyF Tryz.prog 139 3 = some (3, false, 1) := by kernel_rfl
@[simp] theorem tyF_139_4 : tyF Tryz.prog 139 4 = some (4, false, 1) := by kernel_rfl
@[simp] theorem tyF_139_5 : tyF Tryz.prog 139 5 = some (5, false, 1) := by kernel_rfl
@[simp] theorem tyB_139 : tyB Tryz.prog 139 = some ([.int .i64 0, .int .i64 0, .int .i64 0, .int .i64 0, .int .i64 0, .int .i64 0], [(0, 1), (1, 1), (2, 1), (3, 1), (4, 1), (5, 1)]) := by kernel_rfl
@[simp] theorem tyA_147 : tyA Tryz.prog 147 = some (true, 0) := by kernel_rfl
@[simp] theorem tyStr_147 : tyStr Tryz.prog 147 = false := by kernel_rfl
@[simp] theorem tySrc_147 : tySrc Tryz.prog 147 = false := by kernel_rfl
@[simp] theorem tyZ0_147 : tyZ0 Tryz.prog 147 = [] := by kernel_rfl
@[simp] theorem tyBool_147 : tyBool Tryz.prog 147 = false := by kernel_rfl
@[simp] theorem tyInt_147 : tyInt Tryz.prog 147 = none := by kernel_rfl
@[simp] theorem tyZ_147 : tyZ Tryz.prog 147 = some [] := by kernel_rfl
@[simp] theorem tyConc_147 : tyConc Tryz.prog 147 = true := by kernel_rfl
@[simp] theorem tyIfc_147 : tyIfc Tryz.prog 147 = false := by kernel_rfl
@[simp] theorem hasZ_147 : hasZ Tryz.prog 147 = true := by kernel_rfl
@[simp] theorem zeroV_147 : zeroV Tryz.prog 147 = .agg [] := by kernel_rfl
@[simp] theorem tyE_147 : tyE Tryz.prog 147 = none := by kernel_rfl
@[simp] theorem tyPtr_147 : tyPtr Tryz.prog 147 = none := by kernel_rfl
@[simp] theorem tyM_147 : tyM Tryz.prog 147 = none := by kernel_rfl
@[simp] theorem tyZV_147 : tyZV Tryz.prog 147 = some (.agg []) := by kernel_rfl
@[simp] theorem tyArr_147 : tyArr Tryz.prog 147 = none := by kernel_rfl
@[simp] theorem tyB_147 : tyB Tryz.prog 147 = some ([], []) := by kernel_rfl
@[simp] theorem tyA_149 : tyA Tryz.prog 149 = some (true, 1) := by kernel_rfl
@[simp] theorem tyStr_149 : tyStr Tryz.prog 149 = false := by kernel_rfl
@[simp] theorem tySrc_149 : tySrc Tryz.prog 149 = false := by kernel_rfl
@[simp] theorem tyZ0_149 : tyZ0 Tryz.prog 149 = [D.v (.int .i64 0)] := by kernel_rfl
@[simp] theorem tyBool_149 : tyBool Tryz.prog 149 = false := by kernel_rfl
@[simp] theorem tyInt_149 : tyInt Tryz.prog 149 = none := by kernel_rfl
@[simp] theorem tyZ_149 : tyZ Tryz.prog 149 = some [.int .i64 0] := by kernel_rfl
@[simp] theorem tyConc_149 : tyConc Tryz.prog 149 = true := by kernel_rfl
@[simp] theorem tyIfc_149 : tyIfc Tryz.prog 149 = false := by kernel_rfl
@[simp] theorem hasZ_149 : hasZ Tryz.prog 149 = true := by kernel_rfl
@[simp] theorem zeroV_149 : zeroV Tryz.prog 149 = .agg [V.d (D.v (.int .i64 0))] := by kernel_rfl
@[simp] theorem tyE_149 : tyE Tryz.prog 149 = none := by kernel_rfl
@[simp] theorem tyPtr_149 : tyPtr Tryz.prog 149 = none := by kernel_rfl
@[simp] theorem tyM_149 : tyM Tryz.prog 149 = none := by kernel_rfl
@[simp] theorem tyZV_149 : tyZV Tryz.prog 149 = some (.agg [V.d (D.v (.int .i64 0))]) := by kernel_rfl
@[simp] theorem tyEq_149 : tyEq Tryz.prog 149 = some [.i .i64] := by kernel_rfl
@[simp] theorem tyArr_149 : tyArr Tryz.prog 149 = none := by kernel_rfl
@[simp] theorem tyF_149_0 : tyF Tryz.prog 149 0 = some (0, false, 1) := by kernel_rfl
@[simp] theorem tyB_149 : tyB Tryz.prog 149 = some ([.int .i64 0], [(0, 1)]) := by kernel_rfl
@[simp] theorem tyA_151 : tyA Tryz.prog 151 = some (true, 1) := by kernel_rfl
@[simp] theorem tyStr_151 : tyStr Tryz.prog 151 = false := by kernel_rfl
@[simp] theorem tySrc_151 : tySrc Tryz.prog 151 = false := by kernel_rfl
@[simp] theorem tyZ0_151 : tyZ0 Tryz.prog 151 = [D.v (.int .i64 0)] := by kernel_rfl
@[simp] theorem tyBool_151 : tyBool Tryz.prog 151 = false := by kernel_rfl
@[simp] theorem tyInt_151 : tyInt Tryz.prog 151 = none := by kernel_rfl
@[simp] theorem tyZ_151 : tyZ Tryz.prog 151 = some [.int .i64 0] := by kernel_rfl
@[simp] theorem tyConc_151 : tyConc Tryz.prog 151 = true := by kernel_rfl
@[simp] theorem tyIfc_151 : tyIfc Tryz.prog 151 = false := by kernel_rfl
@[simp] theorem hasZ_151 : hasZ Tryz.prog 151 = true := by kernel_rfl
@[simp] theorem zeroV_151 : zeroV Tryz.prog 151 = .agg [V.d (D.v (.int .i64 0))] := by kernel_rfl
@[simp] theorem tyE_151 : tyE Tryz.prog 151 = none := by kernel_rfl
@[simp] theorem tyPtr_151 : tyPtr Tryz.prog 151 = none := by kernel_rfl
@[simp] theorem tyM_151 : tyM Tryz.prog 151 = none := by kernel_rfl
@[simp] theorem tyZV_151 : tyZV Tryz.prog 151 = some (.agg [V.d (D.v (.int .i64 0))]) := by kernel_rfl
@[simp] theorem tyEq_151 : tyEq Tryz.prog 151 = some [.i .i64] := by kernel_rfl
@[simp] theorem tyArr_151 : tyArr Tryz.prog 151 = none := by kernel_rfl
@[simp] theorem tyF_151_0 : tyF Tryz.prog 151 0 = some (0, false, 1) := by kernel_rfl
@[simp] theorem tyB_151 : tyB Tryz.prog 151 = some ([.int .i64 0], [(0, 1)]) := by kernel_rfl
@[simp] theorem tyA_153 : tyA Tryz.prog 153 = some (false, 1) := by kernel_rfl
@[simp] theorem tyStr_153 : tyStr Tryz.prog 153 = false := by kernel_rfl
@[simp] theorem tySrc_153 : tySrc Tryz.prog 153 = false := by kernel_rfl
@[simp] theorem tyZ0_153 : tyZ0 Tryz.prog 153 = [D.v (.pointer none)] := by kernel_rfl
@[simp] theorem tyBool_153 : tyBool Tryz.prog 153 = false := by kernel_rfl
@[simp] theorem tyInt_153 : tyInt Tryz.prog 153 = none := by kernel_rfl
@[simp] theorem tyZ_153 : tyZ Tryz.prog 153 = some [.pointer none] := by kernel_rfl
@[simp] theorem tyConc_153 : tyConc Tryz.prog 153 = true := by kernel_rfl
@[simp] theorem tyIfc_153 : tyIfc Tryz.prog 153 = false := by kernel_rfl
@[simp] theorem hasZ_153 : hasZ Tryz.prog 153 = true := by kernel_rfl
@[simp] theorem zeroV_153 : zeroV Tryz.prog 153 = V.d (D.v (.pointer none)) := by kernel_rfl
@[simp] theorem tyE_153 : tyE Tryz.prog 153 = none := by kernel_rfl
@[simp] theorem tyPtr_153 : tyPtr Tryz.prog 153 = some 155 := by kernel_rfl
@[simp] theorem tyM_153 : tyM Tryz.prog 153 = none := by kernel_rfl
@[simp] theorem tyZV_153 : tyZV Tryz.prog 153 = some (V.d (D.v (.pointer none))) := by kernel_rfl
@[simp] theorem tyA_155 : tyA Tryz.prog 155 = some (true, 2) := by kernel_rfl
@[simp] theorem tyStr_155 : tyStr Tryz.prog 155 = false := by kernel_rfl
@[simp] theorem tySrc_155 : tySrc Tryz.prog 155 = false := by kernel_rfl
@[simp] theorem tyZ0_155 : tyZ0 Tryz.prog 155 = [D.v (.pointer none), D.sl []] := by kernel_rfl
@[simp] theorem tyBool_155 : tyBool Tryz.prog 155 = false := by kernel_rfl
@[simp] theorem tyInt_155 : tyInt Tryz.prog 155 = none := by kernel_rfl
@[simp] theorem tyZ_155 : tyZ Tryz.prog 155 = some [.pointer none, .slice none 0 0] := by kernel_rfl
@[simp] theorem tyConc_155 : tyConc Tryz.prog 155 = true := by kernel_rfl
@[simp] theorem tyIfc_155 : tyIfc Tryz.prog 155 = false := by kernel_rfl
@[simp] theorem hasZ_155 : hasZ Tryz.prog 155 = true := by kernel_rfl
@[simp] theorem zeroV_155 : zeroV Tryz.prog 155 = .agg [V.d (D.v (.pointer none)), V.d (D.v (.slice none 0 0))] := by kernel_rfl
@[simp] theorem tyE_155 : tyE Tryz.prog 155 = none := by kernel_rfl
@[simp] theorem tyPtr_155 : tyPtr Tryz.prog 155 = none := by kernel_rfl
@[simp] theorem tyM_155 : tyM Tryz.prog 155 = none := by kernel_rfl
@[simp] theorem tyZV_155 : tyZV Tryz.prog 155 = some (.agg [V.d (D.v (.pointer none)), V.d (D.sl [])]) := by kernel_rfl
@[simp] theorem tyArr_155 : tyArr Tryz.prog 155 = none := by kernel_rfl
@[simp] theorem tyF_155_0 : tyF Tryz.prog 155 0 = some (0, false, 1) := by kernel_rfl
@[simp] theorem tyF_155_1 : tyF Tryz.prog 155 1 = some (1, false, 1) := by kernel_rfl
@[simp] theorem tyB_155 : tyB Tryz.prog 155 = some ([.pointer none, .slice none 0 0], [(0, 1), (1, 1)]) := by kernel_rfl
@[simp] theorem tyA_163 : tyA Tryz.prog 163 = some (false, 1) := by kernel_rfl
@[simp] theorem tyStr_163 : tyStr Tryz.prog 163 = false := by kernel_rfl
@[simp] theorem tySrc_163 : tySrc Tryz.prog 163 = false := by kernel_rfl
@[simp] theorem tyZ0_163 : tyZ0 Tryz.prog 163 = [D.v (.int .u64 0)] := by kernel_rfl
@[simp] theorem tyBool_163 : tyBool Tryz.prog 163 = false := by kernel_rfl
@[simp] theorem tyInt_163 : tyInt Tryz.prog 163 = some .u64 := by kernel_rfl
@[simp] theorem tyZ_163 : tyZ Tryz.prog 163 = some [.int .u64 0] := by kernel_rfl
@[simp] theorem tyConc_163 : tyConc Tryz.prog 163 = true := by kernel_rfl
@[simp] theorem tyIfc_163 : tyIfc Tryz.prog 163 = false := by kernel_rfl
@[simp] theorem hasZ_163 : hasZ Tryz.prog 163 = true := by kernel_rfl
@[simp] theorem zeroV_163 : zeroV Tryz.prog 163 = V.d (D.v (.int .u64 0)) := by kernel_rfl
@[simp] theorem tyE_163 : tyE Tryz.prog 163 = none := by kernel_rfl
@[simp] theorem tyPtr_163 : tyPtr Tryz.prog 163 = none := by kernel_rfl
@[simp] theorem tyM_163 : tyM Tryz.prog 163 = none := by kernel_rfl
@[simp] theorem tyZV_163 : tyZV Tryz.prog 163 = some (V.d (D.v (.int .u64 0))) := by kernel_rfl
@[simp] theorem tyA_191 : tyA Tryz.prog 191 = some (true, 4) := by kernel_rfl
@[simp] theorem tyStr_191 : tyStr Tryz.prog 191 = false := by kernel_rfl
@[simp] theorem tySrc_191 : tySrc Tryz.prog 191 = false := by kernel_rfl
@[simp] theorem tyZ0_191 : tyZ0 Tryz.prog 191 = [D.v (.int .i64 0), D.v (.int .i64 0), D.v (.int .i64 0), D.v (.int .i64 0)] := by kernel_rfl
@[simp] theorem tyBool_191 : tyBool Tryz.prog 191 = false := by kernel_rfl
@[simp] theorem tyInt_191 : tyInt Tryz.prog 191 = none := by kernel_rfl
@[simp] theorem tyZ_191 : tyZ Tryz.prog 191 = some [.int .i64 0, .int .i64 0, .int .i64 0, .int .i64 0] := by kernel_rfl
@[simp] theorem tyConc_191 : tyConc Tryz.prog 191 = true := by kernel_rfl
@[simp] theorem tyIfc_191 : tyIfc Tryz.prog 191 = false := by kernel_rfl
@[simp] theorem hasZ_191 : hasZ Tryz.prog 191 = true := by kernel_rfl
@[simp] theorem zeroV_191 : zeroV Tryz.prog 191 = .agg [V.d (D.v (.int .i64 0)), V.d (D.v (.int .i64 0)), V.d (D.v (.int .i64 0)), V.d (D.v (.int .i64 0))] := by kernel_rfl
@[simp] theorem tyE_191 : tyE Tryz.prog 191 = none := by kernel_rfl
@[simp] theorem tyPtr_191 : tyPtr Tryz.prog 191 = none := by kernel_rfl
@[simp] theorem tyM_191 : tyM Tryz.prog 191 = none := by kernel_rfl
@[simp] theorem tyZV_191 : tyZV Tryz.prog 191 = some (.agg [V.d (D.v (.int .i64 0)), V.d (D.v (.int .i64 0)), V.d (D.v (.int .i64 0)), V.d (D.v (.int .i64 0))]) := by kernel_rfl
@[simp] theorem tyEq_191 : tyEq Tryz.prog 191 = some [.i .i64, .i .i64, .i .i64, .i .i64] := by kernel_rfl
@[simp] theorem tyArr_191 : tyArr Tryz.prog 191 = none := by kernel_rfl
@[simp] theorem tyF_191_0 : tyF Tryz.prog 191 0 = some (0, false, 1) := by kernel_rfl
@[simp] theorem tyF_191_1 : tyF Tryz.prog 191 1 = some (1, false, 1) := by kernel_rfl
@[simp] theorem tyF_191_2 : tyF Tryz.prog 191 2 = some (2, false, 1) := by kernel_rfl
@[simp] theorem tyF_191_3 : tyF Tryz.prog 191 3 = some (3, false, 1) := by kernel_rfl
@[simp] theorem tyB_191 : tyB Tryz.prog 191 = some ([.int .i64 0, .int .i64 0, .int .i64 0, .int .i64 0], [(0, 1), (1, 1), (2, 1), (3, 1)]) := by kernel_rfl
@[simp] theorem tyA_193 : tyA Tryz.prog 193 = some (true, 2) := by kernel_rfl
@[simp] theorem tyStr_193 : tyStr Tryz.prog 193 = false := by kernel_rfl
@[simp] theorem tySrc_193 : tySrc Tryz.prog 193 = false := by kernel_rfl
@[simp] theorem tyZ0_193 : tyZ0 Tryz.prog 193 = [D.v (.int .i64 0), D.sl []] := by kernel_rfl
@[simp] theorem tyBool_193 : tyBool Tryz.prog 193 = false := by kernel_rfl
@[simp] theorem tyInt_193 : tyInt Tryz.prog 193 = none := by kernel_rfl
@[simp] theorem tyZ_193 : tyZ Tryz.prog 193 = some [.int .i64 0, .slice none 0 0] := by kernel_rfl
@[simp] theorem tyConc_193 : tyConc Tryz.prog 193 = true := by kernel_rfl
@[simp] theorem tyIfc_193 : tyIfc Tryz.prog 193 = false := by kernel_rfl
@[simp] theorem hasZ_193 : hasZ Tryz.prog 193 = true := by kernel_rfl
@[simp] theorem zeroV_193 : zeroV Tryz.prog 193 = .agg [V.d (D.v (.int .i64 0)), V.d (D.v (.slice none 0 0))] := by kernel_rfl
@[simp] theorem tyE_193 : tyE Tryz.prog 193 = none := by kernel_rfl
@[simp] theorem tyPtr_193 : tyPtr Tryz.prog 193 = none := by kernel_rfl
@[simp] theorem tyM_193 : tyM Tryz.prog 193 = none := by kernel_rfl
@[simp] theorem tyZV_193 : tyZV Tryz.prog 193 = some (.agg [V.d (D.v (.int .i64 0)), V.d (D.sl [])]) := by kernel_rfl
@[simp] theorem tyArr_193 : tyArr Tryz.prog 193 = none := by kernel_rfl
@[simp] theorem tyF_193_0 : tyF Tryz.prog 193 0 = some (0, false, 1) := by kernel_rfl
@[simp] theorem tyF_193_1 : tyF Tryz.prog 193 1 = some (1, false, 1) := by kernel_rfl
@[simp] theorem tyB_193 : tyB Tryz.prog 193 = some ([.int .i64 0, .slice none 0 0], [(0, 1), (1, 1)]) := by kernel_rfl
@[simp] theorem tyA_194 : tyA Tryz.prog 194 = some (false, 1) := by kernel_rfl
@[simp] theorem tyStr_194 : tyStr Tryz.prog 194 = false := by kernel_rfl
@[simp] theorem tySrc_194 : tySrc Tryz.prog 194 = false := by kernel_rfl
@[simp] theorem tyZ0_194 : tyZ0 Tryz.prog 194 = [D.v (.pointer none)] := by kernel_rfl
@[simp] theorem tyBool_194 : tyBool Tryz.prog 194 = false := by kernel_rfl
@[simp] theorem tyInt_194 : tyInt Tryz.prog 194 = none := by kernel_rfl
@[simp] theorem tyZ_194 : tyZ Tryz.prog 194 = some [.pointer none] := by kernel_rfl
@[simp] theorem tyConc_194 : tyConc Tryz.prog 194 = true := by kernel_rfl
@[simp] theorem tyIfc_194 : tyIfc Tryz.prog 194 = false := by kernel_rfl
@[simp] theorem hasZ_194 : hasZ Tryz.prog 194 = true := by kernel_rfl
@[simp] theorem zeroV_194 : zeroV Tryz.prog 194 = V.d (D.v (.pointer none)) := by kernel_rfl
@[simp] theorem tyE_194 : tyE Tryz.prog 194 = none := by kernel_rfl
@[simp] theorem tyPtr_194 : tyPtr Tryz.prog 194 = some 5 := by kernel_rfl
@[simp] theorem tyM_194 : tyM Tryz.prog 194 = none := by kernel_rfl
@[simp] theorem tyZV_194 : tyZV Tryz.prog 194 = some (V.d (D.v (.pointer none))) := by kernel_rfl
@[simp] theorem tyA_195 : tyA Tryz.prog 195 = some (false, 1) := by kernel_rfl
@[simp] theorem tyStr_195 : tyStr Tryz.prog 195 = false := by kernel_rfl
@[simp] theorem tySrc_195 : tySrc Tryz.prog 195 = false := by kernel_rfl
@[simp] theorem tyZ0_195 : tyZ0 Tryz.prog 195 = [D.v (.int .i16 0)] := by kernel_rfl
@[simp] theorem tyBool_195 : tyBool Tryz.prog 195 = false := by kernel_rfl
@[simp] theorem tyInt_195 : tyInt Tryz.prog 195 = some .i16 := by kernel_rfl
@[simp] theorem tyZ_195 : tyZ Tryz.prog 195 = some [.int .i16 0] := by kernel_rfl
@[simp] theorem tyConc_195 : tyConc Tryz.prog 195 = true := by kernel_rfl
@[simp] theorem tyIfc_195 : tyIfc Tryz.prog 195 = false := by kernel_rfl
@[simp] theorem hasZ_195 : hasZ Tryz.prog 195 = true := by kernel_rfl
@[simp] theorem zeroV_195 : zeroV Tryz.prog 195 = V.d (D.v (.int .i16 0)) := by kernel_rfl
@[simp] theorem tyE_195 : tyE Tryz.prog 195 = none := by kernel_rfl
@[simp] theorem tyPtr_195 : tyPtr Tryz.prog 195 = none := by kernel_rfl
@[simp] theorem tyM_195 : tyM Tryz.prog 195 = none := by kernel_rfl
@[simp] theorem tyZV_195 : tyZV Tryz.prog 195 = some (V.d (D.v (.int .i16 0))) := by kernel_rfl
@[simp] theorem tyA_249 : tyA Tryz.prog 249 = some (false, 1) := by kernel_rfl
@[simp] theorem tyStr_249 : tyStr Tryz.prog 249 = false := by kernel_rfl
@[simp] theorem tySrc_249 : tySrc Tryz.prog 249 = false := by kernel_rfl
@[simp] theorem tyZ0_249 : tyZ0 Tryz.prog 249 = [D.v (.int .u32 0)] := by kernel_rfl
@[simp] theorem tyBool_249 : tyBool Tryz.prog 249 = false := by kernel_rfl
@[simp] theorem tyInt_249 : tyInt Tryz.prog 249 = some .u32 := by kernel_rfl
@[simp] theorem tyZ_249 : tyZ Tryz.prog 249 = some [.int .u32 0] := by kernel_rfl
@[simp] theorem tyConc_249 : tyConc Tryz.prog 249 = true := by kernel_rfl
@[simp] theorem tyIfc_249 : tyIfc Tryz.prog 249 = false := by kernel_rfl
@[simp] theorem hasZ_249 : hasZ Tryz.prog 249 = true := by kernel_rfl
@[simp] theorem zeroV_249 : zeroV Tryz.prog 249 = V.d (D.v (.int .u32 0)) := by kernel_rfl
@[simp] theorem tyE_249 : tyE Tryz.prog 249 = none := by kernel_rfl
@[simp] theorem tyPtr_249 : tyPtr Tryz.prog 249 = none := by kernel_rfl
@[simp] theorem tyM_249 : tyM Tryz.prog 249 = none := by kernel_rfl
@[simp] theorem tyZV_249 : tyZV Tryz.prog 249 = some (V.d (D.v (.int .u32 0))) := by kernel_rfl
@[simp] theorem tyA_261 : tyA Tryz.prog 261 = some (false, 1) := by kernel_rfl
@[simp] theorem tyStr_261 : tyStr Tryz.prog 261 = false := by kernel_rfl
@[simp] theorem tySrc_261 : tySrc Tryz.prog 261 = false := by kernel_rfl
@[simp] theorem tyZ0_261 : tyZ0 Tryz.prog 261 = [D.v (.nilIface)] := by kernel_rfl
@[simp] theorem tyBool_261 : tyBool Tryz.prog 261 = false := by kernel_rfl
@[simp] theorem tyInt_261 : tyInt Tryz.prog 261 = none := by kernel_rfl
@[simp] theorem tyZ_261 : tyZ Tryz.prog 261 = some [.nilIface] := by kernel_rfl
@[simp] theorem tyConc_261 : tyConc Tryz.prog 261 = false := by kernel_rfl
@[simp] theorem tyIfc_261 : tyIfc Tryz.prog 261 = true := by kernel_rfl
@[simp] theorem hasZ_261 : hasZ Tryz.prog 261 = true := by kernel_rfl
@[simp] theorem zeroV_261 : zeroV Tryz.prog 261 = V.d (D.v (.nilIface)) := by kernel_rfl
@[simp] theorem tyE_261 : tyE Tryz.prog 261 = none := by kernel_rfl
@[simp] theorem tyPtr_261 : tyPtr Tryz.prog 261 = none := by kernel_rfl
@[simp] theorem tyM_261 : tyM Tryz.prog 261 = none := by kernel_rfl
@[simp] theorem tyZV_261 : tyZV Tryz.prog 261 = some (V.d (D.v (.nilIface))) := by kernel_rfl
@[simp] theorem tyA_293 : tyA Tryz.prog 293 = some (false, 1) := by kernel_rfl
@[simp] theorem tyStr_293 : tyStr Tryz.prog 293 = false := by kernel_rfl
@[simp] theorem tySrc_293 : tySrc Tryz.prog 293 = false := by kernel_rfl
@[simp] theorem tyZ0_293 : tyZ0 Tryz.prog 293 = [D.v (.pointer none)] := by kernel_rfl
@[simp] theorem tyBool_293 : tyBool Tryz.prog 293 = false := by kernel_rfl
@[simp] theorem tyInt_293 : tyInt Tryz.prog 293 = none := by kernel_rfl
@[simp] theorem tyZ_293 : tyZ Tryz.prog 293 = some [.pointer none] := by kernel_rfl
@[simp] theorem tyConc_293 : tyConc Tryz.prog 293 = true := by kernel_rfl
@[simp] theorem tyIfc_293 : tyIfc Tryz.prog 293 = false := by kernel_rfl
@[simp] theorem hasZ_293 : hasZ Tryz.prog 293 = true := by kernel_rfl
@[simp] theorem zeroV_293 : zeroV Tryz.prog 293 = V.d (D.v (.pointer none)) := by kernel_rfl
@[simp] theorem tyE_293 : tyE Tryz.prog 293 = none := by kernel_rfl
@[simp] theorem tyPtr_293 : tyPtr Tryz.prog 293 = none := by kernel_rfl
@[simp] theorem tyM_293 : tyM Tryz.prog 293 = none := by kernel_rfl
@[simp] theorem tyZV_293 : tyZV Tryz.prog 293 = some (V.d (D.v (.pointer none))) := by kernel_rfl
@[simp] theorem tyA_302 : tyA Tryz.prog 302 = some (false, 1) := by kernel_rfl
@[simp] theorem tyStr_302 : tyStr Tryz.prog 302 = false := by kernel_rfl
@[simp] theorem tySrc_302 : tySrc Tryz.prog 302 = false := by kernel_rfl
@[simp] theorem tyZ0_302 : tyZ0 Tryz.prog 302 = [D.v (.pointer none)] := by kernel_rfl
@[simp] theorem tyBool_302 : tyBool Tryz.prog 302 = false := by kernel_rfl
@[simp] theorem tyInt_302 : tyInt Tryz.prog 302 = none := by kernel_rfl
@[simp] theorem tyZ_302 : tyZ Tryz.prog 302 = some [.pointer none] := by kernel_rfl
@[simp] theorem tyConc_302 : tyConc Tryz.prog 302 = true := by kernel_rfl
@[simp] theorem tyIfc_302 : tyIfc Tryz.prog 302 = false := by kernel_rfl
@[simp] theorem hasZ_302 : hasZ Tryz.prog 302 = true := by kernel_rfl
@[simp] theorem zeroV_302 : zeroV Tryz.prog 302 = V.d (D.v (.pointer none)) := by kernel_rfl
@[simp] theorem tyE_302 : tyE Tryz.prog 302 = none := by kernel_rfl
@[simp] theorem tyPtr_302 : tyPtr Tryz.prog 302 = some 23 := by kernel_rfl
@[simp] theorem tyM_302 : tyM Tryz.prog 302 = none := by kernel_rfl
@[simp] theorem tyZV_302 : tyZV Tryz.prog 302 = some (V.d (D.v (.pointer none))) := by kernel_rfl
@[simp] theorem tyA_303 : tyA Tryz.prog 303 = some (false, 1) := by kernel_rfl
@[simp] theorem tyStr_303 : tyStr Tryz.prog 303 = false := by kernel_rfl
@[simp] theorem tySrc_303 : tySrc Tryz.prog 303 = true := by kernel_rfl
@[simp] theorem tyZ0_303 : tyZ0 Tryz.prog 303 = [D.sl []] := by kernel_rfl
@[simp] theorem tyBool_303 : tyBool Tryz.prog 303 = false := by kernel_rfl
@[simp] theorem tyInt_303 : tyInt Tryz.prog 303 = none := by kernel_rfl
@[simp] theorem tyZ_303 : tyZ Tryz.prog 303 = some [.slice none 0 0] := by kernel_rfl
@[simp] theorem tyConc_303 : tyConc Tryz.prog 303 = true := by kernel_rfl
@[simp] theorem tyIfc_303 : tyIfc Tryz.prog 303 = false := by kernel_rfl
@[simp] theorem hasZ_303 : hasZ Tryz.prog 303 = true := by kernel_rfl
@[simp] theorem zeroV_303 : zeroV Tryz.prog 303 = V.d (D.v (.slice none 0 0)) := by kernel_rfl
@[simp] theorem tyE_303 : tyE Tryz.prog 303 = some (302, 1) := by kernel_rfl
@[simp] theorem tySl_303 : tySl Tryz.prog 303 = some (302, 1, 8, [.pointer none]) := by kernel_rfl
@[simp] theorem tyPtr_303 : tyPtr Tryz.prog 303 = none := by kernel_rfl
@[simp] theorem tyM_303 : tyM Tryz.prog 303 = none := by kernel_rfl
@[simp] theorem tyZV_303 : tyZV Tryz.prog 303 = some (V.d (D.sl [])) := by kernel_rfl
@[simp] theorem tyArr_303 : tyArr Tryz.prog 303 = none := by kernel_rfl
@[simp] theorem enters_3 : enters Tryz.prog 3 = true := by kernel_rfl
@[simp] theorem enters_8 : enters Tryz.prog 8 = true := by kernel_rfl
@[simp] theorem enters_9 : enters Tryz.prog 9 = true := by kernel_rfl
@[simp] theorem enters_10 : enters Tryz.prog 10 = true := by kernel_rfl
@[simp] theorem enters_11 : enters Tryz.prog 11 = true := by kernel_rfl
@[simp] theorem enters_12 : enters Tryz.prog 12 = true := by kernel_rfl
@[simp] theorem enters_13 : enters Tryz.prog 13 = true := by kernel_rfl
@[simp] theorem enters_14 : enters Tryz.prog 14 = true := by kernel_rfl
@[simp] theorem enters_23 : enters Tryz.prog 23 = true := by kernel_rfl
@[simp] theorem enters_24 : enters Tryz.prog 24 = true := by kernel_rfl
@[simp] theorem enters_25 : enters Tryz.prog 25 = true := by kernel_rfl
@[simp] theorem enters_26 : enters Tryz.prog 26 = true := by kernel_rfl
@[simp] theorem enters_27 : enters Tryz.prog 27 = true := by kernel_rfl
@[simp] theorem enters_28 : enters Tryz.prog 28 = true := by kernel_rfl
@[simp] theorem enters_29 : enters Tryz.prog 29 = true := by kernel_rfl
@[simp] theorem enters_30 : enters Tryz.prog 30 = true := by kernel_rfl
@[simp] theorem enters_31 : enters Tryz.prog 31 = true := by kernel_rfl
@[simp] theorem enters_32 : enters Tryz.prog 32 = true := by kernel_rfl
@[simp] theorem enters_33 : enters Tryz.prog 33 = true := by kernel_rfl
@[simp] theorem enters_34 : enters Tryz.prog 34 = true := by kernel_rfl
@[simp] theorem enters_35 : enters Tryz.prog 35 = true := by kernel_rfl
@[simp] theorem enters_36 : enters Tryz.prog 36 = true := by kernel_rfl
@[simp] theorem enters_37 : enters Tryz.prog 37 = true := by kernel_rfl
@[simp] theorem enters_38 : enters Tryz.prog 38 = true := by kernel_rfl
@[simp] theorem enters_39 : enters Tryz.prog 39 = true := by kernel_rfl
@[simp] theorem enters_40 : enters Tryz.prog 40 = true := by kernel_rfl
@[simp] theorem enters_41 : enters Tryz.prog 41 = true := by kernel_rfl
@[simp] theorem enters_42 : enters Tryz.prog 42 = true := by kernel_rfl
@[simp] theorem enters_51 : enters Tryz.prog 51 = true := by kernel_rfl
@[simp] theorem enters_54 : enters Tryz.prog 54 = true := by kernel_rfl
@[simp] theorem enters_66 : enters Tryz.prog 66 = true := by kernel_rfl
@[simp] theorem enters_67 : enters Tryz.prog 67 = true := by kernel_rfl
@[simp] theorem enters_68 : enters Tryz.prog 68 = true := by kernel_rfl
@[simp] theorem enters_69 : enters Tryz.prog 69 = true := by kernel_rfl
@[simp] theorem enters_70 : enters Tryz.prog 70 = true := by kernel_rfl
@[simp] theorem enters_71 : enters Tryz.prog 71 = true := by kernel_rfl
@[simp] theorem enters_72 : enters Tryz.prog 72 = true := by kernel_rfl
@[simp] theorem enters_73 : enters Tryz.prog 73 = true := by kernel_rfl
@[simp] theorem enters_74 : enters Tryz.prog 74 = true := by kernel_rfl
@[simp] theorem enters_75 : enters Tryz.prog 75 = true := by kernel_rfl
@[simp] theorem enters_76 : enters Tryz.prog 76 = true := by kernel_rfl
@[simp] theorem enters_77 : enters Tryz.prog 77 = true := by kernel_rfl
@[simp] theorem enters_78 : enters Tryz.prog 78 = true := by kernel_rfl
@[simp] theorem enters_79 : enters Tryz.prog 79 = true := by kernel_rfl
@[simp] theorem enters_80 : enters Tryz.prog 80 = true := by kernel_rfl
@[simp] theorem enters_81 : enters Tryz.prog 81 = true := by kernel_rfl
@[simp] theorem enters_82 : enters Tryz.prog 82 = true := by kernel_rfl
@[simp] theorem enters_83 : enters Tryz.prog 83 = true := by kernel_rfl
@[simp] theorem enters_84 : enters Tryz.prog 84 = true := by kernel_rfl
@[simp] theorem enters_85 : enters Tryz.prog 85 = true := by kernel_rfl
@[simp] theorem enters_86 : enters Tryz.prog 86 = true := by kernel_rfl
@[simp] theorem enters_87 : enters Tryz.prog 87 = true := by kernel_rfl
@[simp] theorem enters_88 : enters Tryz.prog 88 = true := by kernel_rfl
@[simp] theorem enters_89 : enters Tryz.prog 89 = true := by kernel_rfl
@[simp] theorem enters_90 : enters Tryz.prog 90 = true := by kernel_rfl
@[simp] theorem enters_91 : enters Tryz.prog 91 = true := by kernel_rfl
@[simp] theorem enters_98 : enters Tryz.prog 98 = true := by kernel_rfl
@[simp] theorem enters_108 : enters Tryz.prog 108 = true := by kernel_rfl
@[simp] theorem enters_126 : enters Tryz.prog 126 = true := by kernel_rfl
@[simp] theorem enters_127 : enters Tryz.prog 127 = true := by kernel_rfl
@[simp] theorem enters_129 : enters Tryz.prog 129 = true := by kernel_rfl
@[simp] theorem enters_131 : enters Tryz.prog 131 = true := by kernel_rfl
@[simp] theorem enters_132 : enters Tryz.prog 132 = true := by kernel_rfl
@[simp] theorem enters_133 : enters Tryz.prog 133 = true := by kernel_rfl
@[simp] theorem enters_134 : enters Tryz.prog 134 = true := by kernel_rfl
@[simp] theorem enters_137 : enters Tryz.prog 137 = true := by kernel_rfl
@[simp] theorem enters_138 : enters Tryz.prog 138 = true := by kernel_rfl
@[simp] theorem enters_139 : enters Tryz.prog 139 = true := by kernel_rfl
@[simp] theorem enters_141 : enters Tryz.prog 141 = true := by kernel_rfl
@[simp] theorem enters_142 : enters Tryz.prog 142 = true := by kernel_rfl
@[simp] theorem enters_143 : enters Tryz.prog 143 = true := by kernel_rfl
@[simp] theorem enters_156 : enters Tryz.prog 156 = true := by kernel_rfl
@[simp] theorem enters_157 : enters Tryz.prog 157 = true := by kernel_rfl
@[simp] theorem enters_158 : enters Tryz.prog 158 = true := by kernel_rfl
@[simp] theorem enters_159 : enters Tryz.prog 159 = true := by kernel_rfl
@[simp] theorem enters_162 : enters Tryz.prog 162 = true := by kernel_rfl
@[simp] theorem enters_163 : enters Tryz.prog 163 = true := by kernel_rfl
@[simp] theorem enters_164 : enters Tryz.prog 164 = true := by kernel_rfl
@[simp] theorem enters_172 : enters Tryz.prog 172 = true := by kernel_rfl
@[simp] theorem enters_176 : enters Tryz.prog 176 = true := by kernel_rfl
@[simp] theorem enters_177 : enters Tryz.prog 177 = true := by kernel_rfl
@[simp] theorem enters_178 : enters Tryz.prog 178 = true := by kernel_rfl
@[simp] theorem enters_179 : enters Tryz.prog 179 = true := by kernel_rfl
@[simp] theorem enters_180 : enters Tryz.prog 180 = true := by kernel_rfl
@[simp] theorem enters_181 : enters Tryz.prog 181 = true := by kernel_rfl
@[simp] theorem enters_182 : enters Tryz.prog 182 = true := by kernel_rfl
@[simp] theorem enters_183 : enters Tryz.prog 183 = true := by kernel_rfl
@[simp] theorem enters_184 : enters Tryz.prog 184 = true := by kernel_rfl
@[simp] theorem enters_185 : enters Tryz.prog 185 = true := by kernel_rfl
@[simp] theorem enters_186 : enters Tryz.prog 186 = true := by kernel_rfl
@[simp] theorem enters_187 : enters Tryz.prog 187 = true := by kernel_rfl
@[simp] theorem enters_190 : enters Tryz.prog 190 = true := by kernel_rfl
@[simp] theorem enters_191 : enters Tryz.prog 191 = true := by kernel_rfl
@[simp] theorem enters_192 : enters Tryz.prog 192 = true := by kernel_rfl
@[simp] theorem enters_193 : enters Tryz.prog 193 = true := by kernel_rfl
@[simp] theorem enters_194 : enters Tryz.prog 194 = true := by kernel_rfl
@[simp] theorem enters_195 : enters Tryz.prog 195 = true := by kernel_rfl
@[simp] theorem enters_196 : enters Tryz.prog 196 = true := by kernel_rfl
@[simp] theorem enters_197 : enters Tryz.prog 197 = true := by kernel_rfl
@[simp] theorem enters_198 : enters Tryz.prog 198 = true := by kernel_rfl
@[simp] theorem enters_221 : enters Tryz.prog 221 = true := by kernel_rfl
@[simp] theorem enters_223 : enters Tryz.prog 223 = true := by kernel_rfl
@[simp] theorem enters_224 : enters Tryz.prog 224 = true := by kernel_rfl
@[simp] theorem enters_225 : enters Tryz.prog 225 = true := by kernel_rfl
@[simp] theorem enters_226 : enters Tryz.prog 226 = true := by kernel_rfl
@[simp] theorem enters_227 : enters Tryz.prog 227 = true := by kernel_rfl
@[simp] theorem enters_228 : enters Tryz.prog 228 = true := by kernel_rfl
@[simp] theorem enters_229 : enters Tryz.prog 229 = true := by kernel_rfl
@[simp] theorem enters_230 : enters Tryz.prog 230 = true := by kernel_rfl
@[simp] theorem enters_231 : enters Tryz.prog 231 = true := by kernel_rfl
@[simp] theorem enters_238 : enters Tryz.prog 238 = true := by kernel_rfl
@[simp] theorem enters_239 : enters Tryz.prog 239 = true := by kernel_rfl
@[simp] theorem enters_248 : enters Tryz.prog 248 = true := by kernel_rfl
@[simp] theorem enters_249 : enters Tryz.prog 249 = true := by kernel_rfl
@[simp] theorem enters_253 : enters Tryz.prog 253 = true := by kernel_rfl
@[simp] theorem enters_254 : enters Tryz.prog 254 = true := by kernel_rfl
@[simp] theorem enters_255 : enters Tryz.prog 255 = true := by kernel_rfl
@[simp] theorem enters_276 : enters Tryz.prog 276 = true := by kernel_rfl
@[simp] theorem enters_277 : enters Tryz.prog 277 = true := by kernel_rfl
@[simp] theorem enters_278 : enters Tryz.prog 278 = true := by kernel_rfl
@[simp] theorem enters_279 : enters Tryz.prog 279 = true := by kernel_rfl
@[simp] theorem enters_290 : enters Tryz.prog 290 = true := by kernel_rfl
@[simp] theorem enters_291 : enters Tryz.prog 291 = true := by kernel_rfl
@[simp] theorem enters_292 : enters Tryz.prog 292 = true := by kernel_rfl
@[simp] theorem enters_293 : enters Tryz.prog 293 = true := by kernel_rfl
@[simp] theorem enters_294 : enters Tryz.prog 294 = true := by kernel_rfl
@[simp] theorem enters_295 : enters Tryz.prog 295 = true := by kernel_rfl
@[simp] theorem enters_307 : enters Tryz.prog 307 = true := by kernel_rfl
@[simp] theorem enters_308 : enters Tryz.prog 308 = true := by kernel_rfl
@[simp] theorem enters_309 : enters Tryz.prog 309 = true := by kernel_rfl
@[simp] theorem enters_310 : enters Tryz.prog 310 = true := by kernel_rfl
@[simp] theorem enters_315 : enters Tryz.prog 315 = true := by kernel_rfl
@[simp] theorem enters_317 : enters Tryz.prog 317 = true := by kernel_rfl
end Go.Ab

namespace Go.Ab
open Go.Proofs
structure GWay where
  Dir : Int
  To : Int
  When : Int
  Else : Int
  deriving DecidableEq
def GWay.enc (x : GWay) : List D := [D.v (.int .i64 x.Dir), D.v (.int .i64 x.To), D.v (.int .i64 x.When), D.v (.int .i64 x.Else)]
@[simp] theorem GWay.enc_length (x : GWay) : x.enc.length = 4 := rfl
@[simp] theorem GWay.enc_0 (x : GWay) : x.enc[0]? = some (D.v (.int .i64 x.Dir)) := rfl
@[simp] theorem GWay.encg_0 (x : GWay) (h : 0 < x.enc.length) : x.enc[0] = D.v (.int .i64 x.Dir) := rfl
@[simp] theorem GWay.enc_1 (x : GWay) : x.enc[1]? = some (D.v (.int .i64 x.To)) := rfl
@[simp] theorem GWay.encg_1 (x : GWay) (h : 1 < x.enc.length) : x.enc[1] = D.v (.int .i64 x.To) := rfl
@[simp] theorem GWay.enc_2 (x : GWay) : x.enc[2]? = some (D.v (.int .i64 x.When)) := rfl
@[simp] theorem GWay.encg_2 (x : GWay) (h : 2 < x.enc.length) : x.enc[2] = D.v (.int .i64 x.When) := rfl
@[simp] theorem GWay.enc_3 (x : GWay) : x.enc[3]? = some (D.v (.int .i64 x.Else)) := rfl
@[simp] theorem GWay.encg_3 (x : GWay) (h : 3 < x.enc.length) : x.enc[3] = D.v (.int .i64 x.Else) := rfl
@[simp] theorem GWay.fzV (L : Heap) (x : GWay) : V.fzs L (x.enc.map V.d) = x.enc.map V.d := by simp [GWay.enc, V.fzs, V.fz]
@[simp] theorem GWay.eqV (x y : GWay) : eqVs (x.enc.map V.d) (y.enc.map V.d) = some (decide (x = y)) := by
  rcases x with ⟨a_0, a_1, a_2, a_3⟩
  rcases y with ⟨b_0, b_1, b_2, b_3⟩
  simp only [GWay.enc, List.map, eqVs, vals, eqVals, eqV1, if_true, Option.some.injEq, bytes_beq]
  rw [Bool.eq_iff_iff]
  simp [and_assoc]
@[simp] theorem GWay.fitV (x : GWay) : fitVs [.i .i64, .i .i64, .i .i64, .i .i64] (x.enc.map V.d) = true := by
  simp [GWay.enc, fitVs, vals, fits, fit1]
def GWay.zero : GWay := ⟨0, 0, 0, 0⟩
theorem GWay.zero_enc : GWay.zero.enc = [D.v (.int .i64 0), D.v (.int .i64 0), D.v (.int .i64 0), D.v (.int .i64 0)] := rfl
@[simp] theorem GWay.getZ (o : Option GWay) : (o.map GWay.enc).getD [D.v (.int .i64 0), D.v (.int .i64 0), D.v (.int .i64 0), D.v (.int .i64 0)] = (o.getD GWay.zero).enc := by cases o <;> rfl
@[simp] theorem GWay.getV (o : Option GWay) : (o.map (fun x => x.enc.map V.d)).getD [V.d (D.v (.int .i64 0)), V.d (D.v (.int .i64 0)), V.d (D.v (.int .i64 0)), V.d (D.v (.int .i64 0))] = ((o.getD GWay.zero).enc).map V.d := by cases o <;> rfl
theorem GWay.cellAt (l : List GWay) (i j : Nat) (z : D) (h : GWay.zero.enc[j]? = some z) : cellAt (dd (l.map GWay.enc)) i j [V.d z] = V.d (((l[i]?.getD GWay.zero).enc[j]?).getD default) := by
  unfold Go.Ab.cellAt
  rw [dd_get, List.getElem?_map]
  cases hl : l[i]? with
  | none => simp [h]
  | some a =>
    have hj := (List.getElem?_eq_some_iff.1 h).1
    have hj' : j < a.enc.length := by rw [GWay.enc_length] at hj ⊢; exact hj
    simp only [Option.map_some, List.getElem?_map, List.getElem?_eq_getElem hj', Option.getD_some]
@[simp] theorem GWay.cellAt_0 (l : List GWay) (i : Nat) : Go.Ab.cellAt (dd (l.map GWay.enc)) i 0 [V.d (D.v (.int .i64 0))] = V.d (D.v (.int .i64 (l[i]?.getD GWay.zero).Dir)) := (GWay.cellAt l i 0 (D.v (.int .i64 0)) rfl).trans (by simp)
@[simp] theorem GWay.cellAt_1 (l : List GWay) (i : Nat) : Go.Ab.cellAt (dd (l.map GWay.enc)) i 1 [V.d (D.v (.int .i64 0))] = V.d (D.v (.int .i64 (l[i]?.getD GWay.zero).To)) := (GWay.cellAt l i 1 (D.v (.int .i64 0)) rfl).trans (by simp)
@[simp] theorem GWay.cellAt_2 (l : List GWay) (i : Nat) : Go.Ab.cellAt (dd (l.map GWay.enc)) i 2 [V.d (D.v (.int .i64 0))] = V.d (D.v (.int .i64 (l[i]?.getD GWay.zero).When)) := (GWay.cellAt l i 2 (D.v (.int .i64 0)) rfl).trans (by simp)
@[simp] theorem GWay.cellAt_3 (l : List GWay) (i : Nat) : Go.Ab.cellAt (dd (l.map GWay.enc)) i 3 [V.d (D.v (.int .i64 0))] = V.d (D.v (.int .i64 (l[i]?.getD GWay.zero).Else)) := (GWay.cellAt l i 3 (D.v (.int .i64 0)) rfl).trans (by simp)
@[simp] theorem GWay.aggAt (l : List GWay) (i : Nat) : Go.Ab.aggAt (dd (l.map GWay.enc)) i 0 4 [V.d (D.v (.int .i64 0)), V.d (D.v (.int .i64 0)), V.d (D.v (.int .i64 0)), V.d (D.v (.int .i64 0))] = (l[i]?.getD GWay.zero).enc.map V.d := by
  unfold Go.Ab.aggAt
  rw [dd_get, List.getElem?_map]
  cases l[i]? with
  | none => rfl
  | some x => simp; cases x; rfl
@[simp] theorem GWay.dropAll (x : GWay) : List.drop 4 x.enc = [] := rfl
@[simp] theorem GWay.dropAllv (x : GWay) : List.drop 4 (x.enc.map V.d) = [] := rfl
@[simp] theorem GWay.enc_all (x : GWay) : x.enc.take 4 = x.enc := rfl
@[simp] theorem GWay.enc_allv (x : GWay) : List.take 4 (x.enc.map V.d) = x.enc.map V.d := rfl
def GWay.wf (x : GWay) : Prop := inR .i64 x.Dir ∧ inR .i64 x.To ∧ inR .i64 x.When ∧ inR .i64 x.Else
theorem GWay.wf_When {x : GWay} (h : x.wf) : inR .i64 x.When := h.2.2.1
theorem GWay.wf_Else {x : GWay} (h : x.wf) : inR .i64 x.Else := h.2.2.2
theorem tyK_191 : tyK Tryz.prog 191 = .st [3, 3, 3, 3] := by kernel_rfl
theorem tyK_3 : tyK Tryz.prog 3 = .int .i64 := by kernel_rfl
theorem GWay.of {ys : List D} (h : HasT Tryz.prog 191 ys) : ∃ x : GWay, ys = x.enc ∧ x.wf := by
  have h' := HasT.st_inv h tyK_191
  obtain ⟨a0_, r0, hr0, t0, h0⟩ := h'
  obtain ⟨a1_, r1, hr1, t1, h1⟩ := h0
  obtain ⟨a2_, r2, hr2, t2, h2⟩ := h1
  obtain ⟨a3_, r3, hr3, t3, h3⟩ := h2
  simp only [HasTs] at h3
  subst h3
  subst hr3
  subst hr2
  subst hr1
  subst hr0
  obtain ⟨a0_', rfl, a0_w⟩ := HasT.int_inv t0 tyK_3
  obtain ⟨a1_', rfl, a1_w⟩ := HasT.int_inv t1 tyK_3
  obtain ⟨a2_', rfl, a2_w⟩ := HasT.int_inv t2 tyK_3
  obtain ⟨a3_', rfl, a3_w⟩ := HasT.int_inv t3 tyK_3
  exact ⟨⟨a0_', a1_', a2_', a3_'⟩, rfl, ⟨a0_w, a1_w, a2_w, a3_w⟩⟩
structure GThing where
  Title : Int
  Text : Int
  Parent : Int
  Flags : Int
  Room : Bool
  Props : (List Int)
  Words : (List ByteArray)
  Adjs : (List ByteArray)
  Ways : (List GWay)
  deriving DecidableEq
def GThing.enc (x : GThing) : List D := [D.v (.int .i64 x.Title), D.v (.int .i64 x.Text), D.v (.int .i64 x.Parent), D.v (.int .i64 x.Flags), D.v (.bool x.Room), D.sl (encI x.Props), D.sl (encS x.Words), D.sl (encS x.Adjs), D.sl (x.Ways.map GWay.enc)]
@[simp] theorem GThing.enc_length (x : GThing) : x.enc.length = 9 := rfl
@[simp] theorem GThing.enc_0 (x : GThing) : x.enc[0]? = some (D.v (.int .i64 x.Title)) := rfl
@[simp] theorem GThing.encg_0 (x : GThing) (h : 0 < x.enc.length) : x.enc[0] = D.v (.int .i64 x.Title) := rfl
@[simp] theorem GThing.enc_1 (x : GThing) : x.enc[1]? = some (D.v (.int .i64 x.Text)) := rfl
@[simp] theorem GThing.encg_1 (x : GThing) (h : 1 < x.enc.length) : x.enc[1] = D.v (.int .i64 x.Text) := rfl
@[simp] theorem GThing.enc_2 (x : GThing) : x.enc[2]? = some (D.v (.int .i64 x.Parent)) := rfl
@[simp] theorem GThing.encg_2 (x : GThing) (h : 2 < x.enc.length) : x.enc[2] = D.v (.int .i64 x.Parent) := rfl
@[simp] theorem GThing.enc_3 (x : GThing) : x.enc[3]? = some (D.v (.int .i64 x.Flags)) := rfl
@[simp] theorem GThing.encg_3 (x : GThing) (h : 3 < x.enc.length) : x.enc[3] = D.v (.int .i64 x.Flags) := rfl
@[simp] theorem GThing.enc_4 (x : GThing) : x.enc[4]? = some (D.v (.bool x.Room)) := rfl
@[simp] theorem GThing.encg_4 (x : GThing) (h : 4 < x.enc.length) : x.enc[4] = D.v (.bool x.Room) := rfl
@[simp] theorem GThing.enc_5 (x : GThing) : x.enc[5]? = some (D.sl (encI x.Props)) := rfl
@[simp] theorem GThing.encg_5 (x : GThing) (h : 5 < x.enc.length) : x.enc[5] = D.sl (encI x.Props) := rfl
@[simp] theorem GThing.enc_6 (x : GThing) : x.enc[6]? = some (D.sl (encS x.Words)) := rfl
@[simp] theorem GThing.encg_6 (x : GThing) (h : 6 < x.enc.length) : x.enc[6] = D.sl (encS x.Words) := rfl
@[simp] theorem GThing.enc_7 (x : GThing) : x.enc[7]? = some (D.sl (encS x.Adjs)) := rfl
@[simp] theorem GThing.encg_7 (x : GThing) (h : 7 < x.enc.length) : x.enc[7] = D.sl (encS x.Adjs) := rfl
@[simp] theorem GThing.enc_8 (x : GThing) : x.enc[8]? = some (D.sl (x.Ways.map GWay.enc)) := rfl
@[simp] theorem GThing.encg_8 (x : GThing) (h : 8 < x.enc.length) : x.enc[8] = D.sl (x.Ways.map GWay.enc) := rfl
@[simp] theorem GThing.fzV (L : Heap) (x : GThing) : V.fzs L (x.enc.map V.d) = x.enc.map V.d := by simp [GThing.enc, V.fzs, V.fz]
def GThing.zero : GThing := ⟨0, 0, 0, 0, false, [], [], [], []⟩
theorem GThing.zero_enc : GThing.zero.enc = [D.v (.int .i64 0), D.v (.int .i64 0), D.v (.int .i64 0), D.v (.int .i64 0), D.v (.bool false), D.sl [], D.sl [], D.sl [], D.sl []] := rfl
@[simp] theorem GThing.getZ (o : Option GThing) : (o.map GThing.enc).getD [D.v (.int .i64 0), D.v (.int .i64 0), D.v (.int .i64 0), D.v (.int .i64 0), D.v (.bool false), D.sl [], D.sl [], D.sl [], D.sl []] = (o.getD GThing.zero).enc := by cases o <;> rfl
@[simp] theorem GThing.getV (o : Option GThing) : (o.map (fun x => x.enc.map V.d)).getD [V.d (D.v (.int .i64 0)), V.d (D.v (.int .i64 0)), V.d (D.v (.int .i64 0)), V.d (D.v (.int .i64 0)), V.d (D.v (.bool false)), V.d (D.sl []), V.d (D.sl []), V.d (D.sl []), V.d (D.sl [])] = ((o.getD GThing.zero).enc).map V.d := by cases o <;> rfl
theorem GThing.cellAt (l : List GThing) (i j : Nat) (z : D) (h : GThing.zero.enc[j]? = some z) : cellAt (dd (l.map GThing.enc)) i j [V.d z] = V.d (((l[i]?.getD GThing.zero).enc[j]?).getD default) := by
  unfold Go.Ab.cellAt
  rw [dd_get, List.getElem?_map]
  cases hl : l[i]? with
  | none => simp [h]
  | some a =>
    have hj := (List.getElem?_eq_some_iff.1 h).1
    have hj' : j < a.enc.length := by rw [GThing.enc_length] at hj ⊢; exact hj
    simp only [Option.map_some, List.getElem?_map, List.getElem?_eq_getElem hj', Option.getD_some]
@[simp] theorem GThing.cellAt_0 (l : List GThing) (i : Nat) : Go.Ab.cellAt (dd (l.map GThing.enc)) i 0 [V.d (D.v (.int .i64 0))] = V.d (D.v (.int .i64 (l[i]?.getD GThing.zero).Title)) := (GThing.cellAt l i 0 (D.v (.int .i64 0)) rfl).trans (by simp)
@[simp] theorem GThing.cellAt_1 (l : List GThing) (i : Nat) : Go.Ab.cellAt (dd (l.map GThing.enc)) i 1 [V.d (D.v (.int .i64 0))] = V.d (D.v (.int .i64 (l[i]?.getD GThing.zero).Text)) := (GThing.cellAt l i 1 (D.v (.int .i64 0)) rfl).trans (by simp)
@[simp] theorem GThing.cellAt_2 (l : List GThing) (i : Nat) : Go.Ab.cellAt (dd (l.map GThing.enc)) i 2 [V.d (D.v (.int .i64 0))] = V.d (D.v (.int .i64 (l[i]?.getD GThing.zero).Parent)) := (GThing.cellAt l i 2 (D.v (.int .i64 0)) rfl).trans (by simp)
@[simp] theorem GThing.cellAt_3 (l : List GThing) (i : Nat) : Go.Ab.cellAt (dd (l.map GThing.enc)) i 3 [V.d (D.v (.int .i64 0))] = V.d (D.v (.int .i64 (l[i]?.getD GThing.zero).Flags)) := (GThing.cellAt l i 3 (D.v (.int .i64 0)) rfl).trans (by simp)
@[simp] theorem GThing.cellAt_4 (l : List GThing) (i : Nat) : Go.Ab.cellAt (dd (l.map GThing.enc)) i 4 [V.d (D.v (.bool false))] = V.d (D.v (.bool (l[i]?.getD GThing.zero).Room)) := (GThing.cellAt l i 4 (D.v (.bool false)) rfl).trans (by simp)
@[simp] theorem GThing.cellAt_5 (l : List GThing) (i : Nat) : Go.Ab.cellAt (dd (l.map GThing.enc)) i 5 [V.d (D.sl [])] = V.d (D.sl (encI (l[i]?.getD GThing.zero).Props)) := (GThing.cellAt l i 5 (D.sl []) rfl).trans (by simp)
@[simp] theorem GThing.cellAt_6 (l : List GThing) (i : Nat) : Go.Ab.cellAt (dd (l.map GThing.enc)) i 6 [V.d (D.sl [])] = V.d (D.sl (encS (l[i]?.getD GThing.zero).Words)) := (GThing.cellAt l i 6 (D.sl []) rfl).trans (by simp)
@[simp] theorem GThing.cellAt_7 (l : List GThing) (i : Nat) : Go.Ab.cellAt (dd (l.map GThing.enc)) i 7 [V.d (D.sl [])] = V.d (D.sl (encS (l[i]?.getD GThing.zero).Adjs)) := (GThing.cellAt l i 7 (D.sl []) rfl).trans (by simp)
@[simp] theorem GThing.cellAt_8 (l : List GThing) (i : Nat) : Go.Ab.cellAt (dd (l.map GThing.enc)) i 8 [V.d (D.sl [])] = V.d (D.sl ((l[i]?.getD GThing.zero).Ways.map GWay.enc)) := (GThing.cellAt l i 8 (D.sl []) rfl).trans (by simp)
@[simp] theorem GThing.aggAt (l : List GThing) (i : Nat) : Go.Ab.aggAt (dd (l.map GThing.enc)) i 0 9 [V.d (D.v (.int .i64 0)), V.d (D.v (.int .i64 0)), V.d (D.v (.int .i64 0)), V.d (D.v (.int .i64 0)), V.d (D.v (.bool false)), V.d (D.sl []), V.d (D.sl []), V.d (D.sl []), V.d (D.sl [])] = (l[i]?.getD GThing.zero).enc.map V.d := by
  unfold Go.Ab.aggAt
  rw [dd_get, List.getElem?_map]
  cases l[i]? with
  | none => rfl
  | some x => simp; cases x; rfl
@[simp] theorem GThing.dropAll (x : GThing) : List.drop 9 x.enc = [] := rfl
@[simp] theorem GThing.dropAllv (x : GThing) : List.drop 9 (x.enc.map V.d) = [] := rfl
@[simp] theorem GThing.enc_all (x : GThing) : x.enc.take 9 = x.enc := rfl
@[simp] theorem GThing.enc_allv (x : GThing) : List.take 9 (x.enc.map V.d) = x.enc.map V.d := rfl
def GThing.wf (x : GThing) : Prop := inR .i64 x.Title ∧ inR .i64 x.Text ∧ inR .i64 x.Parent ∧ inR .i64 x.Flags ∧ x.Props.length * 8 ≤ 140737488351232 ∧ (∀ y0 : Int, y0 ∈ x.Props → inR .i64 y0) ∧ x.Words.length * 16 ≤ 140737488351232 ∧ (∀ y0 : ByteArray, y0 ∈ x.Words → y0.size ≤ 140737488351232) ∧ x.Adjs.length * 16 ≤ 140737488351232 ∧ (∀ y0 : ByteArray, y0 ∈ x.Adjs → y0.size ≤ 140737488351232) ∧ x.Ways.length * 32 ≤ 140737488351232 ∧ (∀ y0 : GWay, y0 ∈ x.Ways → y0.wf)
theorem GThing.wf_Title {x : GThing} (h : x.wf) : inR .i64 x.Title := h.1
theorem GThing.wf_Parent {x : GThing} (h : x.wf) : inR .i64 x.Parent := h.2.2.1
theorem GThing.wf_Flags {x : GThing} (h : x.wf) : inR .i64 x.Flags := h.2.2.2.1
theorem GThing.wl_Props {x : GThing} (h : x.wf) : x.Props.length * 8 ≤ 140737488351232 := h.2.2.2.2.1
theorem GThing.wf_Props {x : GThing} (h : x.wf) : (∀ y0 : Int, y0 ∈ x.Props → inR .i64 y0) := h.2.2.2.2.2.1
theorem GThing.wl_Words {x : GThing} (h : x.wf) : x.Words.length * 16 ≤ 140737488351232 := h.2.2.2.2.2.2.1
theorem GThing.wf_Words {x : GThing} (h : x.wf) : (∀ y0 : ByteArray, y0 ∈ x.Words → y0.size ≤ 140737488351232) := h.2.2.2.2.2.2.2.1
theorem GThing.wl_Adjs {x : GThing} (h : x.wf) : x.Adjs.length * 16 ≤ 140737488351232 := h.2.2.2.2.2.2.2.2.1
theorem GThing.wf_Adjs {x : GThing} (h : x.wf) : (∀ y0 : ByteArray, y0 ∈ x.Adjs → y0.size ≤ 140737488351232) := h.2.2.2.2.2.2.2.2.2.1
theorem GThing.wl_Ways {x : GThing} (h : x.wf) : x.Ways.length * 32 ≤ 140737488351232 := h.2.2.2.2.2.2.2.2.2.2.1
theorem GThing.wf_Ways {x : GThing} (h : x.wf) : (∀ y0 : GWay, y0 ∈ x.Ways → y0.wf) := h.2.2.2.2.2.2.2.2.2.2.2
theorem tyK_37 : tyK Tryz.prog 37 = .st [3, 3, 3, 3, 4, 23, 22, 22, 35] := by kernel_rfl
theorem tyK_4 : tyK Tryz.prog 4 = .bool := by kernel_rfl
theorem tyK_23 : tyK Tryz.prog 23 = .sl 3 8 := by kernel_rfl
theorem tyK_22 : tyK Tryz.prog 22 = .sl 9 16 := by kernel_rfl
theorem tyK_9 : tyK Tryz.prog 9 = .str := by kernel_rfl
theorem tyK_35 : tyK Tryz.prog 35 = .sl 191 32 := by kernel_rfl
theorem GThing.of {ys : List D} (h : HasT Tryz.prog 37 ys) : ∃ x : GThing, ys = x.enc ∧ x.wf := by
  have h' := HasT.st_inv h tyK_37
  obtain ⟨a0_, r0, hr0, t0, h0⟩ := h'
  obtain ⟨a1_, r1, hr1, t1, h1⟩ := h0
  obtain ⟨a2_, r2, hr2, t2, h2⟩ := h1
  obtain ⟨a3_, r3, hr3, t3, h3⟩ := h2
  obtain ⟨a4_, r4, hr4, t4, h4⟩ := h3
  obtain ⟨a5_, r5, hr5, t5, h5⟩ := h4
  obtain ⟨a6_, r6, hr6, t6, h6⟩ := h5
  obtain ⟨a7_, r7, hr7, t7, h7⟩ := h6
  obtain ⟨a8_, r8, hr8, t8, h8⟩ := h7
  simp only [HasTs] at h8
  subst h8
  subst hr8
  subst hr7
  subst hr6
  subst hr5
  subst hr4
  subst hr3
  subst hr2
  subst hr1
  subst hr0
  obtain ⟨a0_', rfl, a0_w⟩ := HasT.int_inv t0 tyK_3
  obtain ⟨a1_', rfl, a1_w⟩ := HasT.int_inv t1 tyK_3
  obtain ⟨a2_', rfl, a2_w⟩ := HasT.int_inv t2 tyK_3
  obtain ⟨a3_', rfl, a3_w⟩ := HasT.int_inv t3 tyK_3
  obtain ⟨a4_', rfl⟩ := HasT.bool_inv t4 tyK_4
  obtain ⟨a5_0, rfl, a5_h, a5_l, a5_w⟩ := HasT.sl_inv t5 tyK_23
  obtain ⟨a5_', rfl, a5_a⟩ := map_of (f := (fun y => [D.v (.int .i64 y)])) (p := fun (y : Int) => inR .i64 y) (fun a5_e hx => by
    have a5_q := a5_h a5_e hx
    obtain ⟨a5_e', rfl, a5_ew⟩ := HasT.int_inv a5_q tyK_3
    exact ⟨a5_e', rfl, a5_ew⟩)
  obtain ⟨a6_0, rfl, a6_h, a6_l, a6_w⟩ := HasT.sl_inv t6 tyK_22
  obtain ⟨a6_', rfl, a6_a⟩ := map_of (f := (fun y => [D.v (.string y)])) (p := fun (y : ByteArray) => y.size ≤ 140737488351232) (fun a6_e hx => by
    have a6_q := a6_h a6_e hx
    obtain ⟨a6_e', rfl, a6_ew⟩ := HasT.str_inv a6_q tyK_9
    exact ⟨a6_e', rfl, a6_ew⟩)
  obtain ⟨a7_0, rfl, a7_h, a7_l, a7_w⟩ := HasT.sl_inv t7 tyK_22
  obtain ⟨a7_', rfl, a7_a⟩ := map_of (f := (fun y => [D.v (.string y)])) (p := fun (y : ByteArray) => y.size ≤ 140737488351232) (fun a7_e hx => by
    have a7_q := a7_h a7_e hx
    obtain ⟨a7_e', rfl, a7_ew⟩ := HasT.str_inv a7_q tyK_9
    exact ⟨a7_e', rfl, a7_ew⟩)
  obtain ⟨a8_0, rfl, a8_h, a8_l, a8_w⟩ := HasT.sl_inv t8 tyK_35
  obtain ⟨a8_', rfl, a8_a⟩ := map_of (f := GWay.enc) (p := fun (y : GWay) => y.wf) (fun a8_e hx => by
    have a8_q := a8_h a8_e hx
    obtain ⟨a8_e', rfl, a8_ew⟩ := GWay.of a8_q
    exact ⟨a8_e', rfl, a8_ew⟩)
  exact ⟨⟨a0_', a1_', a2_', a3_', a4_', a5_', a6_', a7_', a8_'⟩, rfl, ⟨a0_w, a1_w, a2_w, a3_w, (by simpa using a5_w), a5_a, (by simpa using a6_w), a6_a, (by simpa using a7_w), a7_a, (by simpa using a8_w), a8_a⟩⟩
structure GSlot where
  Kind : Int
  Words : (List ByteArray)
  deriving DecidableEq
def GSlot.enc (x : GSlot) : List D := [D.v (.int .i64 x.Kind), D.sl (encS x.Words)]
@[simp] theorem GSlot.enc_length (x : GSlot) : x.enc.length = 2 := rfl
@[simp] theorem GSlot.enc_0 (x : GSlot) : x.enc[0]? = some (D.v (.int .i64 x.Kind)) := rfl
@[simp] theorem GSlot.encg_0 (x : GSlot) (h : 0 < x.enc.length) : x.enc[0] = D.v (.int .i64 x.Kind) := rfl
@[simp] theorem GSlot.enc_1 (x : GSlot) : x.enc[1]? = some (D.sl (encS x.Words)) := rfl
@[simp] theorem GSlot.encg_1 (x : GSlot) (h : 1 < x.enc.length) : x.enc[1] = D.sl (encS x.Words) := rfl
@[simp] theorem GSlot.fzV (L : Heap) (x : GSlot) : V.fzs L (x.enc.map V.d) = x.enc.map V.d := by simp [GSlot.enc, V.fzs, V.fz]
def GSlot.zero : GSlot := ⟨0, []⟩
theorem GSlot.zero_enc : GSlot.zero.enc = [D.v (.int .i64 0), D.sl []] := rfl
@[simp] theorem GSlot.getZ (o : Option GSlot) : (o.map GSlot.enc).getD [D.v (.int .i64 0), D.sl []] = (o.getD GSlot.zero).enc := by cases o <;> rfl
@[simp] theorem GSlot.getV (o : Option GSlot) : (o.map (fun x => x.enc.map V.d)).getD [V.d (D.v (.int .i64 0)), V.d (D.sl [])] = ((o.getD GSlot.zero).enc).map V.d := by cases o <;> rfl
theorem GSlot.cellAt (l : List GSlot) (i j : Nat) (z : D) (h : GSlot.zero.enc[j]? = some z) : cellAt (dd (l.map GSlot.enc)) i j [V.d z] = V.d (((l[i]?.getD GSlot.zero).enc[j]?).getD default) := by
  unfold Go.Ab.cellAt
  rw [dd_get, List.getElem?_map]
  cases hl : l[i]? with
  | none => simp [h]
  | some a =>
    have hj := (List.getElem?_eq_some_iff.1 h).1
    have hj' : j < a.enc.length := by rw [GSlot.enc_length] at hj ⊢; exact hj
    simp only [Option.map_some, List.getElem?_map, List.getElem?_eq_getElem hj', Option.getD_some]
@[simp] theorem GSlot.cellAt_0 (l : List GSlot) (i : Nat) : Go.Ab.cellAt (dd (l.map GSlot.enc)) i 0 [V.d (D.v (.int .i64 0))] = V.d (D.v (.int .i64 (l[i]?.getD GSlot.zero).Kind)) := (GSlot.cellAt l i 0 (D.v (.int .i64 0)) rfl).trans (by simp)
@[simp] theorem GSlot.cellAt_1 (l : List GSlot) (i : Nat) : Go.Ab.cellAt (dd (l.map GSlot.enc)) i 1 [V.d (D.sl [])] = V.d (D.sl (encS (l[i]?.getD GSlot.zero).Words)) := (GSlot.cellAt l i 1 (D.sl []) rfl).trans (by simp)
@[simp] theorem GSlot.aggAt (l : List GSlot) (i : Nat) : Go.Ab.aggAt (dd (l.map GSlot.enc)) i 0 2 [V.d (D.v (.int .i64 0)), V.d (D.sl [])] = (l[i]?.getD GSlot.zero).enc.map V.d := by
  unfold Go.Ab.aggAt
  rw [dd_get, List.getElem?_map]
  cases l[i]? with
  | none => rfl
  | some x => simp; cases x; rfl
@[simp] theorem GSlot.dropAll (x : GSlot) : List.drop 2 x.enc = [] := rfl
@[simp] theorem GSlot.dropAllv (x : GSlot) : List.drop 2 (x.enc.map V.d) = [] := rfl
@[simp] theorem GSlot.enc_all (x : GSlot) : x.enc.take 2 = x.enc := rfl
@[simp] theorem GSlot.enc_allv (x : GSlot) : List.take 2 (x.enc.map V.d) = x.enc.map V.d := rfl
def GSlot.wf (x : GSlot) : Prop := inR .i64 x.Kind ∧ x.Words.length * 16 ≤ 140737488351232 ∧ (∀ y0 : ByteArray, y0 ∈ x.Words → y0.size ≤ 140737488351232)
theorem GSlot.wf_Kind {x : GSlot} (h : x.wf) : inR .i64 x.Kind := h.1
theorem GSlot.wl_Words {x : GSlot} (h : x.wf) : x.Words.length * 16 ≤ 140737488351232 := h.2.1
theorem GSlot.wf_Words {x : GSlot} (h : x.wf) : (∀ y0 : ByteArray, y0 ∈ x.Words → y0.size ≤ 140737488351232) := h.2.2
theorem tyK_193 : tyK Tryz.prog 193 = .st [3, 22] := by kernel_rfl
theorem GSlot.of {ys : List D} (h : HasT Tryz.prog 193 ys) : ∃ x : GSlot, ys = x.enc ∧ x.wf := by
  have h' := HasT.st_inv h tyK_193
  obtain ⟨a0_, r0, hr0, t0, h0⟩ := h'
  obtain ⟨a1_, r1, hr1, t1, h1⟩ := h0
  simp only [HasTs] at h1
  subst h1
  subst hr1
  subst hr0
  obtain ⟨a0_', rfl, a0_w⟩ := HasT.int_inv t0 tyK_3
  obtain ⟨a1_0, rfl, a1_h, a1_l, a1_w⟩ := HasT.sl_inv t1 tyK_22
  obtain ⟨a1_', rfl, a1_a⟩ := map_of (f := (fun y => [D.v (.string y)])) (p := fun (y : ByteArray) => y.size ≤ 140737488351232) (fun a1_e hx => by
    have a1_q := a1_h a1_e hx
    obtain ⟨a1_e', rfl, a1_ew⟩ := HasT.str_inv a1_q tyK_9
    exact ⟨a1_e', rfl, a1_ew⟩)
  exact ⟨⟨a0_', a1_'⟩, rfl, ⟨a0_w, (by simpa using a1_w), a1_a⟩⟩
structure GAct where
  Meta : Bool
  Lines : (List (List GSlot))
  deriving DecidableEq
def GAct.enc (x : GAct) : List D := [D.v (.bool x.Meta), D.sl (encSl (List.map GSlot.enc) x.Lines)]
@[simp] theorem GAct.enc_length (x : GAct) : x.enc.length = 2 := rfl
@[simp] theorem GAct.enc_0 (x : GAct) : x.enc[0]? = some (D.v (.bool x.Meta)) := rfl
@[simp] theorem GAct.encg_0 (x : GAct) (h : 0 < x.enc.length) : x.enc[0] = D.v (.bool x.Meta) := rfl
@[simp] theorem GAct.enc_1 (x : GAct) : x.enc[1]? = some (D.sl (encSl (List.map GSlot.enc) x.Lines)) := rfl
@[simp] theorem GAct.encg_1 (x : GAct) (h : 1 < x.enc.length) : x.enc[1] = D.sl (encSl (List.map GSlot.enc) x.Lines) := rfl
@[simp] theorem GAct.fzV (L : Heap) (x : GAct) : V.fzs L (x.enc.map V.d) = x.enc.map V.d := by simp [GAct.enc, V.fzs, V.fz]
def GAct.zero : GAct := ⟨false, []⟩
theorem GAct.zero_enc : GAct.zero.enc = [D.v (.bool false), D.sl []] := rfl
@[simp] theorem GAct.getZ (o : Option GAct) : (o.map GAct.enc).getD [D.v (.bool false), D.sl []] = (o.getD GAct.zero).enc := by cases o <;> rfl
@[simp] theorem GAct.getV (o : Option GAct) : (o.map (fun x => x.enc.map V.d)).getD [V.d (D.v (.bool false)), V.d (D.sl [])] = ((o.getD GAct.zero).enc).map V.d := by cases o <;> rfl
theorem GAct.cellAt (l : List GAct) (i j : Nat) (z : D) (h : GAct.zero.enc[j]? = some z) : cellAt (dd (l.map GAct.enc)) i j [V.d z] = V.d (((l[i]?.getD GAct.zero).enc[j]?).getD default) := by
  unfold Go.Ab.cellAt
  rw [dd_get, List.getElem?_map]
  cases hl : l[i]? with
  | none => simp [h]
  | some a =>
    have hj := (List.getElem?_eq_some_iff.1 h).1
    have hj' : j < a.enc.length := by rw [GAct.enc_length] at hj ⊢; exact hj
    simp only [Option.map_some, List.getElem?_map, List.getElem?_eq_getElem hj', Option.getD_some]
@[simp] theorem GAct.cellAt_0 (l : List GAct) (i : Nat) : Go.Ab.cellAt (dd (l.map GAct.enc)) i 0 [V.d (D.v (.bool false))] = V.d (D.v (.bool (l[i]?.getD GAct.zero).Meta)) := (GAct.cellAt l i 0 (D.v (.bool false)) rfl).trans (by simp)
@[simp] theorem GAct.cellAt_1 (l : List GAct) (i : Nat) : Go.Ab.cellAt (dd (l.map GAct.enc)) i 1 [V.d (D.sl [])] = V.d (D.sl (encSl (List.map GSlot.enc) (l[i]?.getD GAct.zero).Lines)) := (GAct.cellAt l i 1 (D.sl []) rfl).trans (by simp)
@[simp] theorem GAct.aggAt (l : List GAct) (i : Nat) : Go.Ab.aggAt (dd (l.map GAct.enc)) i 0 2 [V.d (D.v (.bool false)), V.d (D.sl [])] = (l[i]?.getD GAct.zero).enc.map V.d := by
  unfold Go.Ab.aggAt
  rw [dd_get, List.getElem?_map]
  cases l[i]? with
  | none => rfl
  | some x => simp; cases x; rfl
@[simp] theorem GAct.dropAll (x : GAct) : List.drop 2 x.enc = [] := rfl
@[simp] theorem GAct.dropAllv (x : GAct) : List.drop 2 (x.enc.map V.d) = [] := rfl
@[simp] theorem GAct.enc_all (x : GAct) : x.enc.take 2 = x.enc := rfl
@[simp] theorem GAct.enc_allv (x : GAct) : List.take 2 (x.enc.map V.d) = x.enc.map V.d := rfl
def GAct.wf (x : GAct) : Prop := x.Lines.length * 24 ≤ 140737488351232 ∧ (∀ y0 : (List GSlot), y0 ∈ x.Lines → y0.length * 32 ≤ 140737488351232 ∧ (∀ y1 : GSlot, y1 ∈ y0 → y1.wf))
theorem GAct.wl_Lines {x : GAct} (h : x.wf) : x.Lines.length * 24 ≤ 140737488351232 := h.1
theorem GAct.wf_Lines {x : GAct} (h : x.wf) : (∀ y0 : (List GSlot), y0 ∈ x.Lines → y0.length * 32 ≤ 140737488351232 ∧ (∀ y1 : GSlot, y1 ∈ y0 → y1.wf)) := h.2
theorem tyK_135 : tyK Tryz.prog 135 = .st [4, 133] := by kernel_rfl
theorem tyK_133 : tyK Tryz.prog 133 = .sl 137 24 := by kernel_rfl
theorem tyK_137 : tyK Tryz.prog 137 = .sl 193 32 := by kernel_rfl
theorem GAct.of {ys : List D} (h : HasT Tryz.prog 135 ys) : ∃ x : GAct, ys = x.enc ∧ x.wf := by
  have h' := HasT.st_inv h tyK_135
  obtain ⟨a0_, r0, hr0, t0, h0⟩ := h'
  obtain ⟨a1_, r1, hr1, t1, h1⟩ := h0
  simp only [HasTs] at h1
  subst h1
  subst hr1
  subst hr0
  obtain ⟨a0_', rfl⟩ := HasT.bool_inv t0 tyK_4
  obtain ⟨a1_0, rfl, a1_h, a1_l, a1_w⟩ := HasT.sl_inv t1 tyK_133
  obtain ⟨a1_', rfl, a1_a⟩ := map_of (f := (fun y => [D.sl (y.map GSlot.enc)])) (p := fun (y : (List GSlot)) => y.length * 32 ≤ 140737488351232 ∧ (∀ y1 : GSlot, y1 ∈ y → y1.wf)) (fun a1_e hx => by
    have a1_q := a1_h a1_e hx
    obtain ⟨a1_e0, rfl, a1_eh, a1_el, a1_ew⟩ := HasT.sl_inv a1_q tyK_137
    obtain ⟨a1_e', rfl, a1_ea⟩ := map_of (f := GSlot.enc) (p := fun (y : GSlot) => y.wf) (fun a1_ee hx => by
      have a1_eq := a1_eh a1_ee hx
      obtain ⟨a1_ee', rfl, a1_eew⟩ := GSlot.of a1_eq
      exact ⟨a1_ee', rfl, a1_eew⟩)
    exact ⟨a1_e', rfl, ⟨(by simpa using a1_ew), a1_ea⟩⟩)
  exact ⟨⟨a0_', a1_'⟩, rfl, ⟨(by simpa using a1_w), a1_a⟩⟩
structure GDeed where
  Verb : Int
  Phase : Int
  Noun : Int
  Second : Int
  When : Int
  Body : Int
  deriving DecidableEq
def GDeed.enc (x : GDeed) : List D := [D.v (.int .i64 x.Verb), D.v (.int .i64 x.Phase), D.v (.int .i64 x.Noun), D.v (.int .i64 x.Second), D.v (.int .i64 x.When), D.v (.int .i64 x.Body)]
@[simp] theorem GDeed.enc_length (x : GDeed) : x.enc.length = 6 := rfl
@[simp] theorem GDeed.enc_0 (x : GDeed) : x.enc[0]? = some (D.v (.int .i64 x.Verb)) := rfl
@[simp] theorem GDeed.encg_0 (x : GDeed) (h : 0 < x.enc.length) : x.enc[0] = D.v (.int .i64 x.Verb) := rfl
@[simp] theorem GDeed.enc_1 (x : GDeed) : x.enc[1]? = some (D.v (.int .i64 x.Phase)) := rfl
@[simp] theorem GDeed.encg_1 (x : GDeed) (h : 1 < x.enc.length) : x.enc[1] = D.v (.int .i64 x.Phase) := rfl
@[simp] theorem GDeed.enc_2 (x : GDeed) : x.enc[2]? = some (D.v (.int .i64 x.Noun)) := rfl
@[simp] theorem GDeed.encg_2 (x : GDeed) (h : 2 < x.enc.length) : x.enc[2] = D.v (.int .i64 x.Noun) := rfl
@[simp] theorem GDeed.enc_3 (x : GDeed) : x.enc[3]? = some (D.v (.int .i64 x.Second)) := rfl
@[simp] theorem GDeed.encg_3 (x : GDeed) (h : 3 < x.enc.length) : x.enc[3] = D.v (.int .i64 x.Second) := rfl
@[simp] theorem GDeed.enc_4 (x : GDeed) : x.enc[4]? = some (D.v (.int .i64 x.When)) := rfl
@[simp] theorem GDeed.encg_4 (x : GDeed) (h : 4 < x.enc.length) : x.enc[4] = D.v (.int .i64 x.When) := rfl
@[simp] theorem GDeed.enc_5 (x : GDeed) : x.enc[5]? = some (D.v (.int .i64 x.Body)) := rfl
@[simp] theorem GDeed.encg_5 (x : GDeed) (h : 5 < x.enc.length) : x.enc[5] = D.v (.int .i64 x.Body) := rfl
@[simp] theorem GDeed.fzV (L : Heap) (x : GDeed) : V.fzs L (x.enc.map V.d) = x.enc.map V.d := by simp [GDeed.enc, V.fzs, V.fz]
@[simp] theorem GDeed.eqV (x y : GDeed) : eqVs (x.enc.map V.d) (y.enc.map V.d) = some (decide (x = y)) := by
  rcases x with ⟨a_0, a_1, a_2, a_3, a_4, a_5⟩
  rcases y with ⟨b_0, b_1, b_2, b_3, b_4, b_5⟩
  simp only [GDeed.enc, List.map, eqVs, vals, eqVals, eqV1, if_true, Option.some.injEq, bytes_beq]
  rw [Bool.eq_iff_iff]
  simp [and_assoc]
@[simp] theorem GDeed.fitV (x : GDeed) : fitVs [.i .i64, .i .i64, .i .i64, .i .i64, .i .i64, .i .i64] (x.enc.map V.d) = true := by
  simp [GDeed.enc, fitVs, vals, fits, fit1]
def GDeed.zero : GDeed := ⟨0, 0, 0, 0, 0, 0⟩
theorem GDeed.zero_enc : GDeed.zero.enc = [D.v (.int .i64 0), D.v (.int .i64 0), D.v (.int .i64 0), D.v (.int .i64 0), D.v (.int .i64 0), D.v (.int .i64 0)] := rfl
@[simp] theorem GDeed.getZ (o : Option GDeed) : (o.map GDeed.enc).getD [D.v (.int .i64 0), D.v (.int .i64 0), D.v (.int .i64 0), D.v (.int .i64 0), D.v (.int .i64 0), D.v (.int .i64 0)] = (o.getD GDeed.zero).enc := by cases o <;> rfl
@[simp] theorem GDeed.getV (o : Option GDeed) : (o.map (fun x => x.enc.map V.d)).getD [V.d (D.v (.int .i64 0)), V.d (D.v (.int .i64 0)), V.d (D.v (.int .i64 0)), V.d (D.v (.int .i64 0)), V.d (D.v (.int .i64 0)), V.d (D.v (.int .i64 0))] = ((o.getD GDeed.zero).enc).map V.d := by cases o <;> rfl
theorem GDeed.cellAt (l : List GDeed) (i j : Nat) (z : D) (h : GDeed.zero.enc[j]? = some z) : cellAt (dd (l.map GDeed.enc)) i j [V.d z] = V.d (((l[i]?.getD GDeed.zero).enc[j]?).getD default) := by
  unfold Go.Ab.cellAt
  rw [dd_get, List.getElem?_map]
  cases hl : l[i]? with
  | none => simp [h]
  | some a =>
    have hj := (List.getElem?_eq_some_iff.1 h).1
    have hj' : j < a.enc.length := by rw [GDeed.enc_length] at hj ⊢; exact hj
    simp only [Option.map_some, List.getElem?_map, List.getElem?_eq_getElem hj', Option.getD_some]
@[simp] theorem GDeed.cellAt_0 (l : List GDeed) (i : Nat) : Go.Ab.cellAt (dd (l.map GDeed.enc)) i 0 [V.d (D.v (.int .i64 0))] = V.d (D.v (.int .i64 (l[i]?.getD GDeed.zero).Verb)) := (GDeed.cellAt l i 0 (D.v (.int .i64 0)) rfl).trans (by simp)
@[simp] theorem GDeed.cellAt_1 (l : List GDeed) (i : Nat) : Go.Ab.cellAt (dd (l.map GDeed.enc)) i 1 [V.d (D.v (.int .i64 0))] = V.d (D.v (.int .i64 (l[i]?.getD GDeed.zero).Phase)) := (GDeed.cellAt l i 1 (D.v (.int .i64 0)) rfl).trans (by simp)
@[simp] theorem GDeed.cellAt_2 (l : List GDeed) (i : Nat) : Go.Ab.cellAt (dd (l.map GDeed.enc)) i 2 [V.d (D.v (.int .i64 0))] = V.d (D.v (.int .i64 (l[i]?.getD GDeed.zero).Noun)) := (GDeed.cellAt l i 2 (D.v (.int .i64 0)) rfl).trans (by simp)
@[simp] theorem GDeed.cellAt_3 (l : List GDeed) (i : Nat) : Go.Ab.cellAt (dd (l.map GDeed.enc)) i 3 [V.d (D.v (.int .i64 0))] = V.d (D.v (.int .i64 (l[i]?.getD GDeed.zero).Second)) := (GDeed.cellAt l i 3 (D.v (.int .i64 0)) rfl).trans (by simp)
@[simp] theorem GDeed.cellAt_4 (l : List GDeed) (i : Nat) : Go.Ab.cellAt (dd (l.map GDeed.enc)) i 4 [V.d (D.v (.int .i64 0))] = V.d (D.v (.int .i64 (l[i]?.getD GDeed.zero).When)) := (GDeed.cellAt l i 4 (D.v (.int .i64 0)) rfl).trans (by simp)
@[simp] theorem GDeed.cellAt_5 (l : List GDeed) (i : Nat) : Go.Ab.cellAt (dd (l.map GDeed.enc)) i 5 [V.d (D.v (.int .i64 0))] = V.d (D.v (.int .i64 (l[i]?.getD GDeed.zero).Body)) := (GDeed.cellAt l i 5 (D.v (.int .i64 0)) rfl).trans (by simp)
@[simp] theorem GDeed.aggAt (l : List GDeed) (i : Nat) : Go.Ab.aggAt (dd (l.map GDeed.enc)) i 0 6 [V.d (D.v (.int .i64 0)), V.d (D.v (.int .i64 0)), V.d (D.v (.int .i64 0)), V.d (D.v (.int .i64 0)), V.d (D.v (.int .i64 0)), V.d (D.v (.int .i64 0))] = (l[i]?.getD GDeed.zero).enc.map V.d := by
  unfold Go.Ab.aggAt
  rw [dd_get, List.getElem?_map]
  cases l[i]? with
  | none => rfl
  | some x => simp; cases x; rfl
@[simp] theorem GDeed.dropAll (x : GDeed) : List.drop 6 x.enc = [] := rfl
@[simp] theorem GDeed.dropAllv (x : GDeed) : List.drop 6 (x.enc.map V.d) = [] := rfl
@[simp] theorem GDeed.enc_all (x : GDeed) : x.enc.take 6 = x.enc := rfl
@[simp] theorem GDeed.enc_allv (x : GDeed) : List.take 6 (x.enc.map V.d) = x.enc.map V.d := rfl
def GDeed.wf (x : GDeed) : Prop := inR .i64 x.Verb ∧ inR .i64 x.Phase ∧ inR .i64 x.Noun ∧ inR .i64 x.Second ∧ inR .i64 x.When ∧ inR .i64 x.Body
theorem GDeed.wf_Noun {x : GDeed} (h : x.wf) : inR .i64 x.Noun := h.2.2.1
theorem GDeed.wf_Second {x : GDeed} (h : x.wf) : inR .i64 x.Second := h.2.2.2.1
theorem GDeed.wf_When {x : GDeed} (h : x.wf) : inR .i64 x.When := h.2.2.2.2.1
theorem GDeed.wf_Body {x : GDeed} (h : x.wf) : inR .i64 x.Body := h.2.2.2.2.2
theorem tyK_139 : tyK Tryz.prog 139 = .st [3, 3, 3, 3, 3, 3] := by kernel_rfl
theorem GDeed.of {ys : List D} (h : HasT Tryz.prog 139 ys) : ∃ x : GDeed, ys = x.enc ∧ x.wf := by
  have h' := HasT.st_inv h tyK_139
  obtain ⟨a0_, r0, hr0, t0, h0⟩ := h'
  obtain ⟨a1_, r1, hr1, t1, h1⟩ := h0
  obtain ⟨a2_, r2, hr2, t2, h2⟩ := h1
  obtain ⟨a3_, r3, hr3, t3, h3⟩ := h2
  obtain ⟨a4_, r4, hr4, t4, h4⟩ := h3
  obtain ⟨a5_, r5, hr5, t5, h5⟩ := h4
  simp only [HasTs] at h5
  subst h5
  subst hr5
  subst hr4
  subst hr3
  subst hr2
  subst hr1
  subst hr0
  obtain ⟨a0_', rfl, a0_w⟩ := HasT.int_inv t0 tyK_3
  obtain ⟨a1_', rfl, a1_w⟩ := HasT.int_inv t1 tyK_3
  obtain ⟨a2_', rfl, a2_w⟩ := HasT.int_inv t2 tyK_3
  obtain ⟨a3_', rfl, a3_w⟩ := HasT.int_inv t3 tyK_3
  obtain ⟨a4_', rfl, a4_w⟩ := HasT.int_inv t4 tyK_3
  obtain ⟨a5_', rfl, a5_w⟩ := HasT.int_inv t5 tyK_3
  exact ⟨⟨a0_', a1_', a2_', a3_', a4_', a5_'⟩, rfl, ⟨a0_w, a1_w, a2_w, a3_w, a4_w, a5_w⟩⟩
structure GTables where
  Title : Int
  By : Int
  Release : Int
  Max : Int
  Texts : (List ByteArray)
  Flags : Int
  Props : (List Int)
  Globals : (List Int)
  Things : (List GThing)
  Acts : (List GAct)
  Deeds : (List GDeed)
  Funcs : (List Int)
  Daemons : (List Int)
  Params : (List Int)
  Locals : (List Int)
  deriving DecidableEq
def GTables.enc (x : GTables) : List D := [D.v (.int .i64 x.Title), D.v (.int .i64 x.By), D.v (.int .i64 x.Release), D.v (.int .i64 x.Max), D.sl (encS x.Texts), D.v (.int .i64 x.Flags), D.sl (encI x.Props), D.sl (encI x.Globals), D.sl (x.Things.map GThing.enc), D.sl (x.Acts.map GAct.enc), D.sl (x.Deeds.map GDeed.enc), D.sl (encI x.Funcs), D.sl (encI x.Daemons), D.sl (encI x.Params), D.sl (encI x.Locals)]
@[simp] theorem GTables.enc_length (x : GTables) : x.enc.length = 15 := rfl
@[simp] theorem GTables.enc_0 (x : GTables) : x.enc[0]? = some (D.v (.int .i64 x.Title)) := rfl
@[simp] theorem GTables.encg_0 (x : GTables) (h : 0 < x.enc.length) : x.enc[0] = D.v (.int .i64 x.Title) := rfl
@[simp] theorem GTables.enc_1 (x : GTables) : x.enc[1]? = some (D.v (.int .i64 x.By)) := rfl
@[simp] theorem GTables.encg_1 (x : GTables) (h : 1 < x.enc.length) : x.enc[1] = D.v (.int .i64 x.By) := rfl
@[simp] theorem GTables.enc_2 (x : GTables) : x.enc[2]? = some (D.v (.int .i64 x.Release)) := rfl
@[simp] theorem GTables.encg_2 (x : GTables) (h : 2 < x.enc.length) : x.enc[2] = D.v (.int .i64 x.Release) := rfl
@[simp] theorem GTables.enc_3 (x : GTables) : x.enc[3]? = some (D.v (.int .i64 x.Max)) := rfl
@[simp] theorem GTables.encg_3 (x : GTables) (h : 3 < x.enc.length) : x.enc[3] = D.v (.int .i64 x.Max) := rfl
@[simp] theorem GTables.enc_4 (x : GTables) : x.enc[4]? = some (D.sl (encS x.Texts)) := rfl
@[simp] theorem GTables.encg_4 (x : GTables) (h : 4 < x.enc.length) : x.enc[4] = D.sl (encS x.Texts) := rfl
@[simp] theorem GTables.enc_5 (x : GTables) : x.enc[5]? = some (D.v (.int .i64 x.Flags)) := rfl
@[simp] theorem GTables.encg_5 (x : GTables) (h : 5 < x.enc.length) : x.enc[5] = D.v (.int .i64 x.Flags) := rfl
@[simp] theorem GTables.enc_6 (x : GTables) : x.enc[6]? = some (D.sl (encI x.Props)) := rfl
@[simp] theorem GTables.encg_6 (x : GTables) (h : 6 < x.enc.length) : x.enc[6] = D.sl (encI x.Props) := rfl
@[simp] theorem GTables.enc_7 (x : GTables) : x.enc[7]? = some (D.sl (encI x.Globals)) := rfl
@[simp] theorem GTables.encg_7 (x : GTables) (h : 7 < x.enc.length) : x.enc[7] = D.sl (encI x.Globals) := rfl
@[simp] theorem GTables.enc_8 (x : GTables) : x.enc[8]? = some (D.sl (x.Things.map GThing.enc)) := rfl
@[simp] theorem GTables.encg_8 (x : GTables) (h : 8 < x.enc.length) : x.enc[8] = D.sl (x.Things.map GThing.enc) := rfl
@[simp] theorem GTables.enc_9 (x : GTables) : x.enc[9]? = some (D.sl (x.Acts.map GAct.enc)) := rfl
@[simp] theorem GTables.encg_9 (x : GTables) (h : 9 < x.enc.length) : x.enc[9] = D.sl (x.Acts.map GAct.enc) := rfl
@[simp] theorem GTables.enc_10 (x : GTables) : x.enc[10]? = some (D.sl (x.Deeds.map GDeed.enc)) := rfl
@[simp] theorem GTables.encg_10 (x : GTables) (h : 10 < x.enc.length) : x.enc[10] = D.sl (x.Deeds.map GDeed.enc) := rfl
@[simp] theorem GTables.enc_11 (x : GTables) : x.enc[11]? = some (D.sl (encI x.Funcs)) := rfl
@[simp] theorem GTables.encg_11 (x : GTables) (h : 11 < x.enc.length) : x.enc[11] = D.sl (encI x.Funcs) := rfl
@[simp] theorem GTables.enc_12 (x : GTables) : x.enc[12]? = some (D.sl (encI x.Daemons)) := rfl
@[simp] theorem GTables.encg_12 (x : GTables) (h : 12 < x.enc.length) : x.enc[12] = D.sl (encI x.Daemons) := rfl
@[simp] theorem GTables.enc_13 (x : GTables) : x.enc[13]? = some (D.sl (encI x.Params)) := rfl
@[simp] theorem GTables.encg_13 (x : GTables) (h : 13 < x.enc.length) : x.enc[13] = D.sl (encI x.Params) := rfl
@[simp] theorem GTables.enc_14 (x : GTables) : x.enc[14]? = some (D.sl (encI x.Locals)) := rfl
@[simp] theorem GTables.encg_14 (x : GTables) (h : 14 < x.enc.length) : x.enc[14] = D.sl (encI x.Locals) := rfl
@[simp] theorem GTables.fzV (L : Heap) (x : GTables) : V.fzs L (x.enc.map V.d) = x.enc.map V.d := by simp [GTables.enc, V.fzs, V.fz]
def GTables.zero : GTables := ⟨0, 0, 0, 0, [], 0, [], [], [], [], [], [], [], [], []⟩
theorem GTables.zero_enc : GTables.zero.enc = [D.v (.int .i64 0), D.v (.int .i64 0), D.v (.int .i64 0), D.v (.int .i64 0), D.sl [], D.v (.int .i64 0), D.sl [], D.sl [], D.sl [], D.sl [], D.sl [], D.sl [], D.sl [], D.sl [], D.sl []] := rfl
@[simp] theorem GTables.getZ (o : Option GTables) : (o.map GTables.enc).getD [D.v (.int .i64 0), D.v (.int .i64 0), D.v (.int .i64 0), D.v (.int .i64 0), D.sl [], D.v (.int .i64 0), D.sl [], D.sl [], D.sl [], D.sl [], D.sl [], D.sl [], D.sl [], D.sl [], D.sl []] = (o.getD GTables.zero).enc := by cases o <;> rfl
@[simp] theorem GTables.getV (o : Option GTables) : (o.map (fun x => x.enc.map V.d)).getD [V.d (D.v (.int .i64 0)), V.d (D.v (.int .i64 0)), V.d (D.v (.int .i64 0)), V.d (D.v (.int .i64 0)), V.d (D.sl []), V.d (D.v (.int .i64 0)), V.d (D.sl []), V.d (D.sl []), V.d (D.sl []), V.d (D.sl []), V.d (D.sl []), V.d (D.sl []), V.d (D.sl []), V.d (D.sl []), V.d (D.sl [])] = ((o.getD GTables.zero).enc).map V.d := by cases o <;> rfl
theorem GTables.cellAt (l : List GTables) (i j : Nat) (z : D) (h : GTables.zero.enc[j]? = some z) : cellAt (dd (l.map GTables.enc)) i j [V.d z] = V.d (((l[i]?.getD GTables.zero).enc[j]?).getD default) := by
  unfold Go.Ab.cellAt
  rw [dd_get, List.getElem?_map]
  cases hl : l[i]? with
  | none => simp [h]
  | some a =>
    have hj := (List.getElem?_eq_some_iff.1 h).1
    have hj' : j < a.enc.length := by rw [GTables.enc_length] at hj ⊢; exact hj
    simp only [Option.map_some, List.getElem?_map, List.getElem?_eq_getElem hj', Option.getD_some]
@[simp] theorem GTables.cellAt_0 (l : List GTables) (i : Nat) : Go.Ab.cellAt (dd (l.map GTables.enc)) i 0 [V.d (D.v (.int .i64 0))] = V.d (D.v (.int .i64 (l[i]?.getD GTables.zero).Title)) := (GTables.cellAt l i 0 (D.v (.int .i64 0)) rfl).trans (by simp)
@[simp] theorem GTables.cellAt_1 (l : List GTables) (i : Nat) : Go.Ab.cellAt (dd (l.map GTables.enc)) i 1 [V.d (D.v (.int .i64 0))] = V.d (D.v (.int .i64 (l[i]?.getD GTables.zero).By)) := (GTables.cellAt l i 1 (D.v (.int .i64 0)) rfl).trans (by simp)
@[simp] theorem GTables.cellAt_2 (l : List GTables) (i : Nat) : Go.Ab.cellAt (dd (l.map GTables.enc)) i 2 [V.d (D.v (.int .i64 0))] = V.d (D.v (.int .i64 (l[i]?.getD GTables.zero).Release)) := (GTables.cellAt l i 2 (D.v (.int .i64 0)) rfl).trans (by simp)
@[simp] theorem GTables.cellAt_3 (l : List GTables) (i : Nat) : Go.Ab.cellAt (dd (l.map GTables.enc)) i 3 [V.d (D.v (.int .i64 0))] = V.d (D.v (.int .i64 (l[i]?.getD GTables.zero).Max)) := (GTables.cellAt l i 3 (D.v (.int .i64 0)) rfl).trans (by simp)
@[simp] theorem GTables.cellAt_4 (l : List GTables) (i : Nat) : Go.Ab.cellAt (dd (l.map GTables.enc)) i 4 [V.d (D.sl [])] = V.d (D.sl (encS (l[i]?.getD GTables.zero).Texts)) := (GTables.cellAt l i 4 (D.sl []) rfl).trans (by simp)
@[simp] theorem GTables.cellAt_5 (l : List GTables) (i : Nat) : Go.Ab.cellAt (dd (l.map GTables.enc)) i 5 [V.d (D.v (.int .i64 0))] = V.d (D.v (.int .i64 (l[i]?.getD GTables.zero).Flags)) := (GTables.cellAt l i 5 (D.v (.int .i64 0)) rfl).trans (by simp)
@[simp] theorem GTables.cellAt_6 (l : List GTables) (i : Nat) : Go.Ab.cellAt (dd (l.map GTables.enc)) i 6 [V.d (D.sl [])] = V.d (D.sl (encI (l[i]?.getD GTables.zero).Props)) := (GTables.cellAt l i 6 (D.sl []) rfl).trans (by simp)
@[simp] theorem GTables.cellAt_7 (l : List GTables) (i : Nat) : Go.Ab.cellAt (dd (l.map GTables.enc)) i 7 [V.d (D.sl [])] = V.d (D.sl (encI (l[i]?.getD GTables.zero).Globals)) := (GTables.cellAt l i 7 (D.sl []) rfl).trans (by simp)
@[simp] theorem GTables.cellAt_8 (l : List GTables) (i : Nat) : Go.Ab.cellAt (dd (l.map GTables.enc)) i 8 [V.d (D.sl [])] = V.d (D.sl ((l[i]?.getD GTables.zero).Things.map GThing.enc)) := (GTables.cellAt l i 8 (D.sl []) rfl).trans (by simp)
@[simp] theorem GTables.cellAt_9 (l : List GTables) (i : Nat) : Go.Ab.cellAt (dd (l.map GTables.enc)) i 9 [V.d (D.sl [])] = V.d (D.sl ((l[i]?.getD GTables.zero).Acts.map GAct.enc)) := (GTables.cellAt l i 9 (D.sl []) rfl).trans (by simp)
@[simp] theorem GTables.cellAt_10 (l : List GTables) (i : Nat) : Go.Ab.cellAt (dd (l.map GTables.enc)) i 10 [V.d (D.sl [])] = V.d (D.sl ((l[i]?.getD GTables.zero).Deeds.map GDeed.enc)) := (GTables.cellAt l i 10 (D.sl []) rfl).trans (by simp)
@[simp] theorem GTables.cellAt_11 (l : List GTables) (i : Nat) : Go.Ab.cellAt (dd (l.map GTables.enc)) i 11 [V.d (D.sl [])] = V.d (D.sl (encI (l[i]?.getD GTables.zero).Funcs)) := (GTables.cellAt l i 11 (D.sl []) rfl).trans (by simp)
@[simp] theorem GTables.cellAt_12 (l : List GTables) (i : Nat) : Go.Ab.cellAt (dd (l.map GTables.enc)) i 12 [V.d (D.sl [])] = V.d (D.sl (encI (l[i]?.getD GTables.zero).Daemons)) := (GTables.cellAt l i 12 (D.sl []) rfl).trans (by simp)
@[simp] theorem GTables.cellAt_13 (l : List GTables) (i : Nat) : Go.Ab.cellAt (dd (l.map GTables.enc)) i 13 [V.d (D.sl [])] = V.d (D.sl (encI (l[i]?.getD GTables.zero).Params)) := (GTables.cellAt l i 13 (D.sl []) rfl).trans (by simp)
@[simp] theorem GTables.cellAt_14 (l : List GTables) (i : Nat) : Go.Ab.cellAt (dd (l.map GTables.enc)) i 14 [V.d (D.sl [])] = V.d (D.sl (encI (l[i]?.getD GTables.zero).Locals)) := (GTables.cellAt l i 14 (D.sl []) rfl).trans (by simp)
@[simp] theorem GTables.aggAt (l : List GTables) (i : Nat) : Go.Ab.aggAt (dd (l.map GTables.enc)) i 0 15 [V.d (D.v (.int .i64 0)), V.d (D.v (.int .i64 0)), V.d (D.v (.int .i64 0)), V.d (D.v (.int .i64 0)), V.d (D.sl []), V.d (D.v (.int .i64 0)), V.d (D.sl []), V.d (D.sl []), V.d (D.sl []), V.d (D.sl []), V.d (D.sl []), V.d (D.sl []), V.d (D.sl []), V.d (D.sl []), V.d (D.sl [])] = (l[i]?.getD GTables.zero).enc.map V.d := by
  unfold Go.Ab.aggAt
  rw [dd_get, List.getElem?_map]
  cases l[i]? with
  | none => rfl
  | some x => simp; cases x; rfl
@[simp] theorem GTables.dropAll (x : GTables) : List.drop 15 x.enc = [] := rfl
@[simp] theorem GTables.dropAllv (x : GTables) : List.drop 15 (x.enc.map V.d) = [] := rfl
@[simp] theorem GTables.enc_all (x : GTables) : x.enc.take 15 = x.enc := rfl
@[simp] theorem GTables.enc_allv (x : GTables) : List.take 15 (x.enc.map V.d) = x.enc.map V.d := rfl
def GTables.wf (x : GTables) : Prop := inR .i64 x.Title ∧ inR .i64 x.By ∧ inR .i64 x.Release ∧ inR .i64 x.Max ∧ x.Texts.length * 16 ≤ 140737488351232 ∧ (∀ y0 : ByteArray, y0 ∈ x.Texts → y0.size ≤ 140737488351232) ∧ inR .i64 x.Flags ∧ x.Props.length * 8 ≤ 140737488351232 ∧ (∀ y0 : Int, y0 ∈ x.Props → inR .i64 y0) ∧ x.Globals.length * 8 ≤ 140737488351232 ∧ (∀ y0 : Int, y0 ∈ x.Globals → inR .i64 y0) ∧ x.Things.length * 136 ≤ 140737488351232 ∧ (∀ y0 : GThing, y0 ∈ x.Things → y0.wf) ∧ x.Acts.length * 32 ≤ 140737488351232 ∧ (∀ y0 : GAct, y0 ∈ x.Acts → y0.wf) ∧ x.Deeds.length * 48 ≤ 140737488351232 ∧ (∀ y0 : GDeed, y0 ∈ x.Deeds → y0.wf) ∧ x.Funcs.length * 8 ≤ 140737488351232 ∧ (∀ y0 : Int, y0 ∈ x.Funcs → inR .i64 y0) ∧ x.Daemons.length * 8 ≤ 140737488351232 ∧ (∀ y0 : Int, y0 ∈ x.Daemons → inR .i64 y0) ∧ x.Params.length * 8 ≤ 140737488351232 ∧ (∀ y0 : Int, y0 ∈ x.Params → inR .i64 y0) ∧ x.Locals.length * 8 ≤ 140737488351232 ∧ (∀ y0 : Int, y0 ∈ x.Locals → inR .i64 y0)
theorem GTables.wf_Title {x : GTables} (h : x.wf) : inR .i64 x.Title := h.1
theorem GTables.wl_Texts {x : GTables} (h : x.wf) : x.Texts.length * 16 ≤ 140737488351232 := h.2.2.2.2.1
theorem GTables.wf_Texts {x : GTables} (h : x.wf) : (∀ y0 : ByteArray, y0 ∈ x.Texts → y0.size ≤ 140737488351232) := h.2.2.2.2.2.1
theorem GTables.wf_Flags {x : GTables} (h : x.wf) : inR .i64 x.Flags := h.2.2.2.2.2.2.1
theorem GTables.wl_Props {x : GTables} (h : x.wf) : x.Props.length * 8 ≤ 140737488351232 := h.2.2.2.2.2.2.2.1
theorem GTables.wf_Props {x : GTables} (h : x.wf) : (∀ y0 : Int, y0 ∈ x.Props → inR .i64 y0) := h.2.2.2.2.2.2.2.2.1
theorem GTables.wl_Globals {x : GTables} (h : x.wf) : x.Globals.length * 8 ≤ 140737488351232 := h.2.2.2.2.2.2.2.2.2.1
theorem GTables.wf_Globals {x : GTables} (h : x.wf) : (∀ y0 : Int, y0 ∈ x.Globals → inR .i64 y0) := h.2.2.2.2.2.2.2.2.2.2.1
theorem GTables.wl_Things {x : GTables} (h : x.wf) : x.Things.length * 136 ≤ 140737488351232 := h.2.2.2.2.2.2.2.2.2.2.2.1
theorem GTables.wf_Things {x : GTables} (h : x.wf) : (∀ y0 : GThing, y0 ∈ x.Things → y0.wf) := h.2.2.2.2.2.2.2.2.2.2.2.2.1
theorem GTables.wl_Acts {x : GTables} (h : x.wf) : x.Acts.length * 32 ≤ 140737488351232 := h.2.2.2.2.2.2.2.2.2.2.2.2.2.1
theorem GTables.wf_Acts {x : GTables} (h : x.wf) : (∀ y0 : GAct, y0 ∈ x.Acts → y0.wf) := h.2.2.2.2.2.2.2.2.2.2.2.2.2.2.1
theorem GTables.wl_Deeds {x : GTables} (h : x.wf) : x.Deeds.length * 48 ≤ 140737488351232 := h.2.2.2.2.2.2.2.2.2.2.2.2.2.2.2.1
theorem GTables.wf_Deeds {x : GTables} (h : x.wf) : (∀ y0 : GDeed, y0 ∈ x.Deeds → y0.wf) := h.2.2.2.2.2.2.2.2.2.2.2.2.2.2.2.2.1
theorem GTables.wl_Funcs {x : GTables} (h : x.wf) : x.Funcs.length * 8 ≤ 140737488351232 := h.2.2.2.2.2.2.2.2.2.2.2.2.2.2.2.2.2.1
theorem GTables.wl_Daemons {x : GTables} (h : x.wf) : x.Daemons.length * 8 ≤ 140737488351232 := h.2.2.2.2.2.2.2.2.2.2.2.2.2.2.2.2.2.2.2.1
theorem GTables.wl_Params {x : GTables} (h : x.wf) : x.Params.length * 8 ≤ 140737488351232 := h.2.2.2.2.2.2.2.2.2.2.2.2.2.2.2.2.2.2.2.2.2.1
theorem GTables.wl_Locals {x : GTables} (h : x.wf) : x.Locals.length * 8 ≤ 140737488351232 := h.2.2.2.2.2.2.2.2.2.2.2.2.2.2.2.2.2.2.2.2.2.2.2.1
theorem tyK_28 : tyK Tryz.prog 28 = .st [3, 3, 3, 3, 22, 3, 23, 23, 24, 25, 26, 23, 23, 23, 23] := by kernel_rfl
theorem tyK_24 : tyK Tryz.prog 24 = .sl 37 136 := by kernel_rfl
theorem tyK_25 : tyK Tryz.prog 25 = .sl 135 32 := by kernel_rfl
theorem tyK_26 : tyK Tryz.prog 26 = .sl 139 48 := by kernel_rfl
theorem GTables.of {ys : List D} (h : HasT Tryz.prog 28 ys) : ∃ x : GTables, ys = x.enc ∧ x.wf := by
  have h' := HasT.st_inv h tyK_28
  obtain ⟨a0_, r0, hr0, t0, h0⟩ := h'
  obtain ⟨a1_, r1, hr1, t1, h1⟩ := h0
  obtain ⟨a2_, r2, hr2, t2, h2⟩ := h1
  obtain ⟨a3_, r3, hr3, t3, h3⟩ := h2
  obtain ⟨a4_, r4, hr4, t4, h4⟩ := h3
  obtain ⟨a5_, r5, hr5, t5, h5⟩ := h4
  obtain ⟨a6_, r6, hr6, t6, h6⟩ := h5
  obtain ⟨a7_, r7, hr7, t7, h7⟩ := h6
  obtain ⟨a8_, r8, hr8, t8, h8⟩ := h7
  obtain ⟨a9_, r9, hr9, t9, h9⟩ := h8
  obtain ⟨a10_, r10, hr10, t10, h10⟩ := h9
  obtain ⟨a11_, r11, hr11, t11, h11⟩ := h10
  obtain ⟨a12_, r12, hr12, t12, h12⟩ := h11
  obtain ⟨a13_, r13, hr13, t13, h13⟩ := h12
  obtain ⟨a14_, r14, hr14, t14, h14⟩ := h13
  simp only [HasTs] at h14
  subst h14
  subst hr14
  subst hr13
  subst hr12
  subst hr11
  subst hr10
  subst hr9
  subst hr8
  subst hr7
  subst hr6
  subst hr5
  subst hr4
  subst hr3
  subst hr2
  subst hr1
  subst hr0
  obtain ⟨a0_', rfl, a0_w⟩ := HasT.int_inv t0 tyK_3
  obtain ⟨a1_', rfl, a1_w⟩ := HasT.int_inv t1 tyK_3
  obtain ⟨a2_', rfl, a2_w⟩ := HasT.int_inv t2 tyK_3
  obtain ⟨a3_', rfl, a3_w⟩ := HasT.int_inv t3 tyK_3
  obtain ⟨a4_0, rfl, a4_h, a4_l, a4_w⟩ := HasT.sl_inv t4 tyK_22
  obtain ⟨a4_', rfl, a4_a⟩ := map_of (f := (fun y => [D.v (.string y)])) (p := fun (y : ByteArray) => y.size ≤ 140737488351232) (fun a4_e hx => by
    have a4_q := a4_h a4_e hx
    obtain ⟨a4_e', rfl, a4_ew⟩ := HasT.str_inv a4_q tyK_9
    exact ⟨a4_e', rfl, a4_ew⟩)
  obtain ⟨a5_', rfl, a5_w⟩ := HasT.int_inv t5 tyK_3
  obtain ⟨a6_0, rfl, a6_h, a6_l, a6_w⟩ := HasT.sl_inv t6 tyK_23
  obtain ⟨a6_', rfl, a6_a⟩ := map_of (f := (fun y => [D.v (.int .i64 y)])) (p := fun (y : Int) => inR .i64 y) (fun a6_e hx => by
    have a6_q := a6_h a6_e hx
    obtain ⟨a6_e', rfl, a6_ew⟩ := HasT.int_inv a6_q tyK_3
    exact ⟨a6_e', rfl, a6_ew⟩)
  obtain ⟨a7_0, rfl, a7_h, a7_l, a7_w⟩ := HasT.sl_inv t7 tyK_23
  obtain ⟨a7_', rfl, a7_a⟩ := map_of (f := (fun y => [D.v (.int .i64 y)])) (p := fun (y : Int) => inR .i64 y) (fun a7_e hx => by
    have a7_q := a7_h a7_e hx
    obtain ⟨a7_e', rfl, a7_ew⟩ := HasT.int_inv a7_q tyK_3
    exact ⟨a7_e', rfl, a7_ew⟩)
  obtain ⟨a8_0, rfl, a8_h, a8_l, a8_w⟩ := HasT.sl_inv t8 tyK_24
  obtain ⟨a8_', rfl, a8_a⟩ := map_of (f := GThing.enc) (p := fun (y : GThing) => y.wf) (fun a8_e hx => by
    have a8_q := a8_h a8_e hx
    obtain ⟨a8_e', rfl, a8_ew⟩ := GThing.of a8_q
    exact ⟨a8_e', rfl, a8_ew⟩)
  obtain ⟨a9_0, rfl, a9_h, a9_l, a9_w⟩ := HasT.sl_inv t9 tyK_25
  obtain ⟨a9_', rfl, a9_a⟩ := map_of (f := GAct.enc) (p := fun (y : GAct) => y.wf) (fun a9_e hx => by
    have a9_q := a9_h a9_e hx
    obtain ⟨a9_e', rfl, a9_ew⟩ := GAct.of a9_q
    exact ⟨a9_e', rfl, a9_ew⟩)
  obtain ⟨a10_0, rfl, a10_h, a10_l, a10_w⟩ := HasT.sl_inv t10 tyK_26
  obtain ⟨a10_', rfl, a10_a⟩ := map_of (f := GDeed.enc) (p := fun (y : GDeed) => y.wf) (fun a10_e hx => by
    have a10_q := a10_h a10_e hx
    obtain ⟨a10_e', rfl, a10_ew⟩ := GDeed.of a10_q
    exact ⟨a10_e', rfl, a10_ew⟩)
  obtain ⟨a11_0, rfl, a11_h, a11_l, a11_w⟩ := HasT.sl_inv t11 tyK_23
  obtain ⟨a11_', rfl, a11_a⟩ := map_of (f := (fun y => [D.v (.int .i64 y)])) (p := fun (y : Int) => inR .i64 y) (fun a11_e hx => by
    have a11_q := a11_h a11_e hx
    obtain ⟨a11_e', rfl, a11_ew⟩ := HasT.int_inv a11_q tyK_3
    exact ⟨a11_e', rfl, a11_ew⟩)
  obtain ⟨a12_0, rfl, a12_h, a12_l, a12_w⟩ := HasT.sl_inv t12 tyK_23
  obtain ⟨a12_', rfl, a12_a⟩ := map_of (f := (fun y => [D.v (.int .i64 y)])) (p := fun (y : Int) => inR .i64 y) (fun a12_e hx => by
    have a12_q := a12_h a12_e hx
    obtain ⟨a12_e', rfl, a12_ew⟩ := HasT.int_inv a12_q tyK_3
    exact ⟨a12_e', rfl, a12_ew⟩)
  obtain ⟨a13_0, rfl, a13_h, a13_l, a13_w⟩ := HasT.sl_inv t13 tyK_23
  obtain ⟨a13_', rfl, a13_a⟩ := map_of (f := (fun y => [D.v (.int .i64 y)])) (p := fun (y : Int) => inR .i64 y) (fun a13_e hx => by
    have a13_q := a13_h a13_e hx
    obtain ⟨a13_e', rfl, a13_ew⟩ := HasT.int_inv a13_q tyK_3
    exact ⟨a13_e', rfl, a13_ew⟩)
  obtain ⟨a14_0, rfl, a14_h, a14_l, a14_w⟩ := HasT.sl_inv t14 tyK_23
  obtain ⟨a14_', rfl, a14_a⟩ := map_of (f := (fun y => [D.v (.int .i64 y)])) (p := fun (y : Int) => inR .i64 y) (fun a14_e hx => by
    have a14_q := a14_h a14_e hx
    obtain ⟨a14_e', rfl, a14_ew⟩ := HasT.int_inv a14_q tyK_3
    exact ⟨a14_e', rfl, a14_ew⟩)
  exact ⟨⟨a0_', a1_', a2_', a3_', a4_', a5_', a6_', a7_', a8_', a9_', a10_', a11_', a12_', a13_', a14_'⟩, rfl, ⟨a0_w, a1_w, a2_w, a3_w, (by simpa using a4_w), a4_a, a5_w, (by simpa using a6_w), a6_a, (by simpa using a7_w), a7_a, (by simpa using a8_w), a8_a, (by simpa using a9_w), a9_a, (by simpa using a10_w), a10_a, (by simpa using a11_w), a11_a, (by simpa using a12_w), a12_a, (by simpa using a13_w), a13_a, (by simpa using a14_w), a14_a⟩⟩
structure GWorld where
  Globals : (List Int)
  Parent : (List Int)
  Child : (List Int)
  Next : (List Int)
  Flags : (List Int)
  Props : (List Int)
  Timers : (List Int)
  Seed : Int
  Score : Int
  Turns : Int
  Over : Int
  It : Int
  Go : Int
  deriving DecidableEq
def GWorld.enc (x : GWorld) : List D := [D.sl (encI x.Globals), D.sl (encI x.Parent), D.sl (encI x.Child), D.sl (encI x.Next), D.sl (encI x.Flags), D.sl (encI x.Props), D.sl (encI x.Timers), D.v (.int .u64 x.Seed), D.v (.int .i64 x.Score), D.v (.int .i64 x.Turns), D.v (.int .i64 x.Over), D.v (.int .i64 x.It), D.v (.int .i64 x.Go)]
@[simp] theorem GWorld.enc_length (x : GWorld) : x.enc.length = 13 := rfl
@[simp] theorem GWorld.enc_0 (x : GWorld) : x.enc[0]? = some (D.sl (encI x.Globals)) := rfl
@[simp] theorem GWorld.encg_0 (x : GWorld) (h : 0 < x.enc.length) : x.enc[0] = D.sl (encI x.Globals) := rfl
@[simp] theorem GWorld.enc_1 (x : GWorld) : x.enc[1]? = some (D.sl (encI x.Parent)) := rfl
@[simp] theorem GWorld.encg_1 (x : GWorld) (h : 1 < x.enc.length) : x.enc[1] = D.sl (encI x.Parent) := rfl
@[simp] theorem GWorld.enc_2 (x : GWorld) : x.enc[2]? = some (D.sl (encI x.Child)) := rfl
@[simp] theorem GWorld.encg_2 (x : GWorld) (h : 2 < x.enc.length) : x.enc[2] = D.sl (encI x.Child) := rfl
@[simp] theorem GWorld.enc_3 (x : GWorld) : x.enc[3]? = some (D.sl (encI x.Next)) := rfl
@[simp] theorem GWorld.encg_3 (x : GWorld) (h : 3 < x.enc.length) : x.enc[3] = D.sl (encI x.Next) := rfl
@[simp] theorem GWorld.enc_4 (x : GWorld) : x.enc[4]? = some (D.sl (encI x.Flags)) := rfl
@[simp] theorem GWorld.encg_4 (x : GWorld) (h : 4 < x.enc.length) : x.enc[4] = D.sl (encI x.Flags) := rfl
@[simp] theorem GWorld.enc_5 (x : GWorld) : x.enc[5]? = some (D.sl (encI x.Props)) := rfl
@[simp] theorem GWorld.encg_5 (x : GWorld) (h : 5 < x.enc.length) : x.enc[5] = D.sl (encI x.Props) := rfl
@[simp] theorem GWorld.enc_6 (x : GWorld) : x.enc[6]? = some (D.sl (encI x.Timers)) := rfl
@[simp] theorem GWorld.encg_6 (x : GWorld) (h : 6 < x.enc.length) : x.enc[6] = D.sl (encI x.Timers) := rfl
@[simp] theorem GWorld.enc_7 (x : GWorld) : x.enc[7]? = some (D.v (.int .u64 x.Seed)) := rfl
@[simp] theorem GWorld.encg_7 (x : GWorld) (h : 7 < x.enc.length) : x.enc[7] = D.v (.int .u64 x.Seed) := rfl
@[simp] theorem GWorld.enc_8 (x : GWorld) : x.enc[8]? = some (D.v (.int .i64 x.Score)) := rfl
@[simp] theorem GWorld.encg_8 (x : GWorld) (h : 8 < x.enc.length) : x.enc[8] = D.v (.int .i64 x.Score) := rfl
@[simp] theorem GWorld.enc_9 (x : GWorld) : x.enc[9]? = some (D.v (.int .i64 x.Turns)) := rfl
@[simp] theorem GWorld.encg_9 (x : GWorld) (h : 9 < x.enc.length) : x.enc[9] = D.v (.int .i64 x.Turns) := rfl
@[simp] theorem GWorld.enc_10 (x : GWorld) : x.enc[10]? = some (D.v (.int .i64 x.Over)) := rfl
@[simp] theorem GWorld.encg_10 (x : GWorld) (h : 10 < x.enc.length) : x.enc[10] = D.v (.int .i64 x.Over) := rfl
@[simp] theorem GWorld.enc_11 (x : GWorld) : x.enc[11]? = some (D.v (.int .i64 x.It)) := rfl
@[simp] theorem GWorld.encg_11 (x : GWorld) (h : 11 < x.enc.length) : x.enc[11] = D.v (.int .i64 x.It) := rfl
@[simp] theorem GWorld.enc_12 (x : GWorld) : x.enc[12]? = some (D.v (.int .i64 x.Go)) := rfl
@[simp] theorem GWorld.encg_12 (x : GWorld) (h : 12 < x.enc.length) : x.enc[12] = D.v (.int .i64 x.Go) := rfl
@[simp] theorem GWorld.fzV (L : Heap) (x : GWorld) : V.fzs L (x.enc.map V.d) = x.enc.map V.d := by simp [GWorld.enc, V.fzs, V.fz]
def GWorld.zero : GWorld := ⟨[], [], [], [], [], [], [], 0, 0, 0, 0, 0, 0⟩
theorem GWorld.zero_enc : GWorld.zero.enc = [D.sl [], D.sl [], D.sl [], D.sl [], D.sl [], D.sl [], D.sl [], D.v (.int .u64 0), D.v (.int .i64 0), D.v (.int .i64 0), D.v (.int .i64 0), D.v (.int .i64 0), D.v (.int .i64 0)] := rfl
@[simp] theorem GWorld.getZ (o : Option GWorld) : (o.map GWorld.enc).getD [D.sl [], D.sl [], D.sl [], D.sl [], D.sl [], D.sl [], D.sl [], D.v (.int .u64 0), D.v (.int .i64 0), D.v (.int .i64 0), D.v (.int .i64 0), D.v (.int .i64 0), D.v (.int .i64 0)] = (o.getD GWorld.zero).enc := by cases o <;> rfl
@[simp] theorem GWorld.getV (o : Option GWorld) : (o.map (fun x => x.enc.map V.d)).getD [V.d (D.sl []), V.d (D.sl []), V.d (D.sl []), V.d (D.sl []), V.d (D.sl []), V.d (D.sl []), V.d (D.sl []), V.d (D.v (.int .u64 0)), V.d (D.v (.int .i64 0)), V.d (D.v (.int .i64 0)), V.d (D.v (.int .i64 0)), V.d (D.v (.int .i64 0)), V.d (D.v (.int .i64 0))] = ((o.getD GWorld.zero).enc).map V.d := by cases o <;> rfl
theorem GWorld.cellAt (l : List GWorld) (i j : Nat) (z : D) (h : GWorld.zero.enc[j]? = some z) : cellAt (dd (l.map GWorld.enc)) i j [V.d z] = V.d (((l[i]?.getD GWorld.zero).enc[j]?).getD default) := by
  unfold Go.Ab.cellAt
  rw [dd_get, List.getElem?_map]
  cases hl : l[i]? with
  | none => simp [h]
  | some a =>
    have hj := (List.getElem?_eq_some_iff.1 h).1
    have hj' : j < a.enc.length := by rw [GWorld.enc_length] at hj ⊢; exact hj
    simp only [Option.map_some, List.getElem?_map, List.getElem?_eq_getElem hj', Option.getD_some]
@[simp] theorem GWorld.cellAt_0 (l : List GWorld) (i : Nat) : Go.Ab.cellAt (dd (l.map GWorld.enc)) i 0 [V.d (D.sl [])] = V.d (D.sl (encI (l[i]?.getD GWorld.zero).Globals)) := (GWorld.cellAt l i 0 (D.sl []) rfl).trans (by simp)
@[simp] theorem GWorld.cellAt_1 (l : List GWorld) (i : Nat) : Go.Ab.cellAt (dd (l.map GWorld.enc)) i 1 [V.d (D.sl [])] = V.d (D.sl (encI (l[i]?.getD GWorld.zero).Parent)) := (GWorld.cellAt l i 1 (D.sl []) rfl).trans (by simp)
@[simp] theorem GWorld.cellAt_2 (l : List GWorld) (i : Nat) : Go.Ab.cellAt (dd (l.map GWorld.enc)) i 2 [V.d (D.sl [])] = V.d (D.sl (encI (l[i]?.getD GWorld.zero).Child)) := (GWorld.cellAt l i 2 (D.sl []) rfl).trans (by simp)
@[simp] theorem GWorld.cellAt_3 (l : List GWorld) (i : Nat) : Go.Ab.cellAt (dd (l.map GWorld.enc)) i 3 [V.d (D.sl [])] = V.d (D.sl (encI (l[i]?.getD GWorld.zero).Next)) := (GWorld.cellAt l i 3 (D.sl []) rfl).trans (by simp)
@[simp] theorem GWorld.cellAt_4 (l : List GWorld) (i : Nat) : Go.Ab.cellAt (dd (l.map GWorld.enc)) i 4 [V.d (D.sl [])] = V.d (D.sl (encI (l[i]?.getD GWorld.zero).Flags)) := (GWorld.cellAt l i 4 (D.sl []) rfl).trans (by simp)
@[simp] theorem GWorld.cellAt_5 (l : List GWorld) (i : Nat) : Go.Ab.cellAt (dd (l.map GWorld.enc)) i 5 [V.d (D.sl [])] = V.d (D.sl (encI (l[i]?.getD GWorld.zero).Props)) := (GWorld.cellAt l i 5 (D.sl []) rfl).trans (by simp)
@[simp] theorem GWorld.cellAt_6 (l : List GWorld) (i : Nat) : Go.Ab.cellAt (dd (l.map GWorld.enc)) i 6 [V.d (D.sl [])] = V.d (D.sl (encI (l[i]?.getD GWorld.zero).Timers)) := (GWorld.cellAt l i 6 (D.sl []) rfl).trans (by simp)
@[simp] theorem GWorld.cellAt_7 (l : List GWorld) (i : Nat) : Go.Ab.cellAt (dd (l.map GWorld.enc)) i 7 [V.d (D.v (.int .u64 0))] = V.d (D.v (.int .u64 (l[i]?.getD GWorld.zero).Seed)) := (GWorld.cellAt l i 7 (D.v (.int .u64 0)) rfl).trans (by simp)
@[simp] theorem GWorld.cellAt_8 (l : List GWorld) (i : Nat) : Go.Ab.cellAt (dd (l.map GWorld.enc)) i 8 [V.d (D.v (.int .i64 0))] = V.d (D.v (.int .i64 (l[i]?.getD GWorld.zero).Score)) := (GWorld.cellAt l i 8 (D.v (.int .i64 0)) rfl).trans (by simp)
@[simp] theorem GWorld.cellAt_9 (l : List GWorld) (i : Nat) : Go.Ab.cellAt (dd (l.map GWorld.enc)) i 9 [V.d (D.v (.int .i64 0))] = V.d (D.v (.int .i64 (l[i]?.getD GWorld.zero).Turns)) := (GWorld.cellAt l i 9 (D.v (.int .i64 0)) rfl).trans (by simp)
@[simp] theorem GWorld.cellAt_10 (l : List GWorld) (i : Nat) : Go.Ab.cellAt (dd (l.map GWorld.enc)) i 10 [V.d (D.v (.int .i64 0))] = V.d (D.v (.int .i64 (l[i]?.getD GWorld.zero).Over)) := (GWorld.cellAt l i 10 (D.v (.int .i64 0)) rfl).trans (by simp)
@[simp] theorem GWorld.cellAt_11 (l : List GWorld) (i : Nat) : Go.Ab.cellAt (dd (l.map GWorld.enc)) i 11 [V.d (D.v (.int .i64 0))] = V.d (D.v (.int .i64 (l[i]?.getD GWorld.zero).It)) := (GWorld.cellAt l i 11 (D.v (.int .i64 0)) rfl).trans (by simp)
@[simp] theorem GWorld.cellAt_12 (l : List GWorld) (i : Nat) : Go.Ab.cellAt (dd (l.map GWorld.enc)) i 12 [V.d (D.v (.int .i64 0))] = V.d (D.v (.int .i64 (l[i]?.getD GWorld.zero).Go)) := (GWorld.cellAt l i 12 (D.v (.int .i64 0)) rfl).trans (by simp)
@[simp] theorem GWorld.aggAt (l : List GWorld) (i : Nat) : Go.Ab.aggAt (dd (l.map GWorld.enc)) i 0 13 [V.d (D.sl []), V.d (D.sl []), V.d (D.sl []), V.d (D.sl []), V.d (D.sl []), V.d (D.sl []), V.d (D.sl []), V.d (D.v (.int .u64 0)), V.d (D.v (.int .i64 0)), V.d (D.v (.int .i64 0)), V.d (D.v (.int .i64 0)), V.d (D.v (.int .i64 0)), V.d (D.v (.int .i64 0))] = (l[i]?.getD GWorld.zero).enc.map V.d := by
  unfold Go.Ab.aggAt
  rw [dd_get, List.getElem?_map]
  cases l[i]? with
  | none => rfl
  | some x => simp; cases x; rfl
@[simp] theorem GWorld.dropAll (x : GWorld) : List.drop 13 x.enc = [] := rfl
@[simp] theorem GWorld.dropAllv (x : GWorld) : List.drop 13 (x.enc.map V.d) = [] := rfl
@[simp] theorem GWorld.enc_all (x : GWorld) : x.enc.take 13 = x.enc := rfl
@[simp] theorem GWorld.enc_allv (x : GWorld) : List.take 13 (x.enc.map V.d) = x.enc.map V.d := rfl
def GWorld.wf (x : GWorld) : Prop := x.Globals.length * 8 ≤ 140737488351232 ∧ (∀ y0 : Int, y0 ∈ x.Globals → inR .i64 y0) ∧ x.Parent.length * 8 ≤ 140737488351232 ∧ (∀ y0 : Int, y0 ∈ x.Parent → inR .i64 y0) ∧ x.Child.length * 8 ≤ 140737488351232 ∧ (∀ y0 : Int, y0 ∈ x.Child → inR .i64 y0) ∧ x.Next.length * 8 ≤ 140737488351232 ∧ (∀ y0 : Int, y0 ∈ x.Next → inR .i64 y0) ∧ x.Flags.length * 8 ≤ 140737488351232 ∧ (∀ y0 : Int, y0 ∈ x.Flags → inR .i64 y0) ∧ x.Props.length * 8 ≤ 140737488351232 ∧ (∀ y0 : Int, y0 ∈ x.Props → inR .i64 y0) ∧ x.Timers.length * 8 ≤ 140737488351232 ∧ (∀ y0 : Int, y0 ∈ x.Timers → inR .i64 y0) ∧ inR .u64 x.Seed ∧ inR .i64 x.Score ∧ inR .i64 x.Turns ∧ inR .i64 x.Over ∧ inR .i64 x.It ∧ inR .i64 x.Go
theorem GWorld.wl_Globals {x : GWorld} (h : x.wf) : x.Globals.length * 8 ≤ 140737488351232 := h.1
theorem GWorld.wf_Globals {x : GWorld} (h : x.wf) : (∀ y0 : Int, y0 ∈ x.Globals → inR .i64 y0) := h.2.1
theorem GWorld.wl_Parent {x : GWorld} (h : x.wf) : x.Parent.length * 8 ≤ 140737488351232 := h.2.2.1
theorem GWorld.wf_Parent {x : GWorld} (h : x.wf) : (∀ y0 : Int, y0 ∈ x.Parent → inR .i64 y0) := h.2.2.2.1
theorem GWorld.wl_Flags {x : GWorld} (h : x.wf) : x.Flags.length * 8 ≤ 140737488351232 := h.2.2.2.2.2.2.2.2.1
theorem GWorld.wf_Flags {x : GWorld} (h : x.wf) : (∀ y0 : Int, y0 ∈ x.Flags → inR .i64 y0) := h.2.2.2.2.2.2.2.2.2.1
theorem GWorld.wl_Props {x : GWorld} (h : x.wf) : x.Props.length * 8 ≤ 140737488351232 := h.2.2.2.2.2.2.2.2.2.2.1
theorem GWorld.wf_Props {x : GWorld} (h : x.wf) : (∀ y0 : Int, y0 ∈ x.Props → inR .i64 y0) := h.2.2.2.2.2.2.2.2.2.2.2.1
theorem GWorld.wl_Timers {x : GWorld} (h : x.wf) : x.Timers.length * 8 ≤ 140737488351232 := h.2.2.2.2.2.2.2.2.2.2.2.2.1
theorem tyK_31 : tyK Tryz.prog 31 = .st [23, 23, 23, 23, 23, 23, 23, 29, 3, 3, 3, 3, 3] := by kernel_rfl
theorem tyK_29 : tyK Tryz.prog 29 = .int .u64 := by kernel_rfl
theorem GWorld.of {ys : List D} (h : HasT Tryz.prog 31 ys) : ∃ x : GWorld, ys = x.enc ∧ x.wf := by
  have h' := HasT.st_inv h tyK_31
  obtain ⟨a0_, r0, hr0, t0, h0⟩ := h'
  obtain ⟨a1_, r1, hr1, t1, h1⟩ := h0
  obtain ⟨a2_, r2, hr2, t2, h2⟩ := h1
  obtain ⟨a3_, r3, hr3, t3, h3⟩ := h2
  obtain ⟨a4_, r4, hr4, t4, h4⟩ := h3
  obtain ⟨a5_, r5, hr5, t5, h5⟩ := h4
  obtain ⟨a6_, r6, hr6, t6, h6⟩ := h5
  obtain ⟨a7_, r7, hr7, t7, h7⟩ := h6
  obtain ⟨a8_, r8, hr8, t8, h8⟩ := h7
  obtain ⟨a9_, r9, hr9, t9, h9⟩ := h8
  obtain ⟨a10_, r10, hr10, t10, h10⟩ := h9
  obtain ⟨a11_, r11, hr11, t11, h11⟩ := h10
  obtain ⟨a12_, r12, hr12, t12, h12⟩ := h11
  simp only [HasTs] at h12
  subst h12
  subst hr12
  subst hr11
  subst hr10
  subst hr9
  subst hr8
  subst hr7
  subst hr6
  subst hr5
  subst hr4
  subst hr3
  subst hr2
  subst hr1
  subst hr0
  obtain ⟨a0_0, rfl, a0_h, a0_l, a0_w⟩ := HasT.sl_inv t0 tyK_23
  obtain ⟨a0_', rfl, a0_a⟩ := map_of (f := (fun y => [D.v (.int .i64 y)])) (p := fun (y : Int) => inR .i64 y) (fun a0_e hx => by
    have a0_q := a0_h a0_e hx
    obtain ⟨a0_e', rfl, a0_ew⟩ := HasT.int_inv a0_q tyK_3
    exact ⟨a0_e', rfl, a0_ew⟩)
  obtain ⟨a1_0, rfl, a1_h, a1_l, a1_w⟩ := HasT.sl_inv t1 tyK_23
  obtain ⟨a1_', rfl, a1_a⟩ := map_of (f := (fun y => [D.v (.int .i64 y)])) (p := fun (y : Int) => inR .i64 y) (fun a1_e hx => by
    have a1_q := a1_h a1_e hx
    obtain ⟨a1_e', rfl, a1_ew⟩ := HasT.int_inv a1_q tyK_3
    exact ⟨a1_e', rfl, a1_ew⟩)
  obtain ⟨a2_0, rfl, a2_h, a2_l, a2_w⟩ := HasT.sl_inv t2 tyK_23
  obtain ⟨a2_', rfl, a2_a⟩ := map_of (f := (fun y => [D.v (.int .i64 y)])) (p := fun (y : Int) => inR .i64 y) (fun a2_e hx => by
    have a2_q := a2_h a2_e hx
    obtain ⟨a2_e', rfl, a2_ew⟩ := HasT.int_inv a2_q tyK_3
    exact ⟨a2_e', rfl, a2_ew⟩)
  obtain ⟨a3_0, rfl, a3_h, a3_l, a3_w⟩ := HasT.sl_inv t3 tyK_23
  obtain ⟨a3_', rfl, a3_a⟩ := map_of (f := (fun y => [D.v (.int .i64 y)])) (p := fun (y : Int) => inR .i64 y) (fun a3_e hx => by
    have a3_q := a3_h a3_e hx
    obtain ⟨a3_e', rfl, a3_ew⟩ := HasT.int_inv a3_q tyK_3
    exact ⟨a3_e', rfl, a3_ew⟩)
  obtain ⟨a4_0, rfl, a4_h, a4_l, a4_w⟩ := HasT.sl_inv t4 tyK_23
  obtain ⟨a4_', rfl, a4_a⟩ := map_of (f := (fun y => [D.v (.int .i64 y)])) (p := fun (y : Int) => inR .i64 y) (fun a4_e hx => by
    have a4_q := a4_h a4_e hx
    obtain ⟨a4_e', rfl, a4_ew⟩ := HasT.int_inv a4_q tyK_3
    exact ⟨a4_e', rfl, a4_ew⟩)
  obtain ⟨a5_0, rfl, a5_h, a5_l, a5_w⟩ := HasT.sl_inv t5 tyK_23
  obtain ⟨a5_', rfl, a5_a⟩ := map_of (f := (fun y => [D.v (.int .i64 y)])) (p := fun (y : Int) => inR .i64 y) (fun a5_e hx => by
    have a5_q := a5_h a5_e hx
    obtain ⟨a5_e', rfl, a5_ew⟩ := HasT.int_inv a5_q tyK_3
    exact ⟨a5_e', rfl, a5_ew⟩)
  obtain ⟨a6_0, rfl, a6_h, a6_l, a6_w⟩ := HasT.sl_inv t6 tyK_23
  obtain ⟨a6_', rfl, a6_a⟩ := map_of (f := (fun y => [D.v (.int .i64 y)])) (p := fun (y : Int) => inR .i64 y) (fun a6_e hx => by
    have a6_q := a6_h a6_e hx
    obtain ⟨a6_e', rfl, a6_ew⟩ := HasT.int_inv a6_q tyK_3
    exact ⟨a6_e', rfl, a6_ew⟩)
  obtain ⟨a7_', rfl, a7_w⟩ := HasT.int_inv t7 tyK_29
  obtain ⟨a8_', rfl, a8_w⟩ := HasT.int_inv t8 tyK_3
  obtain ⟨a9_', rfl, a9_w⟩ := HasT.int_inv t9 tyK_3
  obtain ⟨a10_', rfl, a10_w⟩ := HasT.int_inv t10 tyK_3
  obtain ⟨a11_', rfl, a11_w⟩ := HasT.int_inv t11 tyK_3
  obtain ⟨a12_', rfl, a12_w⟩ := HasT.int_inv t12 tyK_3
  exact ⟨⟨a0_', a1_', a2_', a3_', a4_', a5_', a6_', a7_', a8_', a9_', a10_', a11_', a12_'⟩, rfl, ⟨(by simpa using a0_w), a0_a, (by simpa using a1_w), a1_a, (by simpa using a2_w), a2_a, (by simpa using a3_w), a3_a, (by simpa using a4_w), a4_a, (by simpa using a5_w), a5_a, (by simpa using a6_w), a6_a, a7_w, a8_w, a9_w, a10_w, a11_w, a12_w⟩⟩
inductive GExpr where
  | mk (Kind : Int) (Op : Int) (Num : Int) (Name : ByteArray) (Args : (List GExpr))
def GExpr.Kind : GExpr → Int
  | .mk a0 a1 a2 a3 a4 => a0
def GExpr.Op : GExpr → Int
  | .mk a0 a1 a2 a3 a4 => a1
def GExpr.Num : GExpr → Int
  | .mk a0 a1 a2 a3 a4 => a2
def GExpr.Name : GExpr → ByteArray
  | .mk a0 a1 a2 a3 a4 => a3
def GExpr.Args : GExpr → (List GExpr)
  | .mk a0 a1 a2 a3 a4 => a4
mutual
def GExpr.enc : GExpr → List D
  | .mk a0 a1 a2 a3 a4 => [D.v (.int .i64 a0), D.v (.int .i64 a1), D.v (.int .i64 a2), D.v (.string a3), D.sl (GExpr.encs a4)]
def GExpr.encs : List GExpr → List (List D)
  | [] => []
  | x :: l => x.enc :: GExpr.encs l
end
theorem GExpr.encs_eq : ∀ l : List GExpr, GExpr.encs l = l.map GExpr.enc
  | [] => rfl
  | x :: l => by rw [GExpr.encs, GExpr.encs_eq l]; rfl
theorem GExpr.enc_eq (x : GExpr) : x.enc = [D.v (.int .i64 x.Kind), D.v (.int .i64 x.Op), D.v (.int .i64 x.Num), D.v (.string x.Name), D.sl (x.Args.map GExpr.enc)] := by
  cases x
  simp only [GExpr.enc, GExpr.encs_eq]
  rfl
@[simp] theorem GExpr.enc_length (x : GExpr) : x.enc.length = 5 := by cases x; rfl
@[simp] theorem GExpr.enc_0 (x : GExpr) : x.enc[0]? = some (D.v (.int .i64 x.Kind)) := by rw [GExpr.enc_eq]; rfl
@[simp] theorem GExpr.encg_0 (x : GExpr) (h : 0 < x.enc.length) : x.enc[0] = D.v (.int .i64 x.Kind) := by
  have := GExpr.enc_0 x
  rw [List.getElem?_eq_getElem h] at this
  exact Option.some.inj this
@[simp] theorem GExpr.enc_1 (x : GExpr) : x.enc[1]? = some (D.v (.int .i64 x.Op)) := by rw [GExpr.enc_eq]; rfl
@[simp] theorem GExpr.encg_1 (x : GExpr) (h : 1 < x.enc.length) : x.enc[1] = D.v (.int .i64 x.Op) := by
  have := GExpr.enc_1 x
  rw [List.getElem?_eq_getElem h] at this
  exact Option.some.inj this
@[simp] theorem GExpr.enc_2 (x : GExpr) : x.enc[2]? = some (D.v (.int .i64 x.Num)) := by rw [GExpr.enc_eq]; rfl
@[simp] theorem GExpr.encg_2 (x : GExpr) (h : 2 < x.enc.length) : x.enc[2] = D.v (.int .i64 x.Num) := by
  have := GExpr.enc_2 x
  rw [List.getElem?_eq_getElem h] at this
  exact Option.some.inj this
@[simp] theorem GExpr.enc_3 (x : GExpr) : x.enc[3]? = some (D.v (.string x.Name)) := by rw [GExpr.enc_eq]; rfl
@[simp] theorem GExpr.encg_3 (x : GExpr) (h : 3 < x.enc.length) : x.enc[3] = D.v (.string x.Name) := by
  have := GExpr.enc_3 x
  rw [List.getElem?_eq_getElem h] at this
  exact Option.some.inj this
@[simp] theorem GExpr.enc_4 (x : GExpr) : x.enc[4]? = some (D.sl (x.Args.map GExpr.enc)) := by rw [GExpr.enc_eq]; rfl
@[simp] theorem GExpr.encg_4 (x : GExpr) (h : 4 < x.enc.length) : x.enc[4] = D.sl (x.Args.map GExpr.enc) := by
  have := GExpr.enc_4 x
  rw [List.getElem?_eq_getElem h] at this
  exact Option.some.inj this
@[simp] theorem GExpr.fzV (L : Heap) (x : GExpr) : V.fzs L (x.enc.map V.d) = x.enc.map V.d := by simp [GExpr.enc_eq, V.fzs, V.fz]
def GExpr.zero : GExpr := .mk (0) (0) (0) (⟨#[]⟩) ([])
theorem GExpr.zero_enc : GExpr.zero.enc = [D.v (.int .i64 0), D.v (.int .i64 0), D.v (.int .i64 0), D.v (.string ⟨#[]⟩), D.sl []] := rfl
@[simp] theorem GExpr.getZ (o : Option GExpr) : (o.map GExpr.enc).getD [D.v (.int .i64 0), D.v (.int .i64 0), D.v (.int .i64 0), D.v (.string ⟨#[]⟩), D.sl []] = (o.getD GExpr.zero).enc := by cases o <;> rfl
@[simp] theorem GExpr.getV (o : Option GExpr) : (o.map (fun x => x.enc.map V.d)).getD [V.d (D.v (.int .i64 0)), V.d (D.v (.int .i64 0)), V.d (D.v (.int .i64 0)), V.d (D.v (.string ⟨#[]⟩)), V.d (D.sl [])] = ((o.getD GExpr.zero).enc).map V.d := by cases o <;> rfl
theorem GExpr.cellAt (l : List GExpr) (i j : Nat) (z : D) (h : GExpr.zero.enc[j]? = some z) : cellAt (dd (l.map GExpr.enc)) i j [V.d z] = V.d (((l[i]?.getD GExpr.zero).enc[j]?).getD default) := by
  unfold Go.Ab.cellAt
  rw [dd_get, List.getElem?_map]
  cases hl : l[i]? with
  | none => simp [h]
  | some a =>
    have hj := (List.getElem?_eq_some_iff.1 h).1
    have hj' : j < a.enc.length := by rw [GExpr.enc_length] at hj ⊢; exact hj
    simp only [Option.map_some, List.getElem?_map, List.getElem?_eq_getElem hj', Option.getD_some]
@[simp] theorem GExpr.cellAt_0 (l : List GExpr) (i : Nat) : Go.Ab.cellAt (dd (l.map GExpr.enc)) i 0 [V.d (D.v (.int .i64 0))] = V.d (D.v (.int .i64 (l[i]?.getD GExpr.zero).Kind)) := (GExpr.cellAt l i 0 (D.v (.int .i64 0)) rfl).trans (by simp)
@[simp] theorem GExpr.cellAt_1 (l : List GExpr) (i : Nat) : Go.Ab.cellAt (dd (l.map GExpr.enc)) i 1 [V.d (D.v (.int .i64 0))] = V.d (D.v (.int .i64 (l[i]?.getD GExpr.zero).Op)) := (GExpr.cellAt l i 1 (D.v (.int .i64 0)) rfl).trans (by simp)
@[simp] theorem GExpr.cellAt_2 (l : List GExpr) (i : Nat) : Go.Ab.cellAt (dd (l.map GExpr.enc)) i 2 [V.d (D.v (.int .i64 0))] = V.d (D.v (.int .i64 (l[i]?.getD GExpr.zero).Num)) := (GExpr.cellAt l i 2 (D.v (.int .i64 0)) rfl).trans (by simp)
@[simp] theorem GExpr.cellAt_3 (l : List GExpr) (i : Nat) : Go.Ab.cellAt (dd (l.map GExpr.enc)) i 3 [V.d (D.v (.string ⟨#[]⟩))] = V.d (D.v (.string (l[i]?.getD GExpr.zero).Name)) := (GExpr.cellAt l i 3 (D.v (.string ⟨#[]⟩)) rfl).trans (by simp)
@[simp] theorem GExpr.cellAt_4 (l : List GExpr) (i : Nat) : Go.Ab.cellAt (dd (l.map GExpr.enc)) i 4 [V.d (D.sl [])] = V.d (D.sl ((l[i]?.getD GExpr.zero).Args.map GExpr.enc)) := (GExpr.cellAt l i 4 (D.sl []) rfl).trans (by simp)
@[simp] theorem GExpr.aggAt (l : List GExpr) (i : Nat) : Go.Ab.aggAt (dd (l.map GExpr.enc)) i 0 5 [V.d (D.v (.int .i64 0)), V.d (D.v (.int .i64 0)), V.d (D.v (.int .i64 0)), V.d (D.v (.string ⟨#[]⟩)), V.d (D.sl [])] = (l[i]?.getD GExpr.zero).enc.map V.d := by
  unfold Go.Ab.aggAt
  rw [dd_get, List.getElem?_map]
  cases l[i]? with
  | none => rfl
  | some x => simp; cases x; rfl
@[simp] theorem GExpr.dropAll (x : GExpr) : List.drop 5 x.enc = [] := by cases x; rfl
@[simp] theorem GExpr.dropAllv (x : GExpr) : List.drop 5 (x.enc.map V.d) = [] := by cases x; rfl
@[simp] theorem GExpr.enc_all (x : GExpr) : x.enc.take 5 = x.enc := by cases x; rfl
@[simp] theorem GExpr.enc_allv (x : GExpr) : List.take 5 (x.enc.map V.d) = x.enc.map V.d := by cases x; rfl
mutual
def GExpr.wf : GExpr → Prop
  | .mk a0 a1 a2 a3 a4 => inR .i64 a0 ∧ inR .i64 a1 ∧ inR .i64 a2 ∧ a3.size ≤ 140737488351232 ∧ a4.length * 64 ≤ 140737488351232 ∧ GExpr.wfs a4
def GExpr.wfs : List GExpr → Prop
  | [] => True
  | x :: l => x.wf ∧ GExpr.wfs l
end
theorem GExpr.wfs_iff : ∀ l : List GExpr, GExpr.wfs l ↔ ∀ y ∈ l, y.wf
  | [] => by simp [GExpr.wfs]
  | x :: l => by rw [GExpr.wfs, GExpr.wfs_iff l]; simp
theorem GExpr.wf_iff (x : GExpr) : x.wf ↔ inR .i64 x.Kind ∧ inR .i64 x.Op ∧ inR .i64 x.Num ∧ x.Name.size ≤ 140737488351232 ∧ x.Args.length * 64 ≤ 140737488351232 ∧ (∀ y0 : GExpr, y0 ∈ x.Args → y0.wf) := by
  cases x
  simp only [GExpr.wf, GExpr.wfs_iff]
  rfl
theorem GExpr.wf_Kind {x : GExpr} (h : x.wf) : inR .i64 x.Kind := ((GExpr.wf_iff x).1 h).1
theorem GExpr.wf_Num {x : GExpr} (h : x.wf) : inR .i64 x.Num := ((GExpr.wf_iff x).1 h).2.2.1
theorem GExpr.wf_Name {x : GExpr} (h : x.wf) : x.Name.size ≤ 140737488351232 := ((GExpr.wf_iff x).1 h).2.2.2.1
theorem GExpr.wl_Args {x : GExpr} (h : x.wf) : x.Args.length * 64 ≤ 140737488351232 := ((GExpr.wf_iff x).1 h).2.2.2.2.1
theorem GExpr.wf_Args {x : GExpr} (h : x.wf) : (∀ y0 : GExpr, y0 ∈ x.Args → y0.wf) := ((GExpr.wf_iff x).1 h).2.2.2.2.2
theorem tyK_40 : tyK Tryz.prog 40 = .st [3, 3, 3, 9, 38] := by kernel_rfl
theorem tyK_38 : tyK Tryz.prog 38 = .sl 40 64 := by kernel_rfl
theorem GExpr.of' : ∀ (n : Nat) {ys : List D}, SizeOf.sizeOf ys < n → HasT Tryz.prog 40 ys → ∃ x : GExpr, ys = x.enc ∧ x.wf := by
  intro n
  induction n with
  | zero => intro ys h; omega
  | succ n ih =>
  intro ys hsz h
  have h' := HasT.st_inv h tyK_40
  obtain ⟨a0_, r0, hr0, t0, h0⟩ := h'
  obtain ⟨a1_, r1, hr1, t1, h1⟩ := h0
  obtain ⟨a2_, r2, hr2, t2, h2⟩ := h1
  obtain ⟨a3_, r3, hr3, t3, h3⟩ := h2
  obtain ⟨a4_, r4, hr4, t4, h4⟩ := h3
  simp only [HasTs] at h4
  subst h4
  subst hr4
  subst hr3
  subst hr2
  subst hr1
  subst hr0
  obtain ⟨a0_', rfl, a0_w⟩ := HasT.int_inv t0 tyK_3
  obtain ⟨a1_', rfl, a1_w⟩ := HasT.int_inv t1 tyK_3
  obtain ⟨a2_', rfl, a2_w⟩ := HasT.int_inv t2 tyK_3
  obtain ⟨a3_', rfl, a3_w⟩ := HasT.str_inv t3 tyK_9
  obtain ⟨a4_0, rfl, a4_h, a4_l, a4_w⟩ := HasT.sl_inv t4 tyK_38
  obtain ⟨a4_', rfl, a4_a⟩ := map_of (f := GExpr.enc) (p := GExpr.wf) (fun a4_e hx => ih (by have hlt := List.sizeOf_lt_of_mem hx; simp at hsz; omega) (a4_h a4_e hx))
  exact ⟨.mk a0_' a1_' a2_' a3_' a4_', by rw [GExpr.enc_eq]; rfl, by rw [GExpr.wf]; exact ⟨a0_w, a1_w, a2_w, a3_w, (by simpa using a4_w), (GExpr.wfs_iff _).2 a4_a⟩⟩
theorem GExpr.of {ys : List D} (h : HasT Tryz.prog 40 ys) : ∃ x : GExpr, ys = x.enc ∧ x.wf := GExpr.of' _ (Nat.lt_succ_self _) h
inductive GStmt where
  | mk (Kind : Int) (Num : Int) (Name : ByteArray) (Args : (List GExpr)) (Body : (List GStmt)) (Else : (List GStmt))
def GStmt.Kind : GStmt → Int
  | .mk a0 a1 a2 a3 a4 a5 => a0
def GStmt.Num : GStmt → Int
  | .mk a0 a1 a2 a3 a4 a5 => a1
def GStmt.Name : GStmt → ByteArray
  | .mk a0 a1 a2 a3 a4 a5 => a2
def GStmt.Args : GStmt → (List GExpr)
  | .mk a0 a1 a2 a3 a4 a5 => a3
def GStmt.Body : GStmt → (List GStmt)
  | .mk a0 a1 a2 a3 a4 a5 => a4
def GStmt.Else : GStmt → (List GStmt)
  | .mk a0 a1 a2 a3 a4 a5 => a5
mutual
def GStmt.enc : GStmt → List D
  | .mk a0 a1 a2 a3 a4 a5 => [D.v (.int .i64 a0), D.v (.int .i64 a1), D.v (.string a2), D.sl (a3.map GExpr.enc), D.sl (GStmt.encs a4), D.sl (GStmt.encs a5)]
def GStmt.encs : List GStmt → List (List D)
  | [] => []
  | x :: l => x.enc :: GStmt.encs l
end
theorem GStmt.encs_eq : ∀ l : List GStmt, GStmt.encs l = l.map GStmt.enc
  | [] => rfl
  | x :: l => by rw [GStmt.encs, GStmt.encs_eq l]; rfl
theorem GStmt.enc_eq (x : GStmt) : x.enc = [D.v (.int .i64 x.Kind), D.v (.int .i64 x.Num), D.v (.string x.Name), D.sl (x.Args.map GExpr.enc), D.sl (x.Body.map GStmt.enc), D.sl (x.Else.map GStmt.enc)] := by
  cases x
  simp only [GStmt.enc, GStmt.encs_eq]
  rfl
@[simp] theorem GStmt.enc_length (x : GStmt) : x.enc.length = 6 := by cases x; rfl
@[simp] theorem GStmt.enc_0 (x : GStmt) : x.enc[0]? = some (D.v (.int .i64 x.Kind)) := by rw [GStmt.enc_eq]; rfl
@[simp] theorem GStmt.encg_0 (x : GStmt) (h : 0 < x.enc.length) : x.enc[0] = D.v (.int .i64 x.Kind) := by
  have := GStmt.enc_0 x
  rw [List.getElem?_eq_getElem h] at this
  exact Option.some.inj this
@[simp] theorem GStmt.enc_1 (x : GStmt) : x.enc[1]? = some (D.v (.int .i64 x.Num)) := by rw [GStmt.enc_eq]; rfl
@[simp] theorem GStmt.encg_1 (x : GStmt) (h : 1 < x.enc.length) : x.enc[1] = D.v (.int .i64 x.Num) := by
  have := GStmt.enc_1 x
  rw [List.getElem?_eq_getElem h] at this
  exact Option.some.inj this
@[simp] theorem GStmt.enc_2 (x : GStmt) : x.enc[2]? = some (D.v (.string x.Name)) := by rw [GStmt.enc_eq]; rfl
@[simp] theorem GStmt.encg_2 (x : GStmt) (h : 2 < x.enc.length) : x.enc[2] = D.v (.string x.Name) := by
  have := GStmt.enc_2 x
  rw [List.getElem?_eq_getElem h] at this
  exact Option.some.inj this
@[simp] theorem GStmt.enc_3 (x : GStmt) : x.enc[3]? = some (D.sl (x.Args.map GExpr.enc)) := by rw [GStmt.enc_eq]; rfl
@[simp] theorem GStmt.encg_3 (x : GStmt) (h : 3 < x.enc.length) : x.enc[3] = D.sl (x.Args.map GExpr.enc) := by
  have := GStmt.enc_3 x
  rw [List.getElem?_eq_getElem h] at this
  exact Option.some.inj this
@[simp] theorem GStmt.enc_4 (x : GStmt) : x.enc[4]? = some (D.sl (x.Body.map GStmt.enc)) := by rw [GStmt.enc_eq]; rfl
@[simp] theorem GStmt.encg_4 (x : GStmt) (h : 4 < x.enc.length) : x.enc[4] = D.sl (x.Body.map GStmt.enc) := by
  have := GStmt.enc_4 x
  rw [List.getElem?_eq_getElem h] at this
  exact Option.some.inj this
@[simp] theorem GStmt.enc_5 (x : GStmt) : x.enc[5]? = some (D.sl (x.Else.map GStmt.enc)) := by rw [GStmt.enc_eq]; rfl
@[simp] theorem GStmt.encg_5 (x : GStmt) (h : 5 < x.enc.length) : x.enc[5] = D.sl (x.Else.map GStmt.enc) := by
  have := GStmt.enc_5 x
  rw [List.getElem?_eq_getElem h] at this
  exact Option.some.inj this
@[simp] theorem GStmt.fzV (L : Heap) (x : GStmt) : V.fzs L (x.enc.map V.d) = x.enc.map V.d := by simp [GStmt.enc_eq, V.fzs, V.fz]
def GStmt.zero : GStmt := .mk (0) (0) (⟨#[]⟩) ([]) ([]) ([])
theorem GStmt.zero_enc : GStmt.zero.enc = [D.v (.int .i64 0), D.v (.int .i64 0), D.v (.string ⟨#[]⟩), D.sl [], D.sl [], D.sl []] := rfl
@[simp] theorem GStmt.getZ (o : Option GStmt) : (o.map GStmt.enc).getD [D.v (.int .i64 0), D.v (.int .i64 0), D.v (.string ⟨#[]⟩), D.sl [], D.sl [], D.sl []] = (o.getD GStmt.zero).enc := by cases o <;> rfl
@[simp] theorem GStmt.getV (o : Option GStmt) : (o.map (fun x => x.enc.map V.d)).getD [V.d (D.v (.int .i64 0)), V.d (D.v (.int .i64 0)), V.d (D.v (.string ⟨#[]⟩)), V.d (D.sl []), V.d (D.sl []), V.d (D.sl [])] = ((o.getD GStmt.zero).enc).map V.d := by cases o <;> rfl
theorem GStmt.cellAt (l : List GStmt) (i j : Nat) (z : D) (h : GStmt.zero.enc[j]? = some z) : cellAt (dd (l.map GStmt.enc)) i j [V.d z] = V.d (((l[i]?.getD GStmt.zero).enc[j]?).getD default) := by
  unfold Go.Ab.cellAt
  rw [dd_get, List.getElem?_map]
  cases hl : l[i]? with
  | none => simp [h]
  | some a =>
    have hj := (List.getElem?_eq_some_iff.1 h).1
    have hj' : j < a.enc.length := by rw [GStmt.enc_length] at hj ⊢; exact hj
    simp only [Option.map_some, List.getElem?_map, List.getElem?_eq_getElem hj', Option.getD_some]
@[simp] theorem GStmt.cellAt_0 (l : List GStmt) (i : Nat) : Go.Ab.cellAt (dd (l.map GStmt.enc)) i 0 [V.d (D.v (.int .i64 0))] = V.d (D.v (.int .i64 (l[i]?.getD GStmt.zero).Kind)) := (GStmt.cellAt l i 0 (D.v (.int .i64 0)) rfl).trans (by simp)
@[simp] theorem GStmt.cellAt_1 (l : List GStmt) (i : Nat) : Go.Ab.cellAt (dd (l.map GStmt.enc)) i 1 [V.d (D.v (.int .i64 0))] = V.d (D.v (.int .i64 (l[i]?.getD GStmt.zero).Num)) := (GStmt.cellAt l i 1 (D.v (.int .i64 0)) rfl).trans (by simp)
@[simp] theorem GStmt.cellAt_2 (l : List GStmt) (i : Nat) : Go.Ab.cellAt (dd (l.map GStmt.enc)) i 2 [V.d (D.v (.string ⟨#[]⟩))] = V.d (D.v (.string (l[i]?.getD GStmt.zero).Name)) := (GStmt.cellAt l i 2 (D.v (.string ⟨#[]⟩)) rfl).trans (by simp)
@[simp] theorem GStmt.cellAt_3 (l : List GStmt) (i : Nat) : Go.Ab.cellAt (dd (l.map GStmt.enc)) i 3 [V.d (D.sl [])] = V.d (D.sl ((l[i]?.getD GStmt.zero).Args.map GExpr.enc)) := (GStmt.cellAt l i 3 (D.sl []) rfl).trans (by simp)
@[simp] theorem GStmt.cellAt_4 (l : List GStmt) (i : Nat) : Go.Ab.cellAt (dd (l.map GStmt.enc)) i 4 [V.d (D.sl [])] = V.d (D.sl ((l[i]?.getD GStmt.zero).Body.map GStmt.enc)) := (GStmt.cellAt l i 4 (D.sl []) rfl).trans (by simp)
@[simp] theorem GStmt.cellAt_5 (l : List GStmt) (i : Nat) : Go.Ab.cellAt (dd (l.map GStmt.enc)) i 5 [V.d (D.sl [])] = V.d (D.sl ((l[i]?.getD GStmt.zero).Else.map GStmt.enc)) := (GStmt.cellAt l i 5 (D.sl []) rfl).trans (by simp)
@[simp] theorem GStmt.aggAt (l : List GStmt) (i : Nat) : Go.Ab.aggAt (dd (l.map GStmt.enc)) i 0 6 [V.d (D.v (.int .i64 0)), V.d (D.v (.int .i64 0)), V.d (D.v (.string ⟨#[]⟩)), V.d (D.sl []), V.d (D.sl []), V.d (D.sl [])] = (l[i]?.getD GStmt.zero).enc.map V.d := by
  unfold Go.Ab.aggAt
  rw [dd_get, List.getElem?_map]
  cases l[i]? with
  | none => rfl
  | some x => simp; cases x; rfl
@[simp] theorem GStmt.dropAll (x : GStmt) : List.drop 6 x.enc = [] := by cases x; rfl
@[simp] theorem GStmt.dropAllv (x : GStmt) : List.drop 6 (x.enc.map V.d) = [] := by cases x; rfl
@[simp] theorem GStmt.enc_all (x : GStmt) : x.enc.take 6 = x.enc := by cases x; rfl
@[simp] theorem GStmt.enc_allv (x : GStmt) : List.take 6 (x.enc.map V.d) = x.enc.map V.d := by cases x; rfl
mutual
def GStmt.wf : GStmt → Prop
  | .mk a0 a1 a2 a3 a4 a5 => inR .i64 a0 ∧ inR .i64 a1 ∧ a2.size ≤ 140737488351232 ∧ a3.length * 64 ≤ 140737488351232 ∧ (∀ y0 : GExpr, y0 ∈ a3 → y0.wf) ∧ a4.length * 104 ≤ 140737488351232 ∧ GStmt.wfs a4 ∧ a5.length * 104 ≤ 140737488351232 ∧ GStmt.wfs a5
def GStmt.wfs : List GStmt → Prop
  | [] => True
  | x :: l => x.wf ∧ GStmt.wfs l
end
theorem GStmt.wfs_iff : ∀ l : List GStmt, GStmt.wfs l ↔ ∀ y ∈ l, y.wf
  | [] => by simp [GStmt.wfs]
  | x :: l => by rw [GStmt.wfs, GStmt.wfs_iff l]; simp
theorem GStmt.wf_iff (x : GStmt) : x.wf ↔ inR .i64 x.Kind ∧ inR .i64 x.Num ∧ x.Name.size ≤ 140737488351232 ∧ x.Args.length * 64 ≤ 140737488351232 ∧ (∀ y0 : GExpr, y0 ∈ x.Args → y0.wf) ∧ x.Body.length * 104 ≤ 140737488351232 ∧ (∀ y0 : GStmt, y0 ∈ x.Body → y0.wf) ∧ x.Else.length * 104 ≤ 140737488351232 ∧ (∀ y0 : GStmt, y0 ∈ x.Else → y0.wf) := by
  cases x
  simp only [GStmt.wf, GStmt.wfs_iff]
  rfl
theorem GStmt.wf_Kind {x : GStmt} (h : x.wf) : inR .i64 x.Kind := ((GStmt.wf_iff x).1 h).1
theorem GStmt.wf_Num {x : GStmt} (h : x.wf) : inR .i64 x.Num := ((GStmt.wf_iff x).1 h).2.1
theorem GStmt.wf_Name {x : GStmt} (h : x.wf) : x.Name.size ≤ 140737488351232 := ((GStmt.wf_iff x).1 h).2.2.1
theorem GStmt.wl_Args {x : GStmt} (h : x.wf) : x.Args.length * 64 ≤ 140737488351232 := ((GStmt.wf_iff x).1 h).2.2.2.1
theorem GStmt.wf_Args {x : GStmt} (h : x.wf) : (∀ y0 : GExpr, y0 ∈ x.Args → y0.wf) := ((GStmt.wf_iff x).1 h).2.2.2.2.1
theorem GStmt.wf_Body {x : GStmt} (h : x.wf) : (∀ y0 : GStmt, y0 ∈ x.Body → y0.wf) := ((GStmt.wf_iff x).1 h).2.2.2.2.2.2.1
theorem GStmt.wf_Else {x : GStmt} (h : x.wf) : (∀ y0 : GStmt, y0 ∈ x.Else → y0.wf) := ((GStmt.wf_iff x).1 h).2.2.2.2.2.2.2.2
theorem tyK_43 : tyK Tryz.prog 43 = .st [3, 3, 9, 38, 41, 41] := by kernel_rfl
theorem tyK_41 : tyK Tryz.prog 41 = .sl 43 104 := by kernel_rfl
theorem GStmt.of' : ∀ (n : Nat) {ys : List D}, SizeOf.sizeOf ys < n → HasT Tryz.prog 43 ys → ∃ x : GStmt, ys = x.enc ∧ x.wf := by
  intro n
  induction n with
  | zero => intro ys h; omega
  | succ n ih =>
  intro ys hsz h
  have h' := HasT.st_inv h tyK_43
  obtain ⟨a0_, r0, hr0, t0, h0⟩ := h'
  obtain ⟨a1_, r1, hr1, t1, h1⟩ := h0
  obtain ⟨a2_, r2, hr2, t2, h2⟩ := h1
  obtain ⟨a3_, r3, hr3, t3, h3⟩ := h2
  obtain ⟨a4_, r4, hr4, t4, h4⟩ := h3
  obtain ⟨a5_, r5, hr5, t5, h5⟩ := h4
  simp only [HasTs] at h5
  subst h5
  subst hr5
  subst hr4
  subst hr3
  subst hr2
  subst hr1
  subst hr0
  obtain ⟨a0_', rfl, a0_w⟩ := HasT.int_inv t0 tyK_3
  obtain ⟨a1_', rfl, a1_w⟩ := HasT.int_inv t1 tyK_3
  obtain ⟨a2_', rfl, a2_w⟩ := HasT.str_inv t2 tyK_9
  obtain ⟨a3_0, rfl, a3_h, a3_l, a3_w⟩ := HasT.sl_inv t3 tyK_38
  obtain ⟨a3_', rfl, a3_a⟩ := map_of (f := GExpr.enc) (p := fun (y : GExpr) => y.wf) (fun a3_e hx => by
    have a3_q := a3_h a3_e hx
    obtain ⟨a3_e', rfl, a3_ew⟩ := GExpr.of a3_q
    exact ⟨a3_e', rfl, a3_ew⟩)
  obtain ⟨a4_0, rfl, a4_h, a4_l, a4_w⟩ := HasT.sl_inv t4 tyK_41
  obtain ⟨a4_', rfl, a4_a⟩ := map_of (f := GStmt.enc) (p := GStmt.wf) (fun a4_e hx => ih (by have hlt := List.sizeOf_lt_of_mem hx; simp at hsz; omega) (a4_h a4_e hx))
  obtain ⟨a5_0, rfl, a5_h, a5_l, a5_w⟩ := HasT.sl_inv t5 tyK_41
  obtain ⟨a5_', rfl, a5_a⟩ := map_of (f := GStmt.enc) (p := GStmt.wf) (fun a5_e hx => ih (by have hlt := List.sizeOf_lt_of_mem hx; simp at hsz; omega) (a5_h a5_e hx))
  exact ⟨.mk a0_' a1_' a2_' a3_' a4_' a5_', by rw [GStmt.enc_eq]; rfl, by rw [GStmt.wf]; exact ⟨a0_w, a1_w, a2_w, (by simpa using a3_w), a3_a, (by simpa using a4_w), (GStmt.wfs_iff _).2 a4_a, (by simpa using a5_w), (GStmt.wfs_iff _).2 a5_a⟩⟩
theorem GStmt.of {ys : List D} (h : HasT Tryz.prog 43 ys) : ∃ x : GStmt, ys = x.enc ∧ x.wf := GStmt.of' _ (Nat.lt_succ_self _) h
structure GBook where
  Tables : GTables
  Routines : (List (List GStmt))
def GBook.enc (x : GBook) : List D := [D.v (.int .i64 x.Tables.Title), D.v (.int .i64 x.Tables.By), D.v (.int .i64 x.Tables.Release), D.v (.int .i64 x.Tables.Max), D.sl (encS x.Tables.Texts), D.v (.int .i64 x.Tables.Flags), D.sl (encI x.Tables.Props), D.sl (encI x.Tables.Globals), D.sl (x.Tables.Things.map GThing.enc), D.sl (x.Tables.Acts.map GAct.enc), D.sl (x.Tables.Deeds.map GDeed.enc), D.sl (encI x.Tables.Funcs), D.sl (encI x.Tables.Daemons), D.sl (encI x.Tables.Params), D.sl (encI x.Tables.Locals), D.sl (encSl (List.map GStmt.enc) x.Routines)]
@[simp] theorem GBook.enc_length (x : GBook) : x.enc.length = 16 := rfl
@[simp] theorem GBook.enc_0 (x : GBook) : x.enc[0]? = some (D.v (.int .i64 x.Tables.Title)) := rfl
@[simp] theorem GBook.encg_0 (x : GBook) (h : 0 < x.enc.length) : x.enc[0] = D.v (.int .i64 x.Tables.Title) := rfl
@[simp] theorem GBook.enc_1 (x : GBook) : x.enc[1]? = some (D.v (.int .i64 x.Tables.By)) := rfl
@[simp] theorem GBook.encg_1 (x : GBook) (h : 1 < x.enc.length) : x.enc[1] = D.v (.int .i64 x.Tables.By) := rfl
@[simp] theorem GBook.enc_2 (x : GBook) : x.enc[2]? = some (D.v (.int .i64 x.Tables.Release)) := rfl
@[simp] theorem GBook.encg_2 (x : GBook) (h : 2 < x.enc.length) : x.enc[2] = D.v (.int .i64 x.Tables.Release) := rfl
@[simp] theorem GBook.enc_3 (x : GBook) : x.enc[3]? = some (D.v (.int .i64 x.Tables.Max)) := rfl
@[simp] theorem GBook.encg_3 (x : GBook) (h : 3 < x.enc.length) : x.enc[3] = D.v (.int .i64 x.Tables.Max) := rfl
@[simp] theorem GBook.enc_4 (x : GBook) : x.enc[4]? = some (D.sl (encS x.Tables.Texts)) := rfl
@[simp] theorem GBook.encg_4 (x : GBook) (h : 4 < x.enc.length) : x.enc[4] = D.sl (encS x.Tables.Texts) := rfl
@[simp] theorem GBook.enc_5 (x : GBook) : x.enc[5]? = some (D.v (.int .i64 x.Tables.Flags)) := rfl
@[simp] theorem GBook.encg_5 (x : GBook) (h : 5 < x.enc.length) : x.enc[5] = D.v (.int .i64 x.Tables.Flags) := rfl
@[simp] theorem GBook.enc_6 (x : GBook) : x.enc[6]? = some (D.sl (encI x.Tables.Props)) := rfl
@[simp] theorem GBook.encg_6 (x : GBook) (h : 6 < x.enc.length) : x.enc[6] = D.sl (encI x.Tables.Props) := rfl
@[simp] theorem GBook.enc_7 (x : GBook) : x.enc[7]? = some (D.sl (encI x.Tables.Globals)) := rfl
@[simp] theorem GBook.encg_7 (x : GBook) (h : 7 < x.enc.length) : x.enc[7] = D.sl (encI x.Tables.Globals) := rfl
@[simp] theorem GBook.enc_8 (x : GBook) : x.enc[8]? = some (D.sl (x.Tables.Things.map GThing.enc)) := rfl
@[simp] theorem GBook.encg_8 (x : GBook) (h : 8 < x.enc.length) : x.enc[8] = D.sl (x.Tables.Things.map GThing.enc) := rfl
@[simp] theorem GBook.enc_9 (x : GBook) : x.enc[9]? = some (D.sl (x.Tables.Acts.map GAct.enc)) := rfl
@[simp] theorem GBook.encg_9 (x : GBook) (h : 9 < x.enc.length) : x.enc[9] = D.sl (x.Tables.Acts.map GAct.enc) := rfl
@[simp] theorem GBook.enc_10 (x : GBook) : x.enc[10]? = some (D.sl (x.Tables.Deeds.map GDeed.enc)) := rfl
@[simp] theorem GBook.encg_10 (x : GBook) (h : 10 < x.enc.length) : x.enc[10] = D.sl (x.Tables.Deeds.map GDeed.enc) := rfl
@[simp] theorem GBook.enc_11 (x : GBook) : x.enc[11]? = some (D.sl (encI x.Tables.Funcs)) := rfl
@[simp] theorem GBook.encg_11 (x : GBook) (h : 11 < x.enc.length) : x.enc[11] = D.sl (encI x.Tables.Funcs) := rfl
@[simp] theorem GBook.enc_12 (x : GBook) : x.enc[12]? = some (D.sl (encI x.Tables.Daemons)) := rfl
@[simp] theorem GBook.encg_12 (x : GBook) (h : 12 < x.enc.length) : x.enc[12] = D.sl (encI x.Tables.Daemons) := rfl
@[simp] theorem GBook.enc_13 (x : GBook) : x.enc[13]? = some (D.sl (encI x.Tables.Params)) := rfl
@[simp] theorem GBook.encg_13 (x : GBook) (h : 13 < x.enc.length) : x.enc[13] = D.sl (encI x.Tables.Params) := rfl
@[simp] theorem GBook.enc_14 (x : GBook) : x.enc[14]? = some (D.sl (encI x.Tables.Locals)) := rfl
@[simp] theorem GBook.encg_14 (x : GBook) (h : 14 < x.enc.length) : x.enc[14] = D.sl (encI x.Tables.Locals) := rfl
@[simp] theorem GBook.enc_15 (x : GBook) : x.enc[15]? = some (D.sl (encSl (List.map GStmt.enc) x.Routines)) := rfl
@[simp] theorem GBook.encg_15 (x : GBook) (h : 15 < x.enc.length) : x.enc[15] = D.sl (encSl (List.map GStmt.enc) x.Routines) := rfl
@[simp] theorem GBook.fzV (L : Heap) (x : GBook) : V.fzs L (x.enc.map V.d) = x.enc.map V.d := by simp [GBook.enc, V.fzs, V.fz]
def GBook.zero : GBook := ⟨GTables.zero, []⟩
theorem GBook.zero_enc : GBook.zero.enc = [D.v (.int .i64 0), D.v (.int .i64 0), D.v (.int .i64 0), D.v (.int .i64 0), D.sl [], D.v (.int .i64 0), D.sl [], D.sl [], D.sl [], D.sl [], D.sl [], D.sl [], D.sl [], D.sl [], D.sl [], D.sl []] := rfl
@[simp] theorem GBook.getZ (o : Option GBook) : (o.map GBook.enc).getD [D.v (.int .i64 0), D.v (.int .i64 0), D.v (.int .i64 0), D.v (.int .i64 0), D.sl [], D.v (.int .i64 0), D.sl [], D.sl [], D.sl [], D.sl [], D.sl [], D.sl [], D.sl [], D.sl [], D.sl [], D.sl []] = (o.getD GBook.zero).enc := by cases o <;> rfl
@[simp] theorem GBook.getV (o : Option GBook) : (o.map (fun x => x.enc.map V.d)).getD [V.d (D.v (.int .i64 0)), V.d (D.v (.int .i64 0)), V.d (D.v (.int .i64 0)), V.d (D.v (.int .i64 0)), V.d (D.sl []), V.d (D.v (.int .i64 0)), V.d (D.sl []), V.d (D.sl []), V.d (D.sl []), V.d (D.sl []), V.d (D.sl []), V.d (D.sl []), V.d (D.sl []), V.d (D.sl []), V.d (D.sl []), V.d (D.sl [])] = ((o.getD GBook.zero).enc).map V.d := by cases o <;> rfl
theorem GBook.cellAt (l : List GBook) (i j : Nat) (z : D) (h : GBook.zero.enc[j]? = some z) : cellAt (dd (l.map GBook.enc)) i j [V.d z] = V.d (((l[i]?.getD GBook.zero).enc[j]?).getD default) := by
  unfold Go.Ab.cellAt
  rw [dd_get, List.getElem?_map]
  cases hl : l[i]? with
  | none => simp [h]
  | some a =>
    have hj := (List.getElem?_eq_some_iff.1 h).1
    have hj' : j < a.enc.length := by rw [GBook.enc_length] at hj ⊢; exact hj
    simp only [Option.map_some, List.getElem?_map, List.getElem?_eq_getElem hj', Option.getD_some]
@[simp] theorem GBook.cellAt_0 (l : List GBook) (i : Nat) : Go.Ab.cellAt (dd (l.map GBook.enc)) i 0 [V.d (D.v (.int .i64 0))] = V.d (D.v (.int .i64 (l[i]?.getD GBook.zero).Tables.Title)) := (GBook.cellAt l i 0 (D.v (.int .i64 0)) rfl).trans (by simp)
@[simp] theorem GBook.cellAt_1 (l : List GBook) (i : Nat) : Go.Ab.cellAt (dd (l.map GBook.enc)) i 1 [V.d (D.v (.int .i64 0))] = V.d (D.v (.int .i64 (l[i]?.getD GBook.zero).Tables.By)) := (GBook.cellAt l i 1 (D.v (.int .i64 0)) rfl).trans (by simp)
@[simp] theorem GBook.cellAt_2 (l : List GBook) (i : Nat) : Go.Ab.cellAt (dd (l.map GBook.enc)) i 2 [V.d (D.v (.int .i64 0))] = V.d (D.v (.int .i64 (l[i]?.getD GBook.zero).Tables.Release)) := (GBook.cellAt l i 2 (D.v (.int .i64 0)) rfl).trans (by simp)
@[simp] theorem GBook.cellAt_3 (l : List GBook) (i : Nat) : Go.Ab.cellAt (dd (l.map GBook.enc)) i 3 [V.d (D.v (.int .i64 0))] = V.d (D.v (.int .i64 (l[i]?.getD GBook.zero).Tables.Max)) := (GBook.cellAt l i 3 (D.v (.int .i64 0)) rfl).trans (by simp)
@[simp] theorem GBook.cellAt_4 (l : List GBook) (i : Nat) : Go.Ab.cellAt (dd (l.map GBook.enc)) i 4 [V.d (D.sl [])] = V.d (D.sl (encS (l[i]?.getD GBook.zero).Tables.Texts)) := (GBook.cellAt l i 4 (D.sl []) rfl).trans (by simp)
@[simp] theorem GBook.cellAt_5 (l : List GBook) (i : Nat) : Go.Ab.cellAt (dd (l.map GBook.enc)) i 5 [V.d (D.v (.int .i64 0))] = V.d (D.v (.int .i64 (l[i]?.getD GBook.zero).Tables.Flags)) := (GBook.cellAt l i 5 (D.v (.int .i64 0)) rfl).trans (by simp)
@[simp] theorem GBook.cellAt_6 (l : List GBook) (i : Nat) : Go.Ab.cellAt (dd (l.map GBook.enc)) i 6 [V.d (D.sl [])] = V.d (D.sl (encI (l[i]?.getD GBook.zero).Tables.Props)) := (GBook.cellAt l i 6 (D.sl []) rfl).trans (by simp)
@[simp] theorem GBook.cellAt_7 (l : List GBook) (i : Nat) : Go.Ab.cellAt (dd (l.map GBook.enc)) i 7 [V.d (D.sl [])] = V.d (D.sl (encI (l[i]?.getD GBook.zero).Tables.Globals)) := (GBook.cellAt l i 7 (D.sl []) rfl).trans (by simp)
@[simp] theorem GBook.cellAt_8 (l : List GBook) (i : Nat) : Go.Ab.cellAt (dd (l.map GBook.enc)) i 8 [V.d (D.sl [])] = V.d (D.sl ((l[i]?.getD GBook.zero).Tables.Things.map GThing.enc)) := (GBook.cellAt l i 8 (D.sl []) rfl).trans (by simp)
@[simp] theorem GBook.cellAt_9 (l : List GBook) (i : Nat) : Go.Ab.cellAt (dd (l.map GBook.enc)) i 9 [V.d (D.sl [])] = V.d (D.sl ((l[i]?.getD GBook.zero).Tables.Acts.map GAct.enc)) := (GBook.cellAt l i 9 (D.sl []) rfl).trans (by simp)
@[simp] theorem GBook.cellAt_10 (l : List GBook) (i : Nat) : Go.Ab.cellAt (dd (l.map GBook.enc)) i 10 [V.d (D.sl [])] = V.d (D.sl ((l[i]?.getD GBook.zero).Tables.Deeds.map GDeed.enc)) := (GBook.cellAt l i 10 (D.sl []) rfl).trans (by simp)
@[simp] theorem GBook.cellAt_11 (l : List GBook) (i : Nat) : Go.Ab.cellAt (dd (l.map GBook.enc)) i 11 [V.d (D.sl [])] = V.d (D.sl (encI (l[i]?.getD GBook.zero).Tables.Funcs)) := (GBook.cellAt l i 11 (D.sl []) rfl).trans (by simp)
@[simp] theorem GBook.cellAt_12 (l : List GBook) (i : Nat) : Go.Ab.cellAt (dd (l.map GBook.enc)) i 12 [V.d (D.sl [])] = V.d (D.sl (encI (l[i]?.getD GBook.zero).Tables.Daemons)) := (GBook.cellAt l i 12 (D.sl []) rfl).trans (by simp)
@[simp] theorem GBook.cellAt_13 (l : List GBook) (i : Nat) : Go.Ab.cellAt (dd (l.map GBook.enc)) i 13 [V.d (D.sl [])] = V.d (D.sl (encI (l[i]?.getD GBook.zero).Tables.Params)) := (GBook.cellAt l i 13 (D.sl []) rfl).trans (by simp)
@[simp] theorem GBook.cellAt_14 (l : List GBook) (i : Nat) : Go.Ab.cellAt (dd (l.map GBook.enc)) i 14 [V.d (D.sl [])] = V.d (D.sl (encI (l[i]?.getD GBook.zero).Tables.Locals)) := (GBook.cellAt l i 14 (D.sl []) rfl).trans (by simp)
@[simp] theorem GBook.cellAt_15 (l : List GBook) (i : Nat) : Go.Ab.cellAt (dd (l.map GBook.enc)) i 15 [V.d (D.sl [])] = V.d (D.sl (encSl (List.map GStmt.enc) (l[i]?.getD GBook.zero).Routines)) := (GBook.cellAt l i 15 (D.sl []) rfl).trans (by simp)
@[simp] theorem GBook.aggAt (l : List GBook) (i : Nat) : Go.Ab.aggAt (dd (l.map GBook.enc)) i 0 16 [V.d (D.v (.int .i64 0)), V.d (D.v (.int .i64 0)), V.d (D.v (.int .i64 0)), V.d (D.v (.int .i64 0)), V.d (D.sl []), V.d (D.v (.int .i64 0)), V.d (D.sl []), V.d (D.sl []), V.d (D.sl []), V.d (D.sl []), V.d (D.sl []), V.d (D.sl []), V.d (D.sl []), V.d (D.sl []), V.d (D.sl []), V.d (D.sl [])] = (l[i]?.getD GBook.zero).enc.map V.d := by
  unfold Go.Ab.aggAt
  rw [dd_get, List.getElem?_map]
  cases l[i]? with
  | none => rfl
  | some x => simp; cases x; rfl
@[simp] theorem GBook.dropAll (x : GBook) : List.drop 16 x.enc = [] := rfl
@[simp] theorem GBook.dropAllv (x : GBook) : List.drop 16 (x.enc.map V.d) = [] := rfl
@[simp] theorem GBook.enc_all (x : GBook) : x.enc.take 16 = x.enc := rfl
@[simp] theorem GBook.enc_allv (x : GBook) : List.take 16 (x.enc.map V.d) = x.enc.map V.d := rfl
@[simp] theorem GBook.sub_Tables (x : GBook) : List.take 15 (x.enc) = x.Tables.enc := rfl
@[simp] theorem GBook.subv_Tables (x : GBook) : List.take 15 (x.enc.map V.d) = x.Tables.enc.map V.d := rfl
def GBook.wf (x : GBook) : Prop := x.Tables.wf ∧ x.Routines.length * 24 ≤ 140737488351232 ∧ (∀ y0 : (List GStmt), y0 ∈ x.Routines → y0.length * 104 ≤ 140737488351232 ∧ (∀ y1 : GStmt, y1 ∈ y0 → y1.wf))
theorem tyK_50 : tyK Tryz.prog 50 = .st [28, 48] := by kernel_rfl
theorem tyK_48 : tyK Tryz.prog 48 = .sl 41 24 := by kernel_rfl
theorem GBook.of {ys : List D} (h : HasT Tryz.prog 50 ys) : ∃ x : GBook, ys = x.enc ∧ x.wf := by
  have h' := HasT.st_inv h tyK_50
  obtain ⟨a0_, r0, hr0, t0, h0⟩ := h'
  obtain ⟨a1_, r1, hr1, t1, h1⟩ := h0
  simp only [HasTs] at h1
  subst h1
  subst hr1
  subst hr0
  obtain ⟨a0_', rfl, a0_w⟩ := GTables.of t0
  obtain ⟨a1_0, rfl, a1_h, a1_l, a1_w⟩ := HasT.sl_inv t1 tyK_48
  obtain ⟨a1_', rfl, a1_a⟩ := map_of (f := (fun y => [D.sl (y.map GStmt.enc)])) (p := fun (y : (List GStmt)) => y.length * 104 ≤ 140737488351232 ∧ (∀ y1 : GStmt, y1 ∈ y → y1.wf)) (fun a1_e hx => by
    have a1_q := a1_h a1_e hx
    obtain ⟨a1_e0, rfl, a1_eh, a1_el, a1_ew⟩ := HasT.sl_inv a1_q tyK_41
    obtain ⟨a1_e', rfl, a1_ea⟩ := map_of (f := GStmt.enc) (p := fun (y : GStmt) => y.wf) (fun a1_ee hx => by
      have a1_eq := a1_eh a1_ee hx
      obtain ⟨a1_ee', rfl, a1_eew⟩ := GStmt.of a1_eq
      exact ⟨a1_ee', rfl, a1_eew⟩)
    exact ⟨a1_e', rfl, ⟨(by simpa using a1_ew), a1_ea⟩⟩)
  exact ⟨⟨a0_', a1_'⟩, rfl, ⟨a0_w, (by simpa using a1_w), a1_a⟩⟩
structure GEnv where
  Noun : Int
  Second : Int
  Number : Int
  deriving DecidableEq
def GEnv.enc (x : GEnv) : List D := [D.v (.int .i64 x.Noun), D.v (.int .i64 x.Second), D.v (.int .i64 x.Number)]
@[simp] theorem GEnv.enc_length (x : GEnv) : x.enc.length = 3 := rfl
@[simp] theorem GEnv.enc_0 (x : GEnv) : x.enc[0]? = some (D.v (.int .i64 x.Noun)) := rfl
@[simp] theorem GEnv.encg_0 (x : GEnv) (h : 0 < x.enc.length) : x.enc[0] = D.v (.int .i64 x.Noun) := rfl
@[simp] theorem GEnv.enc_1 (x : GEnv) : x.enc[1]? = some (D.v (.int .i64 x.Second)) := rfl
@[simp] theorem GEnv.encg_1 (x : GEnv) (h : 1 < x.enc.length) : x.enc[1] = D.v (.int .i64 x.Second) := rfl
@[simp] theorem GEnv.enc_2 (x : GEnv) : x.enc[2]? = some (D.v (.int .i64 x.Number)) := rfl
@[simp] theorem GEnv.encg_2 (x : GEnv) (h : 2 < x.enc.length) : x.enc[2] = D.v (.int .i64 x.Number) := rfl
@[simp] theorem GEnv.fzV (L : Heap) (x : GEnv) : V.fzs L (x.enc.map V.d) = x.enc.map V.d := by simp [GEnv.enc, V.fzs, V.fz]
@[simp] theorem GEnv.eqV (x y : GEnv) : eqVs (x.enc.map V.d) (y.enc.map V.d) = some (decide (x = y)) := by
  rcases x with ⟨a_0, a_1, a_2⟩
  rcases y with ⟨b_0, b_1, b_2⟩
  simp only [GEnv.enc, List.map, eqVs, vals, eqVals, eqV1, if_true, Option.some.injEq, bytes_beq]
  rw [Bool.eq_iff_iff]
  simp [and_assoc]
@[simp] theorem GEnv.fitV (x : GEnv) : fitVs [.i .i64, .i .i64, .i .i64] (x.enc.map V.d) = true := by
  simp [GEnv.enc, fitVs, vals, fits, fit1]
def GEnv.zero : GEnv := ⟨0, 0, 0⟩
theorem GEnv.zero_enc : GEnv.zero.enc = [D.v (.int .i64 0), D.v (.int .i64 0), D.v (.int .i64 0)] := rfl
@[simp] theorem GEnv.getZ (o : Option GEnv) : (o.map GEnv.enc).getD [D.v (.int .i64 0), D.v (.int .i64 0), D.v (.int .i64 0)] = (o.getD GEnv.zero).enc := by cases o <;> rfl
@[simp] theorem GEnv.getV (o : Option GEnv) : (o.map (fun x => x.enc.map V.d)).getD [V.d (D.v (.int .i64 0)), V.d (D.v (.int .i64 0)), V.d (D.v (.int .i64 0))] = ((o.getD GEnv.zero).enc).map V.d := by cases o <;> rfl
theorem GEnv.cellAt (l : List GEnv) (i j : Nat) (z : D) (h : GEnv.zero.enc[j]? = some z) : cellAt (dd (l.map GEnv.enc)) i j [V.d z] = V.d (((l[i]?.getD GEnv.zero).enc[j]?).getD default) := by
  unfold Go.Ab.cellAt
  rw [dd_get, List.getElem?_map]
  cases hl : l[i]? with
  | none => simp [h]
  | some a =>
    have hj := (List.getElem?_eq_some_iff.1 h).1
    have hj' : j < a.enc.length := by rw [GEnv.enc_length] at hj ⊢; exact hj
    simp only [Option.map_some, List.getElem?_map, List.getElem?_eq_getElem hj', Option.getD_some]
@[simp] theorem GEnv.cellAt_0 (l : List GEnv) (i : Nat) : Go.Ab.cellAt (dd (l.map GEnv.enc)) i 0 [V.d (D.v (.int .i64 0))] = V.d (D.v (.int .i64 (l[i]?.getD GEnv.zero).Noun)) := (GEnv.cellAt l i 0 (D.v (.int .i64 0)) rfl).trans (by simp)
@[simp] theorem GEnv.cellAt_1 (l : List GEnv) (i : Nat) : Go.Ab.cellAt (dd (l.map GEnv.enc)) i 1 [V.d (D.v (.int .i64 0))] = V.d (D.v (.int .i64 (l[i]?.getD GEnv.zero).Second)) := (GEnv.cellAt l i 1 (D.v (.int .i64 0)) rfl).trans (by simp)
@[simp] theorem GEnv.cellAt_2 (l : List GEnv) (i : Nat) : Go.Ab.cellAt (dd (l.map GEnv.enc)) i 2 [V.d (D.v (.int .i64 0))] = V.d (D.v (.int .i64 (l[i]?.getD GEnv.zero).Number)) := (GEnv.cellAt l i 2 (D.v (.int .i64 0)) rfl).trans (by simp)
@[simp] theorem GEnv.aggAt (l : List GEnv) (i : Nat) : Go.Ab.aggAt (dd (l.map GEnv.enc)) i 0 3 [V.d (D.v (.int .i64 0)), V.d (D.v (.int .i64 0)), V.d (D.v (.int .i64 0))] = (l[i]?.getD GEnv.zero).enc.map V.d := by
  unfold Go.Ab.aggAt
  rw [dd_get, List.getElem?_map]
  cases l[i]? with
  | none => rfl
  | some x => simp; cases x; rfl
@[simp] theorem GEnv.dropAll (x : GEnv) : List.drop 3 x.enc = [] := rfl
@[simp] theorem GEnv.dropAllv (x : GEnv) : List.drop 3 (x.enc.map V.d) = [] := rfl
@[simp] theorem GEnv.enc_all (x : GEnv) : x.enc.take 3 = x.enc := rfl
@[simp] theorem GEnv.enc_allv (x : GEnv) : List.take 3 (x.enc.map V.d) = x.enc.map V.d := rfl
def GEnv.wf (x : GEnv) : Prop := inR .i64 x.Noun ∧ inR .i64 x.Second ∧ inR .i64 x.Number
theorem GEnv.wf_Noun {x : GEnv} (h : x.wf) : inR .i64 x.Noun := h.1
theorem GEnv.wf_Second {x : GEnv} (h : x.wf) : inR .i64 x.Second := h.2.1
theorem tyK_52 : tyK Tryz.prog 52 = .st [3, 3, 3] := by kernel_rfl
theorem GEnv.of {ys : List D} (h : HasT Tryz.prog 52 ys) : ∃ x : GEnv, ys = x.enc ∧ x.wf := by
  have h' := HasT.st_inv h tyK_52
  obtain ⟨a0_, r0, hr0, t0, h0⟩ := h'
  obtain ⟨a1_, r1, hr1, t1, h1⟩ := h0
  obtain ⟨a2_, r2, hr2, t2, h2⟩ := h1
  simp only [HasTs] at h2
  subst h2
  subst hr2
  subst hr1
  subst hr0
  obtain ⟨a0_', rfl, a0_w⟩ := HasT.int_inv t0 tyK_3
  obtain ⟨a1_', rfl, a1_w⟩ := HasT.int_inv t1 tyK_3
  obtain ⟨a2_', rfl, a2_w⟩ := HasT.int_inv t2 tyK_3
  exact ⟨⟨a0_', a1_', a2_'⟩, rfl, ⟨a0_w, a1_w, a2_w⟩⟩
structure GTold where
  Err : Int
  World : GWorld
  Out : ByteArray
  Value : Int
  Stopped : Bool
  Fuel : Int
  deriving DecidableEq
def GTold.enc (x : GTold) : List D := [D.v (.int .i64 x.Err), D.sl (encI x.World.Globals), D.sl (encI x.World.Parent), D.sl (encI x.World.Child), D.sl (encI x.World.Next), D.sl (encI x.World.Flags), D.sl (encI x.World.Props), D.sl (encI x.World.Timers), D.v (.int .u64 x.World.Seed), D.v (.int .i64 x.World.Score), D.v (.int .i64 x.World.Turns), D.v (.int .i64 x.World.Over), D.v (.int .i64 x.World.It), D.v (.int .i64 x.World.Go), D.v (.string x.Out), D.v (.int .i64 x.Value), D.v (.bool x.Stopped), D.v (.int .i64 x.Fuel)]
@[simp] theorem GTold.enc_length (x : GTold) : x.enc.length = 18 := rfl
@[simp] theorem GTold.enc_0 (x : GTold) : x.enc[0]? = some (D.v (.int .i64 x.Err)) := rfl
@[simp] theorem GTold.encg_0 (x : GTold) (h : 0 < x.enc.length) : x.enc[0] = D.v (.int .i64 x.Err) := rfl
@[simp] theorem GTold.enc_1 (x : GTold) : x.enc[1]? = some (D.sl (encI x.World.Globals)) := rfl
@[simp] theorem GTold.encg_1 (x : GTold) (h : 1 < x.enc.length) : x.enc[1] = D.sl (encI x.World.Globals) := rfl
@[simp] theorem GTold.enc_2 (x : GTold) : x.enc[2]? = some (D.sl (encI x.World.Parent)) := rfl
@[simp] theorem GTold.encg_2 (x : GTold) (h : 2 < x.enc.length) : x.enc[2] = D.sl (encI x.World.Parent) := rfl
@[simp] theorem GTold.enc_3 (x : GTold) : x.enc[3]? = some (D.sl (encI x.World.Child)) := rfl
@[simp] theorem GTold.encg_3 (x : GTold) (h : 3 < x.enc.length) : x.enc[3] = D.sl (encI x.World.Child) := rfl
@[simp] theorem GTold.enc_4 (x : GTold) : x.enc[4]? = some (D.sl (encI x.World.Next)) := rfl
@[simp] theorem GTold.encg_4 (x : GTold) (h : 4 < x.enc.length) : x.enc[4] = D.sl (encI x.World.Next) := rfl
@[simp] theorem GTold.enc_5 (x : GTold) : x.enc[5]? = some (D.sl (encI x.World.Flags)) := rfl
@[simp] theorem GTold.encg_5 (x : GTold) (h : 5 < x.enc.length) : x.enc[5] = D.sl (encI x.World.Flags) := rfl
@[simp] theorem GTold.enc_6 (x : GTold) : x.enc[6]? = some (D.sl (encI x.World.Props)) := rfl
@[simp] theorem GTold.encg_6 (x : GTold) (h : 6 < x.enc.length) : x.enc[6] = D.sl (encI x.World.Props) := rfl
@[simp] theorem GTold.enc_7 (x : GTold) : x.enc[7]? = some (D.sl (encI x.World.Timers)) := rfl
@[simp] theorem GTold.encg_7 (x : GTold) (h : 7 < x.enc.length) : x.enc[7] = D.sl (encI x.World.Timers) := rfl
@[simp] theorem GTold.enc_8 (x : GTold) : x.enc[8]? = some (D.v (.int .u64 x.World.Seed)) := rfl
@[simp] theorem GTold.encg_8 (x : GTold) (h : 8 < x.enc.length) : x.enc[8] = D.v (.int .u64 x.World.Seed) := rfl
@[simp] theorem GTold.enc_9 (x : GTold) : x.enc[9]? = some (D.v (.int .i64 x.World.Score)) := rfl
@[simp] theorem GTold.encg_9 (x : GTold) (h : 9 < x.enc.length) : x.enc[9] = D.v (.int .i64 x.World.Score) := rfl
@[simp] theorem GTold.enc_10 (x : GTold) : x.enc[10]? = some (D.v (.int .i64 x.World.Turns)) := rfl
@[simp] theorem GTold.encg_10 (x : GTold) (h : 10 < x.enc.length) : x.enc[10] = D.v (.int .i64 x.World.Turns) := rfl
@[simp] theorem GTold.enc_11 (x : GTold) : x.enc[11]? = some (D.v (.int .i64 x.World.Over)) := rfl
@[simp] theorem GTold.encg_11 (x : GTold) (h : 11 < x.enc.length) : x.enc[11] = D.v (.int .i64 x.World.Over) := rfl
@[simp] theorem GTold.enc_12 (x : GTold) : x.enc[12]? = some (D.v (.int .i64 x.World.It)) := rfl
@[simp] theorem GTold.encg_12 (x : GTold) (h : 12 < x.enc.length) : x.enc[12] = D.v (.int .i64 x.World.It) := rfl
@[simp] theorem GTold.enc_13 (x : GTold) : x.enc[13]? = some (D.v (.int .i64 x.World.Go)) := rfl
@[simp] theorem GTold.encg_13 (x : GTold) (h : 13 < x.enc.length) : x.enc[13] = D.v (.int .i64 x.World.Go) := rfl
@[simp] theorem GTold.enc_14 (x : GTold) : x.enc[14]? = some (D.v (.string x.Out)) := rfl
@[simp] theorem GTold.encg_14 (x : GTold) (h : 14 < x.enc.length) : x.enc[14] = D.v (.string x.Out) := rfl
@[simp] theorem GTold.enc_15 (x : GTold) : x.enc[15]? = some (D.v (.int .i64 x.Value)) := rfl
@[simp] theorem GTold.encg_15 (x : GTold) (h : 15 < x.enc.length) : x.enc[15] = D.v (.int .i64 x.Value) := rfl
@[simp] theorem GTold.enc_16 (x : GTold) : x.enc[16]? = some (D.v (.bool x.Stopped)) := rfl
@[simp] theorem GTold.encg_16 (x : GTold) (h : 16 < x.enc.length) : x.enc[16] = D.v (.bool x.Stopped) := rfl
@[simp] theorem GTold.enc_17 (x : GTold) : x.enc[17]? = some (D.v (.int .i64 x.Fuel)) := rfl
@[simp] theorem GTold.encg_17 (x : GTold) (h : 17 < x.enc.length) : x.enc[17] = D.v (.int .i64 x.Fuel) := rfl
@[simp] theorem GTold.fzV (L : Heap) (x : GTold) : V.fzs L (x.enc.map V.d) = x.enc.map V.d := by simp [GTold.enc, V.fzs, V.fz]
def GTold.zero : GTold := ⟨0, GWorld.zero, ⟨#[]⟩, 0, false, 0⟩
theorem GTold.zero_enc : GTold.zero.enc = [D.v (.int .i64 0), D.sl [], D.sl [], D.sl [], D.sl [], D.sl [], D.sl [], D.sl [], D.v (.int .u64 0), D.v (.int .i64 0), D.v (.int .i64 0), D.v (.int .i64 0), D.v (.int .i64 0), D.v (.int .i64 0), D.v (.string ⟨#[]⟩), D.v (.int .i64 0), D.v (.bool false), D.v (.int .i64 0)] := rfl
@[simp] theorem GTold.getZ (o : Option GTold) : (o.map GTold.enc).getD [D.v (.int .i64 0), D.sl [], D.sl [], D.sl [], D.sl [], D.sl [], D.sl [], D.sl [], D.v (.int .u64 0), D.v (.int .i64 0), D.v (.int .i64 0), D.v (.int .i64 0), D.v (.int .i64 0), D.v (.int .i64 0), D.v (.string ⟨#[]⟩), D.v (.int .i64 0), D.v (.bool false), D.v (.int .i64 0)] = (o.getD GTold.zero).enc := by cases o <;> rfl
@[simp] theorem GTold.getV (o : Option GTold) : (o.map (fun x => x.enc.map V.d)).getD [V.d (D.v (.int .i64 0)), V.d (D.sl []), V.d (D.sl []), V.d (D.sl []), V.d (D.sl []), V.d (D.sl []), V.d (D.sl []), V.d (D.sl []), V.d (D.v (.int .u64 0)), V.d (D.v (.int .i64 0)), V.d (D.v (.int .i64 0)), V.d (D.v (.int .i64 0)), V.d (D.v (.int .i64 0)), V.d (D.v (.int .i64 0)), V.d (D.v (.string ⟨#[]⟩)), V.d (D.v (.int .i64 0)), V.d (D.v (.bool false)), V.d (D.v (.int .i64 0))] = ((o.getD GTold.zero).enc).map V.d := by cases o <;> rfl
theorem GTold.cellAt (l : List GTold) (i j : Nat) (z : D) (h : GTold.zero.enc[j]? = some z) : cellAt (dd (l.map GTold.enc)) i j [V.d z] = V.d (((l[i]?.getD GTold.zero).enc[j]?).getD default) := by
  unfold Go.Ab.cellAt
  rw [dd_get, List.getElem?_map]
  cases hl : l[i]? with
  | none => simp [h]
  | some a =>
    have hj := (List.getElem?_eq_some_iff.1 h).1
    have hj' : j < a.enc.length := by rw [GTold.enc_length] at hj ⊢; exact hj
    simp only [Option.map_some, List.getElem?_map, List.getElem?_eq_getElem hj', Option.getD_some]
@[simp] theorem GTold.cellAt_0 (l : List GTold) (i : Nat) : Go.Ab.cellAt (dd (l.map GTold.enc)) i 0 [V.d (D.v (.int .i64 0))] = V.d (D.v (.int .i64 (l[i]?.getD GTold.zero).Err)) := (GTold.cellAt l i 0 (D.v (.int .i64 0)) rfl).trans (by simp)
@[simp] theorem GTold.cellAt_1 (l : List GTold) (i : Nat) : Go.Ab.cellAt (dd (l.map GTold.enc)) i 1 [V.d (D.sl [])] = V.d (D.sl (encI (l[i]?.getD GTold.zero).World.Globals)) := (GTold.cellAt l i 1 (D.sl []) rfl).trans (by simp)
@[simp] theorem GTold.cellAt_2 (l : List GTold) (i : Nat) : Go.Ab.cellAt (dd (l.map GTold.enc)) i 2 [V.d (D.sl [])] = V.d (D.sl (encI (l[i]?.getD GTold.zero).World.Parent)) := (GTold.cellAt l i 2 (D.sl []) rfl).trans (by simp)
@[simp] theorem GTold.cellAt_3 (l : List GTold) (i : Nat) : Go.Ab.cellAt (dd (l.map GTold.enc)) i 3 [V.d (D.sl [])] = V.d (D.sl (encI (l[i]?.getD GTold.zero).World.Child)) := (GTold.cellAt l i 3 (D.sl []) rfl).trans (by simp)
@[simp] theorem GTold.cellAt_4 (l : List GTold) (i : Nat) : Go.Ab.cellAt (dd (l.map GTold.enc)) i 4 [V.d (D.sl [])] = V.d (D.sl (encI (l[i]?.getD GTold.zero).World.Next)) := (GTold.cellAt l i 4 (D.sl []) rfl).trans (by simp)
@[simp] theorem GTold.cellAt_5 (l : List GTold) (i : Nat) : Go.Ab.cellAt (dd (l.map GTold.enc)) i 5 [V.d (D.sl [])] = V.d (D.sl (encI (l[i]?.getD GTold.zero).World.Flags)) := (GTold.cellAt l i 5 (D.sl []) rfl).trans (by simp)
@[simp] theorem GTold.cellAt_6 (l : List GTold) (i : Nat) : Go.Ab.cellAt (dd (l.map GTold.enc)) i 6 [V.d (D.sl [])] = V.d (D.sl (encI (l[i]?.getD GTold.zero).World.Props)) := (GTold.cellAt l i 6 (D.sl []) rfl).trans (by simp)
@[simp] theorem GTold.cellAt_7 (l : List GTold) (i : Nat) : Go.Ab.cellAt (dd (l.map GTold.enc)) i 7 [V.d (D.sl [])] = V.d (D.sl (encI (l[i]?.getD GTold.zero).World.Timers)) := (GTold.cellAt l i 7 (D.sl []) rfl).trans (by simp)
@[simp] theorem GTold.cellAt_8 (l : List GTold) (i : Nat) : Go.Ab.cellAt (dd (l.map GTold.enc)) i 8 [V.d (D.v (.int .u64 0))] = V.d (D.v (.int .u64 (l[i]?.getD GTold.zero).World.Seed)) := (GTold.cellAt l i 8 (D.v (.int .u64 0)) rfl).trans (by simp)
@[simp] theorem GTold.cellAt_9 (l : List GTold) (i : Nat) : Go.Ab.cellAt (dd (l.map GTold.enc)) i 9 [V.d (D.v (.int .i64 0))] = V.d (D.v (.int .i64 (l[i]?.getD GTold.zero).World.Score)) := (GTold.cellAt l i 9 (D.v (.int .i64 0)) rfl).trans (by simp)
@[simp] theorem GTold.cellAt_10 (l : List GTold) (i : Nat) : Go.Ab.cellAt (dd (l.map GTold.enc)) i 10 [V.d (D.v (.int .i64 0))] = V.d (D.v (.int .i64 (l[i]?.getD GTold.zero).World.Turns)) := (GTold.cellAt l i 10 (D.v (.int .i64 0)) rfl).trans (by simp)
@[simp] theorem GTold.cellAt_11 (l : List GTold) (i : Nat) : Go.Ab.cellAt (dd (l.map GTold.enc)) i 11 [V.d (D.v (.int .i64 0))] = V.d (D.v (.int .i64 (l[i]?.getD GTold.zero).World.Over)) := (GTold.cellAt l i 11 (D.v (.int .i64 0)) rfl).trans (by simp)
@[simp] theorem GTold.cellAt_12 (l : List GTold) (i : Nat) : Go.Ab.cellAt (dd (l.map GTold.enc)) i 12 [V.d (D.v (.int .i64 0))] = V.d (D.v (.int .i64 (l[i]?.getD GTold.zero).World.It)) := (GTold.cellAt l i 12 (D.v (.int .i64 0)) rfl).trans (by simp)
@[simp] theorem GTold.cellAt_13 (l : List GTold) (i : Nat) : Go.Ab.cellAt (dd (l.map GTold.enc)) i 13 [V.d (D.v (.int .i64 0))] = V.d (D.v (.int .i64 (l[i]?.getD GTold.zero).World.Go)) := (GTold.cellAt l i 13 (D.v (.int .i64 0)) rfl).trans (by simp)
@[simp] theorem GTold.cellAt_14 (l : List GTold) (i : Nat) : Go.Ab.cellAt (dd (l.map GTold.enc)) i 14 [V.d (D.v (.string ⟨#[]⟩))] = V.d (D.v (.string (l[i]?.getD GTold.zero).Out)) := (GTold.cellAt l i 14 (D.v (.string ⟨#[]⟩)) rfl).trans (by simp)
@[simp] theorem GTold.cellAt_15 (l : List GTold) (i : Nat) : Go.Ab.cellAt (dd (l.map GTold.enc)) i 15 [V.d (D.v (.int .i64 0))] = V.d (D.v (.int .i64 (l[i]?.getD GTold.zero).Value)) := (GTold.cellAt l i 15 (D.v (.int .i64 0)) rfl).trans (by simp)
@[simp] theorem GTold.cellAt_16 (l : List GTold) (i : Nat) : Go.Ab.cellAt (dd (l.map GTold.enc)) i 16 [V.d (D.v (.bool false))] = V.d (D.v (.bool (l[i]?.getD GTold.zero).Stopped)) := (GTold.cellAt l i 16 (D.v (.bool false)) rfl).trans (by simp)
@[simp] theorem GTold.cellAt_17 (l : List GTold) (i : Nat) : Go.Ab.cellAt (dd (l.map GTold.enc)) i 17 [V.d (D.v (.int .i64 0))] = V.d (D.v (.int .i64 (l[i]?.getD GTold.zero).Fuel)) := (GTold.cellAt l i 17 (D.v (.int .i64 0)) rfl).trans (by simp)
@[simp] theorem GTold.aggAt (l : List GTold) (i : Nat) : Go.Ab.aggAt (dd (l.map GTold.enc)) i 0 18 [V.d (D.v (.int .i64 0)), V.d (D.sl []), V.d (D.sl []), V.d (D.sl []), V.d (D.sl []), V.d (D.sl []), V.d (D.sl []), V.d (D.sl []), V.d (D.v (.int .u64 0)), V.d (D.v (.int .i64 0)), V.d (D.v (.int .i64 0)), V.d (D.v (.int .i64 0)), V.d (D.v (.int .i64 0)), V.d (D.v (.int .i64 0)), V.d (D.v (.string ⟨#[]⟩)), V.d (D.v (.int .i64 0)), V.d (D.v (.bool false)), V.d (D.v (.int .i64 0))] = (l[i]?.getD GTold.zero).enc.map V.d := by
  unfold Go.Ab.aggAt
  rw [dd_get, List.getElem?_map]
  cases l[i]? with
  | none => rfl
  | some x => simp; cases x; rfl
@[simp] theorem GTold.dropAll (x : GTold) : List.drop 18 x.enc = [] := rfl
@[simp] theorem GTold.dropAllv (x : GTold) : List.drop 18 (x.enc.map V.d) = [] := rfl
@[simp] theorem GTold.enc_all (x : GTold) : x.enc.take 18 = x.enc := rfl
@[simp] theorem GTold.enc_allv (x : GTold) : List.take 18 (x.enc.map V.d) = x.enc.map V.d := rfl
@[simp] theorem GTold.sub_World (x : GTold) : List.take 13 (List.drop 1 x.enc) = x.World.enc := rfl
@[simp] theorem GTold.subv_World (x : GTold) : List.take 13 (List.drop 1 (x.enc.map V.d)) = x.World.enc.map V.d := rfl
def GTold.wf (x : GTold) : Prop := inR .i64 x.Err ∧ x.World.wf ∧ x.Out.size ≤ 140737488351232 ∧ inR .i64 x.Value ∧ inR .i64 x.Fuel
theorem tyK_46 : tyK Tryz.prog 46 = .st [44, 31, 9, 3, 4, 3] := by kernel_rfl
theorem tyK_44 : tyK Tryz.prog 44 = .int .i64 := by kernel_rfl
theorem GTold.of {ys : List D} (h : HasT Tryz.prog 46 ys) : ∃ x : GTold, ys = x.enc ∧ x.wf := by
  have h' := HasT.st_inv h tyK_46
  obtain ⟨a0_, r0, hr0, t0, h0⟩ := h'
  obtain ⟨a1_, r1, hr1, t1, h1⟩ := h0
  obtain ⟨a2_, r2, hr2, t2, h2⟩ := h1
  obtain ⟨a3_, r3, hr3, t3, h3⟩ := h2
  obtain ⟨a4_, r4, hr4, t4, h4⟩ := h3
  obtain ⟨a5_, r5, hr5, t5, h5⟩ := h4
  simp only [HasTs] at h5
  subst h5
  subst hr5
  subst hr4
  subst hr3
  subst hr2
  subst hr1
  subst hr0
  obtain ⟨a0_', rfl, a0_w⟩ := HasT.int_inv t0 tyK_44
  obtain ⟨a1_', rfl, a1_w⟩ := GWorld.of t1
  obtain ⟨a2_', rfl, a2_w⟩ := HasT.str_inv t2 tyK_9
  obtain ⟨a3_', rfl, a3_w⟩ := HasT.int_inv t3 tyK_3
  obtain ⟨a4_', rfl⟩ := HasT.bool_inv t4 tyK_4
  obtain ⟨a5_', rfl, a5_w⟩ := HasT.int_inv t5 tyK_3
  exact ⟨⟨a0_', a1_', a2_', a3_', a4_', a5_'⟩, rfl, ⟨a0_w, a1_w, a2_w, a3_w, a5_w⟩⟩
end Go.Ab
