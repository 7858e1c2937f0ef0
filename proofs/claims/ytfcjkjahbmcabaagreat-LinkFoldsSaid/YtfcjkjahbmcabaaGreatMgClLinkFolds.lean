/-
  clewlaw41.LinkFolds returns true for every input, and leaves its arguments as they are. No condition is added to the given statement.
-/
import Derived.Test.YtfcjkjahbmcabaaGreatRows
import Derived.WalkKit
import Derived.ProofKit
import Derived.OpenShut
import Derived.Test.YtfcjkjahbmcabaaGreatMg7
set_option linter.unusedSimpArgs false
set_option linter.unusedVariables false
namespace Go.Proofs.YtfcjkjahbmcabaaGreat.linkFolds
open Go.ChangeShapes Go.WideShapes Go.ChangeAt Go.RowKit Go.Ab
theorem own : ownKnob Tryz.prog.godebug = none := by kernel_rfl
set_option maxRecDepth 100000 in
theorem lifted (os : Os) (started : os.Started) (H : Type) (enc : TypeId × Value → H) :
    ReturnsInHanded {} Tryz.checked os 3 .any (Rows.linkFoldsSpec.pre6 enc Tryz.prog Tryz.f3 Rows.linkFoldsRow.domain false) (Rows.linkFoldsSpec.post enc Tryz.prog Tryz.f3 false true false false) := by
  refine row_lifted rfl (C := Tryz.checked) 4 own started (by kernel_rfl) Tryz.func3
    (ChangeSpec.witness6 (enc := enc) (C := Tryz.checked) false ⟨#[], #[.agg #[.int .i64 0, .int .i64 0, .int .i64 0, .int .i64 0, .slice none 0 0, .int .i64 0, .slice none 0 0, .slice none 0 0, .slice none 0 0, .slice none 0 0, .slice none 0 0, .slice none 0 0, .slice none 0 0, .slice none 0 0, .slice none 0 0, .slice none 0 0]], []⟩ 8 (by kernel_rfl) (by kernel_rfl) (by kernel_rfl) (by kernel_rfl))
    (by kernel_rfl) (by kernel_rfl) (by kernel_rfl) (by kernel_rfl) Tryz.underlying4 rfl ?_ ?_
  · intro ds h
    have h : ds.length = 1 := h
    match ds, h with
    | [d0], _ => rfl
  · intro yss h hT
    have h : yss.length = 1 := h
    match yss, h, hT with
    | [y0], _, hT =>
      have t0 : HasT Tryz.prog 31 y0 := hT 0 31 y0 rfl rfl
      obtain ⟨b0', rfl, b0w⟩ := GBook.of t0
      have hp := (linkFolds_ok b0' b0w).calls
      have e : ((Tryz.f3.params.toList.zip [b0'.enc]).map fun p => argV Tryz.prog p.1 p.2) = [.agg (b0'.enc.map .d)] := by
        simp [Tryz.f3, argV, Tryz.underlying31]
      rw [show Tryz.checked.prog = Tryz.prog from rfl, e]
      exact hp
theorem over : Rows.linkFoldsRow.holds Tryz.pinned (OpenSpec.ofChange Rows.linkFoldsSpec) :=
  OpenClaim.holds_of_wide 3 Tryz.f3 rfl rfl rfl rfl rfl rfl rfl ⟨rfl, rfl, rfl, rfl, rfl⟩ rfl rfl rfl rfl rfl (by kernel_rfl) Tryz.func3 (by kernel_rfl)
    (of_decide_eq_true (by kernel_rfl)) (by unfold Func.isWrapper; first | (rw [if_pos (by decide +kernel)]; kernel_rfl) | (rw [if_neg (by decide +kernel)]; exact ⟨rfl, rfl⟩))
    (fun os started H enc _ => lifted os started H enc)
theorem proved : Rows.LinkFoldsSaid := over
#print axioms proved
end Go.Proofs.YtfcjkjahbmcabaaGreat.linkFolds
