/-
  clewlaw54.HintLeast returns true for every input, and leaves its arguments as they are. No condition is added to the given statement.
-/
import Derived.Test.YtfcflgiignjlgaaRows
import Derived.WalkKit
import Derived.ProofKit
import Derived.OpenShut
import Derived.Test.YtfcflgiignjlgaaAbHlaws
set_option linter.unusedSimpArgs false
set_option linter.unusedVariables false
namespace Go.Proofs.Ytfcflgiignjlgaa.hintLeast
open Go.ChangeShapes Go.WideShapes Go.ChangeAt Go.RowKit Go.Ab
theorem own : ownKnob Try.prog.godebug = none := by kernel_rfl
set_option maxRecDepth 100000 in
theorem lifted (os : Os) (started : os.Started) (H : Type) (enc : TypeId × Value → H) :
    ReturnsInHanded {} Try.checked os 5 .any (Rows.hintLeastSpec.pre6 enc Try.prog Try.f5 Rows.hintLeastRow.domain false) (Rows.hintLeastSpec.post enc Try.prog Try.f5 false true false false) := by
  refine row_lifted (C := Try.checked) 4 own started (by kernel_rfl) Try.func5
    (ChangeSpec.witness6 (enc := enc) (C := Try.checked) false ⟨#[], #[.agg #[.slice none 0 0, .slice none 0 0, .bool false]], []⟩ 8 (by kernel_rfl) (by kernel_rfl) (by kernel_rfl) (by kernel_rfl))
    (by kernel_rfl) (by kernel_rfl) (by kernel_rfl) (by kernel_rfl) Try.underlying4 rfl ?_ ?_
  · intro ds h
    have h : ds.length = 1 := h
    match ds, h with
    | [d0], _ => rfl
  · intro yss h hT
    have h : yss.length = 1 := h
    match yss, h, hT with
    | [y0], _, hT =>
      have t0 : HasT Try.prog 25 y0 := hT 0 25 y0 rfl rfl
      obtain ⟨b0', rfl, b0w⟩ := GGraph.of t0
      have hp := (Go.Ab.hintLeast_ok b0').calls
      have e : ((Try.f5.params.toList.zip [b0'.enc]).map fun p => argV Try.prog p.1 p.2) = [.agg (b0'.enc.map .d)] := by
        simp [Try.f5, argV, Try.underlying25]
      rw [show Try.checked.prog = Try.prog from rfl, e]
      exact hp
theorem over : Rows.hintLeastRow.holds Try.pinned (OpenSpec.ofChange Rows.hintLeastSpec) :=
  OpenClaim.holds_of_wide 5 Try.f5 rfl rfl rfl rfl rfl rfl rfl ⟨rfl, rfl, rfl, rfl, rfl⟩ rfl rfl rfl rfl rfl (by kernel_rfl) Try.func5 (by kernel_rfl)
    (of_decide_eq_true (by kernel_rfl)) (by unfold Func.isWrapper; first | (rw [if_pos (by decide +kernel)]; kernel_rfl) | (rw [if_neg (by decide +kernel)]; exact ⟨rfl, rfl⟩))
    (fun os started H enc _ => lifted os started H enc)
theorem proved : Rows.HintLeastSaid := over
#print axioms proved
end Go.Proofs.Ytfcflgiignjlgaa.hintLeast
