/-
  clewlaw55.ChartBack returns true for every input, and leaves its arguments as they are. No condition is added to the given statement.
-/
import Derived.Test.YticchnalleplcaaRows
import Derived.WalkKit
import Derived.ProofKit
import Derived.OpenShut
import Derived.Test.YticchnalleplcaaMg6
set_option linter.unusedSimpArgs false
set_option linter.unusedVariables false
namespace Go.Proofs.Yticchnalleplcaa.chartBack
open Go.ChangeShapes Go.WideShapes Go.ChangeAt Go.RowKit Go.Ab
theorem own : ownKnob Try.prog.godebug = none := by kernel_rfl
set_option maxRecDepth 100000 in
theorem lifted (os : Os) (started : os.Started) (H : Type) (enc : TypeId × Value → H) :
    ReturnsInHanded {} Try.checked os 6 .any (Rows.chartBackSpec.pre6 enc Try.prog Try.f6 Rows.chartBackRow.domain false) (Rows.chartBackSpec.post enc Try.prog Try.f6 false true false false) := by
  refine row_lifted (C := Try.checked) 4 own started (by kernel_rfl) Try.func6
    (ChangeSpec.witness6 (enc := enc) (C := Try.checked) false ⟨#[], #[.int .i64 0], []⟩ 8 (by kernel_rfl) (by kernel_rfl) (by kernel_rfl) (by kernel_rfl))
    (by kernel_rfl) (by kernel_rfl) (by kernel_rfl) (by kernel_rfl) Try.underlying4 rfl ?_ ?_
  · intro ds h
    have h : ds.length = 1 := h
    match ds, h with
    | [d0], _ => rfl
  · intro yss h hT
    have h : yss.length = 1 := h
    match yss, h, hT with
    | [y0], _, hT =>
      have t0 : HasT Try.prog 3 y0 := hT 0 3 y0 rfl rfl
      obtain ⟨b0', rfl, b0w⟩ := HasT.int_inv t0 tyK_3
      have hp := (chartBack_ok b0').calls
      have e : ((Try.f6.params.toList.zip [[D.v (.int .i64 b0')]]).map fun p => argV Try.prog p.1 p.2) = [.d (D.v (.int .i64 b0'))] := by
        simp [Try.f6, argV, Try.underlying3]
      rw [show Try.checked.prog = Try.prog from rfl, e]
      exact hp
theorem over : Rows.chartBackRow.holds Try.pinned (OpenSpec.ofChange Rows.chartBackSpec) :=
  OpenClaim.holds_of_wide 6 Try.f6 rfl rfl rfl rfl rfl rfl rfl ⟨rfl, rfl, rfl, rfl, rfl⟩ rfl rfl rfl rfl rfl (by kernel_rfl) Try.func6 (by kernel_rfl)
    (of_decide_eq_true (by kernel_rfl)) (by unfold Func.isWrapper; first | (rw [if_pos (by decide +kernel)]; kernel_rfl) | (rw [if_neg (by decide +kernel)]; exact ⟨rfl, rfl⟩))
    (fun os started H enc _ => lifted os started H enc)
theorem proved : Rows.ChartBackSaid := over
#print axioms proved
end Go.Proofs.Yticchnalleplcaa.chartBack
