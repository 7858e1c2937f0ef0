/-
  clewlaw55.ChartLeads returns true for every input, and leaves its arguments as they are. No condition is added to the given statement.
-/
import Derived.Test.YticchnalleplcaaRows
import Derived.WalkKit
import Derived.ProofKit
import Derived.OpenShut
import Derived.Test.YticchnalleplcaaMg6
set_option linter.unusedSimpArgs false
set_option linter.unusedVariables false
namespace Go.Proofs.Yticchnalleplcaa.chartLeads
open Go.ChangeShapes Go.WideShapes Go.ChangeAt Go.RowKit Go.Ab
theorem own : ownKnob Try.prog.godebug = none := by kernel_rfl
set_option maxRecDepth 100000 in
theorem lifted (os : Os) (started : os.Started) (H : Type) (enc : TypeId × Value → H) :
    ReturnsInHanded {} Try.checked os 4 .any (Rows.chartLeadsSpec.pre6 enc Try.prog Try.f4 Rows.chartLeadsRow.domain false) (Rows.chartLeadsSpec.post enc Try.prog Try.f4 false true false false) := by
  refine row_lifted (C := Try.checked) 4 own started (by kernel_rfl) Try.func4
    (ChangeSpec.witness6 (enc := enc) (C := Try.checked) false ⟨#[], #[.agg #[.int .i64 0, .int .i64 0, .int .i64 0, .int .i64 0, .slice none 0 0, .int .i64 0, .slice none 0 0, .slice none 0 0, .slice none 0 0, .slice none 0 0, .slice none 0 0, .slice none 0 0, .slice none 0 0, .slice none 0 0, .slice none 0 0], .int .i64 0, .int .i64 0], []⟩ 8 (by kernel_rfl) (by kernel_rfl) (by kernel_rfl) (by kernel_rfl))
    (by kernel_rfl) (by kernel_rfl) (by kernel_rfl) (by kernel_rfl) Try.underlying4 rfl ?_ ?_
  · intro ds h
    have h : ds.length = 3 := h
    match ds, h with
    | [d0, d1, d2], _ => rfl
  · intro yss h hT
    have h : yss.length = 3 := h
    match yss, h, hT with
    | [y0, y1, y2], _, hT =>
      have t0 : HasT Try.prog 28 y0 := hT 0 28 y0 rfl rfl
      have t1 : HasT Try.prog 3 y1 := hT 1 3 y1 rfl rfl
      have t2 : HasT Try.prog 3 y2 := hT 2 3 y2 rfl rfl
      obtain ⟨b0', rfl, b0w⟩ := GTables.of t0
      obtain ⟨b1', rfl, b1w⟩ := HasT.int_inv t1 tyK_3
      obtain ⟨b2', rfl, b2w⟩ := HasT.int_inv t2 tyK_3
      have hp := (chartLeads_ok b0' b0w b1' b2').calls
      have e : ((Try.f4.params.toList.zip [b0'.enc, [D.v (.int .i64 b1')], [D.v (.int .i64 b2')]]).map fun p => argV Try.prog p.1 p.2) = [.agg (b0'.enc.map .d), .d (D.v (.int .i64 b1')), .d (D.v (.int .i64 b2'))] := by
        simp [Try.f4, argV, Try.underlying3, Try.underlying28]
      rw [show Try.checked.prog = Try.prog from rfl, e]
      exact hp
theorem over : Rows.chartLeadsRow.holds Try.pinned (OpenSpec.ofChange Rows.chartLeadsSpec) :=
  OpenClaim.holds_of_wide 4 Try.f4 rfl rfl rfl rfl rfl rfl rfl ⟨rfl, rfl, rfl, rfl, rfl⟩ rfl rfl rfl rfl rfl (by kernel_rfl) Try.func4 (by kernel_rfl)
    (of_decide_eq_true (by kernel_rfl)) (by unfold Func.isWrapper; first | (rw [if_pos (by decide +kernel)]; kernel_rfl) | (rw [if_neg (by decide +kernel)]; exact ⟨rfl, rfl⟩))
    (fun os started H enc _ => lifted os started H enc)
theorem proved : Rows.ChartLeadsSaid := over
#print axioms proved
end Go.Proofs.Yticchnalleplcaa.chartLeads
