/-
  clewlaw28.GenTicks returns true for every input, and leaves its arguments as they are. No condition is added to the given statement.
-/
import Derived.Test.YticchnalleplcaaRows
import Derived.WalkKit
import Derived.ProofKit
import Derived.OpenShut
import Derived.Test.YticchnalleplcaaMg5
set_option linter.unusedSimpArgs false
set_option linter.unusedVariables false
namespace Go.Proofs.Yticchnalleplcaa.genTicks
open Go.ChangeShapes Go.WideShapes Go.ChangeAt Go.RowKit Go.Ab
theorem own : ownKnob Try.prog.godebug = none := by kernel_rfl
set_option maxRecDepth 100000 in
theorem lifted (os : Os) (started : os.Started) (H : Type) (enc : TypeId × Value → H) :
    ReturnsInHanded {} Try.checked os 8 .any (Rows.genTicksSpec.pre6 enc Try.prog Try.f8 Rows.genTicksRow.domain false) (Rows.genTicksSpec.post enc Try.prog Try.f8 false true false false) := by
  refine row_lifted (C := Try.checked) 4 own started (by kernel_rfl) Try.func8
    (ChangeSpec.witness6 (enc := enc) (C := Try.checked) false ⟨#[], #[.agg #[.int .i64 0, .int .i64 0, .int .i64 0, .int .i64 0, .slice none 0 0, .int .i64 0, .slice none 0 0, .slice none 0 0, .slice none 0 0, .slice none 0 0, .slice none 0 0, .slice none 0 0, .slice none 0 0, .slice none 0 0, .slice none 0 0], .slice none 0 0, .int .i64 0], []⟩ 8 (by kernel_rfl) (by kernel_rfl) (by kernel_rfl) (by kernel_rfl))
    (by kernel_rfl) (by kernel_rfl) (by kernel_rfl) (by kernel_rfl) Try.underlying4 rfl ?_ ?_
  · intro ds h
    have h : ds.length = 3 := h
    match ds, h with
    | [d0, d1, d2], _ => rfl
  · intro yss h hT
    have h : yss.length = 3 := h
    match yss, h, hT with
    | [y0, y1, y2], _, hT =>
      have t0 : HasT Try.prog 28 y0 := hT 0 28 y0 rfl rfl
      have t1 : HasT Try.prog 59 y1 := hT 1 59 y1 rfl rfl
      have t2 : HasT Try.prog 3 y2 := hT 2 3 y2 rfl rfl
      obtain ⟨b0', rfl, b0w⟩ := GTables.of t0
      obtain ⟨b10, rfl, b1h, b1l, b1w⟩ := HasT.sl_inv t1 tyK_59
      obtain ⟨b1', rfl, b1a⟩ := map_of (f := GStmt.enc) (p := fun (y : GStmt) => y.wf) (fun b1e hx => by
        have b1q := b1h b1e hx
        obtain ⟨b1e', rfl, b1ew⟩ := GStmt.of b1q
        exact ⟨b1e', rfl, b1ew⟩)
      obtain ⟨b2', rfl, b2w⟩ := HasT.int_inv t2 tyK_3
      have hp := (genTicks_ok b0' b0w b1' (by simpa using b1w) b1a b2' b2w).calls
      have e : ((Try.f8.params.toList.zip [b0'.enc, [D.sl (b1'.map GStmt.enc)], [D.v (.int .i64 b2')]]).map fun p => argV Try.prog p.1 p.2) = [.agg (b0'.enc.map .d), .d (D.sl (b1'.map GStmt.enc)), .d (D.v (.int .i64 b2'))] := by
        simp [Try.f8, argV, Try.underlying3, Try.underlying28, Try.underlying59]
      rw [show Try.checked.prog = Try.prog from rfl, e]
      exact hp
theorem over : Rows.genTicksRow.holds Try.pinned (OpenSpec.ofChange Rows.genTicksSpec) :=
  OpenClaim.holds_of_wide 8 Try.f8 rfl rfl rfl rfl rfl rfl rfl ⟨rfl, rfl, rfl, rfl, rfl⟩ rfl rfl rfl rfl rfl (by kernel_rfl) Try.func8 (by kernel_rfl)
    (of_decide_eq_true (by kernel_rfl)) (by unfold Func.isWrapper; first | (rw [if_pos (by decide +kernel)]; kernel_rfl) | (rw [if_neg (by decide +kernel)]; exact ⟨rfl, rfl⟩))
    (fun os started H enc _ => lifted os started H enc)
theorem proved : Rows.GenTicksSaid := over
#print axioms proved
end Go.Proofs.Yticchnalleplcaa.genTicks
