/-
  clewlaw28.GenMay returns true for every input of bulk at most 1048576, and leaves its arguments as they are. No condition is added to the given statement.
-/
import Derived.Test.YticchnalleplcaaRows
import Derived.WalkKit
import Derived.ProofKit
import Derived.OpenShut
import Derived.JoinedCond
import Derived.Test.YticchnalleplcaaMg5
set_option linter.unusedSimpArgs false
set_option linter.unusedVariables false
namespace Go.Proofs.Yticchnalleplcaa.genMay
open Go.ChangeShapes Go.WideShapes Go.ChangeAt Go.RowKit Go.Ab
mutual
theorem bulkW_eq {H : Type} : ∀ d : DataW H, Rows.uptoBulk d = bulkW d
  | .lit l => by cases l <;> simp [Rows.uptoBulk, bulkW]
  | .nil => by simp [Rows.uptoBulk, bulkW]
  | .ptr d => by simp [Rows.uptoBulk, bulkW, bulkW_eq d]
  | .slice e s => by simp [Rows.uptoBulk, bulkW, bulkAll_eq e, bulkAll_eq s]
  | .agg p => by simp [Rows.uptoBulk, bulkW, bulkAll_eq p]
  | .iface t d => by simp [Rows.uptoBulk, bulkW, bulkW_eq d]
  | .map e => by simp [Rows.uptoBulk, bulkW, bulkEntries_eq e]
  | .held h => by simp [Rows.uptoBulk, bulkW]
theorem bulkAll_eq {H : Type} : ∀ l : List (DataW H), Rows.uptoBulkAll l = bulkAll l
  | [] => by simp [Rows.uptoBulkAll, bulkAll]
  | d :: r => by simp [Rows.uptoBulkAll, bulkAll, bulkW_eq d, bulkAll_eq r]
theorem bulkEntries_eq {H : Type} : ∀ l : List (Lit × DataW H), Rows.uptoBulkEntries l = bulkEntries l
  | [] => by simp [Rows.uptoBulkEntries, bulkEntries]
  | x :: r => by simp [Rows.uptoBulkEntries, bulkEntries, bulkEntry_eq x, bulkEntries_eq r]
theorem bulkEntry_eq {H : Type} : ∀ x : Lit × DataW H, Rows.uptoBulkEntry x = bulkEntry x
  | (l, d) => by cases l <;> simp [Rows.uptoBulkEntry, bulkEntry, bulkW_eq d]
end
theorem small {H : Type} (ds : List (DataW H)) (h : Rows.uptoSmall H ds = true) : bulkAll ds ≤ 1048576 := by
  rw [← bulkAll_eq]
  exact of_decide_eq_true h
theorem own : ownKnob Try.prog.godebug = none := by kernel_rfl
set_option maxRecDepth 100000 in
theorem lifted (os : Os) (started : os.Started) (H : Type) (enc : TypeId × Value → H) (F : Stop.Interp) :
    ReturnsInHanded {} Try.checked os 10 .any ((Rows.OpenSpec.upto Rows.genMaySpec).pre6 enc Try.prog Try.f10 Rows.genMayUptoRow.domain false) (((Rows.OpenSpec.upto Rows.genMaySpec).at F).post enc Try.prog Try.f10 false true false false) := by
  refine row_lifted_upto (C := Try.checked) (s := Rows.OpenSpec.upto Rows.genMaySpec) (k := Rows.uptoSmall) rfl (F := F) 4 own started (by kernel_rfl) Try.func10
    (OpenSpec.witness (enc := enc) (C := Try.checked) (s := Rows.OpenSpec.upto Rows.genMaySpec) (k := Rows.uptoSmall) rfl false ⟨#[], #[.agg #[.int .i64 0, .int .i64 0, .int .i64 0, .int .i64 0, .slice none 0 0, .int .i64 0, .slice none 0 0, .slice none 0 0, .slice none 0 0, .slice none 0 0, .slice none 0 0, .slice none 0 0, .slice none 0 0, .slice none 0 0, .slice none 0 0], .slice none 0 0, .int .i64 0], []⟩ 8 (by kernel_rfl) (by kernel_rfl) (by kernel_rfl)
      (x := ([.agg [.lit (.int .i64 0), .lit (.int .i64 0), .lit (.int .i64 0), .lit (.int .i64 0), .nil, .lit (.int .i64 0), .nil, .nil, .nil, .nil, .nil, .nil, .nil, .nil, .nil], .nil, .lit (.int .i64 0)], [], [])) (by kernel_rfl) rfl (by kernel_rfl))
    (by kernel_rfl) (by kernel_rfl) (by kernel_rfl) (by kernel_rfl) Try.underlying4 rfl rfl rfl 1048576 (fun ds h => small ds h) ?_ ?_
  · intro ds h
    have h : ds.length = 3 := h
    match ds, h with
    | [d0, d1, d2], _ => rfl
  · intro yss h hT hB
    have h : yss.length = 3 := h
    match yss, h, hT, hB with
    | [y0, y1, y2], _, hT, hB =>
      have t0 : HasT Try.prog 28 y0 := hT 0 28 y0 rfl rfl
      have t1 : HasT Try.prog 59 y1 := hT 1 59 y1 rfl rfl
      have t2 : HasT Try.prog 3 y2 := hT 2 3 y2 rfl rfl
      obtain ⟨b0', rfl, b0w⟩ := GTables.of t0
      obtain ⟨b10, rfl, b1h, b1l, b1w⟩ := HasT.sl_inv t1 tyK_59
      obtain ⟨b1', rfl, b1a⟩ := map_of (f := GStmt.enc) (p := fun (y : GStmt) => y.wf) (fun b1e hx => by
        have b1q := b1h b1e hx
        obtain ⟨b1e', rfl, b1ew⟩ := GStmt.of b1q
        exact ⟨b1e', rfl, b1ew⟩)
      obtain ⟨b2', rfl, b2w⟩ := HasT.int_inv t2 tyK_3
      have hp := (genMay_up b0' b0w b1' (by simpa using b1w) b1a b2' b2w hB).calls
      have e : ((Try.f10.params.toList.zip [b0'.enc, [D.sl (b1'.map GStmt.enc)], [D.v (.int .i64 b2')]]).map fun p => argV Try.prog p.1 p.2) = [.agg (b0'.enc.map .d), .d (D.sl (b1'.map GStmt.enc)), .d (D.v (.int .i64 b2'))] := by
        simp [Try.f10, argV, Try.underlying3, Try.underlying28, Try.underlying59]
      rw [show Try.checked.prog = Try.prog from rfl, e]
      exact hp
theorem proved : Rows.GenMayUptoSaid :=
  OpenClaim.holds_of_cond 10 Try.f10 rfl rfl rfl rfl rfl rfl rfl ⟨rfl, rfl, rfl, rfl, rfl⟩ rfl rfl rfl rfl rfl (by kernel_rfl) Try.func10 (by kernel_rfl)
    (of_decide_eq_true (by kernel_rfl)) (by unfold Func.isWrapper; first | (rw [if_pos (by decide +kernel)]; kernel_rfl) | (rw [if_neg (by decide +kernel)]; exact ⟨rfl, rfl⟩))
    (fun os started H enc _ F => lifted os started H enc F)
#print axioms proved
end Go.Proofs.Yticchnalleplcaa.genMay
