import Derived.Test.YticchnalleplcaaAbGlaw1
set_option linter.unusedSimpArgs false
set_option linter.unusedVariables false
namespace Go.Ab
open Go.Proofs

/-! ### Statements: FewBlock -/
@[simp] theorem GStmt.Kind_mk (k n : Int) (s : ByteArray) (a : List GExpr) (b c : List GStmt) : (GStmt.mk k n s a b c).Kind = k := rfl
@[simp] theorem GStmt.Num_mk (k n : Int) (s : ByteArray) (a : List GExpr) (b c : List GStmt) : (GStmt.mk k n s a b c).Num = n := rfl
@[simp] theorem GStmt.Name_mk (k n : Int) (s : ByteArray) (a : List GExpr) (b c : List GStmt) : (GStmt.mk k n s a b c).Name = s := rfl
@[simp] theorem GStmt.Args_mk (k n : Int) (s : ByteArray) (a : List GExpr) (b c : List GStmt) : (GStmt.mk k n s a b c).Args = a := rfl
@[simp] theorem GStmt.Body_mk (k n : Int) (s : ByteArray) (a : List GExpr) (b c : List GStmt) : (GStmt.mk k n s a b c).Body = b := rfl
@[simp] theorem GStmt.Else_mk (k n : Int) (s : ByteArray) (a : List GExpr) (b c : List GStmt) : (GStmt.mk k n s a b c).Else = c := rfl
theorem GStmt.lt_body (s : GStmt) : SizeOf.sizeOf s.Body < SizeOf.sizeOf s := by
  cases s; simp only [GStmt.Body_mk, GStmt.mk.sizeOf_spec]; omega
theorem GStmt.lt_else (s : GStmt) : SizeOf.sizeOf s.Else < SizeOf.sizeOf s := by
  cases s; simp only [GStmt.Else_mk, GStmt.mk.sizeOf_spec]; omega
-- FewBlock: below 0 it is not looked at again before the next statement (so it may fall further: by at most 3 for each level, and there are at most so many levels as 'most')
def fewB : List GStmt → Int → Int
  | [], m => m
  | .mk _ _ _ a b c :: l, m => if fewsM a (m - 1) < 0 then fewsM a (m - 1) else fewB l (fewB c (fewB b (fewsM a (m - 1))))
mutual
def szS : GStmt → Nat
  | .mk _ _ _ a b c => 1 + szEs a + szB b + szB c
def szB : List GStmt → Nat
  | [] => 0
  | s :: l => szS s + szB l
end
theorem fewB_cons (s : GStmt) (l : List GStmt) (m : Int) : fewB (s :: l) m = if fewsM s.Args (m - 1) < 0 then fewsM s.Args (m - 1) else fewB l (fewB s.Else (fewB s.Body (fewsM s.Args (m - 1)))) := by
  cases s; rw [fewB]; rfl
theorem szS_eq (s : GStmt) : szS s = 1 + szEs s.Args + szB s.Body + szB s.Else := by cases s; rw [szS]; rfl
theorem fewB_neg (l : List GStmt) (m : Int) (h : m < 0) : m - 1 ≤ fewB l m ∧ fewB l m ≤ m := by
  cases l with
  | nil => rw [fewB]; omega
  | cons s l => rw [fewB_cons, fewsM_neg _ _ (by omega), if_pos (by omega)]; omega
theorem fewB_bd : ∀ (n : Nat) (l : List GStmt), SizeOf.sizeOf l < n → ∀ m : Int, 0 ≤ m → -3 * m - 4 ≤ fewB l m ∧ fewB l m ≤ m ∧ (0 ≤ fewB l m → fewB l m = m - szB l) := by
  intro n
  induction n with
  | zero => intro l h; omega
  | succ n ih =>
    intro l h m hm
    cases l with
    | nil => rw [fewB, szB]; omega
    | cons s l =>
      have hl : SizeOf.sizeOf l < n := by simp only [List.cons.sizeOf_spec] at h; omega
      have hs : SizeOf.sizeOf s < n := by simp only [List.cons.sizeOf_spec] at h; omega
      have hb := GStmt.lt_body s
      have he := GStmt.lt_else s
      rw [fewB_cons, szB, szS_eq]
      have h1 := fewsM_le s.Args (m - 1)
      have h1' := fewsM_ge s.Args (m - 1) (by omega)
      have h1'' := few_sz _ s.Args (Nat.lt_succ_self _) (m - 1)
      generalize fewsM s.Args (m - 1) = m1 at *
      split
      · omega
      · have h2 := ih s.Body (by omega) m1 (by omega)
        generalize fewB s.Body m1 = m2 at *
        have h3 := fewB_neg s.Else m2
        have h3' := ih s.Else (by omega) m2
        generalize fewB s.Else m2 = m3 at *
        have h4 := fewB_neg l m3
        have h4' := ih l hl m3
        generalize fewB l m3 = m4 at *
        by_cases c2 : 0 ≤ m2
        · have h3'' := h3' c2
          by_cases c3 : 0 ≤ m3
          · have h4'' := h4' c3
            refine ⟨by omega, by omega, fun h => ?_⟩
            have := h4''.2.2 h; have := h3''.2.2 c3; have := h2.2.2 c2; have := h1'' (by omega); omega
          · have := h4 (by omega); omega
        · have := h3 (by omega)
          have := h4 (by omega)
          omega
end Go.Ab
