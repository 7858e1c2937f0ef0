import Derived.Test.YticchnalleplcaaAbGst3
import Derived.Test.YticchnalleplcaaAbGlaw1
set_option linter.unusedSimpArgs false
set_option linter.unusedVariables false
namespace Go.Ab
open Go.Proofs
set_option maxRecDepth 40000
set_option maxHeartbeats 4000000

/-! ### What is generated of statements -/
def sayI (x : GExpr) (n : Int) : List GIns × Int :=
  if x.Kind = 19 then ([⟨21, x.Num⟩], n) else if x.Kind = 13 then ((genEs x.Args n).1 ++ [⟨23, 0⟩], (genEs x.Args n).2) else ((genE x n).1 ++ [⟨22, 0⟩], (genE x n).2)
def genSay : List GExpr → Int → List GIns × Int
  | [], n => ([], n)
  | x :: l, n => ((sayI x n).1 ++ (genSay l (sayI x n).2).1, (genSay l (sayI x n).2).2)
def deedM (k num : Int) : GIns :=
  if k = 2 ∨ k = 3 then ⟨6, num⟩ else if k = 23 then ⟨4, num⟩ else if k = 4 then ⟨14, num⟩ else if k = 5 then ⟨15, num⟩ else if k = 6 then ⟨16, num⟩ else if k = 17 then ⟨32, num⟩ else if k = 18 then ⟨33, num⟩
  else if k = 7 then ⟨17, 0⟩ else if k = 8 then ⟨18, 0⟩ else if k = 12 then ⟨27, 0⟩ else if k = 13 then ⟨28, 0⟩ else if k = 14 then ⟨29, 0⟩ else if k = 15 then ⟨30, 0⟩ else if k = 16 then ⟨31, 0⟩
  else if k = 20 then ⟨34, 0⟩ else if k = 21 then ⟨35, 0⟩ else if k = 22 then ⟨36, 0⟩ else ⟨2, 0⟩
def tick : GIns := ⟨37, 0⟩
mutual
def genS : GStmt → Int → List GIns × Int
  | .mk k num _ a b c, n =>
    if k = 9 then
      (if c.isEmpty then ([tick] ++ (genEs a (n + 1)).1 ++ [⟨25, n⟩] ++ (genB b (genEs a (n + 1)).2).1 ++ [⟨38, n⟩], (genB b (genEs a (n + 1)).2).2)
       else ([tick] ++ (genEs a (n + 2)).1 ++ [⟨25, n⟩] ++ (genB b (genEs a (n + 2)).2).1 ++ [⟨24, n + 1⟩, ⟨38, n⟩] ++ (genB c (genB b (genEs a (n + 2)).2).2).1 ++ [⟨38, n + 1⟩], (genB c (genB b (genEs a (n + 2)).2).2).2))
    else if k = 10 then ([⟨38, n⟩, tick] ++ (genEs a (n + 2)).1 ++ [⟨25, n + 1⟩] ++ (genB b (genEs a (n + 2)).2).1 ++ [⟨24, n⟩, ⟨38, n + 1⟩], (genB b (genEs a (n + 2)).2).2)
    else if k = 11 then ([tick] ++ (genEs a (n + 2)).1 ++ [⟨19, 2⟩, ⟨6, num⟩, ⟨38, n⟩, ⟨5, num⟩, ⟨25, n + 1⟩, tick] ++ [⟨5, num⟩, ⟨19, 3⟩, ⟨6, num + 1⟩] ++ (genB b (genEs a (n + 2)).2).1 ++ [⟨5, num + 1⟩, ⟨6, num⟩, ⟨24, n⟩, ⟨38, n + 1⟩], (genB b (genEs a (n + 2)).2).2)
    else if k = 1 then ([tick] ++ (genSay a n).1, (genSay a n).2)
    else ([tick] ++ (genEs a n).1 ++ [deedM k num], (genEs a n).2)
def genB : List GStmt → Int → List GIns × Int
  | [], n => ([], n)
  | s :: l, n => ((genS s n).1 ++ (genB l (genS s n).2).1, (genB l (genS s n).2).2)
end
theorem genS_if0 (s : GStmt) (n : Int) (hk : s.Kind = 9) (he : s.Else = []) : genS s n = ([tick] ++ (genEs s.Args (n + 1)).1 ++ [⟨25, n⟩] ++ (genB s.Body (genEs s.Args (n + 1)).2).1 ++ [⟨38, n⟩], (genB s.Body (genEs s.Args (n + 1)).2).2) := by
  cases s; cases hk; cases he; rw [genS]; rfl
theorem genS_if1 (s : GStmt) (n : Int) (hk : s.Kind = 9) (he : s.Else ≠ []) : genS s n = ([tick] ++ (genEs s.Args (n + 2)).1 ++ [⟨25, n⟩] ++ (genB s.Body (genEs s.Args (n + 2)).2).1 ++ [⟨24, n + 1⟩, ⟨38, n⟩] ++ (genB s.Else (genB s.Body (genEs s.Args (n + 2)).2).2).1 ++ [⟨38, n + 1⟩], (genB s.Else (genB s.Body (genEs s.Args (n + 2)).2).2).2) := by
  cases s with
  | mk k num nm a b c =>
    cases hk
    rw [genS]
    have : c.isEmpty = false := by cases c with | nil => exact (he rfl).elim | cons x l => rfl
    simp [this]
theorem genS_while (s : GStmt) (n : Int) (hk : s.Kind = 10) : genS s n = ([⟨38, n⟩, tick] ++ (genEs s.Args (n + 2)).1 ++ [⟨25, n + 1⟩] ++ (genB s.Body (genEs s.Args (n + 2)).2).1 ++ [⟨24, n⟩, ⟨38, n + 1⟩], (genB s.Body (genEs s.Args (n + 2)).2).2) := by
  cases s; cases hk; rw [genS]; rfl
theorem genS_each (s : GStmt) (n : Int) (hk : s.Kind = 11) : genS s n = ([tick] ++ (genEs s.Args (n + 2)).1 ++ [⟨19, 2⟩, ⟨6, s.Num⟩, ⟨38, n⟩, ⟨5, s.Num⟩, ⟨25, n + 1⟩, tick] ++ [⟨5, s.Num⟩, ⟨19, 3⟩, ⟨6, s.Num + 1⟩] ++ (genB s.Body (genEs s.Args (n + 2)).2).1 ++ [⟨5, s.Num + 1⟩, ⟨6, s.Num⟩, ⟨24, n⟩, ⟨38, n + 1⟩], (genB s.Body (genEs s.Args (n + 2)).2).2) := by
  cases s; cases hk; rw [genS]; rfl
theorem genS_say (s : GStmt) (n : Int) (hk : s.Kind = 1) : genS s n = ([tick] ++ (genSay s.Args n).1, (genSay s.Args n).2) := by
  cases s; cases hk; rw [genS]; rfl
theorem genS_plain (s : GStmt) (n : Int) (h1 : s.Kind ≠ 9) (h2 : s.Kind ≠ 10) (h3 : s.Kind ≠ 11) (h4 : s.Kind ≠ 1) : genS s n = ([tick] ++ (genEs s.Args n).1 ++ [deedM s.Kind s.Num], (genEs s.Args n).2) := by
  cases s with
  | mk k num nm a b c =>
    rw [genS.eq_def]
    simp only [GStmt.Kind_mk] at h1 h2 h3 h4
    simp [h1, h2, h3, h4]
theorem genB_snoc (l : List GStmt) (x : GStmt) (m : Int) : genB (l ++ [x]) m = ((genB l m).1 ++ (genS x (genB l m).2).1, (genS x (genB l m).2).2) := by
  induction l generalizing m with
  | nil => simp [genB]
  | cons y l ih => simp [genB, ih]
theorem genSay_snoc (l : List GExpr) (x : GExpr) (m : Int) : genSay (l ++ [x]) m = ((genSay l m).1 ++ (sayI x (genSay l m).2).1, (sayI x (genSay l m).2).2) := by
  induction l generalizing m with
  | nil => simp [genSay]
  | cons y l ih => simp [genSay, ih]

/-! bounds -/
theorem szB_app (l r : List GStmt) : szB (l ++ r) = szB l + szB r := by
  induction l with
  | nil => simp [szB]
  | cons x l ih => simp only [List.cons_append, szB, ih]; omega
theorem genEs_bd' (l : List GExpr) (m : Int) : m ≤ (genEs l m).2 ∧ (genEs l m).2 ≤ m + 2 * szEs l ∧ (genEs l m).1.length ≤ 6 * szEs l := genEs_bd l (fun x _ m => genE_bd x m) m
theorem sayI_bd (x : GExpr) (m : Int) : m ≤ (sayI x m).2 ∧ (sayI x m).2 ≤ m + 2 * szE x ∧ (sayI x m).1.length ≤ 7 * szE x := by
  have h1 := genEs_bd' x.Args m
  have h2 := genE_bd x m
  have h3 := szE_eq x
  unfold sayI
  split
  · simp only [List.length_cons, List.length_nil]; omega
  · split
    · simp only [List.length_append, List.length_cons, List.length_nil]; omega
    · simp only [List.length_append, List.length_cons, List.length_nil]; omega
theorem genSay_bd (l : List GExpr) (m : Int) : m ≤ (genSay l m).2 ∧ (genSay l m).2 ≤ m + 2 * szEs l ∧ (genSay l m).1.length ≤ 7 * szEs l := by
  induction l generalizing m with
  | nil => simp [genSay, szEs]
  | cons x l ih =>
    have h1 := sayI_bd x m
    have h2 := ih (sayI x m).2
    rw [genSay, szEs, List.length_append]
    omega
theorem genB_bd : ∀ (N : Nat) (l : List GStmt), SizeOf.sizeOf l < N → ∀ m : Int, m ≤ (genB l m).2 ∧ (genB l m).2 ≤ m + 2 * szB l ∧ (genB l m).1.length ≤ 16 * szB l := by
  intro N
  induction N with
  | zero => intro l h; omega
  | succ N ih =>
    intro l h m
    cases l with
    | nil => simp [genB, szB]
    | cons s l =>
      have hl : SizeOf.sizeOf l < N := by simp only [List.cons.sizeOf_spec] at h; omega
      have hs : SizeOf.sizeOf s < N := by simp only [List.cons.sizeOf_spec] at h; omega
      have hb := GStmt.lt_body s
      have he := GStmt.lt_else s
      rw [genB, szB, szS_eq, List.length_append]
      have h2 := ih l hl (genS s m).2
      have key : m ≤ (genS s m).2 ∧ (genS s m).2 ≤ m + 2 * (1 + szEs s.Args + szB s.Body + szB s.Else) ∧ (genS s m).1.length ≤ 16 * (1 + szEs s.Args + szB s.Body + szB s.Else) := by
        by_cases k9 : s.Kind = 9
        · by_cases he0 : s.Else = []
          · rw [genS_if0 s m k9 he0]
            have a1 := genEs_bd' s.Args (m + 1)
            have a2 := ih s.Body (by omega) (genEs s.Args (m + 1)).2
            simp only [List.length_append, List.length_cons, List.length_nil]
            omega
          · rw [genS_if1 s m k9 he0]
            have a1 := genEs_bd' s.Args (m + 2)
            have a2 := ih s.Body (by omega) (genEs s.Args (m + 2)).2
            have a3 := ih s.Else (by omega) (genB s.Body (genEs s.Args (m + 2)).2).2
            simp only [List.length_append, List.length_cons, List.length_nil]
            omega
        by_cases k10 : s.Kind = 10
        · rw [genS_while s m k10]
          have a1 := genEs_bd' s.Args (m + 2)
          have a2 := ih s.Body (by omega) (genEs s.Args (m + 2)).2
          simp only [List.length_append, List.length_cons, List.length_nil]
          omega
        by_cases k11 : s.Kind = 11
        · rw [genS_each s m k11]
          have a1 := genEs_bd' s.Args (m + 2)
          have a2 := ih s.Body (by omega) (genEs s.Args (m + 2)).2
          simp only [List.length_append, List.length_cons, List.length_nil]
          omega
        by_cases k1 : s.Kind = 1
        · rw [genS_say s m k1]
          have a1 := genSay_bd s.Args m
          simp only [List.length_append, List.length_cons, List.length_nil]
          omega
        · rw [genS_plain s m k9 k10 k11 k1]
          have a1 := genEs_bd' s.Args m
          simp only [List.length_append, List.length_cons, List.length_nil]
          omega
      omega
theorem genB_bd' (l : List GStmt) (m : Int) : m ≤ (genB l m).2 ∧ (genB l m).2 ≤ m + 2 * szB l ∧ (genB l m).1.length ≤ 16 * szB l := genB_bd _ l (Nat.lt_succ_self _) m
theorem genS_bd (s : GStmt) (m : Int) : m ≤ (genS s m).2 ∧ (genS s m).2 ≤ m + 2 * szS s ∧ (genS s m).1.length ≤ 16 * szS s := by
  have := genB_bd' [s] m
  simpa [genB, szB] using this
end Go.Ab
