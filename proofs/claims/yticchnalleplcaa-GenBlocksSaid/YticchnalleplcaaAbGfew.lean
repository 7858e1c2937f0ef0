import Derived.Test.YticchnalleplcaaAbQ
import Derived.Test.YticchnalleplcaaAbGs
import Derived.Test.YticchnalleplcaaAbFam
set_option linter.unusedSimpArgs false
set_option linter.unusedVariables false
namespace Go.Ab
open Go.Proofs

theorem Try.mixed : Try.prog.follows .mixedOrders = true := by kernel_rfl
@[simp] theorem GExpr.Args_mk (a b c : Int) (d : ByteArray) (l : List GExpr) : (GExpr.mk a b c d l).Args = l := rfl
@[simp] theorem GExpr.Kind_mk (a b c : Int) (d : ByteArray) (l : List GExpr) : (GExpr.mk a b c d l).Kind = a := rfl
@[simp] theorem GExpr.Op_mk (a b c : Int) (d : ByteArray) (l : List GExpr) : (GExpr.mk a b c d l).Op = b := rfl
@[simp] theorem GExpr.Num_mk (a b c : Int) (d : ByteArray) (l : List GExpr) : (GExpr.mk a b c d l).Num = c := rfl
@[simp] theorem GExpr.Name_mk (a b c : Int) (d : ByteArray) (l : List GExpr) : (GExpr.mk a b c d l).Name = d := rfl
theorem GExpr.eta (e : GExpr) : e = .mk e.Kind e.Op e.Num e.Name e.Args := by cases e; rfl
theorem GExpr.lt_of_mem {e x : GExpr} (h : x ∈ e.Args) : SizeOf.sizeOf x < SizeOf.sizeOf e := by
  cases e with
  | mk a b c d l =>
    have := List.sizeOf_lt_of_mem (show x ∈ l from h)
    simp only [GExpr.mk.sizeOf_spec]
    omega

/-! ### Few -/
mutual
def fewM : GExpr → Int → Int
  | .mk _ _ _ _ l, m => fewsM l (m - 1)
def fewsM : List GExpr → Int → Int
  | [], m => m
  | x :: l, m => if m < 0 then m else fewsM l (fewM x m)
end
theorem fewM_eq (e : GExpr) (m : Int) : fewM e m = fewsM e.Args (m - 1) := by cases e; rw [fewM]; rfl
theorem fewsM_neg (l : List GExpr) (m : Int) (h : m < 0) : fewsM l m = m := by
  cases l with
  | nil => rw [fewsM]
  | cons x l => rw [fewsM, if_pos h]
theorem fews_le : ∀ (n : Nat) (l : List GExpr), SizeOf.sizeOf l < n → ∀ m : Int, fewsM l m ≤ m ∧ (-1 ≤ m → -1 ≤ fewsM l m) := by
  intro n
  induction n with
  | zero => intro l h; omega
  | succ n ih =>
    intro l h m
    cases l with
    | nil => rw [fewsM]; omega
    | cons x l =>
      rw [fewsM]
      split
      · omega
      · rw [fewM_eq]
        have h1 := ih x.Args (by cases x; simp only [GExpr.Args_mk]; simp only [List.cons.sizeOf_spec, GExpr.mk.sizeOf_spec] at h; omega) (m - 1)
        have h2 := ih l (by simp only [List.cons.sizeOf_spec] at h; omega) (fewsM x.Args (m - 1))
        omega
theorem fewsM_le (l : List GExpr) (m : Int) : fewsM l m ≤ m := (fews_le _ l (Nat.lt_succ_self _) m).1
theorem fewsM_ge (l : List GExpr) (m : Int) (h : -1 ≤ m) : -1 ≤ fewsM l m := (fews_le _ l (Nat.lt_succ_self _) m).2 h
theorem fewM_ge (e : GExpr) (m : Int) (h : 0 ≤ m) : -1 ≤ fewM e m := by rw [fewM_eq]; exact fewsM_ge _ _ (by omega)
theorem fewM_le (e : GExpr) (m : Int) : fewM e m ≤ m - 1 := by rw [fewM_eq]; exact fewsM_le _ _
theorem fewsM_snoc (l : List GExpr) (x : GExpr) (m : Int) : fewsM (l ++ [x]) m = if fewsM l m < 0 then fewsM l m else fewM x (fewsM l m) := by
  induction l generalizing m with
  | nil => simp only [List.nil_append, fewsM]; rfl
  | cons y l ih =>
    simp only [List.cons_append, fewsM]
    split
    · rfl
    · rw [ih]
theorem fewsM_app (l r : List GExpr) (m : Int) : fewsM (l ++ r) m = fewsM r (fewsM l m) := by
  induction l generalizing m with
  | nil => simp only [List.nil_append, fewsM]
  | cons y l ih =>
    simp only [List.cons_append, fewsM]
    split
    · rw [fewsM_neg _ _ ‹_›]
    · rw [ih]

theorem refFew_ok (e : GExpr) (he : e.wf) (m : Int) (hm : 0 ≤ m ∧ m ≤ 1000000) : Pure Try.prog 26 [.agg (e.enc.map .d), .d (.v (.int .i64 m))] (.d (.v (.int .i64 (fewM e m)))) := by
  obtain ⟨n, hn⟩ : ∃ n, SizeOf.sizeOf e < n := ⟨_, Nat.lt_succ_self _⟩
  induction n generalizing e m with
  | zero => omega
  | succ n ih =>
    have hw := (GExpr.wf_iff e).1 he
    have hlen : e.Args.length ≤ 2199023255488 := by omega
    have hsub : ∀ (i : Nat) (h : i < e.Args.length) m, 0 ≤ m ∧ m ≤ 1000000 → Pure Try.prog 26 [.agg ((e.Args[i]).enc.map .d), .d (.v (.int .i64 m))] (.d (.v (.int .i64 (fewM (e.Args[i]) m)))) := fun i h m hm =>
      ih _ (hw.2.2.2.2.2 _ (List.getElem_mem h)) m hm (by have := GExpr.lt_of_mem (List.getElem_mem h); omega)
    rw [fewM_eq]
    refine Pure.run Try.func26 rfl (by simp [Try.f26]) ?_; simp [Try.f26]
    generalize e.Args = l at *
    intro bs
    refine ⟨by rw [inR_i64]; omega, ?_⟩
    refine AWP.loopS [1, 10, 11, 12] l.length (fun i => [(1, .d (.v (.int .i64 (fewsM (l.take i) (m - 1))))), (12, .d (.v (.int .i64 i)))]) (fun _ => []) (fun _ => True) (by rfl) (by simp [fewsM]) ?_
    intro i hi _
    rcases Nat.lt_or_eq_of_le hi with hlt | rfl
    · have hge : l[i]? = some l[i] := List.getElem?_eq_getElem hlt
      have htk : List.take (i + 1) l = List.take i l ++ [l[i]] := by rw [List.take_add_one, hge]; rfl
      have hS := hsub i hlt
      generalize hE : l[i] = x at *
      have hle := fewsM_le (l.take i) (m - 1)
      generalize hM : fewsM (l.take i) (m - 1) = k at *
      simp [hlt, hge, hE]
      intro bs2
      refine ⟨fun h => ?_, fun h => ?_⟩
      · rw [← List.take_append_drop i l, fewsM_app, hM, fewsM_neg _ _ h]
      · refine AOps.pureC rfl (hS k ⟨h, by omega⟩) (by simp) rfl (by simp) rfl ?_
        simp
        refine ⟨by rw [inR_i64]; omega, hlt, ?_⟩
        rw [htk, fewsM_snoc, hM, if_neg (by omega)]
    · simp
end Go.Ab
