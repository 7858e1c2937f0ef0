import Derived.Test.YticchnalleplcaaAbGbound
set_option linter.unusedSimpArgs false
set_option linter.unusedVariables false
namespace Go.Ab
open Go.Proofs

theorem refBound_ok (t : GTables) (ht : t.wf) (e : GExpr) (he : e.wf) (locals : Int) : Pure Try.prog 27 [.agg (t.enc.map .d), .agg (e.enc.map .d), .d (.v (.int .i64 locals))] (.d (.v (.bool (decide (deepM e 65 ≤ 32) && boundM t locals e true)))) := by
  refine Pure.run Try.func27 rfl (by simp [Try.f27]) ?_; simp [Try.f27]
  intro bs
  have h1 := (depth_ok e he).ok
  have h2 := (boundX_ok t ht locals e he true).ok
  refine runC_sound _ _ [.d (.v (.int .i64 (deepM e 65))), .d (.v (.bool (boundM t locals e true)))] (by rfl) ?_
  simp [h1, h2]

/-! ### the parts of the reference -/
theorem code_ok (a b : Int) : Pure Try.prog 67 [.d (.v (.int .i64 a)), .d (.v (.int .i64 b))] (.agg ((GIns.mk a b).enc.map .d)) := by
  refine Pure.run Try.func67 rfl (by simp [Try.f67]) ?_; simp [Try.f67]
  rfl
theorem label_ok (b : Int) : Pure Try.prog 97 [.d (.v (.int .i64 b))] (.agg ((GIns.mk 38 b).enc.map .d)) := by
  refine Pure.run Try.func97 rfl (by simp [Try.f97]) ?_; simp [Try.f97]
  intro bs
  refine AOps.pureC rfl (code_ok 38 b) (by simp) rfl (by simp) rfl ?_
  simp
theorem jump_ok (b : Int) : Pure Try.prog 96 [.d (.v (.int .i64 b))] (.agg ((GIns.mk 24 b).enc.map .d)) := by
  refine Pure.run Try.func96 rfl (by simp [Try.f96]) ?_; simp [Try.f96]
  intro bs
  refine AOps.pureC rfl (code_ok 24 b) (by simp) rfl (by simp) rfl ?_
  simp
theorem zero_ok (b : Int) : Pure Try.prog 95 [.d (.v (.int .i64 b))] (.agg ((GIns.mk 25 b).enc.map .d)) := by
  refine Pure.run Try.func95 rfl (by simp [Try.f95]) ?_; simp [Try.f95]
  intro bs
  refine AOps.pureC rfl (code_ok 25 b) (by simp) rfl (by simp) rfl ?_
  simp
def ownM (e : GExpr) : GIns :=
  if e.Kind = 1 then ⟨1, e.Num⟩ else if e.Kind = 14 then ⟨3, e.Num⟩ else if e.Kind = 15 then ⟨5, e.Num⟩ else if e.Kind = 12 then ⟨7, e.Op⟩
  else if e.Kind = 4 then ⟨9, 0⟩ else if e.Kind = 5 then ⟨10, 0⟩ else if e.Kind = 11 then ⟨20, 0⟩ else if e.Kind = 6 then ⟨8, e.Op⟩
  else if e.Kind = 16 then ⟨12, e.Num⟩ else if e.Kind = 17 then ⟨13, e.Num⟩ else if e.Kind = 18 then ⟨26, e.Num⟩ else ⟨19, e.Op⟩
set_option maxRecDepth 20000 in
set_option maxHeartbeats 4000000 in
theorem own_ok (e : GExpr) : Pure Try.prog 99 [.agg (e.enc.map .d)] (.agg ((ownM e).enc.map .d)) := by
  have hc := fun a b L => (code_ok a b).ok L
  by_cases hk1 : e.Kind = 1
  · have hO : ownM e = ⟨1, (e.Num)⟩ := by simp [ownM, hk1]
    rw [hO]
    refine Pure.run Try.func99 rfl (by simp [Try.f99]) ?_; simp [Try.f99, hk1]
    intro bs
    refine AOps.pureC rfl (code_ok 1 (e.Num)) (by simp) rfl (by simp) rfl ?_
    simp
  by_cases hk14 : e.Kind = 14
  · have hO : ownM e = ⟨3, (e.Num)⟩ := by simp [ownM, hk14]
    rw [hO]
    refine Pure.run Try.func99 rfl (by simp [Try.f99]) ?_; simp [Try.f99, hk14]
    intro bs
    refine AOps.pureC rfl (code_ok 3 (e.Num)) (by simp) rfl (by simp) rfl ?_
    simp
  by_cases hk15 : e.Kind = 15
  · have hO : ownM e = ⟨5, (e.Num)⟩ := by simp [ownM, hk15]
    rw [hO]
    refine Pure.run Try.func99 rfl (by simp [Try.f99]) ?_; simp [Try.f99, hk15]
    intro bs
    refine AOps.pureC rfl (code_ok 5 (e.Num)) (by simp) rfl (by simp) rfl ?_
    simp
  by_cases hk12 : e.Kind = 12
  · have hO : ownM e = ⟨7, (e.Op)⟩ := by simp [ownM, hk12]
    rw [hO]
    refine Pure.run Try.func99 rfl (by simp [Try.f99]) ?_; simp [Try.f99, hk12]
    intro bs
    refine AOps.pureC rfl (code_ok 7 (e.Op)) (by simp) rfl (by simp) rfl ?_
    simp
  by_cases hk4 : e.Kind = 4
  · have hO : ownM e = ⟨9, (0)⟩ := by simp [ownM, hk4]
    rw [hO]
    refine Pure.run Try.func99 rfl (by simp [Try.f99]) ?_; simp [Try.f99, hk4]
    intro bs
    refine AOps.pureC rfl (code_ok 9 (0)) (by simp) rfl (by simp) rfl ?_
    simp
  by_cases hk5 : e.Kind = 5
  · have hO : ownM e = ⟨10, (0)⟩ := by simp [ownM, hk5]
    rw [hO]
    refine Pure.run Try.func99 rfl (by simp [Try.f99]) ?_; simp [Try.f99, hk5]
    intro bs
    refine AOps.pureC rfl (code_ok 10 (0)) (by simp) rfl (by simp) rfl ?_
    simp
  by_cases hk11 : e.Kind = 11
  · have hO : ownM e = ⟨20, (0)⟩ := by simp [ownM, hk11]
    rw [hO]
    refine Pure.run Try.func99 rfl (by simp [Try.f99]) ?_; simp [Try.f99, hk11]
    intro bs
    refine AOps.pureC rfl (code_ok 20 (0)) (by simp) rfl (by simp) rfl ?_
    simp
  by_cases hk6 : e.Kind = 6
  · have hO : ownM e = ⟨8, (e.Op)⟩ := by simp [ownM, hk6]
    rw [hO]
    refine Pure.run Try.func99 rfl (by simp [Try.f99]) ?_; simp [Try.f99, hk6]
    intro bs
    refine AOps.pureC rfl (code_ok 8 (e.Op)) (by simp) rfl (by simp) rfl ?_
    simp
  by_cases hk16 : e.Kind = 16
  · have hO : ownM e = ⟨12, (e.Num)⟩ := by simp [ownM, hk16]
    rw [hO]
    refine Pure.run Try.func99 rfl (by simp [Try.f99]) ?_; simp [Try.f99, hk16]
    intro bs
    refine AOps.pureC rfl (code_ok 12 (e.Num)) (by simp) rfl (by simp) rfl ?_
    simp
  by_cases hk17 : e.Kind = 17
  · have hO : ownM e = ⟨13, (e.Num)⟩ := by simp [ownM, hk17]
    rw [hO]
    refine Pure.run Try.func99 rfl (by simp [Try.f99]) ?_; simp [Try.f99, hk17]
    intro bs
    refine AOps.pureC rfl (code_ok 13 (e.Num)) (by simp) rfl (by simp) rfl ?_
    simp
  by_cases hk18 : e.Kind = 18
  · have hO : ownM e = ⟨26, (e.Num)⟩ := by simp [ownM, hk18]
    rw [hO]
    refine Pure.run Try.func99 rfl (by simp [Try.f99]) ?_; simp [Try.f99, hk18]
    intro bs
    refine AOps.pureC rfl (code_ok 26 (e.Num)) (by simp) rfl (by simp) rfl ?_
    simp
  have hO : ownM e = ⟨19, e.Op⟩ := by simp [ownM, hk1, hk14, hk15, hk12, hk4, hk5, hk11, hk6, hk16, hk17, hk18]
  rw [hO]
  refine Pure.run Try.func99 rfl (by simp [Try.f99]) ?_; simp [Try.f99, hk1, hk14, hk15, hk12, hk4, hk5, hk11, hk6, hk16, hk17, hk18]
  intro bs
  refine AOps.pureC rfl (code_ok 19 e.Op) (by simp) rfl (by simp) rfl ?_
  simp
theorem join_ok (a b : List GIns) (ha : a.length ≤ 1000000) (hb : b.length ≤ 1000000) : Pure Try.prog 66 [.d (.sl (a.map GIns.enc)), .d (.sl (b.map GIns.enc))] (.d (.sl ((a ++ b).map GIns.enc))) := by
  refine Pure.run Try.func66 rfl (by simp [Try.f66]) ?_; simp [Try.f66]
  omega

/-! ### Sizes -/
mutual
def szE : GExpr → Nat
  | .mk _ _ _ _ l => 1 + szEs l
def szEs : List GExpr → Nat
  | [] => 0
  | x :: l => szE x + szEs l
end
theorem szE_eq (e : GExpr) : szE e = 1 + szEs e.Args := by cases e; rw [szE]; rfl
theorem szEs_app (l r : List GExpr) : szEs (l ++ r) = szEs l + szEs r := by
  induction l with
  | nil => simp [szEs]
  | cons x l ih => simp only [List.cons_append, szEs, ih]; omega
theorem szE_pos (e : GExpr) : 1 ≤ szE e := by rw [szE_eq]; omega
theorem szE_mem {l : List GExpr} {x : GExpr} (h : x ∈ l) : szE x ≤ szEs l := by
  induction l with
  | nil => cases h
  | cons y l ih =>
    rw [szEs]
    rcases List.mem_cons.1 h with rfl | h
    · omega
    · have := ih h; omega
theorem few_sz : ∀ (n : Nat) (l : List GExpr), SizeOf.sizeOf l < n → ∀ m : Int, 0 ≤ fewsM l m → fewsM l m = m - szEs l := by
  intro n
  induction n with
  | zero => intro l h; omega
  | succ n ih =>
    intro l h m
    cases l with
    | nil => rw [fewsM, szEs]; omega
    | cons x l =>
      rw [fewsM, szEs]
      split
      · intro h'; omega
      · intro h'
        have h2 := ih l (by simp only [List.cons.sizeOf_spec] at h; omega) _ h'
        have h3 := fewsM_le l (fewM x m)
        rw [fewM_eq] at h2 h3 h' ⊢
        have h1 := ih x.Args (by cases x; simp only [GExpr.Args_mk]; simp only [List.cons.sizeOf_spec, GExpr.mk.sizeOf_spec] at h; omega) (m - 1) (by omega)
        rw [szE_eq]
        omega
theorem fewM_sz (e : GExpr) (m : Int) (h : 0 ≤ fewM e m) : (szE e : Int) ≤ m := by
  have h0 := fewM_le e m
  rw [fewM_eq] at h h0
  have := few_sz _ e.Args (Nat.lt_succ_self _) (m - 1) h
  rw [szE_eq]; omega

/-! ### What is generated -/
mutual
def genE : GExpr → Int → List GIns × Int
  | .mk k o n s l, m =>
    if k = 6 ∧ (o = 1 ∨ o = 2) then
      match l with
      | a :: b :: _ => ((genE a (m + 2)).1 ++ [⟨25, m⟩] ++ (if o = 1 then [⟨1, 1⟩, ⟨24, m + 1⟩, ⟨38, m⟩] ++ (genE b (genE a (m + 2)).2).1 ++ [⟨11, 0⟩, ⟨38, m + 1⟩]
          else (genE b (genE a (m + 2)).2).1 ++ [⟨11, 0⟩, ⟨24, m + 1⟩, ⟨38, m⟩, ⟨1, 0⟩, ⟨38, m + 1⟩]), (genE b (genE a (m + 2)).2).2)
      | _ => ([], m)
    else ((genEs l m).1 ++ [ownM (.mk k o n s l)], (genEs l m).2)
def genEs : List GExpr → Int → List GIns × Int
  | [], m => ([], m)
  | x :: l, m => ((genE x m).1 ++ (genEs l (genE x m).2).1, (genEs l (genE x m).2).2)
end
def logicE (e : GExpr) : Prop := e.Kind = 6 ∧ (e.Op = 1 ∨ e.Op = 2)
theorem genE_plain (e : GExpr) (m : Int) (h : ¬ logicE e) : genE e m = ((genEs e.Args m).1 ++ [ownM e], (genEs e.Args m).2) := by
  cases e with
  | mk k o n s l =>
    rw [genE.eq_def]
    have h' : ¬ (k = 6 ∧ (o = 1 ∨ o = 2)) := h
    simp only
    rw [if_neg h']
    rfl
theorem genE_or (e a b : GExpr) (r : List GExpr) (m : Int) (hk : e.Kind = 6) (ho : e.Op = 1) (ha : e.Args = a :: b :: r) : genE e m = ((genE a (m + 2)).1 ++ [⟨25, m⟩] ++ ([⟨1, 1⟩, ⟨24, m + 1⟩, ⟨38, m⟩] ++ (genE b (genE a (m + 2)).2).1 ++ [⟨11, 0⟩, ⟨38, m + 1⟩]), (genE b (genE a (m + 2)).2).2) := by
  cases e with
  | mk k o n s l =>
    cases hk; cases ho; cases ha
    rw [genE]
    simp
theorem genE_and (e a b : GExpr) (r : List GExpr) (m : Int) (hk : e.Kind = 6) (ho : e.Op = 2) (ha : e.Args = a :: b :: r) : genE e m = ((genE a (m + 2)).1 ++ [⟨25, m⟩] ++ ((genE b (genE a (m + 2)).2).1 ++ [⟨11, 0⟩, ⟨24, m + 1⟩, ⟨38, m⟩, ⟨1, 0⟩, ⟨38, m + 1⟩]), (genE b (genE a (m + 2)).2).2) := by
  cases e with
  | mk k o n s l =>
    cases hk; cases ho; cases ha
    rw [genE]
    simp
theorem genEs_snoc (l : List GExpr) (x : GExpr) (m : Int) : genEs (l ++ [x]) m = ((genEs l m).1 ++ (genE x (genEs l m).2).1, (genE x (genEs l m).2).2) := by
  induction l generalizing m with
  | nil => simp [genEs]
  | cons y l ih => simp [genEs, ih]
theorem genEs_bd (l : List GExpr) (hl : ∀ x ∈ l, ∀ m, m ≤ (genE x m).2 ∧ (genE x m).2 ≤ m + 2 * szE x ∧ (genE x m).1.length ≤ 6 * szE x) (m : Int) : m ≤ (genEs l m).2 ∧ (genEs l m).2 ≤ m + 2 * szEs l ∧ (genEs l m).1.length ≤ 6 * szEs l := by
  induction l generalizing m with
  | nil => simp [genEs, szEs]
  | cons x l ih =>
    have h1 := hl x (by simp) m
    have h2 := ih (fun y hy => hl y (by simp [hy])) (genE x m).2
    rw [genEs, szEs, List.length_append]
    omega
theorem genE_bd (e : GExpr) (m : Int) : m ≤ (genE e m).2 ∧ (genE e m).2 ≤ m + 2 * szE e ∧ (genE e m).1.length ≤ 6 * szE e := by
  obtain ⟨n, hn⟩ : ∃ n, SizeOf.sizeOf e < n := ⟨_, Nat.lt_succ_self _⟩
  induction n generalizing e m with
  | zero => omega
  | succ n ih =>
    have hs : ∀ x ∈ e.Args, ∀ m, m ≤ (genE x m).2 ∧ (genE x m).2 ≤ m + 2 * szE x ∧ (genE x m).1.length ≤ 6 * szE x := fun x hx m => ih x m (by have := GExpr.lt_of_mem hx; omega)
    by_cases hL : logicE e
    · obtain ⟨hk, ho⟩ := hL
      by_cases hA : ∃ a b r, e.Args = a :: b :: r
      · obtain ⟨a, b, r, hA⟩ := hA
        have h1 := hs a (by simp [hA]) (m + 2)
        have h2 := hs b (by simp [hA]) (genE a (m + 2)).2
        rw [szE_eq, hA]
        simp only [szEs]
        rcases ho with ho | ho
        · rw [genE_or e a b r m hk ho hA]
          simp only [List.length_append, List.length_cons, List.length_nil]
          omega
        · rw [genE_and e a b r m hk ho hA]
          simp only [List.length_append, List.length_cons, List.length_nil]
          omega
      · have : genE e m = ([], m) := by
          cases e with
          | mk k o n s l =>
            cases l with
            | nil => rw [genE.eq_def]; simp [show k = 6 from hk, show o = 1 ∨ o = 2 from ho]
            | cons a l =>
              cases l with
              | nil => rw [genE.eq_def]; simp [show k = 6 from hk, show o = 1 ∨ o = 2 from ho]
              | cons b r => exact absurd ⟨a, b, r, rfl⟩ hA
        rw [this]
        simp
        omega
    · rw [genE_plain e m hL, szE_eq]
      have := genEs_bd e.Args hs m
      simp only [List.length_append, List.length_cons, List.length_nil]
      omega
end Go.Ab
