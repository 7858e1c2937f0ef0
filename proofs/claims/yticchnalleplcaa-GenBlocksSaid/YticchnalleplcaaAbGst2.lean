import Derived.Test.YticchnalleplcaaAbGst
set_option linter.unusedSimpArgs false
set_option linter.unusedVariables false
namespace Go.Ab
open Go.Proofs
set_option maxRecDepth 40000
set_option maxHeartbeats 4000000

/-! ### How deep statements are -/
def greaterM (a b : Int) : Int := if b < a then a else b
theorem greater_ok (a b : Int) : Pure Try.prog 109 [.d (.v (.int .i64 a)), .d (.v (.int .i64 b))] (.d (.v (.int .i64 (greaterM a b)))) := by
  refine Pure.run Try.func109 rfl (by simp [Try.f109]) ?_; simp [-condC_bool, Try.f109]
  repeat' (first
    | (with_reducible refine And.intro ?_ ?_)
    | (refine condC_split (fun h => ?_) (fun h => ?_) <;> (try simp at h) <;> (try simp [-condC_bool, *]))
    | (with_reducible intro _))
  all_goals simp [greaterM, *] <;> omega
mutual
def deepS : GStmt → Int → Int → Int
  | .mk _ _ _ a b c, m, n => greaterM (deepsM a m n) (greaterM (if b.isEmpty then 0 else (if 1 < m then deepSs b (m - 1) 0 else 0) + 1) (if c.isEmpty then 0 else (if 1 < m then deepSs c (m - 1) 0 else 0) + 1))
def deepSs : List GStmt → Int → Int → Int
  | [], _, n => n
  | s :: l, m, n => deepSs l m (deepS s m n)
end
def deepB (l : List GStmt) (m : Int) : Int := if l.isEmpty then 0 else (if 1 < m then deepSs l (m - 1) 0 else 0) + 1
theorem deepS_eq (s : GStmt) (m n : Int) : deepS s m n = greaterM (deepsM s.Args m n) (greaterM (deepB s.Body m) (deepB s.Else m)) := by cases s; rw [deepS]; rfl
theorem deepSs_snoc (l : List GStmt) (s : GStmt) (m n : Int) : deepSs (l ++ [s]) m n = deepS s m (deepSs l m n) := by
  induction l generalizing n with
  | nil => simp only [List.nil_append, deepSs]
  | cons x l ih => simp only [List.cons_append, deepSs]; exact ih _
theorem deepSs_bd : ∀ (N : Nat) (l : List GStmt), SizeOf.sizeOf l < N → ∀ m n : Int, 1 ≤ m → 0 ≤ n → n ≤ m → 0 ≤ deepSs l m n ∧ deepSs l m n ≤ m := by
  intro N
  induction N with
  | zero => intro l h; omega
  | succ N ih =>
    intro l h m n h1 h2 h3
    cases l with
    | nil => rw [deepSs]; omega
    | cons s l =>
      rw [deepSs]
      have hs : SizeOf.sizeOf s < N := by simp only [List.cons.sizeOf_spec] at h; omega
      have hb := GStmt.lt_body s
      have he := GStmt.lt_else s
      have hB : ∀ l' : List GStmt, SizeOf.sizeOf l' < N → 0 ≤ deepB l' m ∧ deepB l' m ≤ m := fun l' hl => by
        unfold deepB
        split
        · omega
        · split
          · have := ih l' hl (m - 1) 0 (by omega) (by omega) (by omega); omega
          · omega
      have b1 := hB s.Body (by omega)
      have b2 := hB s.Else (by omega)
      have b3 := deepsM_le s.Args m n h1 h2 h3
      refine ih l (by simp only [List.cons.sizeOf_spec] at h; omega) m _ h1 ?_ ?_
      · rw [deepS_eq]; unfold greaterM; repeat' split
        all_goals omega
      · rw [deepS_eq]; unfold greaterM; repeat' split
        all_goals omega
theorem deepB_bd (l : List GStmt) (m : Int) (h : 1 ≤ m) : 0 ≤ deepB l m ∧ deepB l m ≤ m := by
  unfold deepB
  split
  · omega
  · split
    · have := deepSs_bd _ l (Nat.lt_succ_self _) (m - 1) 0 (by omega) (by omega) (by omega); omega
    · omega
theorem deepsM_max (l : List GExpr) (x : GExpr) (m n : Int) : deepsM (l ++ [x]) m n = greaterM (deepsM l m n) (deepM x m) := by
  rw [deepsM_snoc]; unfold greaterM; split <;> split <;> omega
theorem deepB_ok (l : List GStmt) (hl : ∀ s ∈ l, s.wf) (hlen : l.length * 104 ≤ 140737488351232) (m : Int) (hm : 1 ≤ m ∧ m ≤ 1000000) : Pure Try.prog 100 [.d (.sl (l.map GStmt.enc)), .d (.v (.int .i64 m))] (.d (.v (.int .i64 (deepB l m)))) := by
  obtain ⟨n, hn⟩ : ∃ n, SizeOf.sizeOf l < n := ⟨_, Nat.lt_succ_self _⟩
  induction n generalizing l m with
  | zero => omega
  | succ n ih =>
    have hsub : ∀ s ∈ l, (∀ m, 1 ≤ m ∧ m ≤ 1000000 → Pure Try.prog 100 [.d (.sl (s.Body.map GStmt.enc)), .d (.v (.int .i64 m))] (.d (.v (.int .i64 (deepB s.Body m))))) ∧
        (∀ m, 1 ≤ m ∧ m ≤ 1000000 → Pure Try.prog 100 [.d (.sl (s.Else.map GStmt.enc)), .d (.v (.int .i64 m))] (.d (.v (.int .i64 (deepB s.Else m))))) := by
      intro s hs
      have hw := hl s hs
      have h1 := List.sizeOf_lt_of_mem hs
      have h2 := GStmt.lt_body s
      have h3 := GStmt.lt_else s
      exact ⟨fun m hm => ih s.Body (GStmt.wf_Body hw) (GStmt.wl_Body hw) m hm (by omega), fun m hm => ih s.Else (GStmt.wf_Else hw) (GStmt.wl_Else hw) m hm (by omega)⟩
    by_cases hE : l = []
    · subst hE
      refine Pure.run Try.func100 rfl (by simp [Try.f100]) ?_; simp [Try.f100]
      rfl
    have hD : deepB l m = (if 1 < m then deepSs l (m - 1) 0 else 0) + 1 := by unfold deepB; simp [hE]
    rw [hD]
    have hG := fun a b L => (greater_ok a b).ok L
    have hBd := fun pre => deepSs_bd _ pre (Nat.lt_succ_self _) (m - 1) 0
    refine Pure.run Try.func100 rfl (by simp [Try.f100]) ?_; simp [Try.f100]
    simp [hE]
    refine ⟨fun h1 => ?_, fun h1 => ?_⟩
    · refine AWP.loopL [1, 5, 15, 16, 17] l (fun pre => [(5, .d (.v (.int .i64 (deepSs pre (m - 1) 0)))), (17, .d (.v (.int .i64 pre.length)))]) (fun _ => []) (fun _ => True) (by rfl) (by omega) (by simp [deepSs]) ?_ ?_
      · rintro pre s post hsp - hlt hge a4
        have hS := hsub s (by rw [hsp]; simp)
        have hws := hl s (by rw [hsp]; simp)
        have hwa := GStmt.wl_Args hws
        have hsn := deepSs_snoc pre s (m - 1) 0
        rw [deepS_eq] at hsn
        have hb := hBd pre (by omega) (by omega) (by omega)
        generalize deepSs pre (m - 1) 0 = v at *
        simp [hlt, hge]
        intro bs
        refine AWP.loopL [1, 5, 7, 15, 16, 17, 22, 23, 24] s.Args (fun pre => [(5, .d (.v (.int .i64 (deepsM pre (m - 1) v)))), (24, .d (.v (.int .i64 pre.length)))]) (fun _ => []) (fun _ => True) (by rfl) (by omega) (by simp [deepsM]) ?_ ?_
        · rintro pre' e post' hsp2 - hlt2 hge2 b4
          have hsn2 := deepsM_max pre' e (m - 1) v
          have a1 : inR .i64 (m - 1) := by rw [inR_i64]; omega
          have hwe := GStmt.wf_Args hws e (by rw [hsp2]; simp)
          simp [hlt2, hge2, a1]
          intro bs2
          refine AOps.pureC rfl (deep_ok e hwe (m - 1) ⟨by omega, by omega⟩) (by simp) rfl (by simp) rfl ?_
          simp
          refine AOps.pureC rfl (greater_ok _ _) rfl rfl (by simp) rfl ?_
          simp [b4, hsn2]
        · intro _
          have c1 := (hS.1 (m - 1) ⟨by omega, by omega⟩).ok
          have c2 := (hS.2 (m - 1) ⟨by omega, by omega⟩).ok
          have a1 : inR .i64 (m - 1) := by rw [inR_i64]; omega
          simp
          refine AWP.regionD [.d (.v (.int .i64 (deepB s.Body (m - 1)))), .d (.v (.int .i64 (deepB s.Else (m - 1)))), .d (.v (.int .i64 (greaterM (deepB s.Body (m - 1)) (deepB s.Else (m - 1))))), .d (.v (.int .i64 (greaterM (deepsM s.Args (m - 1) v) (greaterM (deepB s.Body (m - 1)) (deepB s.Else (m - 1))))))] Try.mixed (by kernel_rfl) (by rfl) ?_
          simp [c1, c2, a1, a4, hG, hsn]
      · intro _
        have hb := hBd l (by omega) (by omega) (by omega)
        simp [h1]
        rw [inR_i64]; omega
    · rw [if_neg (by omega)]; exact ⟨by rw [inR_i64]; omega, rfl⟩
theorem depthB_ok (l : List GStmt) (hl : ∀ s ∈ l, s.wf) (hlen : l.length * 104 ≤ 140737488351232) : Pure Try.prog 61 [.d (.sl (l.map GStmt.enc))] (.d (.v (.int .i64 (deepB l 65)))) := by
  refine Pure.run Try.func61 rfl (by simp [Try.f61]) ?_; simp [Try.f61]
  refine AOps.pureC rfl (deepB_ok l hl hlen 65 (by omega)) (by simp) rfl (by simp) rfl ?_
  simp
end Go.Ab
