import Derived.Test.YticchnalleplcaaAbGst6
set_option linter.unusedSimpArgs false
set_option linter.unusedVariables false
namespace Go.Ab
open Go.Proofs
set_option maxRecDepth 40000
set_option maxHeartbeats 4000000

def RExpr (x : GExpr) : Prop := ∀ m : Int, 0 ≤ m ∧ m + 2 * szE x ≤ 100000 → Pure Try.prog 60 [.agg (x.enc.map .d), .d (.v (.int .i64 m))] (genT (genE x m))
def RBlock (l : List GStmt) : Prop := ∀ m : Int, 0 ≤ m ∧ m + 2 * szB l ≤ 100000 → Pure Try.prog 65 [.d (.sl (l.map GStmt.enc)), .d (.v (.int .i64 m))] (genT (genB l m))

theorem refIf0_of (s : GStmt) (x : GExpr) (hA : s.Args = [x]) (n : Int) (hn : 0 ≤ n ∧ n + 2 * szS s ≤ 100000) (hx : RExpr x) (hb : RBlock s.Body) (hk : s.Kind = 9) (he : s.Else = []) :
    Pure Try.prog 104 [.agg (s.enc.map .d), .d (.v (.int .i64 n))] (genT (genS s n)) := by
  rw [genS_if0 s n hk he, hA, genE_one]
  have hz := szS_eq s
  rw [hA] at hz
  simp only [szEs] at hz
  have b1 := genE_bd x (n + 1)
  have b2 := genB_bd' s.Body (genE x (n + 1)).2
  have hC := hx (n + 1) ⟨by omega, by omega⟩
  generalize genE x (n + 1) = p at *
  obtain ⟨p1, p2⟩ := p
  simp only at b1 b2 hC ⊢
  have hD := hb p2 ⟨by omega, by omega⟩
  generalize genB s.Body p2 = q at *
  obtain ⟨q1, q2⟩ := q
  unfold genT at hC hD ⊢
  simp only at b2 hC hD ⊢
  have a1 : inR .i64 (n + 2) := by rw [inR_i64]; omega
  have a2 : inR .i64 (n + 1) := by rw [inR_i64]; omega
  have hlen : s.Else.length = 0 := by
    simp [he]
  have e0 : ((s.Else.length : Int) == 0) = true := by simp [he]
  refine Pure.run Try.func104 rfl (by simp [Try.f104]) ?_; simp [-condC_bool, Try.f104, hk]
  intro bs
  refine AOps.pureC rfl (code_ok 37 0) rfl rfl (by simp) rfl ?_
  simp [-condC_bool, hk, a1, a2, hlen, hA, he]
  refine AOps.weaken (Wk.freeze 25 (ys := ([GIns.mk 37 0]).map _) rfl) ?_
  simp [-condC_bool]
  refine AOps.pureC rfl (hC) rfl rfl (by simp) rfl ?_
  simp [-condC_bool]
  refine AOps.pureC rfl (hD) rfl rfl (by simp) rfl ?_
  simp [-condC_bool]
  refine AOps.pureC rfl (join_ok [GIns.mk 37 0] p1 (by simp) (by omega)) (by simp) rfl (by simp) rfl ?_
  simp [-condC_bool]
  refine AOps.pureC rfl (zero_ok n) rfl rfl (by simp) rfl ?_
  simp [-condC_bool]
  refine AOps.weaken (Wk.freeze 59 (ys := ([GIns.mk 25 n]).map _) rfl) ?_
  simp [-condC_bool]
  refine AOps.pureC rfl (join_ok ([GIns.mk 37 0] ++ p1) [GIns.mk 25 n] (by simp <;> omega) (by simp)) (by simp) rfl (by simp) rfl ?_
  simp [-condC_bool]
  refine AOps.pureC rfl (join_ok ([GIns.mk 37 0] ++ p1 ++ [GIns.mk 25 n]) q1 (by simp <;> omega) (by omega)) (by simp) rfl (by simp) rfl ?_
  simp [-condC_bool, hlen, he, e0]
  refine AOps.pureC rfl (label_ok n) rfl rfl (by simp) rfl ?_
  simp [-condC_bool]
  refine AOps.weaken (Wk.freeze 70 (ys := ([GIns.mk 38 n]).map _) rfl) ?_
  simp [-condC_bool]
  refine AOps.pureC rfl (join_ok ([GIns.mk 37 0] ++ p1 ++ [GIns.mk 25 n] ++ q1) [GIns.mk 38 n] (by simp <;> omega) (by simp)) (by simp) rfl (by simp) rfl ?_
  simp [tick]

theorem refIf1_of (s : GStmt) (x : GExpr) (hA : s.Args = [x]) (n : Int) (hn : 0 ≤ n ∧ n + 2 * szS s ≤ 100000) (hx : RExpr x) (hb : RBlock s.Body) (hc : RBlock s.Else) (hk : s.Kind = 9) (he : s.Else ≠ []) :
    Pure Try.prog 104 [.agg (s.enc.map .d), .d (.v (.int .i64 n))] (genT (genS s n)) := by
  rw [genS_if1 s n hk he, hA, genE_one]
  have hz := szS_eq s
  rw [hA] at hz
  simp only [szEs] at hz
  have b1 := genE_bd x (n + 2)
  have b2 := genB_bd' s.Body (genE x (n + 2)).2
  have hC := hx (n + 2) ⟨by omega, by omega⟩
  generalize genE x (n + 2) = p at *
  obtain ⟨p1, p2⟩ := p
  simp only at b1 b2 hC ⊢
  have hD := hb p2 ⟨by omega, by omega⟩
  have b3 := genB_bd' s.Else (genB s.Body p2).2
  generalize genB s.Body p2 = q at *
  obtain ⟨q1, q2⟩ := q
  simp only at b2 b3 hD ⊢
  have hF := hc q2 ⟨by omega, by omega⟩
  generalize genB s.Else q2 = r at *
  obtain ⟨r1, r2⟩ := r
  unfold genT at hC hD hF ⊢
  simp only at b2 hC hD b3 hF ⊢
  have a1 : inR .i64 (n + 2) := by rw [inR_i64]; omega
  have a2 : inR .i64 (n + 1) := by rw [inR_i64]; omega
  have hlen : 0 < s.Else.length := by
    cases h : s.Else with | nil => exact (he h).elim | cons a l => simp
  have e0 : ((s.Else.length : Int) == 0) = false := by simp [he]
  refine Pure.run Try.func104 rfl (by simp [Try.f104]) ?_; simp [-condC_bool, Try.f104, hk]
  intro bs
  refine AOps.pureC rfl (code_ok 37 0) rfl rfl (by simp) rfl ?_
  simp [-condC_bool, hk, a1, a2, hlen, hA, he]
  refine AOps.weaken (Wk.freeze 25 (ys := ([GIns.mk 37 0]).map _) rfl) ?_
  simp [-condC_bool]
  refine AOps.pureC rfl (hC) rfl rfl (by simp) rfl ?_
  simp [-condC_bool]
  refine AOps.pureC rfl (hD) rfl rfl (by simp) rfl ?_
  simp [-condC_bool]
  refine AOps.pureC rfl (join_ok [GIns.mk 37 0] p1 (by simp) (by omega)) (by simp) rfl (by simp) rfl ?_
  simp [-condC_bool]
  refine AOps.pureC rfl (zero_ok n) rfl rfl (by simp) rfl ?_
  simp [-condC_bool]
  refine AOps.weaken (Wk.freeze 59 (ys := ([GIns.mk 25 n]).map _) rfl) ?_
  simp [-condC_bool]
  refine AOps.pureC rfl (join_ok ([GIns.mk 37 0] ++ p1) [GIns.mk 25 n] (by simp <;> omega) (by simp)) (by simp) rfl (by simp) rfl ?_
  simp [-condC_bool]
  refine AOps.pureC rfl (join_ok ([GIns.mk 37 0] ++ p1 ++ [GIns.mk 25 n]) q1 (by simp <;> omega) (by omega)) (by simp) rfl (by simp) rfl ?_
  simp [-condC_bool, hlen, he, e0]
  refine AOps.pureC rfl (hF) rfl rfl (by simp) rfl ?_
  simp [-condC_bool, a2]
  refine AOps.pureC rfl (jump_ok (n + 1)) rfl rfl (by simp) rfl ?_
  simp [-condC_bool]
  refine AOps.pureC rfl (label_ok n) rfl rfl (by simp) rfl ?_
  simp [-condC_bool]
  refine AOps.weaken (Wk.freeze 86 (ys := ([GIns.mk 24 (n + 1), GIns.mk 38 n]).map _) rfl) ?_
  simp [-condC_bool]
  refine AOps.pureC rfl (join_ok ([GIns.mk 37 0] ++ p1 ++ [GIns.mk 25 n] ++ q1) [GIns.mk 24 (n + 1), GIns.mk 38 n] (by simp <;> omega) (by simp)) (by simp) rfl (by simp) rfl ?_
  simp [-condC_bool]
  refine AOps.pureC rfl (join_ok (([GIns.mk 37 0] ++ p1 ++ [GIns.mk 25 n] ++ q1) ++ [GIns.mk 24 (n + 1), GIns.mk 38 n]) r1 (by simp <;> omega) (by omega)) (by simp) rfl (by simp) rfl ?_
  simp [-condC_bool, a2]
  refine AOps.pureC rfl (label_ok (n + 1)) rfl rfl (by simp) rfl ?_
  simp [-condC_bool]
  refine AOps.weaken (Wk.freeze 93 (ys := ([GIns.mk 38 (n + 1)]).map _) rfl) ?_
  simp [-condC_bool]
  refine AOps.pureC rfl (join_ok (([GIns.mk 37 0] ++ p1 ++ [GIns.mk 25 n] ++ q1) ++ [GIns.mk 24 (n + 1), GIns.mk 38 n] ++ r1) [GIns.mk 38 (n + 1)] (by simp <;> omega) (by simp)) (by simp) rfl (by simp) rfl ?_
  simp [tick]

theorem refWhile_of (s : GStmt) (x : GExpr) (hA : s.Args = [x]) (n : Int) (hn : 0 ≤ n ∧ n + 2 * szS s ≤ 100000) (hx : RExpr x) (hb : RBlock s.Body) (hk : s.Kind = 10) :
    Pure Try.prog 104 [.agg (s.enc.map .d), .d (.v (.int .i64 n))] (genT (genS s n)) := by
  rw [genS_while s n hk, hA, genE_one]
  have hz := szS_eq s
  rw [hA] at hz
  simp only [szEs] at hz
  have b1 := genE_bd x (n + 2)
  have b2 := genB_bd' s.Body (genE x (n + 2)).2
  have hC := hx (n + 2) ⟨by omega, by omega⟩
  generalize genE x (n + 2) = p at *
  obtain ⟨p1, p2⟩ := p
  simp only at b1 b2 hC ⊢
  have hD := hb p2 ⟨by omega, by omega⟩
  generalize genB s.Body p2 = q at *
  obtain ⟨q1, q2⟩ := q
  unfold genT at hC hD ⊢
  simp only at b2 hC hD ⊢
  have a1 : inR .i64 (n + 2) := by rw [inR_i64]; omega
  have a2 : inR .i64 (n + 1) := by rw [inR_i64]; omega
  have c2 := fun m L => (label_ok m).ok L
  have c4 := fun m L => (zero_ok m).ok L
  refine Pure.run Try.func104 rfl (by simp [Try.f104]) ?_; simp [-condC_bool, Try.f104, hk]
  intro bs
  refine AOps.pureC rfl (code_ok 37 0) rfl rfl (by simp) rfl ?_
  simp [-condC_bool, hk, hA, a1]
  refine AOps.weaken (Wk.freeze 25 (ys := ([GIns.mk 37 0]).map _) rfl) ?_
  simp [-condC_bool]
  refine AOps.pureC rfl (hC) rfl rfl (by simp) rfl ?_
  simp [-condC_bool]
  refine AOps.pureC rfl (hD) rfl rfl (by simp) rfl ?_
  simp [-condC_bool]
  refine AWP.regionM0 [some (0, 0), some (0, 0), some (0, 0), some (0, 0), some (0, 0), none, some (0, 1), none, some (0, 2), some (0, 2), some (2, 2), none, none, some (4, 4)] [.agg ((GIns.mk 38 n).enc.map .d), .agg ((GIns.mk 25 (n + 1)).enc.map .d)] Try.mixed (by kernel_rfl) ?_
  simp [c2, c4, a2]
  refine EffM.intro (fun _ => LOp.call 120 [120] rfl (join_r1 120 (by decide) [GIns.mk 38 n, GIns.mk 37 0] p1 (by simp) (by omega)) (by simp) rfl (by kernel_rfl) (by simp [dd]) (by simp) (by simp +contextual) (by simp) (by simp)) ?_
  simp [c2, c4, a2]
  refine EffM.intro (fun _ => LOp.call 126 [126] rfl (join_r2 126 (by decide) ([GIns.mk 38 n, GIns.mk 37 0] ++ p1) [GIns.mk 25 (n + 1)] (by simp <;> omega) (by simp)) (by simp) rfl (by kernel_rfl) (by simp [dd]) (by simp) (by simp +contextual) (by simp) (by simp)) ?_
  simp [c2, c4, a2]
  refine AOps.pureC rfl (join_ok (([GIns.mk 38 n, GIns.mk 37 0] ++ p1) ++ [GIns.mk 25 (n + 1)]) q1 (by simp <;> omega) (by omega)) (by simp) rfl (by simp) rfl ?_
  simp
  refine AOps.pureC rfl (jump_ok n) rfl rfl (by simp) rfl ?_
  simp [a2]
  refine AOps.pureC rfl (label_ok (n + 1)) rfl rfl (by simp) rfl ?_
  simp
  refine AOps.weaken (Wk.freeze 136 (ys := ([GIns.mk 24 n, GIns.mk 38 (n + 1)]).map _) rfl) ?_
  simp
  refine AOps.pureC rfl (join_ok ((([GIns.mk 38 n, GIns.mk 37 0] ++ p1) ++ [GIns.mk 25 (n + 1)]) ++ q1) [GIns.mk 24 n, GIns.mk 38 (n + 1)] (by simp <;> omega) (by simp)) (by simp) rfl (by simp) rfl ?_
  simp [tick]

theorem refSayS_of (s : GStmt) (n : Int) (hn : 0 ≤ n ∧ n + 2 * szS s ≤ 100000) (hk : s.Kind = 1) (hS : Pure Try.prog 117 [.d (.sl (s.Args.map GExpr.enc)), .d (.v (.int .i64 n))] (genT (genSay s.Args n))) :
    Pure Try.prog 104 [.agg (s.enc.map .d), .d (.v (.int .i64 n))] (genT (genS s n)) := by
  rw [genS_say s n hk]
  have hz := szS_eq s
  have b1 := genSay_bd s.Args n
  generalize genSay s.Args n = p at *
  obtain ⟨p1, p2⟩ := p
  unfold genT at hS ⊢
  simp only at hS b1 ⊢
  refine Pure.run Try.func104 rfl (by simp [Try.f104]) ?_; simp [-condC_bool, Try.f104, hk]
  intro bs
  refine AOps.pureC rfl (code_ok 37 0) rfl rfl (by simp) rfl ?_
  simp [-condC_bool, hk]
  refine AOps.weaken (Wk.freeze 25 (ys := ([GIns.mk 37 0]).map _) rfl) ?_
  simp [-condC_bool, hk]
  refine AOps.pureC rfl (hS) rfl rfl (by simp) rfl ?_
  simp [-condC_bool]
  refine AOps.pureC rfl (join_ok [GIns.mk 37 0] p1 (by simp) (by omega)) (by simp) rfl (by simp) rfl ?_
  simp [tick]
theorem refEachS_of (s : GStmt) (n : Int) (hk : s.Kind = 11) (hS : Pure Try.prog 116 [.agg (s.enc.map .d), .d (.v (.int .i64 n))] (genT (genS s n))) :
    Pure Try.prog 104 [.agg (s.enc.map .d), .d (.v (.int .i64 n))] (genT (genS s n)) := by
  generalize genS s n = p at *
  obtain ⟨p1, p2⟩ := p
  unfold genT at hS ⊢
  simp only at hS ⊢
  refine Pure.run Try.func104 rfl (by simp [Try.f104]) ?_; simp [-condC_bool, Try.f104, hk]
  intro bs
  refine AOps.pureC rfl (code_ok 37 0) rfl rfl (by simp) rfl ?_
  simp [-condC_bool, hk]
  refine AOps.pureC rfl (hS) rfl rfl (by simp) rfl ?_
  simp
theorem refPlain_of (s : GStmt) (n : Int) (hn : 0 ≤ n ∧ n + 2 * szS s ≤ 100000) (h1 : s.Kind ≠ 9) (h2 : s.Kind ≠ 10) (h3 : s.Kind ≠ 11) (h4 : s.Kind ≠ 1) (hS : Pure Try.prog 98 [.d (.sl (s.Args.map GExpr.enc)), .d (.v (.int .i64 n))] (genT (genEs s.Args n))) :
    Pure Try.prog 104 [.agg (s.enc.map .d), .d (.v (.int .i64 n))] (genT (genS s n)) := by
  rw [genS_plain s n h1 h2 h3 h4]
  have hz := szS_eq s
  have b1 := genEs_bd' s.Args n
  generalize genEs s.Args n = p at *
  obtain ⟨p1, p2⟩ := p
  unfold genT at hS ⊢
  simp only at hS b1 ⊢
  have e1 : (s.Kind == 9) = false := by simp [h1]
  have e2 : (s.Kind == 10) = false := by simp [h2]
  have e3 : (s.Kind == 11) = false := by simp [h3]
  have e4 : (s.Kind == 1) = false := by simp [h4]
  have c1 := (deed_ok s).ok
  have c2 := fun L => (join_ok [GIns.mk 37 0] p1 (by simp) (by omega)).ok L
  simp at c2
  refine Pure.run Try.func104 rfl (by simp [Try.f104]) ?_; simp [-condC_bool, Try.f104]
  intro bs
  refine AOps.pureC rfl (code_ok 37 0) rfl rfl (by simp) rfl ?_
  simp [-condC_bool, e1, e2, e3, e4]
  refine AOps.weaken (Wk.freeze 25 (ys := ([GIns.mk 37 0]).map _) rfl) ?_
  simp [-condC_bool]
  refine AOps.pureC rfl (hS) rfl rfl (by simp) rfl ?_
  simp [-condC_bool]
  refine AWP.regionM0 [some (0, 0), some (0, 0), some (0, 0), some (0, 0), some (0, 0), none, none, some (0, 2), some (2, 2), some (2, 2)] [.d (.sl (([GIns.mk 37 0] ++ p1).map GIns.enc)), .agg ((deedM s.Kind s.Num).enc.map .d)] Try.mixed (by kernel_rfl) ?_
  simp [c1, c2]
  refine EffM.intro (fun _ => LOp.call 171 [171] rfl (join_r2 171 (by decide) ([GIns.mk 37 0] ++ p1) [deedM s.Kind s.Num] (by simp <;> omega) (by simp)) (by simp) rfl (by kernel_rfl) (by simp [dd]) (by simp) (by simp +contextual) (by simp) (by simp)) ?_
  simp [tick]
theorem refStmt_ok (t : GTables) (locals : Int) (hlo : inR .i64 locals) (s : GStmt) (hw : s.wf) (hb : boundS t locals s = true) : RStmt s := by
  obtain ⟨N, hN⟩ : ∃ N, SizeOf.sizeOf s < N := ⟨_, Nat.lt_succ_self _⟩
  induction N generalizing s with
  | zero => omega
  | succ N ih =>
    intro n hn
    obtain ⟨p1, p2, p3, p4, p5⟩ := boundS_parts hb
    have hz := szS_eq s
    have hla := GStmt.wl_Args hw
    have hlb := GStmt.wl_Body hw
    have hle := GStmt.wl_Else hw
    have hB : RBlock s.Body := fun m hm => refBlock_of s.Body (by omega) (fun x hx => ih x (GStmt.wf_Body hw x hx) (p4 x hx) (by have := GStmt.lt_body s; have := List.sizeOf_lt_of_mem hx; omega)) m hm
    have hE : RBlock s.Else := fun m hm => refBlock_of s.Else (by omega) (fun x hx => ih x (GStmt.wf_Else hw x hx) (p5 x hx) (by have := GStmt.lt_else s; have := List.sizeOf_lt_of_mem hx; omega)) m hm
    by_cases k1 : s.Kind = 1
    · refine refSayS_of s n hn k1 (refSay_ok t locals s.Args (GStmt.wf_Args hw) (fun x hx => ?_) (by omega) n ⟨by omega, by omega⟩)
      have := p3 x hx
      rwa [show decide (s.Kind = 1) = true by simp [k1]] at this
    have hA : ∀ x ∈ s.Args, boundM t locals x false = true := fun x hx => by
      have := p3 x hx
      rwa [show decide (s.Kind = 1) = false by simp [k1]] at this
    have hX : ∀ x ∈ s.Args, RExpr x := fun x hx m hm => refExpr_ok t locals x (GStmt.wf_Args hw x hx) (hA x hx) m hm
    by_cases k9 : s.Kind = 9
    · obtain ⟨x, hx⟩ := shape_one p1 (.inl k9)
      by_cases he : s.Else = []
      · exact refIf0_of s x hx n hn (hX x (by simp [hx])) hB k9 he
      · exact refIf1_of s x hx n hn (hX x (by simp [hx])) hB hE k9 he
    by_cases k10 : s.Kind = 10
    · obtain ⟨x, hx⟩ := shape_one p1 (.inr (.inl k10))
      exact refWhile_of s x hx n hn (hX x (by simp [hx])) hB k10
    by_cases k11 : s.Kind = 11
    · obtain ⟨x, hx⟩ := shape_one p1 (.inr (.inr k11))
      have hnum : inR .i64 (s.Num + 1) := by
        have hnm : s.Name.toList = [] ∧ s.Num < locals - 1 := by
          unfold thereM at p2
          cases h : s.Name.toList with
          | nil => simp [h, k11] at p2; exact ⟨rfl, by omega⟩
          | cons a l => simp [h] at p2
        have h0 : 0 ≤ s.Num := by simp [thereM, hnm.1, k11] at p2; omega
        rw [inR_i64] at hlo ⊢
        omega
      exact refEachS_of s n k11 (refEach_of s x hx n hn hnum hw (hX x (by simp [hx])) hB k11)
    · exact refPlain_of s n hn k9 k10 k11 k1 (refExprs_of s.Args (by omega) n ⟨by omega, by omega⟩ (fun i h m hm => hX _ (List.getElem_mem h) m hm))
end Go.Ab
