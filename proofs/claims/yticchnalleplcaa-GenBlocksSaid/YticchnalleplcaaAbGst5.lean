import Derived.Test.YticchnalleplcaaAbGst4
set_option linter.unusedSimpArgs false
set_option linter.unusedVariables false
namespace Go.Ab
open Go.Proofs
set_option maxRecDepth 40000
set_option maxHeartbeats 4000000

theorem deed_ok (s : GStmt) : Pure Try.prog 118 [.agg (s.enc.map .d)] (.agg ((deedM s.Kind s.Num).enc.map .d)) := by
  refine Pure.run Try.func118 rfl (by simp [Try.f118]) ?_; simp [-condC_bool, Try.f118]
  intro bs
  repeat' (first
    | (with_reducible refine And.intro ?_ ?_)
    | (refine condC_split (fun h => ?_) (fun h => ?_) <;> (try simp at h) <;> (try simp [-condC_bool, *]))
    | (refine AOps.pureC rfl (code_ok _ _) rfl rfl (by simp) rfl ?_ <;> (try simp [-condC_bool, *]))
    | (refine AOps.pureG rfl (fun h => code_ok _ _) rfl rfl (by simp) (by simp) rfl ?_ <;> (try simp [-condC_bool, *]))
    | (with_reducible intro _))
  all_goals simp [deedM, *]
/-- join, of which what is handed back is owned -/
theorem join_own (a b : List GIns) (ha : a.length ≤ 1000000) (hb : b.length ≤ 1000000) : ACalls Try.prog 66 [.d (.sl (a.map GIns.enc)), .d (.sl (b.map GIns.enc))] [] (fun r L => r = .ret (.rv 5) ∧ L = [(5, .row 64 2 (dd ((a ++ b).map GIns.enc)))]) := by
  refine ACalls.run Try.func66 rfl (by simp [Try.f66]) ?_; simp [Try.f66]
  omega

theorem genE_one (x : GExpr) (m : Int) : genEs [x] m = genE x m := by
  simp [genEs]
theorem bound_title {t : GTables} {locals : Int} {e : GExpr} (h : boundM t locals e true = true) (hk : e.Kind = 13) : ∃ a, e.Args = [a] := by
  rw [boundM_eq, Bool.and_eq_true] at h
  have h1 := h.1
  simp [boundK, hk, bareM] at h1
  have hl : e.Args.length = 1 := by omega
  generalize e.Args = l at hl
  match l, hl with
  | [a], _ => exact ⟨a, rfl⟩

theorem refSay_ok (t : GTables) (locals : Int) (l : List GExpr) (hl : ∀ x ∈ l, x.wf) (hb : ∀ x ∈ l, boundM t locals x true = true) (hlen : l.length ≤ 1000000000000000) (n : Int) (hn : 0 ≤ n ∧ n + 2 * szEs l ≤ 100000) :
    Pure Try.prog 117 [.d (.sl (l.map GExpr.enc)), .d (.v (.int .i64 n))] (genT (genSay l n)) := by
  unfold genT
  refine Pure.run Try.func117 rfl (by simp [Try.f117]) ?_; simp [-condC_bool, Try.f117]
  refine AWP.weaken (Wk.own' (t := 6) (h := 5) (k := 2) (ty := 64) rfl (by simp)) ?_
  refine AWP.loopL [0, 1, 6, 7] l (fun pre => [(1, .d (.v (.int .i64 (genSay pre n).2))), (7, .d (.v (.int .i64 pre.length)))]) (fun pre => [(5, .row 64 2 (dd ((genSay pre n).1.map GIns.enc)))]) (fun _ => True) (by rfl) (by omega) (by simp [genSay]) ?_ ?_
  · rintro pre x post hsp - hlt hge a4
    have hw := hl x (by rw [hsp]; simp)
    have hbx := hb x (by rw [hsp]; simp)
    have hsn := genSay_snoc pre x n
    have hsz : szEs pre + szE x ≤ szEs l := by rw [hsp, szEs_app]; simp only [szEs]; omega
    have b1 := genSay_bd pre n
    have b2 := sayI_bd x (genSay pre n).2
    clear hsp
    generalize genSay pre n = k at *
    obtain ⟨k1, k2⟩ := k
    simp only at hsn b1 b2 ⊢
    have hz := szE_eq x
    by_cases h19 : x.Kind = 19
    · have hI : sayI x k2 = ([⟨21, x.Num⟩], k2) := by simp [sayI, h19]
      rw [hI] at hsn
      simp [hlt, hge, h19]
      refine AOps.pureC rfl (code_ok _ _) rfl rfl (by simp) rfl ?_
      simp [hge, hsn, a4]
      omega
    · have hE : ∃ y, (∀ m, sayI x m = ((genE y m).1 ++ [⟨if x.Kind = 13 then 23 else 22, 0⟩], (genE y m).2)) ∧ boundM t locals y false = true ∧ y.wf ∧ szE y ≤ szE x ∧ (if x.Kind = 13 then x.Args = [y] else y = x) := by
        by_cases h13 : x.Kind = 13
        · obtain ⟨y, hy⟩ := bound_title hbx h13
          refine ⟨y, fun m => by simp [sayI, h13, hy, genE_one], bound_mem hbx (by simp [hy]), GExpr.wf_Args hw y (by simp [hy]), ?_, by simp [h13, hy]⟩
          rw [hz, hy]; simp only [szEs]; omega
        · exact ⟨x, fun m => by simp [sayI, h19, h13], bound_said hbx h19 h13, hw, by omega, by simp [h13]⟩
      obtain ⟨y, h1, h2, h3, h4, h5⟩ := hE
      have hC := refExpr_ok t locals y h3 h2 k2 ⟨by omega, by omega⟩
      have b3 := genE_bd y k2
      rw [h1] at hsn
      generalize genE y k2 = q at *
      obtain ⟨q1, q2⟩ := q
      unfold genT at hC
      simp only at hsn hC b3
      by_cases h13 : x.Kind = 13
      · rw [if_pos h13] at h5 hsn
        simp [hlt, hge, h19, h13, h5]
        intro bs
        refine AOps.pureC rfl (hC) rfl rfl (by simp) rfl ?_
        simp
        refine AOps.weaken (Wk.freeze 5 (ys := k1.map GIns.enc) rfl) ?_
        simp
        refine AOps.pureC rfl (join_ok k1 q1 (by omega) (by omega)) (by simp) rfl (by simp) rfl ?_
        simp
        refine AOps.pureC rfl (code_ok _ _) rfl rfl (by simp) rfl ?_
        simp
        refine AOps.weaken (Wk.freeze 55 (ys := ([GIns.mk 23 0]).map _) rfl) ?_
        simp
        refine AOps.effD [] rfl (join_own (k1 ++ q1) [GIns.mk 23 0] (by simp <;> omega) (by simp)) (by simp) rfl (by simp) rfl (by kernel_rfl) (by simp) (by simp) (by simp) (by simp) (by simp) ?_
        simp [hsn, a4]
      · rw [if_neg h13] at h5 hsn
        subst h5
        simp [hlt, hge, h19, h13]
        intro bs
        refine AOps.pureC rfl (hC) rfl rfl (by simp) rfl ?_
        simp
        refine AOps.weaken (Wk.freeze 5 (ys := k1.map GIns.enc) rfl) ?_
        simp
        refine AOps.pureC rfl (join_ok k1 q1 (by omega) (by omega)) (by simp) rfl (by simp) rfl ?_
        simp
        refine AOps.pureC rfl (code_ok _ _) rfl rfl (by simp) rfl ?_
        simp
        refine AOps.weaken (Wk.freeze 55 (ys := ([GIns.mk 22 0]).map _) rfl) ?_
        simp
        refine AOps.effD [] rfl (join_own (k1 ++ q1) [GIns.mk 22 0] (by simp <;> omega) (by simp)) (by simp) rfl (by simp) rfl (by kernel_rfl) (by simp) (by simp) (by simp) (by simp) (by simp) ?_
        simp [hsn, a4]
  · intro _
    simp
end Go.Ab
