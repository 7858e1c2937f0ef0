import Derived.Test.YticchnalleplcaaAbGwlog
set_option linter.unusedSimpArgs false
set_option linter.unusedVariables false
namespace Go.Ab
open Go.Proofs

theorem bound_kind {t : GTables} {locals : Int} {e : GExpr} (h : boundM t locals e false = true) : e.Kind = 1 ∨ e.Kind = 14 ∨ e.Kind = 15 ∨ e.Kind = 12 ∨ e.Kind = 4 ∨ e.Kind = 5 ∨ e.Kind = 11 ∨ e.Kind = 6 ∨ e.Kind = 16 ∨ e.Kind = 17 ∨ e.Kind = 18 ∨ e.Kind = 10 := by
  rw [boundM_eq, Bool.and_eq_true] at h
  have h1 := h.1
  refine Decidable.byContradiction fun hn => ?_
  simp only [not_or] at hn
  obtain ⟨n0, n1, n2, n3, n4, n5, n6, n7, n8, n9, n10, n11⟩ := hn
  simp [boundK, n0, n1, n2, n3, n4, n5, n6, n7, n8, n9, n10, n11] at h1

set_option maxRecDepth 20000 in
set_option maxHeartbeats 4000000 in
theorem wplain_of (t : GTables) (locals : Int) (e : GExpr) (he : e.wf) (hb : boundM t locals e false = true) (hL : ¬ logicE e) (hs : ∀ x ∈ e.Args, WExpr x) : WExpr e := by
  intro b l n hn
  have hz := szE_eq e
  have hw := (GExpr.wf_iff e).1 he
  have hlen : e.Args.length ≤ 2199023255488 := by omega
  have bd := genEs_bd e.Args (fun x _ m => genE_bd x m) n
  have hc := wexprs_of e.Args hlen b l n ⟨by omega, by omega, by omega⟩ hs
  have hkd := bound_kind hb
  rw [genE_plain e n hL]
  generalize genEs e.Args n = p at *
  obtain ⟨p1, p2⟩ := p
  simp only at bd hc ⊢
  rcases hkd with hk | hk | hk | hk | hk | hk | hk | hk | hk | hk | hk | hk
  · have hO : ownM e = ⟨1, e.Num⟩ := by simp [ownM, hk]
    rw [hO]
    unfold WCalls wb
    refine ACalls.runP [5001, 5002] (by simp) Try.func59 rfl (by simp [Try.f59]) ?_; simp [Try.f59, hk]
    intro bs
    refine AOps.effD [5001, 5002] rfl (hc) (by simp [wb]) rfl (by simp) rfl (by kernel_rfl) (by simp [wb]) (by simp [wb]) (by simp [wb]) (by simp [wb]) (by simp [wb]) ?_
    simp [wb, hk]
    refine AOps.weaken (Wk.freeze 31 (ys := encI [e.Num]) rfl) ?_
    simp
    refine AOps.effD [5001, 5002] rfl (lay1_ok b (l ++ p1) p2 1 e.Num (by simp <;> omega)) (by simp [wb]) rfl (by simp) rfl (by kernel_rfl) (by simp [wb]) (by simp [wb]) (by simp [wb]) (by simp [wb]) (by simp [wb]) ?_
    simp [wb]
  · have hO : ownM e = ⟨3, e.Num⟩ := by simp [ownM, hk]
    rw [hO]
    unfold WCalls wb
    refine ACalls.runP [5001, 5002] (by simp) Try.func59 rfl (by simp [Try.f59]) ?_; simp [Try.f59, hk]
    intro bs
    refine AOps.effD [5001, 5002] rfl (hc) (by simp [wb]) rfl (by simp) rfl (by kernel_rfl) (by simp [wb]) (by simp [wb]) (by simp [wb]) (by simp [wb]) (by simp [wb]) ?_
    simp [wb, hk]
    refine AOps.weaken (Wk.freeze 38 (ys := encI [e.Num]) rfl) ?_
    simp
    refine AOps.effD [5001, 5002] rfl (lay1_ok b (l ++ p1) p2 3 e.Num (by simp <;> omega)) (by simp [wb]) rfl (by simp) rfl (by kernel_rfl) (by simp [wb]) (by simp [wb]) (by simp [wb]) (by simp [wb]) (by simp [wb]) ?_
    simp [wb]
  · have hO : ownM e = ⟨5, e.Num⟩ := by simp [ownM, hk]
    rw [hO]
    unfold WCalls wb
    refine ACalls.runP [5001, 5002] (by simp) Try.func59 rfl (by simp [Try.f59]) ?_; simp [Try.f59, hk]
    intro bs
    refine AOps.effD [5001, 5002] rfl (hc) (by simp [wb]) rfl (by simp) rfl (by kernel_rfl) (by simp [wb]) (by simp [wb]) (by simp [wb]) (by simp [wb]) (by simp [wb]) ?_
    simp [wb, hk]
    refine AOps.weaken (Wk.freeze 45 (ys := encI [e.Num]) rfl) ?_
    simp
    refine AOps.effD [5001, 5002] rfl (lay1_ok b (l ++ p1) p2 5 e.Num (by simp <;> omega)) (by simp [wb]) rfl (by simp) rfl (by kernel_rfl) (by simp [wb]) (by simp [wb]) (by simp [wb]) (by simp [wb]) (by simp [wb]) ?_
    simp [wb]
  · have hO : ownM e = ⟨7, e.Op⟩ := by simp [ownM, hk]
    rw [hO]
    unfold WCalls wb
    refine ACalls.runP [5001, 5002] (by simp) Try.func59 rfl (by simp [Try.f59]) ?_; simp [Try.f59, hk]
    intro bs
    refine AOps.effD [5001, 5002] rfl (hc) (by simp [wb]) rfl (by simp) rfl (by kernel_rfl) (by simp [wb]) (by simp [wb]) (by simp [wb]) (by simp [wb]) (by simp [wb]) ?_
    simp [wb, hk]
    refine AOps.weaken (Wk.freeze 52 (ys := encI [e.Op]) rfl) ?_
    simp
    refine AOps.effD [5001, 5002] rfl (lay1_ok b (l ++ p1) p2 7 e.Op (by simp <;> omega)) (by simp [wb]) rfl (by simp) rfl (by kernel_rfl) (by simp [wb]) (by simp [wb]) (by simp [wb]) (by simp [wb]) (by simp [wb]) ?_
    simp [wb]
  · have hO : ownM e = ⟨9, 0⟩ := by simp [ownM, hk]
    rw [hO]
    unfold WCalls wb
    refine ACalls.runP [5001, 5002] (by simp) Try.func59 rfl (by simp [Try.f59]) ?_; simp [Try.f59, hk]
    intro bs
    refine AOps.effD [5001, 5002] rfl (hc) (by simp [wb]) rfl (by simp) rfl (by kernel_rfl) (by simp [wb]) (by simp [wb]) (by simp [wb]) (by simp [wb]) (by simp [wb]) ?_
    simp [wb, hk]
    refine AOps.effD [5001, 5002] rfl (lay0_ok b (l ++ p1) p2 9 (by simp <;> omega)) (by simp [wb]) rfl (by simp) rfl (by kernel_rfl) (by simp [wb]) (by simp [wb]) (by simp [wb]) (by simp [wb]) (by simp [wb]) ?_
    simp [wb]
  · have hO : ownM e = ⟨10, 0⟩ := by simp [ownM, hk]
    rw [hO]
    unfold WCalls wb
    refine ACalls.runP [5001, 5002] (by simp) Try.func59 rfl (by simp [Try.f59]) ?_; simp [Try.f59, hk]
    intro bs
    refine AOps.effD [5001, 5002] rfl (hc) (by simp [wb]) rfl (by simp) rfl (by kernel_rfl) (by simp [wb]) (by simp [wb]) (by simp [wb]) (by simp [wb]) (by simp [wb]) ?_
    simp [wb, hk]
    refine AOps.effD [5001, 5002] rfl (lay0_ok b (l ++ p1) p2 10 (by simp <;> omega)) (by simp [wb]) rfl (by simp) rfl (by kernel_rfl) (by simp [wb]) (by simp [wb]) (by simp [wb]) (by simp [wb]) (by simp [wb]) ?_
    simp [wb]
  · have hO : ownM e = ⟨20, 0⟩ := by simp [ownM, hk]
    rw [hO]
    unfold WCalls wb
    refine ACalls.runP [5001, 5002] (by simp) Try.func59 rfl (by simp [Try.f59]) ?_; simp [Try.f59, hk]
    intro bs
    refine AOps.effD [5001, 5002] rfl (hc) (by simp [wb]) rfl (by simp) rfl (by kernel_rfl) (by simp [wb]) (by simp [wb]) (by simp [wb]) (by simp [wb]) (by simp [wb]) ?_
    simp [wb, hk]
    refine AOps.effD [5001, 5002] rfl (lay0_ok b (l ++ p1) p2 20 (by simp <;> omega)) (by simp [wb]) rfl (by simp) rfl (by kernel_rfl) (by simp [wb]) (by simp [wb]) (by simp [wb]) (by simp [wb]) (by simp [wb]) ?_
    simp [wb]
  · have hO : ownM e = ⟨8, e.Op⟩ := by simp [ownM, hk]
    rw [hO]
    have h1 : ¬ e.Op = 1 := fun h => hL ⟨hk, .inl h⟩
    have h2 : ¬ e.Op = 2 := fun h => hL ⟨hk, .inr h⟩
    unfold WCalls wb
    refine ACalls.runP [5001, 5002] (by simp) Try.func59 rfl (by simp [Try.f59]) ?_; simp [Try.f59, hk, h1, h2]
    intro bs
    refine AOps.effD [5001, 5002] rfl (hc) (by simp [wb]) rfl (by simp) rfl (by kernel_rfl) (by simp [wb]) (by simp [wb]) (by simp [wb]) (by simp [wb]) (by simp [wb]) ?_
    simp [wb, hk, h1, h2]
    refine AOps.weaken (Wk.freeze 71 (ys := encI [e.Op]) rfl) ?_
    simp
    refine AOps.effD [5001, 5002] rfl (lay1_ok b (l ++ p1) p2 8 e.Op (by simp <;> omega)) (by simp [wb]) rfl (by simp) rfl (by kernel_rfl) (by simp [wb]) (by simp [wb]) (by simp [wb]) (by simp [wb]) (by simp [wb]) ?_
    simp [wb]
  · have hO : ownM e = ⟨12, e.Num⟩ := by simp [ownM, hk]
    rw [hO]
    unfold WCalls wb
    refine ACalls.runP [5001, 5002] (by simp) Try.func59 rfl (by simp [Try.f59]) ?_; simp [Try.f59, hk]
    intro bs
    refine AOps.effD [5001, 5002] rfl (hc) (by simp [wb]) rfl (by simp) rfl (by kernel_rfl) (by simp [wb]) (by simp [wb]) (by simp [wb]) (by simp [wb]) (by simp [wb]) ?_
    simp [wb, hk]
    refine AOps.weaken (Wk.freeze 78 (ys := encI [e.Num]) rfl) ?_
    simp
    refine AOps.effD [5001, 5002] rfl (lay1_ok b (l ++ p1) p2 12 e.Num (by simp <;> omega)) (by simp [wb]) rfl (by simp) rfl (by kernel_rfl) (by simp [wb]) (by simp [wb]) (by simp [wb]) (by simp [wb]) (by simp [wb]) ?_
    simp [wb]
  · have hO : ownM e = ⟨13, e.Num⟩ := by simp [ownM, hk]
    rw [hO]
    unfold WCalls wb
    refine ACalls.runP [5001, 5002] (by simp) Try.func59 rfl (by simp [Try.f59]) ?_; simp [Try.f59, hk]
    intro bs
    refine AOps.effD [5001, 5002] rfl (hc) (by simp [wb]) rfl (by simp) rfl (by kernel_rfl) (by simp [wb]) (by simp [wb]) (by simp [wb]) (by simp [wb]) (by simp [wb]) ?_
    simp [wb, hk]
    refine AOps.weaken (Wk.freeze 85 (ys := encI [e.Num]) rfl) ?_
    simp
    refine AOps.effD [5001, 5002] rfl (lay1_ok b (l ++ p1) p2 13 e.Num (by simp <;> omega)) (by simp [wb]) rfl (by simp) rfl (by kernel_rfl) (by simp [wb]) (by simp [wb]) (by simp [wb]) (by simp [wb]) (by simp [wb]) ?_
    simp [wb]
  · have hO : ownM e = ⟨26, e.Num⟩ := by simp [ownM, hk]
    rw [hO]
    unfold WCalls wb
    refine ACalls.runP [5001, 5002] (by simp) Try.func59 rfl (by simp [Try.f59]) ?_; simp [Try.f59, hk]
    intro bs
    refine AOps.effD [5001, 5002] rfl (hc) (by simp [wb]) rfl (by simp) rfl (by kernel_rfl) (by simp [wb]) (by simp [wb]) (by simp [wb]) (by simp [wb]) (by simp [wb]) ?_
    simp [wb, hk]
    refine AOps.weaken (Wk.freeze 92 (ys := encI [e.Num]) rfl) ?_
    simp
    refine AOps.effD [5001, 5002] rfl (lay1_ok b (l ++ p1) p2 26 e.Num (by simp <;> omega)) (by simp [wb]) rfl (by simp) rfl (by kernel_rfl) (by simp [wb]) (by simp [wb]) (by simp [wb]) (by simp [wb]) (by simp [wb]) ?_
    simp [wb]
  · have hO : ownM e = ⟨19, e.Op⟩ := by simp [ownM, hk]
    rw [hO]
    unfold WCalls wb
    refine ACalls.runP [5001, 5002] (by simp) Try.func59 rfl (by simp [Try.f59]) ?_; simp [Try.f59, hk]
    intro bs
    refine AOps.effD [5001, 5002] rfl (hc) (by simp [wb]) rfl (by simp) rfl (by kernel_rfl) (by simp [wb]) (by simp [wb]) (by simp [wb]) (by simp [wb]) (by simp [wb]) ?_
    simp [wb, hk]
    refine AOps.weaken (Wk.freeze 99 (ys := encI [e.Op]) rfl) ?_
    simp
    refine AOps.effD [5001, 5002] rfl (lay1_ok b (l ++ p1) p2 19 e.Op (by simp <;> omega)) (by simp [wb]) rfl (by simp) rfl (by kernel_rfl) (by simp [wb]) (by simp [wb]) (by simp [wb]) (by simp [wb]) (by simp [wb]) ?_
    simp [wb]

theorem wexpr_ok (t : GTables) (locals : Int) (e : GExpr) (he : e.wf) (hb : boundM t locals e false = true) : WExpr e := by
  obtain ⟨N, hN⟩ : ∃ N, SizeOf.sizeOf e < N := ⟨_, Nat.lt_succ_self _⟩
  induction N generalizing e with
  | zero => omega
  | succ N ih =>
    have hw := (GExpr.wf_iff e).1 he
    have hs : ∀ x ∈ e.Args, WExpr x := fun x hx => ih x (hw.2.2.2.2.2 _ hx) (bound_mem hb hx) (by have := GExpr.lt_of_mem hx; omega)
    by_cases hL : logicE e
    · obtain ⟨x, y, hA⟩ := bound_logic hb hL.1
      have hx := hs x (by simp [hA])
      have hy := hs y (by simp [hA])
      obtain ⟨hk, ho⟩ := hL
      intro b l n hn
      have hc := wlogic_of e x y hk ho hA hx hy b l n hn
      generalize genE e n = q at *
      obtain ⟨q1, q2⟩ := q
      simp only at hc ⊢
      unfold WCalls wb
      rcases ho with ho | ho <;>
      · refine ACalls.runP [5001, 5002] (by simp) Try.func59 rfl (by simp [Try.f59]) ?_; simp [Try.f59, hk, ho]
        intro bs
        refine AOps.effD [5001, 5002] rfl (hc) (by simp [wb]) rfl (by simp) rfl (by kernel_rfl) (by simp [wb]) (by simp [wb]) (by simp [wb]) (by simp [wb]) (by simp [wb]) ?_
        simp [wb]
    · exact wplain_of t locals e he hb hL hs
end Go.Ab
