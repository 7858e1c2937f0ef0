import Derived.Test.YtfcflgiignjlgaaAbHawake
set_option linter.unusedSimpArgs false
set_option linter.unusedVariables false
namespace Go.Ab
open Go.Proofs

theorem bfs_ends (g : GGraph) : ∀ k, (∃ j, (bfs g j).2 = []) ∨ BH g k
  | 0 => .inr (bh_start g)
  | k + 1 => by
    rcases bfs_ends g k with h | h
    · exact .inl h
    · by_cases hq : (bfs g k).2 = []
      · exact .inl ⟨k, hq⟩
      · exact .inr (bh_step h hq)

theorem far_law (g : GGraph) : FarLaw g.States.length (goods g) (won g) (farM g) := by
  have : ∃ j, (bfs g j).2 = [] := by
    rcases bfs_ends g g.States.length with h | h
    · exact h
    · by_cases hq : (bfs g g.States.length).2 = []
      · exact ⟨_, hq⟩
      · have := bh_lt h hq; omega
  obtain ⟨j, hj⟩ := this
  have hb := bfs_bi g j
  rw [hj] at hb
  have hl := bi_law (goods_good g) hb
  rw [farM_law hl]
  exact hl

theorem few_split (g : GGraph) (h : (decide (g.States.length ≤ 60) && decide (g.Edges.length ≤ 400)) = true) : g.States.length ≤ 1000000 ∧ g.Edges.length ≤ 1000000 ∧ g.States.length ≤ 60 ∧ g.Edges.length ≤ 400 := by
  simp at h; omega

theorem hintFar_ok (g : GGraph) : Pure Try.prog 3 [.agg (g.enc.map .d)] (.d (.v (.bool true))) := by
  refine Pure.run Try.func3 rfl (by simp [Try.f3]) ?_; simp [Try.f3]
  intro bs
  refine AOps.pureC rfl (few_ok g) (by simp) rfl (by simp) rfl ?_
  cases hf : (decide (g.States.length ≤ 60) && decide (g.Edges.length ≤ 400)) with
  | false =>
    simp
    refine AOps.pureC rfl (awake_ok) (by simp) rfl (by simp) rfl ?_
    simp
  | true =>
    obtain ⟨hs, he, -⟩ := few_split g hf
    simp
    have h1 := (far_ok g hs he).ok
    have h2 := (refFar_ok g hs he).ok
    have h3 := (ints_ok (farM g) (farM g) (by rw [farM_len]; exact hs)).ok
    have h4 := (dead_ok g hs he).ok
    have h5 := (refDead_ok g hs he).ok
    have h6 := (ints_ok (deadM g (farM g)) (deadM g (farM g)) (by rw [← deadI_all]; exact Nat.le_trans (deadI_len _ _ _) (by rw [farM_len]; exact hs))).ok
    have h7 := awake_ok.ok
    simp only [beq_self_eq_true] at h3 h6
    refine AWP.regionD [.d (.sl (encI (farM g))), .d (.sl (encI (farM g))), .d (.v (.bool true)), .d (.sl (encI (deadM g (farM g)))), .d (.sl (encI (deadM g (farM g)))), .d (.v (.bool true)), .d (.v (.bool true))] Try.mixed (by kernel_rfl) (by rfl) ?_
    simp [h1, h2, h3, h4, h5, h6, h7]

theorem hintNext_ok (g : GGraph) (i : Int) : Pure Try.prog 6 [.agg (g.enc.map .d), .d (.v (.int .i64 i))] (.d (.v (.bool true))) := by
  refine Pure.run Try.func6 rfl (by simp [Try.f6]) ?_; simp [Try.f6]
  intro bs
  refine AOps.pureC rfl (few_ok g) (by simp) rfl (by simp) rfl ?_
  cases hf : (decide (g.States.length ≤ 60) && decide (g.Edges.length ≤ 400)) with
  | false =>
    simp
    refine AOps.pureC rfl (awake_ok) (by simp) rfl (by simp) rfl ?_
    simp
  | true =>
    obtain ⟨hs, he, -⟩ := few_split g hf
    simp
    refine AOps.pureC rfl (next_ok g i hs he) (by simp) rfl (by simp) rfl ?_
    simp
    intro bs1
    refine AOps.pureC rfl (refNext_ok g i hs he) (by simp) rfl (by simp) rfl ?_
    simp
    intro bs2
    have hrl : (restM g (farM g) i).length ≤ 1000000 := by
      have : ∀ k, (walkN g (farM g) i k).2.length ≤ k := by
        intro k
        induction k with
        | zero => simp [walkN]
        | succ k ih =>
          rw [walkN]; unfold walkS
          split
          · simp; omega
          · omega
      refine Nat.le_trans (this _) ?_
      unfold farAt
      rw [List.getD_eq_getElem?_getD]
      cases hx : (farM g)[i.toNat]? with
      | none => simp
      | some v => have := farM_bound g v (List.mem_of_getElem? hx); simp; omega
    have h1 := (rest_ok g i hs he).ok
    have h2 := (refRest_ok g i hs he).ok
    have h3 := (same_ok (restM g (farM g) i) (restM g (farM g) i) hrl).ok
    have h4 := awake_ok.ok
    simp only [decide_true] at h3
    refine AWP.regionD [.d (.sl ((restM g (farM g) i).map GCmd.enc)), .d (.sl ((restM g (farM g) i).map GCmd.enc)), .d (.v (.bool true)), .d (.v (.bool true))] Try.mixed (by kernel_rfl) (by rfl) ?_
    simp [h1, h2, h3, h4]

set_option maxRecDepth 10000 in
theorem hintLeast_ok (g : GGraph) : Pure Try.prog 5 [.agg (g.enc.map .d)] (.d (.v (.bool true))) := by
  refine Pure.run Try.func5 rfl (by simp [Try.f5]) ?_; simp [Try.f5]
  intro bs
  refine AOps.pureC rfl (few_ok g) (by simp) rfl (by simp) rfl ?_
  cases hf : (decide (g.States.length ≤ 60) && decide (g.Edges.length ≤ 400)) with
  | false =>
    simp
    refine AOps.pureC rfl (awake_ok) (by simp) rfl (by simp) rfl ?_
    simp
  | true =>
    obtain ⟨hs, he, -⟩ := few_split g hf
    simp
    refine AOps.pureC rfl (far_ok g hs he) (by simp) rfl (by simp) rfl ?_
    have hfl := farM_len g
    have hfb := farM_bound g
    have law := far_law g
    simp [hfl]
    generalize farM g = far at hfl hfb law
    refine AWP.loopS [3, 19, 20, 21] g.Edges.length (fun i => [(21, .d (.v (.int .i64 i)))]) (fun i => []) (fun _ => True) (by rfl) (by simp) ?_
    intro i hi _
    rcases Nat.lt_or_eq_of_le hi with hlt | rfl
    · have hge : g.Edges[i]? = some g.Edges[i] := List.getElem?_eq_getElem hlt
      have hmem : g.Edges[i] ∈ g.Edges := List.getElem_mem hlt
      generalize hE : g.Edges[i] = e at hge hmem
      have a4 : inR .i64 ((i : Int) + 1) := by rw [inR_i64]; omega
      simp [hlt, hge, hE, hfl]
      refine fun bs1 => ⟨fun h1 h2 h3 h4 => by omega, fun _ => a4, fun h1 h2 h3 h4 h5 => ?_⟩
      have hg : goodE g.States.length e = true := goodE_iff.2 ⟨⟨h1, h2⟩, h3, h4⟩
      have hle := law.edge e (List.mem_filter.2 ⟨hmem, hg⟩)
      simp only [List.getD_eq_getElem?_getD] at hle
      have hle := hle h5
      have b1 : far[e.To.toNat]?.getD 0 ≤ 1000000 := by
        cases hx : far[e.To.toNat]? with
        | none => simp
        | some v => have := hfb v (List.mem_of_getElem? hx); simp; omega
      have a5 : inR .i64 (far[e.To.toNat]?.getD 0 + 1) := by rw [inR_i64]; omega
      have c1 : decide (far[e.From.toNat]?.getD 0 < 0) = false := by simpa using hle.1
      have c2 : decide (far[e.To.toNat]?.getD 0 + 1 < far[e.From.toNat]?.getD 0) = false := by simpa using hle.2
      refine AWP.regionD [] Try.mixed (by kernel_rfl) (by rfl) ?_
      simp [hfl, c1, c2, a4, a5, hlt]
      omega
    · simp
      refine AOps.pureC rfl (awake_ok) (by simp) rfl (by simp) rfl ?_
      simp
end Go.Ab
