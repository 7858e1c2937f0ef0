import Derived.Test.YtfcflgiignjlgaaAbHrest
set_option linter.unusedSimpArgs false
set_option linter.unusedVariables false
namespace Go.Ab
open Go.Proofs

/-! ### Same -/
theorem same_ok (a b : List GCmd) (ha : a.length ≤ 1000000) : Pure Try.prog 17 [.d (.sl (a.map GCmd.enc)), .d (.sl (b.map GCmd.enc))] (.d (.v (.bool (decide (a = b))))) := by
  refine Pure.run Try.func17 rfl (by simp [Try.f17]) ?_; simp [Try.f17]
  refine ⟨fun h e => h (by rw [e]), fun hl => ?_⟩
  refine AWP.loopS [0, 1, 5] a.length (fun i => [(5, .d (.v (.int .i64 i)))]) (fun _ => []) (fun i => ∀ j, j < i → a[j]? = b[j]?) (by rfl) (by simp) ?_
  intro i hi hj
  rcases Nat.lt_or_eq_of_le hi with hlt | rfl
  · have hia : a[i]? = some a[i] := List.getElem?_eq_getElem hlt
    have hib : b[i]? = some (b[i]'(by omega)) := List.getElem?_eq_getElem (by omega)
    generalize hA : a[i] = u at hia
    generalize hB : b[i]'(by omega) = v at hib
    have a4 : inR .i64 ((i : Int) + 1) := by rw [inR_i64]; omega
    simp [hlt]
    refine AWP.regionD [] Try.mixed (by kernel_rfl) (by rfl) ?_
    simp [hia, hib, hA, hB, hlt, a4, ← hl]
    refine ⟨by omega, fun h e => h (by subst e; rw [hia] at hib; exact Option.some.inj hib), fun h j hj' => ?_⟩
    rcases Nat.lt_or_ge j i with h' | h'
    · exact hj j h'
    · obtain rfl : j = i := by omega
      rw [hia, hib, h]
  · simp
    apply List.ext_getElem?
    intro j
    rcases Nat.lt_or_ge j a.length with h' | h'
    · exact hj j h'
    · rw [List.getElem?_eq_none (by omega), List.getElem?_eq_none (by omega)]

/-! ### Rest -/
def walkS (g : GGraph) (far : List Int) (s : Int × List GCmd) : Int × List GCmd := match nx g far s.1 with
  | some e => (e.To, s.2 ++ [e.Cmd])
  | none => s
def walkN (g : GGraph) (far : List Int) (i : Int) : Nat → Int × List GCmd
  | 0 => (i, [])
  | k + 1 => walkS g far (walkN g far i k)
def farAt (far : List Int) (i : Int) : Nat := (far.getD i.toNat 0).toNat
def restM (g : GGraph) (far : List Int) (i : Int) : List GCmd := (walkN g far i (farAt far i)).2

theorem nx_some {g : GGraph} {far : List Int} {p : Int} {e : GEdge} (h : nx g far p = some e) : e ∈ g.Edges ∧ goodE g.States.length e = true ∧ e.From = p ∧ 0 < far.getD p.toNat 0 ∧ far.getD e.To.toNat 0 = far.getD p.toNat 0 - 1 := by
  have h1 := List.mem_of_find?_eq_some h
  have h2 := List.find?_some h
  simp only [edgeOk, Bool.and_eq_true, decide_eq_true_eq] at h2
  exact ⟨h1, h2.1.1.1, h2.1.1.2, h2.1.2, h2.2⟩

theorem walk_stay {g : GGraph} {far : List Int} {i : Int} {k : Nat} (h : nx g far (walkN g far i k).1 = none) : ∀ m, walkN g far i (k + m) = walkN g far i k
  | 0 => rfl
  | m + 1 => by
    rw [← Nat.add_assoc, walkN, walk_stay h m]
    unfold walkS
    rw [h]

/-- What is known before round k. -/
def WH (g : GGraph) (far : List Int) (i : Int) (k : Nat) : Prop := (walkN g far i k).2.length ≤ k ∧ (k = 0 ∨ (far.getD (walkN g far i k).1.toNat 0 = far.getD i.toNat 0 - k))

theorem wh_step {g : GGraph} {far : List Int} {i : Int} {k : Nat} {e : GEdge} (h : WH g far i k) (hn : nx g far (walkN g far i k).1 = some e) : k < farAt far i ∧ walkN g far i (k + 1) = (e.To, (walkN g far i k).2 ++ [e.Cmd]) ∧ WH g far i (k + 1) := by
  obtain ⟨_, _, h1, h2, h3⟩ := nx_some hn
  have hw : walkN g far i (k + 1) = (e.To, (walkN g far i k).2 ++ [e.Cmd]) := by
    rw [walkN]; unfold walkS; rw [hn]
  have hk : far.getD (walkN g far i k).1.toNat 0 = far.getD i.toNat 0 - k := by
    rcases h.2 with rfl | h
    · simp [walkN]
    · exact h
  refine ⟨by unfold farAt; omega, hw, ?_, .inr ?_⟩
  · rw [hw]; have := h.1; simp; omega
  · rw [hw]; push_cast; show far.getD e.To.toNat 0 = _; omega

theorem walk_end {g : GGraph} {far : List Int} {i : Int} {k : Nat} (hk : k ≤ farAt far i) (hn : nx g far (walkN g far i k).1 = none) : (walkN g far i k).2 = restM g far i := by
  unfold restM
  rw [show farAt far i = k + (farAt far i - k) by omega, walk_stay hn]

theorem rest_ok (g : GGraph) (i : Int) (hs : g.States.length ≤ 1000000) (he : g.Edges.length ≤ 1000000) : Pure Try.prog 14 [.agg (g.enc.map .d), .d (.v (.int .i64 i))] (.d (.sl ((restM g (farM g) i).map GCmd.enc))) := by
  refine Pure.run Try.func14 rfl (by simp [Try.f14]) ?_; simp [Try.f14]
  intro bs
  have h1 := (edges_ok g hs he).ok
  have h2 := (far_ok g hs he).ok
  have hfb : ∀ v ∈ farM g, -1 ≤ v ∧ v ≤ 1000000 := fun v hv => by have := farM_bound g v hv; omega
  have h3 := fun i => step_ok' g (farM g) i he (farM_len g) hfb
  refine AWP.regionD [.d (.sl ((g.Edges.filter (goodE g.States.length)).map GEdge.enc)), .d (.sl (encI (farM g)))] Try.mixed (by kernel_rfl) (by rfl) ?_
  simp [h1, h2]
  refine AOps.pureC rfl (h3 i) (by simp) rfl (by simp) rfl ?_
  simp
  intro bs1
  have hfa : farAt (farM g) i ≤ 1000000 := by
    unfold farAt
    rw [List.getD_eq_getElem?_getD]
    cases hx : (farM g)[i.toNat]? with
    | none => simp
    | some v => have := hfb v (List.mem_of_getElem? hx); simp; omega
  generalize farM g = far at h3 hfa
  refine AWP.weaken (Wk.own' (t := 5) (h := 1000) (k := 5) (ty := 35) rfl (by simp)) ?_
  simp
  refine AWP.loopR [5, 6, 7, 8, 9] [8] (farAt far i) (fun k => [(9, .d (.v (.bool (nx g far (walkN g far i k).1).isSome)))]) (fun k => [(8, .box 0 37 ((nxE g far (walkN g far i k).1).enc.map .d)), (1000, .row 35 5 (dd ((walkN g far i k).2.map GCmd.enc)))]) (fun k => WH g far i k) (by rfl) (by simp [walkN, WH]) ?_
  intro k hk hH bs2
  cases hn : nx g far (walkN g far i k).1 with
  | none => simp [walk_end hk hn]
  | some e =>
    obtain ⟨w1, w2, w3⟩ := wh_step hH hn
    have hE : nxE g far (walkN g far i k).1 = e := by unfold nxE; rw [hn]; rfl
    have hl := hH.1
    simp [hE]
    refine ⟨by omega, fun bs3 => ?_⟩
    refine AOps.pureC rfl (h3 e.To) (by simp) rfl (by simp) rfl ?_
    simp [w1, w2, w3]

theorem refRest_ok (g : GGraph) (i : Int) (hs : g.States.length ≤ 1000000) (he : g.Edges.length ≤ 1000000) : Pure Try.prog 18 [.agg (g.enc.map .d), .d (.v (.int .i64 i))] (.d (.sl ((restM g (farM g) i).map GCmd.enc))) := by
  refine Pure.run Try.func18 rfl (by simp [Try.f18]) ?_; simp [Try.f18]
  intro bs
  refine AOps.pureC rfl (refFar_ok g hs he) (by simp) rfl (by simp) rfl ?_
  simp
  have hfb : ∀ v ∈ farM g, -1 ≤ v ∧ v ≤ 1000000 := fun v hv => by have := farM_bound g v hv; omega
  have h3 := fun i => edge_ok g (farM g) i he (farM_len g) hfb
  have hfa : farAt (farM g) i ≤ 1000000 := by
    unfold farAt
    rw [List.getD_eq_getElem?_getD]
    cases hx : (farM g)[i.toNat]? with
    | none => simp
    | some v => have := hfb v (List.mem_of_getElem? hx); simp; omega
  generalize farM g = far at h3 hfa
  refine AOps.pureC rfl (h3 i) (by simp) rfl (by simp) rfl ?_
  simp
  refine AWP.weaken (Wk.own' (t := 5) (h := 1000) (k := 5) (ty := 35) rfl (by simp)) ?_
  simp
  refine AWP.loopS [2, 5, 6, 7] (farAt far i) (fun k => [(7, .d (.v (.int .i64 (edgeIx g far (walkN g far i k).1))))]) (fun k => [(1000, .row 35 5 (dd ((walkN g far i k).2.map GCmd.enc)))]) (fun k => WH g far i k) (by rfl) (by simp [walkN, WH]) ?_
  intro k hk hH
  rcases edgeIx_nx g far (walkN g far i k).1 with ⟨h, hn⟩ | ⟨j, e, hj, hge, hn, _⟩
  · have : ¬ 0 ≤ edgeIx g far (walkN g far i k).1 := by omega
    simp [this, walk_end hk hn]
  · obtain ⟨w1, w2, w3⟩ := wh_step hH hn
    have hl := hH.1
    have hkl := (List.getElem?_eq_some_iff.1 hge).1
    have hge' : g.Edges[j] = e := (List.getElem?_eq_some_iff.1 hge).2
    simp [hj, hge, hkl, hge']
    refine ⟨by omega, ?_⟩
    have h4 := (h3 e.To).ok
    refine AWP.regionD [.d (.v (.int .i64 (edgeIx g far e.To)))] Try.mixed (by kernel_rfl) (by rfl) ?_
    simp [h4, hge, hkl, hge', w1, w2, w3]
end Go.Ab
