import Derived.Test.YtfcflgiignjlgaaAbHstep
set_option linter.unusedSimpArgs false
set_option linter.unusedVariables false
namespace Go.Ab
open Go.Proofs

/-- clewref54.edge: the first index of such an edge, or -1. -/
def edgeIx (g : GGraph) (far : List Int) (i : Int) : Int := match g.Edges.findIdx? (edgeOk g.States.length far i) with | some k => (k : Int) | none => -1

theorem edge_ok (g : GGraph) (far : List Int) (i : Int) (hl : g.Edges.length ≤ 1000000) (hfl : far.length = g.States.length) (hfb : ∀ v ∈ far, -1 ≤ v ∧ v ≤ 1000000) :
    Pure Try.prog 23 [.agg (g.enc.map .d), .d (.sl (encI far)), .d (.v (.int .i64 i))] (.d (.v (.int .i64 (edgeIx g far i)))) := by
  refine Pure.run Try.func23 rfl (by simp [Try.f23]) ?_; simp [Try.f23]
  intro bs
  refine AWP.loopP [7, 3, 2, 1] [3] (fun k st => ∃ j : Nat, k = g.Edges.length - j ∧ j ≤ g.Edges.length ∧ (∀ x ∈ g.Edges.take j, edgeOk g.States.length far i x = false) ∧
      st = ⟨[(7, .d (.v (.int .i64 j))), (3, .bp 3 0), (2, .d (.v (.int .i64 i))), (1, .d (.sl (encI far)))], [(3, .box (bs 0 + 1) 25 (g.enc.map .d))]⟩) (by rfl) (by simp) ?_ ?_
  · simp
    exact ⟨_, 0, rfl, by omega, by simp, rfl⟩
  · rintro k st ⟨j, rfl, hj, hno, rfl⟩
    simp
    refine ⟨fun hlt => ?_, fun hge => ?_⟩
    · have hge : g.Edges[j]? = some g.Edges[j] := List.getElem?_eq_getElem hlt
      have htk : g.Edges.take (j + 1) = g.Edges.take j ++ [g.Edges[j]] := by rw [List.take_add_one, hge]; rfl
      have hix : edgeOk g.States.length far i g.Edges[j] = true → edgeIx g far i = j := by
        intro h
        unfold edgeIx
        have : g.Edges.findIdx? (edgeOk g.States.length far i) = some j := by
          rw [List.findIdx?_eq_some_iff_getElem]
          refine ⟨hlt, h, fun k hk => ?_⟩
          have := hno g.Edges[k] (by rw [List.mem_take_iff_getElem]; exact ⟨k, by omega, rfl⟩)
          simp [this]
        rw [this]
      generalize hE : g.Edges[j] = e at hge htk hix
      have a4 : inR .i64 ((j : Int) + 1) := by rw [inR_i64]; omega
      have again : edgeOk g.States.length far i e = false → ∀ x ∈ g.Edges.take (j + 1), edgeOk g.States.length far i x = false := by
        intro h x hx
        rw [htk] at hx
        rcases List.mem_append.1 hx with hx | hx
        · exact hno x hx
        · rw [List.mem_singleton.1 hx]; exact h
      simp [hge, hE]
      intro bs1
      refine ⟨hlt, ?_⟩
      refine AWP.regionD [.d (.v (.bool (goodE g.States.length e)))] Try.mixed (by kernel_rfl) (by rfl) ?_
      have hcall : ∀ L, OKCall Try.prog 25 [V.agg (List.map V.d g.enc), V.agg (List.map V.d e.enc)] L (V.d (D.v (Value.bool (goodE g.States.length e)))) := fun L =>
        (good_ok g e).ok L
      cases hgood : goodE g.States.length e with
      | false =>
        rw [hgood] at hcall
        have hok : edgeOk g.States.length far i e = false := by simp [edgeOk, hgood]
        simp [hcall]
        refine ⟨a4, ?_⟩
        simp [LoopQ]
        refine ⟨_, ?_, j + 1, rfl, by omega, again hok, rfl⟩
        omega
      | true =>
        rw [hgood] at hcall
        have hgood' := hgood
        simp only [goodE, Bool.and_eq_true, decide_eq_true_eq] at hgood'
        obtain ⟨⟨⟨f1, f2⟩, t1⟩, t2⟩ := hgood'
        by_cases hfi : e.From = i
        · subst hfi
          have a1 : e.From.toNat < far.length := by omega
          have a2 : e.To.toNat < far.length := by omega
          have hu : far[e.From.toNat]? = some (far.getD e.From.toNat 0) := by
            rw [List.getD_eq_getElem?_getD, List.getElem?_eq_getElem a1]; rfl
          have hv : far[e.To.toNat]? = some (far.getD e.To.toNat 0) := by
            rw [List.getD_eq_getElem?_getD, List.getElem?_eq_getElem a2]; rfl
          have hok : edgeOk g.States.length far e.From e = (decide (0 < far.getD e.From.toNat 0) && decide (far.getD e.To.toNat 0 = far.getD e.From.toNat 0 - 1)) := by
            simp [edgeOk, hgood]
          generalize far.getD e.From.toNat 0 = u at hu hok
          generalize far.getD e.To.toNat 0 = v at hv hok
          have hub := hfb u (List.mem_of_getElem? hu)
          have a3 : inR .i64 (u - 1) := by rw [inR_i64]; omega
          simp [hu, hv, hcall]
          refine ⟨⟨f1, a1⟩, fun h => ⟨⟨t1, a2⟩, h⟩, fun h => ⟨⟨f1, a1⟩, h⟩, fun h => ⟨a3, h⟩, fun h1 h2 => ?_, fun h => ⟨a4, ?_⟩⟩
          · rw [hix (by rw [hok]; simp [h1, h2])]
          · simp [LoopQ]
            refine ⟨_, ?_, j + 1, rfl, by omega, again (by rw [hok]; simpa using h), rfl⟩
            omega
        · have hok : edgeOk g.States.length far i e = false := by simp [edgeOk, hfi]
          have hb : (e.From == i) = false := by simp [hfi]
          simp [hb, hcall]
          refine ⟨a4, ?_⟩
          simp [LoopQ]
          refine ⟨_, ?_, j + 1, rfl, by omega, again hok, rfl⟩
          omega
    · rw [List.take_of_length_le hge] at hno
      unfold edgeIx
      rw [List.findIdx?_eq_none_iff.2 (by simpa using hno)]

def deadM (g : GGraph) (far : List Int) : List Int := if g.Whole then ((List.range far.length).filter fun i => decide (far.getD i 0 < 0)).map (fun i : Nat => (i : Int)) else []

theorem refDead_ok (g : GGraph) (hs : g.States.length ≤ 1000000) (he : g.Edges.length ≤ 1000000) :
    Pure Try.prog 13 [.agg (g.enc.map .d)] (.d (.sl (encI (deadM g (farM g))))) := by
  refine Pure.run Try.func13 rfl (by simp [Try.f13]) ?_; simp [Try.f13]
  intro bs
  refine runC_sound _ _ [.d (.sl (encI (farM g)))] (by rfl) ?_
  simp
  refine ⟨(refFar_ok g hs he).ok _, ?_⟩
  have hfl : (farM g).length = g.States.length := farN_len g _
  generalize farM g = far at hfl ⊢
  let E : Nat → List Int := fun i => if g.Whole then ((List.range i).filter fun i => decide (far.getD i 0 < 0)).map (fun i : Nat => (i : Int)) else []
  have hEl : ∀ i, (E i).length ≤ i := by
    intro i
    simp only [E]
    split
    · rw [List.length_map]; exact Nat.le_trans (List.length_filter_le _ _) (by simp)
    · simp
  have hE0 : E 0 = [] := by simp [E]
  have hEs : ∀ i, E (i + 1) = E i ++ (if g.Whole = true ∧ far.getD i 0 < 0 then [(i : Int)] else []) := by
    intro i
    simp only [E]
    by_cases hw : g.Whole = true
    · by_cases hn : far.getD i 0 < 0
      · simp only [hw, if_true, List.range_succ, List.filter_append, List.map_append, List.filter_cons, List.filter_nil, hn, decide_true, and_self]
        rfl
      · simp only [hw, if_true, List.range_succ, List.filter_append, List.map_append, List.filter_cons, List.filter_nil, hn, decide_false, and_false, if_false]
        rfl
    · simp [hw]
  have hEd : deadM g far = E far.length := rfl
  rw [hEd]
  generalize E = E at hEl hE0 hEs ⊢
  refine AWP.weaken (Wk.own' (t := 3) (h := 1000) (k := 1) (ty := 3) rfl (by simp)) ?_
  refine AWP.loopP [5, 4, 3, 1] [1000, 1] (fun k st => ∃ i : Nat, k = far.length - i ∧ i ≤ far.length ∧ (g.Whole = false → i = 0) ∧
      st = ⟨[(5, .d (.v (.int .i64 i))), (4, .d (.sl (encI far))), (3, .rv 1000), (1, .bp 1 0)], [(1000, .row 3 1 (dd (encI (E i)))), (1, .box (bs 0 + 1) 25 (g.enc.map .d))]⟩) (by rfl) (by simp) ?_ ?_
  · simp
    exact ⟨_, 0, rfl, by omega, by simp, rfl, by simp [hE0]⟩
  · rintro k st ⟨i, rfl, hi, hw, rfl⟩
    have a4 : inR .i64 ((i : Int) + 1) := by rw [inR_i64]; omega
    have hel := hEl i
    rcases Nat.lt_or_ge i far.length with hlt | hge
    · have hu : far[i]? = some (far.getD i 0) := by
        rw [List.getD_eq_getElem?_getD, List.getElem?_eq_getElem hlt]; rfl
      have hEi := hEs i
      generalize far.getD i 0 = u at hu hEi
      simp [hu]
      refine ⟨fun _ hwh => ⟨hlt, fun h => ⟨by omega, a4, ?_⟩, fun h => ⟨a4, ?_⟩⟩, fun h => ?_⟩
      · rw [if_pos ⟨hwh, h⟩] at hEi
        simp [LoopQ]
        refine ⟨_, ?_, i + 1, rfl, by omega, (by rw [hwh]; simp), rfl, by rw [hEi]⟩
        omega
      · rw [if_neg (by omega), List.append_nil] at hEi
        simp [LoopQ]
        refine ⟨_, ?_, i + 1, rfl, by omega, (by rw [hwh]; simp), rfl, by rw [hEi]⟩
        omega
      · have hwf := h hlt
        have hall : ∀ k, E k = [] := by
          intro k
          induction k with
          | zero => exact hE0
          | succ k ih => rw [hEs, ih]; simp [hwf]
        rw [hall, hall]
    · have hge' : ¬ i < far.length := by omega
      obtain rfl : i = far.length := by omega
      simp
end Go.Ab
