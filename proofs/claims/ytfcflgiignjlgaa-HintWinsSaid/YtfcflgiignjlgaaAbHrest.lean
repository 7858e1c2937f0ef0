import Derived.Test.YtfcflgiignjlgaaAbHfar
set_option linter.unusedSimpArgs false
set_option linter.unusedVariables false
namespace Go.Ab
open Go.Proofs

/-! ### Dead -/
def deadI (g : GGraph) (far : List Int) (i : Nat) : List Int := if g.Whole then ((List.range i).filter fun i => decide (far.getD i 0 < 0)).map (fun i : Nat => (i : Int)) else []
theorem deadI_all (g : GGraph) (far : List Int) : deadI g far far.length = deadM g far := rfl
theorem deadI_len (g : GGraph) (far : List Int) (i : Nat) : (deadI g far i).length ≤ i := by
  unfold deadI
  split
  · rw [List.length_map]; exact Nat.le_trans (List.length_filter_le _ _) (by rw [List.length_range]; exact Nat.le_refl _)
  · simp
theorem deadI_succ (g : GGraph) (far : List Int) (i : Nat) : deadI g far (i + 1) = deadI g far i ++ (if g.Whole = true ∧ far.getD i 0 < 0 then [(i : Int)] else []) := by
  unfold deadI
  by_cases hw : g.Whole = true
  · by_cases hn : far.getD i 0 < 0
    · simp only [hw, if_true, List.range_succ, List.filter_append, List.map_append, List.filter_cons, List.filter_nil, hn, decide_true, and_self]
      rfl
    · simp only [hw, if_true, List.range_succ, List.filter_append, List.map_append, List.filter_cons, List.filter_nil, hn, decide_false, and_false, if_false]
      rfl
  · simp [hw]

theorem farM_bound (g : GGraph) : ∀ v ∈ farM g, -1 ≤ v ∧ v ≤ (g.States.length : Int) := farN_bound g _
theorem farM_len (g : GGraph) : (farM g).length = g.States.length := farN_len g _
theorem get_of_lt {far : List Int} {i : Nat} (h : i < far.length) : far[i]? = some (far.getD i 0) := by
  rw [List.getD_eq_getElem?_getD, List.getElem?_eq_getElem h]; rfl

theorem dead_ok (g : GGraph) (hs : g.States.length ≤ 1000000) (he : g.Edges.length ≤ 1000000) : Pure Try.prog 12 [.agg (g.enc.map .d)] (.d (.sl (encI (deadM g (farM g))))) := by
  refine Pure.run Try.func12 rfl (by simp [Try.f12]) ?_; simp [Try.f12]
  intro bs
  refine AOps.pureC rfl (far_ok g hs he) (by simp) rfl (by simp) rfl ?_
  simp
  have hfl := farM_len g
  have hfb := farM_bound g
  rw [← deadI_all]
  generalize farM g = far at hfl hfb
  refine AWP.weaken (Wk.own' (t := 3) (h := 1000) (k := 1) (ty := 3) rfl (by simp)) ?_
  refine AWP.loopS [1, 3, 7, 8, 9] far.length (fun i => [(9, .d (.v (.int .i64 i)))]) (fun i => [(1000, .row 3 1 (dd (encI (deadI g far i))))]) (fun _ => True) (by rfl) (by simp [deadI]) ?_
  intro i hi _
  rcases Nat.lt_or_eq_of_le hi with hlt | rfl
  · have hu := get_of_lt hlt
    have hEi := deadI_succ g far i
    have hel := deadI_len g far i
    have hub := hfb _ (List.mem_of_getElem? hu)
    generalize far.getD i 0 = u at hu hEi hub
    have a4 : inR .i64 ((i : Int) + 1) := by rw [inR_i64]; omega
    have hu' : far[i] = u := by rw [List.getElem?_eq_getElem hlt] at hu; exact Option.some.inj hu
    simp [hlt, hu, hu', a4]
    refine ⟨fun h1 h2 => ⟨by omega, ?_⟩, fun h => ?_⟩
    · rw [hEi, if_pos ⟨h2, by omega⟩]
    · rw [hEi]
      by_cases hu1 : u = -1
      · rw [if_neg (by rw [h hu1]; simp), List.append_nil]
      · rw [if_neg (by omega), List.append_nil]
  · simp

/-! ### Next -/
def nx (g : GGraph) (far : List Int) (p : Int) : Option GEdge := g.Edges.find? (edgeOk g.States.length far p)
theorem nx_goods (g : GGraph) (far : List Int) (p : Int) : (g.Edges.filter (goodE g.States.length)).find? (edgeOk g.States.length far p) = nx g far p := by
  unfold nx
  rw [List.find?_filter]
  congr 1
  funext e
  unfold edgeOk
  cases goodE g.States.length e <;> simp
def gcmd0 : GCmd := ⟨0, 0, 0, 0, 0⟩
def gedge0 : GEdge := ⟨0, 0, gcmd0⟩
def nxE (g : GGraph) (far : List Int) (p : Int) : GEdge := (nx g far p).getD gedge0

theorem step_ok' (g : GGraph) (far : List Int) (i : Int) (he : g.Edges.length ≤ 1000000) (hfl : far.length = g.States.length) (hfb : ∀ v ∈ far, -1 ≤ v ∧ v ≤ 1000000) :
    Pure Try.prog 22 [.d (.sl ((g.Edges.filter (goodE g.States.length)).map GEdge.enc)), .d (.sl (encI far)), .d (.v (.int .i64 i))] (.tup [.agg ((nxE g far i).enc.map .d), .d (.v (.bool (nx g far i).isSome))]) := by
  refine (step_ok g.States.length (g.Edges.filter (goodE g.States.length)) far i (Nat.le_trans (List.length_filter_le _ _) he) (fun e he => (List.mem_filter.1 he).2) hfl hfb).eq rfl ?_
  rw [nx_goods]
  unfold nxE
  cases nx g far i <;> rfl

theorem edgeIx_nx (g : GGraph) (far : List Int) (i : Int) : (edgeIx g far i < 0 ∧ nx g far i = none) ∨ ∃ (k : Nat) (e : GEdge), edgeIx g far i = k ∧ g.Edges[k]? = some e ∧ nx g far i = some e ∧ edgeOk g.States.length far i e = true := by
  unfold edgeIx nx
  cases h : g.Edges.findIdx? (edgeOk g.States.length far i) with
  | none =>
    left
    refine ⟨by simp, ?_⟩
    rw [List.findIdx?_eq_none_iff] at h
    exact List.find?_eq_none.2 (by simpa using h)
  | some k =>
    right
    obtain ⟨hk, h1, h2⟩ := List.findIdx?_eq_some_iff_getElem.1 h
    refine ⟨k, g.Edges[k], rfl, List.getElem?_eq_getElem hk, ?_, h1⟩
    rw [List.find?_eq_some_iff_getElem]
    exact ⟨h1, k, hk, rfl, fun j hj => by simpa using h2 j hj⟩

theorem next_ok (g : GGraph) (i : Int) (hs : g.States.length ≤ 1000000) (he : g.Edges.length ≤ 1000000) : Pure Try.prog 15 [.agg (g.enc.map .d), .d (.v (.int .i64 i))] (.tup [.agg ((nxE g (farM g) i).Cmd.enc.map .d), .d (.v (.bool (nx g (farM g) i).isSome))]) := by
  refine Pure.run Try.func15 rfl (by simp [Try.f15]) ?_; simp [Try.f15]
  intro bs
  have h1 := (edges_ok g hs he).ok
  have h2 := (far_ok g hs he).ok
  have h3 := (step_ok' g (farM g) i he (farM_len g) (fun v hv => by have := farM_bound g v hv; omega)).ok
  refine AWP.regionM [some (0, 1), some (0, 1), some (0, 1), some (0, 1), some (0, 1), some (0, 1), some (0, 1), some (0, 1), some (0, 2), none, none, some (2, 2)] [.d (.sl ((g.Edges.filter (goodE g.States.length)).map GEdge.enc)), .d (.sl (encI (farM g))), .tup [.agg ((nxE g (farM g) i).enc.map .d), .d (.v (.bool (nx g (farM g) i).isSome))]] Try.mixed (by kernel_rfl) ?_
  simp [h1, h2, h3]

theorem refNext_ok (g : GGraph) (i : Int) (hs : g.States.length ≤ 1000000) (he : g.Edges.length ≤ 1000000) : Pure Try.prog 16 [.agg (g.enc.map .d), .d (.v (.int .i64 i))] (.tup [.agg ((nxE g (farM g) i).Cmd.enc.map .d), .d (.v (.bool (nx g (farM g) i).isSome))]) := by
  refine Pure.run Try.func16 rfl (by simp [Try.f16]) ?_; simp [Try.f16]
  intro bs
  have h2 := (refFar_ok g hs he).ok
  have h3 := (edge_ok g (farM g) i he (farM_len g) (fun v hv => by have := farM_bound g v hv; omega)).ok
  refine AWP.regionD [.d (.sl (encI (farM g))), .d (.v (.int .i64 (edgeIx g (farM g) i)))] Try.mixed (by kernel_rfl) (by rfl) ?_
  simp [h2, h3]
  rcases edgeIx_nx g (farM g) i with ⟨h, hn⟩ | ⟨k, e, hk, hge, hn, _⟩
  · have hE : nxE g (farM g) i = gedge0 := by unfold nxE; rw [hn]; rfl
    simp [h, hn, hE]
    rfl
  · have hE : nxE g (farM g) i = e := by unfold nxE; rw [hn]; rfl
    have hkl := (List.getElem?_eq_some_iff.1 hge).1
    have hge' : g.Edges[k] = e := (List.getElem?_eq_some_iff.1 hge).2
    simp [hk, hn, hE, hge, hkl, hge']
end Go.Ab
