import Derived.Test.YtfcflgiignjlgaaAbQ
import Derived.Test.YtfcflgiignjlgaaAbGs
set_option linter.unusedSimpArgs false
set_option linter.unusedVariables false
namespace Go.Ab
open Go.Proofs

theorem Try.mixed : Try.prog.follows .mixedOrders = true := by kernel_rfl

theorem few_ok (g : GGraph) : Pure Try.prog 7 [.agg (g.enc.map .d)] (.d (.v (.bool (decide (g.States.length ≤ 60) && decide (g.Edges.length ≤ 400))))) := by
  refine Pure.run Try.func7 rfl (by simp [Try.f7]) ?_; simp [Try.f7]
  congr 1 <;> (apply decide_eq_decide.2; omega)

def goodE (n : Nat) (e : GEdge) : Bool := decide (0 ≤ e.From) && decide (e.From < n) && decide (0 ≤ e.To) && decide (e.To < n)

theorem good_ok (g : GGraph) (e : GEdge) : Pure Try.prog 25 [.agg (g.enc.map .d), .agg (e.enc.map .d)] (.d (.v (.bool (goodE g.States.length e)))) := by
  refine Pure.run Try.func25 rfl (by simp [Try.f25]) ?_; simp [Try.f25]
  simp [goodE]

theorem edges1_ok (i n : Int) (h b : Nat) : Kept Try.prog 24 [.d (.v (.int .i64 i)), .bp h 0] [(h, .box (b + 1) 3 [.d (.v (.int .i64 n))])] (.d (.v (.bool (decide (0 ≤ i) && decide (i < n))))) := by
  refine Kept.run Try.func24 rfl (by simp [Try.f24]) ?_; simp [Try.f24]

theorem edges_ok (g : GGraph) (hs : g.States.length ≤ 1000000) (he : g.Edges.length ≤ 1000000) : Pure Try.prog 19 [.agg (g.enc.map .d)] (.d (.sl ((g.Edges.filter (goodE g.States.length)).map GEdge.enc))) := by
  refine Pure.run Try.func19 rfl (by simp [Try.f19]) ?_; simp [Try.f19]
  intro bs bs1
  refine AWP.weaken (Wk.own' (t := 5) (h := 36) (k := 7) (ty := 37) rfl (by simp)) ?_
  refine AWP.loopS [1, 4, 5, 14, 15] g.Edges.length (fun i => [(15, .d (.v (.int .i64 i)))]) (fun i => [(36, .row 37 7 (dd (((g.Edges.take i).filter (goodE g.States.length)).map GEdge.enc)))]) (fun _ => True) (by rfl) (by simp) ?_
  intro i hi _
  have hfl : (List.filter (goodE g.States.length) (List.take i g.Edges)).length ≤ 1000000 := Nat.le_trans (List.length_filter_le _ _) (by rw [List.length_take]; omega)
  rcases Nat.lt_or_eq_of_le hi with hlt | rfl
  · have hge : g.Edges[i]? = some g.Edges[i] := List.getElem?_eq_getElem hlt
    have htk : List.take (i + 1) g.Edges = List.take i g.Edges ++ [g.Edges[i]] := by rw [List.take_add_one, hge]; rfl
    generalize hE : g.Edges[i] = e at hge htk
    have a4 : inR .i64 ((i : Int) + 1) := by rw [inR_i64]; omega
    have hc := fun x => (edges1_ok x g.States.length 3 (bs1 0)).ok
    simp [hlt, hge, hE]
    intro bs2
    refine runC_sound _ _ [.d (.v (.bool (decide (0 ≤ e.From) && decide (e.From < g.States.length)))), .d (.v (.bool (decide (0 ≤ e.To) && decide (e.To < g.States.length))))] (by rfl) ?_
    simp [hc, a4, htk, hlt]
    refine ⟨fun h1 h2 h3 h4 => ⟨by omega, by simp [goodE, h1, h2, h3, h4]⟩, fun h => ?_⟩
    have : goodE g.States.length e = false := by
      rw [Bool.eq_false_iff]; intro h'; simp [goodE] at h'; have := h h'.1.1.1 h'.1.1.2 h'.1.2; omega
    simp [this]
  · simp
end Go.Ab
