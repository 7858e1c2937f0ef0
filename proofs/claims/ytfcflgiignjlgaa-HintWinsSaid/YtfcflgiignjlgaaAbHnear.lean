import Derived.Test.YtfcflgiignjlgaaAbHedges
set_option linter.unusedSimpArgs false
set_option linter.unusedVariables false
namespace Go.Ab
open Go.Proofs

def nearStep (n : Nat) (far out : List Int) (e : GEdge) : List Int :=
  if goodE n e && (decide (0 ≤ far.getD e.To.toNat 0) && (decide (out.getD e.From.toNat 0 < 0) || decide (far.getD e.To.toNat 0 + 1 < out.getD e.From.toNat 0))) then out.set e.From.toNat (far.getD e.To.toNat 0 + 1) else out
def nearM (n : Nat) (es : List GEdge) (far : List Int) : List Int := es.foldl (nearStep n far) far

theorem nearStep_len (n : Nat) (far out : List Int) (e : GEdge) : (nearStep n far out e).length = out.length := by
  unfold nearStep; split <;> simp
theorem nearFold_len (n : Nat) (far : List Int) : ∀ (es : List GEdge) (out : List Int), (es.foldl (nearStep n far) out).length = out.length
  | [], _ => rfl
  | e :: es, out => by rw [List.foldl_cons, nearFold_len n far es, nearStep_len]

theorem nearer_ok (g : GGraph) (far : List Int) (hs : g.States.length ≤ 1000000) (he : g.Edges.length ≤ 1000000) (hl : far.length = g.States.length) (hf : ∀ v ∈ far, -1 ≤ v ∧ v ≤ 1000000) :
    Pure Try.prog 21 [.agg (g.enc.map .d), .d (.sl (encI far))] (.d (.sl (encI (nearM g.States.length g.Edges far)))) := by
  refine Pure.run Try.func21 rfl (by simp [Try.f21]) ?_; simp [Try.f21]
  intro bs
  refine ⟨by omega, ?_⟩
  refine AWP.loopP [14, 13, 12, 5, 2, 1] [8, 2] (fun k st => ∃ i : Nat, k = g.Edges.length - i ∧ i ≤ g.Edges.length ∧
      st = ⟨[(14, .d (.v (.int .i64 i))), (13, .d (.v (.int .i64 g.Edges.length))), (12, .d (.sl (g.Edges.map GEdge.enc))), (5, .rv 8), (2, .bp 2 0), (1, .d (.sl (encI far)))],
        [(8, .row 3 1 (dd (encI ((g.Edges.take i).foldl (nearStep g.States.length far) far)))), (2, .box (bs 0 + 1) 25 (g.enc.map .d))]⟩) (by rfl) (by simp) ?_ ?_
  · simp
    exact ⟨_, 0, rfl, by omega, rfl, by simp⟩
  · rintro k st ⟨i, rfl, hi, rfl⟩
    simp
    refine ⟨fun hlt => ?_, fun hge => ?_⟩
    · have hge : g.Edges[i]? = some g.Edges[i] := List.getElem?_eq_getElem hlt
      generalize hE : g.Edges[i] = e at hge
      generalize hO : (g.Edges.take i).foldl (nearStep g.States.length far) far = out
      have hol : out.length = g.States.length := by rw [← hO, nearFold_len, hl]
      have hnext : (g.Edges.take (i + 1)).foldl (nearStep g.States.length far) far = nearStep g.States.length far out e := by
        rw [List.take_add_one, hge, List.foldl_append, hO]; rfl
      simp [hge, hE]
      intro bs2
      refine ⟨by omega, ?_⟩
      refine AWP.regionD [.d (.v (.bool (goodE g.States.length e)))] Try.mixed (by kernel_rfl) (by rfl) ?_
      have hcall : ∀ L, OKCall Try.prog 25 [V.agg (List.map V.d g.enc), V.agg (List.map V.d e.enc)] L (V.d (D.v (Value.bool (goodE g.States.length e)))) := fun L =>
        (good_ok g e).ok L
      cases hg : goodE g.States.length e with
      | false =>
        rw [hg] at hcall
        simp [hcall]
        refine ⟨by rw [inR_i64]; omega, ?_⟩
        simp [LoopQ]
        refine ⟨_, ?_, i + 1, rfl, by omega, rfl, ?_⟩
        · omega
        · rw [hnext]; simp [nearStep, hg]
      | true =>
        rw [hg] at hcall
        have hg' := hg
        simp only [goodE, Bool.and_eq_true, decide_eq_true_eq] at hg'
        obtain ⟨⟨⟨f1, f2⟩, t1⟩, t2⟩ := hg'
        have a1 : e.To.toNat < far.length := by omega
        have a2 : e.From.toNat < out.length := by omega
        have ht : far[e.To.toNat]? = some (far.getD e.To.toNat 0) := by
          rw [List.getD_eq_getElem?_getD, List.getElem?_eq_getElem a1]; rfl
        have hf' : out[e.From.toNat]? = some (out.getD e.From.toNat 0) := by
          rw [List.getD_eq_getElem?_getD, List.getElem?_eq_getElem a2]; rfl
        generalize hv : far.getD e.To.toNat 0 = v at ht
        generalize hu : out.getD e.From.toNat 0 = u at hf'
        have hvb := hf v (List.mem_of_getElem? ht)
        have a3 : inR .i64 (v + 1) := by rw [inR_i64]; omega
        have a4 : inR .i64 ((i : Int) + 1) := by rw [inR_i64]; omega
        simp [ht, hf', hcall]
        refine ⟨⟨t1, a1⟩, fun h => ⟨⟨f1, a2⟩, h⟩, fun h => ⟨a2, h⟩, fun h h' => ⟨⟨f1, a2⟩, h, h'⟩, fun h h' => ⟨a2, h, h'⟩, fun h h' => ⟨⟨t1, a1⟩, h, h'⟩, fun h h' => ⟨a3, h, h'⟩, fun h => ⟨fun h' => ⟨h, h'⟩, h⟩, ?_, ?_⟩
        · intro h1 h2
          refine AWP.regionM [some (0, 0), some (0, 0), some (0, 0), some (0, 0), some (0, 0), some (0, 0), some (0, 0), some (0, 0), some (0, 0), some (0, 0), none] [] Try.mixed (by kernel_rfl) ?_
          simp [ht, hf']
          refine ⟨⟨t1, a1⟩, a3, ⟨f1, a2⟩, a2, a4, ?_⟩
          simp [LoopQ]
          refine ⟨_, ?_, i + 1, rfl, by omega, rfl, ?_⟩
          · omega
          · rw [hnext]
            simp only [nearStep, hg, hv, hu, Bool.true_and, Bool.and_eq_true, Bool.or_eq_true, decide_eq_true_eq]
            rw [if_pos ⟨h1, h2⟩]
        · intro h1
          refine ⟨a4, ?_⟩
          simp [LoopQ]
          refine ⟨_, ?_, i + 1, rfl, by omega, rfl, ?_⟩
          · omega
          · rw [hnext]
            simp only [nearStep, hg, hv, hu, Bool.true_and, Bool.and_eq_true, Bool.or_eq_true, decide_eq_true_eq]
            rw [if_neg (by omega)]
    · rw [List.take_of_length_le (by omega)]
      rfl
end Go.Ab
