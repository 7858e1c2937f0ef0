import Derived.Test.YtfcflgiignjlgaaAbHnear
set_option linter.unusedSimpArgs false
set_option linter.unusedVariables false
namespace Go.Ab
open Go.Proofs

def far0 (g : GGraph) : List Int := g.States.map fun w => if w.Over = 1 then 0 else -1
def farN (g : GGraph) : Nat → List Int
  | 0 => far0 g
  | k + 1 => nearM g.States.length g.Edges (farN g k)
def farM (g : GGraph) : List Int := farN g g.States.length

theorem nearM_len (n : Nat) (es : List GEdge) (far : List Int) : (nearM n es far).length = far.length := nearFold_len n far es far
theorem farN_len (g : GGraph) : ∀ k, (farN g k).length = g.States.length
  | 0 => by simp [farN, far0]
  | k + 1 => by rw [farN, nearM_len, farN_len g k]

theorem nearStep_bound {n : Nat} {far out : List Int} {e : GEdge} {B : Int} (hB : 0 ≤ B) (hf : ∀ v ∈ far, -1 ≤ v ∧ v ≤ B) (ho : ∀ v ∈ out, -1 ≤ v ∧ v ≤ B + 1) : ∀ v ∈ nearStep n far out e, -1 ≤ v ∧ v ≤ B + 1 := by
  intro v hv
  unfold nearStep at hv
  split at hv
  · rename_i hc
    simp only [Bool.and_eq_true, decide_eq_true_eq] at hc
    rcases List.mem_or_eq_of_mem_set hv with h | rfl
    · exact ho v h
    · have h1 : -1 ≤ far.getD e.To.toNat 0 ∧ far.getD e.To.toNat 0 ≤ B := by
        rw [List.getD_eq_getElem?_getD]
        cases hx : far[e.To.toNat]? with
        | none => simp; omega
        | some u => simpa using hf u (List.mem_of_getElem? hx)
      omega
  · exact ho v hv
theorem nearFold_bound {n : Nat} {far : List Int} {B : Int} (hB : 0 ≤ B) (hf : ∀ v ∈ far, -1 ≤ v ∧ v ≤ B) : ∀ (es : List GEdge) (out : List Int), (∀ v ∈ out, -1 ≤ v ∧ v ≤ B + 1) → ∀ v ∈ es.foldl (nearStep n far) out, -1 ≤ v ∧ v ≤ B + 1
  | [], out, h => h
  | e :: es, out, h => nearFold_bound hB hf es _ (nearStep_bound hB hf h)
theorem farN_bound (g : GGraph) : ∀ k, ∀ v ∈ farN g k, -1 ≤ v ∧ v ≤ (k : Int)
  | 0 => by
    intro v hv
    simp only [farN, far0, List.mem_map] at hv
    obtain ⟨w, _, rfl⟩ := hv
    split <;> simp
  | k + 1 => by
    have h := farN_bound g k
    have := nearFold_bound (n := g.States.length) (B := (k : Int)) (by omega) h g.Edges (farN g k) (fun v hv => by have := h v hv; omega)
    intro v hv
    have := this v hv
    push_cast
    omega

theorem refFar_ok (g : GGraph) (hs : g.States.length ≤ 1000000) (he : g.Edges.length ≤ 1000000) :
    Pure Try.prog 11 [.agg (g.enc.map .d)] (.d (.sl (encI (farM g)))) := by
  refine Pure.run Try.func11 rfl (by simp [Try.f11]) ?_; simp [Try.f11]
  intro bs
  refine AWP.weaken (Wk.own' (t := 3) (h := 1000) (k := 1) (ty := 3) rfl (by simp)) ?_
  refine AWP.loopP [4, 3, 1] [1000, 1] (fun k st => ∃ i : Nat, k = g.States.length - i ∧ i ≤ g.States.length ∧
      st = ⟨[(4, .d (.v (.int .i64 i))), (3, .rv 1000), (1, .bp 1 0)], [(1000, .row 3 1 (dd (encI ((far0 g).take i)))), (1, .box (bs 0 + 1) 25 (g.enc.map .d))]⟩) (by rfl) (by simp) ?_ ?_
  · simp
    exact ⟨_, 0, rfl, by omega, rfl, by simp⟩
  · rintro k st ⟨i, rfl, hi, rfl⟩
    have hfl : (far0 g).length = g.States.length := by simp [far0]
    simp
    refine ⟨fun hlt => ?_, fun hge => ?_⟩
    · have hge : g.States[i]? = some g.States[i] := List.getElem?_eq_getElem hlt
      generalize hE : g.States[i] = e at hge
      have hfe : (far0 g).take (i + 1) = (far0 g).take i ++ [if e.Over = 1 then 0 else -1] := by
        rw [List.take_add_one]
        congr 1
        simp [far0, hge]
      have a4 : inR .i64 ((i : Int) + 1) := by rw [inR_i64]; omega
      simp [hge, hE]
      refine ⟨hlt, fun h => ⟨by omega, a4, ?_⟩, fun h => ⟨by omega, a4, ?_⟩⟩
      · simp [LoopQ]
        refine ⟨_, ?_, i + 1, rfl, by omega, rfl, by rw [hfe, if_pos h]⟩
        omega
      · simp [LoopQ]
        refine ⟨_, ?_, i + 1, rfl, by omega, rfl, by rw [hfe, if_neg h]⟩
        omega
    · have hst : (far0 g).take i = farN g 0 := by rw [List.take_of_length_le (by omega)]; rfl
      refine AWP.weaken (Wk.freeze 1000 (ys := encI (farN g 0)) (ty := 3) (k := 1) (by simp [hst])) ?_
      simp
      refine AWP.loopP [28, 27, 3, 1] [1] (fun k st => ∃ j : Nat, k = g.States.length - j ∧ j ≤ g.States.length ∧
          st = ⟨[(28, .d (.v (.int .i64 j))), (27, .d (.v (.int .i64 g.States.length))), (3, .d (.sl (encI (farN g j)))), (1, .bp 1 0)], [(1, .box (bs 0 + 1) 25 (g.enc.map .d))]⟩) (by rfl) (by simp) ?_ ?_
      · simp
        exact ⟨_, 0, rfl, by omega, rfl, rfl⟩
      · rintro k st ⟨j, rfl, hj, rfl⟩
        simp
        refine ⟨fun hlt => ?_, fun hge => ?_⟩
        · refine runC_sound _ _ [.d (.sl (encI (farN g (j + 1))))] (by rfl) ?_
          have a4 : inR .i64 ((j : Int) + 1) := by rw [inR_i64]; omega
          simp
          refine ⟨?_, a4, ?_⟩
          · refine (nearer_ok g (farN g j) hs he (farN_len g j) (fun v hv => ?_)).ok _
            have := farN_bound g j v hv
            omega
          · simp [LoopQ]
            refine ⟨_, ?_, j + 1, rfl, by omega, rfl, rfl⟩
            omega
        · obtain rfl : j = g.States.length := by omega
          rfl
end Go.Ab
