import Derived.Test.YtfcflgiignjlgaaAbHrfar
set_option linter.unusedSimpArgs false
set_option linter.unusedVariables false
namespace Go.Ab
open Go.Proofs

theorem ints_ok (a b : List Int) (ha : a.length ≤ 1000000) : Pure Try.prog 9 [.d (.sl (encI a)), .d (.sl (encI b))] (.d (.v (.bool (a == b)))) := by
  refine Pure.run Try.func9 rfl (by simp [Try.f9]) ?_; simp [Try.f9]
  refine ⟨fun h e => h (by rw [e]), fun hl => ?_⟩
  refine AWP.loopP [5, 0, 1] [] (fun k st => ∃ i : Nat, k = a.length - i ∧ i ≤ a.length ∧ (∀ j, j < i → a[j]? = b[j]?) ∧ st = ⟨[(5, .d (.v (.int .i64 i))), (0, .d (.sl (encI a))), (1, .d (.sl (encI b)))], []⟩) (by rfl) (by simp) ?_ ?_
  · simp
    exact ⟨_, 0, rfl, by omega, by omega, rfl⟩
  · rintro k st ⟨i, rfl, hi, hj, rfl⟩
    simp
    refine ⟨fun hlt => ?_, fun hge => ?_⟩
    · refine AWP.regionD [] Try.mixed (by kernel_rfl) (by rfl) ?_
      have hia : a[i]? = some a[i] := List.getElem?_eq_getElem hlt
      have hib : b[i]? = some (b[i]'(by omega)) := List.getElem?_eq_getElem (by omega)
      generalize a[i] = u at hia
      generalize b[i]'(by omega) = v at hib
      simp [hia, hib]
      refine ⟨hlt, by omega, fun h e => ?_, fun h => ⟨by rw [inR_i64]; omega, ?_⟩⟩
      · subst e; rw [hia] at hib; exact h (Option.some.inj hib)
      · simp [LoopQ]
        refine ⟨_, ?_, i + 1, rfl, by omega, fun j hj' => ?_, rfl⟩
        · omega
        · rcases Nat.lt_or_ge j i with h' | h'
          · exact hj j h'
          · obtain rfl : j = i := by omega
            rw [hia, hib, h]
    · apply List.ext_getElem?
      intro j
      rcases Nat.lt_or_ge j i with h' | h'
      · exact hj j h'
      · rw [List.getElem?_eq_none (by omega), List.getElem?_eq_none (by omega)]

def edgeOk (n : Nat) (far : List Int) (i : Int) (e : GEdge) : Bool :=
  goodE n e && decide (e.From = i) && decide (0 < far.getD i.toNat 0) && decide (far.getD e.To.toNat 0 = far.getD i.toNat 0 - 1)

/-- hint.step over edges that are good. -/
theorem step_ok (n : Nat) (l : List GEdge) (far : List Int) (i : Int) (hl : l.length ≤ 1000000) (hg : ∀ e ∈ l, goodE n e = true) (hfl : far.length = n) (hfb : ∀ v ∈ far, -1 ≤ v ∧ v ≤ 1000000) :
    Pure Try.prog 22 [.d (.sl (l.map GEdge.enc)), .d (.sl (encI far)), .d (.v (.int .i64 i))] (.tup [.agg ((match l.find? (edgeOk n far i) with | some e => e.enc | none => (⟨0, 0, ⟨0, 0, 0, 0, 0⟩⟩ : GEdge).enc).map .d), .d (.v (.bool (l.find? (edgeOk n far i)).isSome))]) := by
  refine Pure.run Try.func22 rfl (by simp [Try.f22]) ?_; simp [Try.f22]
  intro bs
  refine AWP.loopP [12, 11, 10, 6, 7, 2, 1] [6] (fun k st => ∃ j : Nat, k = l.length - j ∧ j ≤ l.length ∧ (l.take j).find? (edgeOk n far i) = none ∧
      st = ⟨[(12, .d (.v (.int .i64 j))), (11, .d (.v (.int .i64 l.length))), (10, .d (.sl (l.map GEdge.enc))), (6, .bp 6 0), (7, .d (.v (.bool false))), (2, .d (.v (.int .i64 i))), (1, .d (.sl (encI far)))],
        [(6, .box (bs 0 + 1) 37 ((⟨0, 0, ⟨0, 0, 0, 0, 0⟩⟩ : GEdge).enc.map .d))]⟩) (by rfl) (by simp) ?_ ?_
  · simp
    exact ⟨_, 0, rfl, by omega, by simp, rfl, rfl⟩
  · rintro k st ⟨j, rfl, hj, hno, rfl⟩
    simp
    refine ⟨fun hlt => ?_, fun hge => ?_⟩
    · have hge : l[j]? = some l[j] := List.getElem?_eq_getElem hlt
      have hgood := hg l[j] (List.getElem_mem hlt)
      have htk : l.take (j + 1) = l.take j ++ [l[j]] := by rw [List.take_add_one, hge]; rfl
      have hdr : l = l.take j ++ l[j] :: l.drop (j + 1) := by rw [List.getElem_cons_drop, List.take_append_drop]
      generalize hE : l[j] = e at hge hgood htk hdr
      have hgood' := hgood
      simp only [goodE, Bool.and_eq_true, decide_eq_true_eq] at hgood'
      obtain ⟨⟨⟨f1, f2⟩, t1⟩, t2⟩ := hgood'
      have a4 : inR .i64 ((j : Int) + 1) := by rw [inR_i64]; omega
      have again : edgeOk n far i e = false → ∀ x ∈ l.take (j + 1), edgeOk n far i x = false := by
        intro h x hx
        rw [htk] at hx
        rcases List.mem_append.1 hx with hx | hx
        · simpa using (List.find?_eq_none.1 hno) x hx
        · rw [List.mem_singleton.1 hx]; exact h
      simp [hge, hE]
      intro bs1
      refine ⟨hlt, ?_⟩
      refine AWP.regionD [] Try.mixed (by kernel_rfl) (by rfl) ?_
      by_cases hfi : e.From = i
      · subst hfi
        have a1 : e.From.toNat < far.length := by omega
        have a2 : e.To.toNat < far.length := by omega
        have hu : far[e.From.toNat]? = some (far.getD e.From.toNat 0) := by
          rw [List.getD_eq_getElem?_getD, List.getElem?_eq_getElem a1]; rfl
        have hv : far[e.To.toNat]? = some (far.getD e.To.toNat 0) := by
          rw [List.getD_eq_getElem?_getD, List.getElem?_eq_getElem a2]; rfl
        have hok : edgeOk n far e.From e = (decide (0 < far.getD e.From.toNat 0) && decide (far.getD e.To.toNat 0 = far.getD e.From.toNat 0 - 1)) := by
          simp [edgeOk, hgood]
        generalize far.getD e.From.toNat 0 = u at hu hok
        generalize far.getD e.To.toNat 0 = v at hv hok
        have hub := hfb u (List.mem_of_getElem? hu)
        have a3 : inR .i64 (u - 1) := by rw [inR_i64]; omega
        simp [hu, hv]
        refine ⟨⟨f1, a1⟩, fun h => ⟨⟨t1, a2⟩, h⟩, fun h => ⟨⟨f1, a1⟩, h⟩, fun h => ⟨a3, h⟩, fun h1 h2 => ?_, fun h => ⟨a4, ?_⟩⟩
        · have hok' : edgeOk n far e.From e = true := by rw [hok]; simp [h1, h2]
          have hfind : l.find? (edgeOk n far e.From) = some e := by
            rw [hdr, List.find?_append, hno]
            simp [hok']
          rw [hfind]
          exact ⟨rfl, e, List.mem_of_getElem? hge, hok'⟩
        · simp [LoopQ]
          refine ⟨_, ?_, j + 1, rfl, by omega, again (by rw [hok]; simpa using h), rfl⟩
          omega
      · have hok : edgeOk n far i e = false := by simp [edgeOk, hfi]
        have hb : (e.From == i) = false := by simp [hfi]
        simp [hb]
        refine ⟨a4, ?_⟩
        simp [LoopQ]
        refine ⟨_, ?_, j + 1, rfl, by omega, again hok, rfl⟩
        omega
    · have hall : ∀ x ∈ l, edgeOk n far i x = false := by
        rw [List.take_of_length_le hge] at hno
        intro x hx
        simpa using (List.find?_eq_none.1 hno) x hx
      have hnone : l.find? (edgeOk n far i) = none := List.find?_eq_none.2 (by simpa using hall)
      rw [hnone]
      exact ⟨rfl, hall⟩
end Go.Ab
