import Derived.Test.YticchnalleplcaaAbGwx
set_option linter.unusedSimpArgs false
set_option linter.unusedVariables false
namespace Go.Ab
open Go.Proofs

theorem genExpr_ok (t : GTables) (locals : Int) (e : GExpr) (he : e.wf) (hb : boundM t locals e false = true) (hn : szE e ≤ 40000) : Pure Try.prog 30 [.agg (e.enc.map .d)] (.d (.sl ((genE e 0).1.map GIns.enc))) := by
  have hc := fun b => wexpr_ok t locals e he hb b [] 0 ⟨by omega, by omega, by simp <;> omega⟩
  generalize genE e 0 = q at *
  obtain ⟨q1, q2⟩ := q
  simp only [List.nil_append] at hc ⊢
  refine Pure.run Try.func30 rfl (by simp [Try.f30]) ?_; simp [Try.f30]
  intro bs bs1
  refine AOps.weaken ((Wk.ren 5 5001 (by simp)).trans (Wk.ownBox 5001 0 5002 (e := 64) (k := 2) rfl rfl (by simp))) ?_
  simp [Heap.upd]
  refine AOps.weaken (Wk.pick [7, 6, 3, 2] [5001, 5002] (by rfl) (by simp) (by simp)) ?_
  simp
  refine AOps.effD [5001, 5002] rfl (hc (bs1 0)) (by simp [wb]) rfl (by simp) rfl (by kernel_rfl) (by simp [wb]) (by simp [wb]) (by simp [wb]) (by simp [wb]) (by simp [wb]) ?_
  simp [wb]
theorem refExprTop_ok (t : GTables) (locals : Int) (e : GExpr) (he : e.wf) (hb : boundM t locals e false = true) (hn : szE e ≤ 40000) : Pure Try.prog 31 [.agg (e.enc.map .d)] (.d (.sl ((genE e 0).1.map GIns.enc))) := by
  have hc := refExpr_ok t locals e he hb 0 ⟨by omega, by omega⟩
  unfold genT at hc
  generalize genE e 0 = q at *
  obtain ⟨q1, q2⟩ := q
  simp only at hc ⊢
  refine Pure.run Try.func31 rfl (by simp [Try.f31]) ?_; simp [Try.f31]
  intro bs
  refine AOps.pureC rfl (hc) (by simp) rfl (by simp) rfl ?_
  simp
theorem same_ok (a b : List GIns) (ha : a.length ≤ 1000000) : Pure Try.prog 29 [.d (.sl (a.map GIns.enc)), .d (.sl (b.map GIns.enc))] (.d (.v (.bool (decide (a = b))))) := by
  refine Pure.run Try.func29 rfl (by simp [Try.f29]) ?_; simp [Try.f29]
  refine ⟨fun h e => h (by rw [e]), fun hl => ?_⟩
  refine AWP.loopS [0, 1, 5] a.length (fun i => [(5, .d (.v (.int .i64 i)))]) (fun _ => []) (fun i => ∀ j, j < i → a[j]? = b[j]?) (by rfl) (by simp) ?_
  intro i hi hj
  rcases Nat.lt_or_eq_of_le hi with hlt | rfl
  · have hia : a[i]? = some a[i] := List.getElem?_eq_getElem hlt
    have hib : b[i]? = some (b[i]'(by omega)) := List.getElem?_eq_getElem (by omega)
    generalize hA : a[i] = u at hia
    generalize hB : b[i]'(by omega) = v at hib
    have a4 : inR .i64 ((i : Int) + 1) := by rw [inR_i64]; omega
    simp [hlt]
    refine AWP.regionD [] Try.mixed (by kernel_rfl) (by rfl) ?_
    simp [hia, hib, hA, hB, hlt, a4, ← hl]
    refine ⟨by omega, fun h e => h (by subst e; rw [hia] at hib; exact Option.some.inj hib), fun h j hj' => ?_⟩
    rcases Nat.lt_or_ge j i with h' | h'
    · exact hj j h'
    · obtain rfl : j = i := by omega
      rw [hia, hib, h]
  · simp
    apply List.ext_getElem?
    intro j
    rcases Nat.lt_or_ge j a.length with h' | h'
    · exact hj j h'
    · rw [List.getElem?_eq_none (by omega), List.getElem?_eq_none (by omega)]

end Go.Ab
