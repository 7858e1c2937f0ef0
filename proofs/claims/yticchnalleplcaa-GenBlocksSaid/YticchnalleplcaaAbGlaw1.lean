import Derived.Test.YticchnalleplcaaAbGlook
set_option linter.unusedSimpArgs false
set_option linter.unusedVariables false
namespace Go.Ab
open Go.Proofs

theorem bound_said {t : GTables} {locals : Int} {e : GExpr} (h : boundM t locals e true = true) (h1 : e.Kind ≠ 19) (h2 : e.Kind ≠ 13) : boundM t locals e false = true := by
  rw [boundM_eq] at h ⊢
  simpa [boundK, h1, h2] using h
theorem genExprs_ok (t : GTables) (ht : t.wf) (e : GExpr) (he : e.wf) (locals : Int) : Pure Try.prog 7 [.agg (t.enc.map .d), .agg (e.enc.map .d), .d (.v (.int .i64 locals))] (.d (.v (.bool true))) := by
  have hA := awake_ok.ok
  have hF := (refFew_ok e he 400 (by omega)).ok
  have hB := (refBound_ok t ht e he locals).ok
  have key : 0 ≤ fewM e 400 → boundM t locals e true = true → e.Kind ≠ 19 → e.Kind ≠ 13 → boundM t locals e false = true ∧ szE e ≤ 40000 := fun h1 h2 h3 h4 => ⟨bound_said h2 h3 h4, by have := fewM_sz e 400 h1; omega⟩
  refine Pure.run Try.func7 rfl (by simp [Try.f7]) ?_; simp [Try.f7]
  intro bs
  refine runC_sound _ _ [.d (.v (.int .i64 (fewM e 400))), .d (.v (.bool (decide (deepM e 65 ≤ 32) && boundM t locals e true)))] (by rfl) ?_
  simp [hF, hB]
  refine ⟨fun _ => ?_, fun h1 _ h2 h3 h4 => ?_⟩
  · refine AOps.pureC rfl (awake_ok) (by simp) rfl (by simp) rfl ?_
    simp
  · obtain ⟨hb, hz⟩ := key h1 h2 h3 h4
    have c1 := (genExpr_ok t locals e he hb hz).ok
    have c2 := (refExprTop_ok t locals e he hb hz).ok
    have bd := genE_bd e 0
    generalize (genE e 0).1 = g at *
    have c3 := (same_ok g g (by omega)).ok
    rw [show decide (g = g) = true by simp] at c3
    refine AWP.regionD [.d (.sl (g.map GIns.enc)), .d (.sl (g.map GIns.enc)), .d (.v (.bool true)), .d (.v (.bool true))] Try.mixed (by kernel_rfl) (by rfl) ?_
    simp [c1, c2, c3, hA]
end Go.Ab
