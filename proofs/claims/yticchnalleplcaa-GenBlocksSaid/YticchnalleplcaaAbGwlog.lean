import Derived.Test.YticchnalleplcaaAbGwexpr
set_option linter.unusedSimpArgs false
set_option linter.unusedVariables false
namespace Go.Ab
open Go.Proofs

def lb (b2 b3 : Nat) (e : GExpr) : Heap := [(3, .box (b3 + 1) 53 (e.enc.map .d)), (2, .box (b2 + 1) 95 [.bp 5001 0])]
theorem right_of (b2 b3 : Nat) (e x y : GExpr) (hA : e.Args = [x, y]) (b : Nat) (l : List GIns) (n : Int) (hn : 0 ≤ n ∧ n + 2 * szE y ≤ 100000 ∧ l.length + 6 * szE y ≤ 600000) (hy : WExpr y) :
    ACalls Try.prog 108 [.bp 2 0, .bp 3 0] (wb b l n ++ lb b2 b3 e) (fun r L => r = .ret (.tup []) ∧ L = wb b (l ++ (genE y n).1 ++ [⟨11, 0⟩]) (genE y n).2 ++ lb b2 b3 e) := by
  have hC := hy b l n hn
  have hbd := genE_bd y n
  generalize genE y n = q at *
  obtain ⟨q1, q2⟩ := q
  simp only at hC hbd ⊢
  unfold lb wb
  refine ACalls.runP [5001, 5002, 3, 2] (by simp) Try.func108 rfl (by simp [Try.f108]) ?_; simp [Try.f108]
  refine AWP.regionM0 [some (0, 0), some (0, 0), some (0, 0), some (0, 0), some (0, 0), none] [] Try.mixed (by kernel_rfl) ?_
  simp [hA]
  refine EffM.intro (fun _ => LOp.call 5002 [5001, 5002] rfl (hC) (by simp [wb]) rfl (by kernel_rfl) (by simp [wb]) (by simp [wb]) (by simp +contextual [wb]) (by simp [wb]) (by simp [wb])) ?_
  simp [wb]
  refine AOps.effD [5001, 5002] rfl (lay0_ok b (l ++ q1) q2 11 (by rw [List.length_append] <;> omega)) (by simp [wb]) rfl (by simp) rfl (by kernel_rfl) (by simp [wb]) (by simp [wb]) (by simp [wb]) (by simp [wb]) (by simp [wb]) ?_
  simp [wb]

theorem wlogic_of (e x y : GExpr) (hk : e.Kind = 6) (ho : e.Op = 1 ∨ e.Op = 2) (hA : e.Args = [x, y]) (hx : WExpr x) (hy : WExpr y) (b : Nat) (l : List GIns) (n : Int) (hn : 0 ≤ n ∧ n + 2 * szE e ≤ 100000 ∧ l.length + 6 * szE e ≤ 600000) :
    WCalls 93 [.agg (e.enc.map .d)] b l n (.tup []) (l ++ (genE e n).1) (genE e n).2 := by
  have hz := szE_eq e
  rw [hA] at hz
  simp only [szEs] at hz
  have ba := genE_bd x (n + 2)
  have bb := genE_bd y (genE x (n + 2)).2
  have ca := hx b l (n + 2) ⟨by omega, by omega, by omega⟩
  have a1 : inR .i64 (n + 1) := by rw [inR_i64]; omega
  rcases ho with ho | ho
  · rw [genE_or e x y [] n hk ho hA]
    generalize genE x (n + 2) = p at *
    obtain ⟨p1, p2⟩ := p
    simp only at ba bb ca ⊢
    have hR := fun b2 b3 l h => right_of b2 b3 e x y hA b l p2 h hy
    generalize genE y p2 = q at *
    obtain ⟨q1, q2⟩ := q
    simp only at bb hR ⊢
    unfold WCalls wb
    refine ACalls.runP [5001, 5002] (by simp) Try.func93 rfl (by simp [Try.f93]) ?_; simp [Try.f93]
    intro bs
    refine AOps.effD [5001, 5002] rfl (two_ok b l n (by omega)) (by simp [wb]) rfl (by simp) rfl (by kernel_rfl) (by simp [wb]) (by simp [wb]) (by simp [wb]) (by simp [wb]) (by simp [wb]) ?_
    simp [wb]
    refine AWP.regionM0 [some (0, 0), some (0, 0), some (0, 0), some (0, 0), some (0, 0), none] [] Try.mixed (by kernel_rfl) ?_
    simp [hA]
    refine EffM.intro (fun _ => LOp.call 5002 [5001, 5002] rfl (ca) (by simp [wb]) rfl (by kernel_rfl) (by simp [wb]) (by simp [wb]) (by simp +contextual [wb]) (by simp [wb]) (by simp [wb])) ?_
    simp [wb]
    refine AOps.weaken (Wk.freeze 20 (ys := encI [n]) rfl) ?_
    simp
    refine AOps.effD [5001, 5002] rfl (lay1_ok b (l ++ p1) p2 25 (n) (by simp <;> omega)) (by simp [wb]) rfl (by simp) rfl (by kernel_rfl) (by simp [wb]) (by simp [wb]) (by simp [wb]) (by simp [wb]) (by simp [wb]) ?_
    simp [wb, ho, a1]
    refine AOps.weaken (Wk.freeze 27 (ys := encI [1]) rfl) ?_
    simp
    refine AOps.effD [5001, 5002] rfl (lay1_ok b (l ++ p1 ++ [GIns.mk 25 n]) p2 1 (1) (by simp <;> omega)) (by simp [wb]) rfl (by simp) rfl (by kernel_rfl) (by simp [wb]) (by simp [wb]) (by simp [wb]) (by simp [wb]) (by simp [wb]) ?_
    simp [wb, ho, a1]
    refine AOps.weaken (Wk.freeze 33 (ys := encI [(n+1)]) rfl) ?_
    simp
    refine AOps.effD [5001, 5002] rfl (lay1_ok b (l ++ p1 ++ [GIns.mk 25 n] ++ [GIns.mk 1 1]) p2 24 ((n+1)) (by simp <;> omega)) (by simp [wb]) rfl (by simp) rfl (by kernel_rfl) (by simp [wb]) (by simp [wb]) (by simp [wb]) (by simp [wb]) (by simp [wb]) ?_
    simp [wb, ho, a1]
    refine AOps.weaken (Wk.freeze 37 (ys := encI [n]) rfl) ?_
    simp
    refine AOps.effD [5001, 5002] rfl (lay1_ok b (l ++ p1 ++ [GIns.mk 25 n] ++ [GIns.mk 1 1] ++ [GIns.mk 24 (n+1)]) p2 38 (n) (by simp <;> omega)) (by simp [wb]) rfl (by simp) rfl (by kernel_rfl) (by simp [wb]) (by simp [wb]) (by simp [wb]) (by simp [wb]) (by simp [wb]) ?_
    simp [wb, ho, a1]
    refine AOps.effD [5001, 5002, 3, 2] rfl (hR (bs 0) (bs 1) (l ++ p1 ++ [GIns.mk 25 n] ++ [GIns.mk 1 1] ++ [GIns.mk 24 (n+1)] ++ [GIns.mk 38 n]) ⟨by omega, by omega, by simp <;> omega⟩) (by simp [wb]) rfl (by simp) rfl (by kernel_rfl) (by simp [wb, lb]) (by simp [wb, lb]) (by simp [wb, lb]) (by simp [wb, lb]) (by simp [wb, lb]) ?_
    simp [wb, lb, ho, a1]
    refine AOps.weaken (Wk.freeze 48 (ys := encI [(n+1)]) rfl) ?_
    simp
    refine AOps.effD [5001, 5002] rfl (lay1_ok b (l ++ p1 ++ [GIns.mk 25 n] ++ [GIns.mk 1 1] ++ [GIns.mk 24 (n+1)] ++ [GIns.mk 38 n] ++ q1 ++ [GIns.mk 11 0]) q2 38 ((n+1)) (by simp <;> omega)) (by simp [wb]) rfl (by simp) rfl (by kernel_rfl) (by simp [wb]) (by simp [wb]) (by simp [wb]) (by simp [wb]) (by simp [wb]) ?_
    simp [wb, ho, a1]
  · rw [genE_and e x y [] n hk ho hA]
    generalize genE x (n + 2) = p at *
    obtain ⟨p1, p2⟩ := p
    simp only at ba bb ca ⊢
    have hR := fun b2 b3 l h => right_of b2 b3 e x y hA b l p2 h hy
    generalize genE y p2 = q at *
    obtain ⟨q1, q2⟩ := q
    simp only at bb hR ⊢
    unfold WCalls wb
    refine ACalls.runP [5001, 5002] (by simp) Try.func93 rfl (by simp [Try.f93]) ?_; simp [Try.f93]
    intro bs
    refine AOps.effD [5001, 5002] rfl (two_ok b l n (by omega)) (by simp [wb]) rfl (by simp) rfl (by kernel_rfl) (by simp [wb]) (by simp [wb]) (by simp [wb]) (by simp [wb]) (by simp [wb]) ?_
    simp [wb]
    refine AWP.regionM0 [some (0, 0), some (0, 0), some (0, 0), some (0, 0), some (0, 0), none] [] Try.mixed (by kernel_rfl) ?_
    simp [hA]
    refine EffM.intro (fun _ => LOp.call 5002 [5001, 5002] rfl (ca) (by simp [wb]) rfl (by kernel_rfl) (by simp [wb]) (by simp [wb]) (by simp +contextual [wb]) (by simp [wb]) (by simp [wb])) ?_
    simp [wb]
    refine AOps.weaken (Wk.freeze 20 (ys := encI [n]) rfl) ?_
    simp
    refine AOps.effD [5001, 5002] rfl (lay1_ok b (l ++ p1) p2 25 (n) (by simp <;> omega)) (by simp [wb]) rfl (by simp) rfl (by kernel_rfl) (by simp [wb]) (by simp [wb]) (by simp [wb]) (by simp [wb]) (by simp [wb]) ?_
    simp [wb, ho, a1]
    refine AOps.effD [5001, 5002, 3, 2] rfl (hR (bs 0) (bs 1) (l ++ p1 ++ [GIns.mk 25 n]) ⟨by omega, by omega, by simp <;> omega⟩) (by simp [wb]) rfl (by simp) rfl (by kernel_rfl) (by simp [wb, lb]) (by simp [wb, lb]) (by simp [wb, lb]) (by simp [wb, lb]) (by simp [wb, lb]) ?_
    simp [wb, lb, ho, a1]
    refine AOps.weaken (Wk.freeze 33 (ys := encI [(n+1)]) rfl) ?_
    simp
    refine AOps.effD [5001, 5002] rfl (lay1_ok b (l ++ p1 ++ [GIns.mk 25 n] ++ q1 ++ [GIns.mk 11 0]) q2 24 ((n+1)) (by simp <;> omega)) (by simp [wb]) rfl (by simp) rfl (by kernel_rfl) (by simp [wb]) (by simp [wb]) (by simp [wb]) (by simp [wb]) (by simp [wb]) ?_
    simp [wb, ho, a1]
    refine AOps.weaken (Wk.freeze 37 (ys := encI [n]) rfl) ?_
    simp
    refine AOps.effD [5001, 5002] rfl (lay1_ok b (l ++ p1 ++ [GIns.mk 25 n] ++ q1 ++ [GIns.mk 11 0] ++ [GIns.mk 24 (n+1)]) q2 38 (n) (by simp <;> omega)) (by simp [wb]) rfl (by simp) rfl (by kernel_rfl) (by simp [wb]) (by simp [wb]) (by simp [wb]) (by simp [wb]) (by simp [wb]) ?_
    simp [wb, ho, a1]
    refine AOps.effD [5001, 5002] rfl (lay0_ok b (l ++ p1 ++ [GIns.mk 25 n] ++ q1 ++ [GIns.mk 11 0] ++ [GIns.mk 24 (n+1)] ++ [GIns.mk 38 n]) q2 1 (by simp <;> omega)) (by simp [wb]) rfl (by simp) rfl (by kernel_rfl) (by simp [wb]) (by simp [wb]) (by simp [wb]) (by simp [wb]) (by simp [wb]) ?_
    simp [wb, ho, a1]
    refine AOps.weaken (Wk.freeze 48 (ys := encI [(n+1)]) rfl) ?_
    simp
    refine AOps.effD [5001, 5002] rfl (lay1_ok b (l ++ p1 ++ [GIns.mk 25 n] ++ q1 ++ [GIns.mk 11 0] ++ [GIns.mk 24 (n+1)] ++ [GIns.mk 38 n] ++ [GIns.mk 1 0]) q2 38 ((n+1)) (by simp <;> omega)) (by simp [wb]) rfl (by simp) rfl (by kernel_rfl) (by simp [wb]) (by simp [wb]) (by simp [wb]) (by simp [wb]) (by simp [wb]) ?_
    simp [wb, ho, a1]
end Go.Ab
