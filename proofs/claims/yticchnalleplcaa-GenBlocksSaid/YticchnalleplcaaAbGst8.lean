import Derived.Test.YticchnalleplcaaAbGst7
set_option linter.unusedSimpArgs false
set_option linter.unusedVariables false
namespace Go.Ab
open Go.Proofs
set_option maxRecDepth 40000
set_option maxHeartbeats 4000000

def WEs (es : List GExpr) : Prop := ∀ (b : Nat) (l : List GIns) (n : Int), 0 ≤ n ∧ n + 2 * szEs es ≤ 100000 ∧ l.length + 6 * szEs es ≤ 600000 →
  WCalls 94 [.d (.sl (es.map GExpr.enc))] b l n (.tup []) (l ++ (genEs es n).1) (genEs es n).2
def WBlock (ss : List GStmt) : Prop := ∀ (b : Nat) (l : List GIns) (n : Int), 0 ≤ n ∧ n + 2 * szB ss ≤ 100000 ∧ l.length + 16 * szB ss ≤ 600000 →
  WCalls 63 [.d (.sl (ss.map GStmt.enc))] b l n (.tup []) (l ++ (genB ss n).1) (genB ss n).2
def WSt (f : FuncId) (s : GStmt) : Prop := ∀ (b : Nat) (l : List GIns) (n : Int), 0 ≤ n ∧ n + 2 * szS s ≤ 100000 ∧ l.length + 16 * szS s ≤ 600000 →
  WCalls f [.agg (s.enc.map .d)] b l n (.tup []) (l ++ (genS s n).1) (genS s n).2

theorem wIf0_of (s : GStmt) (hA : WEs s.Args) (hB : WBlock s.Body) (hk : s.Kind = 9) (he : s.Else = []) : WSt 112 s := by
  intro b l n hn
  rw [genS_if0 s n hk he]
  have hz := szS_eq s
  have b1 := genEs_bd' s.Args (n + 1)
  have b2 := genB_bd' s.Body (genEs s.Args (n + 1)).2
  have wA := fun b l h => hA b l (n + 1) h
  have wB := fun b l h => hB b l (genEs s.Args (n + 1)).2 h
  generalize genEs s.Args (n + 1) = p at *
  obtain ⟨p1, p2⟩ := p
  simp only at wB b2
  generalize genB s.Body p2 = q at *
  obtain ⟨q1, q2⟩ := q
  simp only at b1 wA b2 wB ⊢
  have a1 : inR .i64 (n + 1) := by rw [inR_i64]; omega
  have hlen : s.Else.length = 0 := by simp [he]
  unfold WCalls wb at *
  refine ACalls.runP [5001, 5002] (by simp) Try.func112 rfl (by simp [Try.f112]) ?_; simp [-condC_bool, Try.f112]
  intro bs
  refine AOps.effD [5001, 5002] rfl (wlabel_ok b l n (by omega)) (by simp [wb]) rfl (by simp) rfl (by kernel_rfl) (by simp [wb]) (by simp [wb]) (by simp [wb]) (by simp [wb]) (by simp [wb]) ?_
  simp [-condC_bool, wb, hlen, a1, he]
  refine AOps.effD [5001, 5002] rfl (lay0_ok b l (n + 1) 37 (by omega)) (by simp [wb]) rfl (by simp) rfl (by kernel_rfl) (by simp [wb]) (by simp [wb]) (by simp [wb]) (by simp [wb]) (by simp [wb]) ?_
  simp [-condC_bool, wb, hlen, a1, he]
  refine AOps.effD [5001, 5002] rfl (wA b (l ++ [GIns.mk 37 0]) ⟨by omega, by omega, by simp <;> omega⟩) (by simp [wb]) rfl (by simp) rfl (by kernel_rfl) (by simp [wb]) (by simp [wb]) (by simp [wb]) (by simp [wb]) (by simp [wb]) ?_
  simp [-condC_bool, wb, hlen, a1, he]
  refine AOps.weaken (Wk.freeze 23 (ys := encI [n]) rfl) ?_
  simp [-condC_bool]
  refine AOps.effD [5001, 5002] rfl (lay1_ok b ((l ++ [GIns.mk 37 0]) ++ p1) p2 25 n (by simp <;> omega)) (by simp [wb]) rfl (by simp) rfl (by kernel_rfl) (by simp [wb]) (by simp [wb]) (by simp [wb]) (by simp [wb]) (by simp [wb]) ?_
  simp [-condC_bool, wb, hlen, a1, he]
  refine AOps.effD [5001, 5002] rfl (wB b (((l ++ [GIns.mk 37 0]) ++ p1) ++ [GIns.mk 25 n]) ⟨by omega, by omega, by simp <;> omega⟩) (by simp [wb]) rfl (by simp) rfl (by kernel_rfl) (by simp [wb]) (by simp [wb]) (by simp [wb]) (by simp [wb]) (by simp [wb]) ?_
  simp [-condC_bool, wb, hlen, a1, he]
  refine AOps.weaken (Wk.freeze 47 (ys := encI [n]) rfl) ?_
  simp [-condC_bool]
  refine AOps.effD [5001, 5002] rfl (lay1_ok b ((((l ++ [GIns.mk 37 0]) ++ p1) ++ [GIns.mk 25 n]) ++ q1) q2 38 n (by simp <;> omega)) (by simp [wb]) rfl (by simp) rfl (by kernel_rfl) (by simp [wb]) (by simp [wb]) (by simp [wb]) (by simp [wb]) (by simp [wb]) ?_
  simp [wb, tick]

theorem wIf1_of (s : GStmt) (hA : WEs s.Args) (hB : WBlock s.Body) (hE : WBlock s.Else) (hk : s.Kind = 9) (he : s.Else ≠ []) : WSt 112 s := by
  intro b l n hn
  rw [genS_if1 s n hk he]
  have hz := szS_eq s
  have b1 := genEs_bd' s.Args (n + 2)
  have b2 := genB_bd' s.Body (genEs s.Args (n + 2)).2
  have b3 := genB_bd' s.Else (genB s.Body (genEs s.Args (n + 2)).2).2
  have wA := fun b l h => hA b l (n + 2) h
  have wB := fun b l h => hB b l (genEs s.Args (n + 2)).2 h
  have wE := fun b l h => hE b l (genB s.Body (genEs s.Args (n + 2)).2).2 h
  generalize genEs s.Args (n + 2) = p at *
  obtain ⟨p1, p2⟩ := p
  simp only at wB b2 wE b3
  generalize genB s.Body p2 = q at *
  obtain ⟨q1, q2⟩ := q
  simp only at wE b3
  generalize genB s.Else q2 = r at *
  obtain ⟨r1, r2⟩ := r
  simp only at b1 wA b2 wB b3 wE ⊢
  have a1 : inR .i64 (n + 1) := by rw [inR_i64]; omega
  have hlen : 0 < s.Else.length := by
    cases h : s.Else with | nil => exact (he h).elim | cons a l => simp
  unfold WCalls wb at *
  refine ACalls.runP [5001, 5002] (by simp) Try.func112 rfl (by simp [Try.f112]) ?_; simp [-condC_bool, Try.f112]
  intro bs
  refine AOps.effD [5001, 5002] rfl (wlabel_ok b l n (by omega)) (by simp [wb]) rfl (by simp) rfl (by kernel_rfl) (by simp [wb]) (by simp [wb]) (by simp [wb]) (by simp [wb]) (by simp [wb]) ?_
  simp [-condC_bool, wb, hlen, a1]
  have hl2 := wlabel_ok b l (n + 1) (by omega)
  rw [show n + 1 + 1 = n + 2 by omega] at hl2
  unfold WCalls wb at hl2
  refine AOps.effD [5001, 5002] rfl (hl2) (by simp [wb]) rfl (by simp) rfl (by kernel_rfl) (by simp [wb]) (by simp [wb]) (by simp [wb]) (by simp [wb]) (by simp [wb]) ?_
  simp [-condC_bool, wb, hlen, a1]
  refine AOps.effD [5001, 5002] rfl (lay0_ok b l (n + 2) 37 (by omega)) (by simp [wb]) rfl (by simp) rfl (by kernel_rfl) (by simp [wb]) (by simp [wb]) (by simp [wb]) (by simp [wb]) (by simp [wb]) ?_
  simp [-condC_bool, wb, hlen, a1]
  refine AOps.effD [5001, 5002] rfl (wA b (l ++ [GIns.mk 37 0]) ⟨by omega, by omega, by simp <;> omega⟩) (by simp [wb]) rfl (by simp) rfl (by kernel_rfl) (by simp [wb]) (by simp [wb]) (by simp [wb]) (by simp [wb]) (by simp [wb]) ?_
  simp [-condC_bool, wb, hlen, a1]
  refine AOps.weaken (Wk.freeze 23 (ys := encI [n]) rfl) ?_
  simp [-condC_bool]
  refine AOps.effD [5001, 5002] rfl (lay1_ok b ((l ++ [GIns.mk 37 0]) ++ p1) p2 25 n (by simp <;> omega)) (by simp [wb]) rfl (by simp) rfl (by kernel_rfl) (by simp [wb]) (by simp [wb]) (by simp [wb]) (by simp [wb]) (by simp [wb]) ?_
  simp [-condC_bool, wb, hlen, a1]
  refine AOps.effD [5001, 5002] rfl (wB b (((l ++ [GIns.mk 37 0]) ++ p1) ++ [GIns.mk 25 n]) ⟨by omega, by omega, by simp <;> omega⟩) (by simp [wb]) rfl (by simp) rfl (by kernel_rfl) (by simp [wb]) (by simp [wb]) (by simp [wb]) (by simp [wb]) (by simp [wb]) ?_
  simp [-condC_bool, wb, hlen, a1]
  refine AOps.weaken (Wk.freeze 35 (ys := encI [(n + 1)]) rfl) ?_
  simp [-condC_bool]
  refine AOps.effD [5001, 5002] rfl (lay1_ok b ((((l ++ [GIns.mk 37 0]) ++ p1) ++ [GIns.mk 25 n]) ++ q1) q2 24 (n + 1) (by simp <;> omega)) (by simp [wb]) rfl (by simp) rfl (by kernel_rfl) (by simp [wb]) (by simp [wb]) (by simp [wb]) (by simp [wb]) (by simp [wb]) ?_
  simp [-condC_bool, wb, hlen, a1]
  refine AOps.weaken (Wk.freeze 39 (ys := encI [n]) rfl) ?_
  simp [-condC_bool]
  refine AOps.effD [5001, 5002] rfl (lay1_ok b (((((l ++ [GIns.mk 37 0]) ++ p1) ++ [GIns.mk 25 n]) ++ q1) ++ [GIns.mk 24 (n + 1)]) q2 38 n (by simp <;> omega)) (by simp [wb]) rfl (by simp) rfl (by kernel_rfl) (by simp [wb]) (by simp [wb]) (by simp [wb]) (by simp [wb]) (by simp [wb]) ?_
  simp [-condC_bool, wb, hlen, a1]
  refine AOps.effD [5001, 5002] rfl (wE b ((((((l ++ [GIns.mk 37 0]) ++ p1) ++ [GIns.mk 25 n]) ++ q1) ++ [GIns.mk 24 (n + 1)]) ++ [GIns.mk 38 n]) ⟨by omega, by omega, by simp <;> omega⟩) (by simp [wb]) rfl (by simp) rfl (by kernel_rfl) (by simp [wb]) (by simp [wb]) (by simp [wb]) (by simp [wb]) (by simp [wb]) ?_
  simp [-condC_bool, wb, hlen, a1]
  refine AOps.weaken (Wk.freeze 47 (ys := encI [(n + 1)]) rfl) ?_
  simp [-condC_bool]
  refine AOps.effD [5001, 5002] rfl (lay1_ok b (((((((l ++ [GIns.mk 37 0]) ++ p1) ++ [GIns.mk 25 n]) ++ q1) ++ [GIns.mk 24 (n + 1)]) ++ [GIns.mk 38 n]) ++ r1) r2 38 (n + 1) (by simp <;> omega)) (by simp [wb]) rfl (by simp) rfl (by kernel_rfl) (by simp [wb]) (by simp [wb]) (by simp [wb]) (by simp [wb]) (by simp [wb]) ?_
  simp [wb, tick]

theorem wWhile_of (s : GStmt) (hA : WEs s.Args) (hB : WBlock s.Body) (hk : s.Kind = 10) : WSt 113 s := by
  intro b l n hn
  rw [genS_while s n hk]
  have hz := szS_eq s
  have b1 := genEs_bd' s.Args (n + 2)
  have b2 := genB_bd' s.Body (genEs s.Args (n + 2)).2
  have wA := fun b l h => hA b l (n + 2) h
  have wB := fun b l h => hB b l (genEs s.Args (n + 2)).2 h
  generalize genEs s.Args (n + 2) = p at *
  obtain ⟨p1, p2⟩ := p
  simp only at wB b2
  generalize genB s.Body p2 = q at *
  obtain ⟨q1, q2⟩ := q
  simp only at b1 wA b2 wB ⊢
  have a1 : inR .i64 (n + 1) := by rw [inR_i64]; omega
  unfold WCalls wb at *
  refine ACalls.runP [5001, 5002] (by simp) Try.func113 rfl (by simp [Try.f113]) ?_; simp [-condC_bool, Try.f113]
  intro bs
  refine AOps.effD [5001, 5002] rfl (two_ok b l n (by omega)) (by simp [wb]) rfl (by simp) rfl (by kernel_rfl) (by simp [wb]) (by simp [wb]) (by simp [wb]) (by simp [wb]) (by simp [wb]) ?_
  simp [-condC_bool, wb, a1]
  refine AOps.weaken (Wk.freeze 13 (ys := encI [n]) rfl) ?_
  simp [-condC_bool]
  refine AOps.effD [5001, 5002] rfl (lay1_ok b l (n + 2) 38 n (by omega)) (by simp [wb]) rfl (by simp) rfl (by kernel_rfl) (by simp [wb]) (by simp [wb]) (by simp [wb]) (by simp [wb]) (by simp [wb]) ?_
  simp [-condC_bool, wb, a1]
  refine AOps.effD [5001, 5002] rfl (lay0_ok b (l ++ [GIns.mk 38 n]) (n + 2) 37 (by simp <;> omega)) (by simp [wb]) rfl (by simp) rfl (by kernel_rfl) (by simp [wb]) (by simp [wb]) (by simp [wb]) (by simp [wb]) (by simp [wb]) ?_
  simp [-condC_bool, wb, a1]
  refine AOps.effD [5001, 5002] rfl (wA b ((l ++ [GIns.mk 38 n]) ++ [GIns.mk 37 0]) ⟨by omega, by omega, by simp <;> omega⟩) (by simp [wb]) rfl (by simp) rfl (by kernel_rfl) (by simp [wb]) (by simp [wb]) (by simp [wb]) (by simp [wb]) (by simp [wb]) ?_
  simp [-condC_bool, wb, a1]
  refine AOps.weaken (Wk.freeze 23 (ys := encI [(n + 1)]) rfl) ?_
  simp [-condC_bool]
  refine AOps.effD [5001, 5002] rfl (lay1_ok b (((l ++ [GIns.mk 38 n]) ++ [GIns.mk 37 0]) ++ p1) p2 25 (n + 1) (by simp <;> omega)) (by simp [wb]) rfl (by simp) rfl (by kernel_rfl) (by simp [wb]) (by simp [wb]) (by simp [wb]) (by simp [wb]) (by simp [wb]) ?_
  simp [-condC_bool, wb, a1]
  refine AOps.effD [5001, 5002] rfl (wB b ((((l ++ [GIns.mk 38 n]) ++ [GIns.mk 37 0]) ++ p1) ++ [GIns.mk 25 (n + 1)]) ⟨by omega, by omega, by simp <;> omega⟩) (by simp [wb]) rfl (by simp) rfl (by kernel_rfl) (by simp [wb]) (by simp [wb]) (by simp [wb]) (by simp [wb]) (by simp [wb]) ?_
  simp [-condC_bool, wb, a1]
  refine AOps.weaken (Wk.freeze 31 (ys := encI [n]) rfl) ?_
  simp [-condC_bool]
  refine AOps.effD [5001, 5002] rfl (lay1_ok b (((((l ++ [GIns.mk 38 n]) ++ [GIns.mk 37 0]) ++ p1) ++ [GIns.mk 25 (n + 1)]) ++ q1) q2 24 n (by simp <;> omega)) (by simp [wb]) rfl (by simp) rfl (by kernel_rfl) (by simp [wb]) (by simp [wb]) (by simp [wb]) (by simp [wb]) (by simp [wb]) ?_
  simp [-condC_bool, wb, a1]
  refine AOps.weaken (Wk.freeze 35 (ys := encI [(n + 1)]) rfl) ?_
  simp [-condC_bool]
  refine AOps.effD [5001, 5002] rfl (lay1_ok b ((((((l ++ [GIns.mk 38 n]) ++ [GIns.mk 37 0]) ++ p1) ++ [GIns.mk 25 (n + 1)]) ++ q1) ++ [GIns.mk 24 n]) q2 38 (n + 1) (by simp <;> omega)) (by simp [wb]) rfl (by simp) rfl (by kernel_rfl) (by simp [wb]) (by simp [wb]) (by simp [wb]) (by simp [wb]) (by simp [wb]) ?_
  simp [wb, tick]

theorem wEach_of (s : GStmt) (hA : WEs s.Args) (hB : WBlock s.Body) (hk : s.Kind = 11) (hnum : inR .i64 (s.Num + 1)) : WSt 114 s := by
  intro b l n hn
  rw [genS_each s n hk]
  have hz := szS_eq s
  have b1 := genEs_bd' s.Args (n + 2)
  have b2 := genB_bd' s.Body (genEs s.Args (n + 2)).2
  have wA := fun b l h => hA b l (n + 2) h
  have wB := fun b l h => hB b l (genEs s.Args (n + 2)).2 h
  generalize genEs s.Args (n + 2) = p at *
  obtain ⟨p1, p2⟩ := p
  simp only at wB b2
  generalize genB s.Body p2 = q at *
  obtain ⟨q1, q2⟩ := q
  simp only at b1 wA b2 wB ⊢
  have a1 : inR .i64 (n + 1) := by rw [inR_i64]; omega
  unfold WCalls wb at *
  refine ACalls.runP [5001, 5002] (by simp) Try.func114 rfl (by simp [Try.f114]) ?_; simp [-condC_bool, Try.f114]
  intro bs
  refine AOps.effD [5001, 5002] rfl (two_ok b l n (by omega)) (by simp [wb]) rfl (by simp) rfl (by kernel_rfl) (by simp [wb]) (by simp [wb]) (by simp [wb]) (by simp [wb]) (by simp [wb]) ?_
  simp [-condC_bool, wb, a1, hnum]
  refine AOps.effD [5001, 5002] rfl (lay0_ok b l (n + 2) 37 (by omega)) (by simp [wb]) rfl (by simp) rfl (by kernel_rfl) (by simp [wb]) (by simp [wb]) (by simp [wb]) (by simp [wb]) (by simp [wb]) ?_
  simp [-condC_bool, wb, a1, hnum]
  refine AOps.effD [5001, 5002] rfl (wA b (l ++ [GIns.mk 37 0]) ⟨by omega, by omega, by simp <;> omega⟩) (by simp [wb]) rfl (by simp) rfl (by kernel_rfl) (by simp [wb]) (by simp [wb]) (by simp [wb]) (by simp [wb]) (by simp [wb]) ?_
  simp [-condC_bool, wb, a1, hnum]
  refine AOps.weaken (Wk.freeze 18 (ys := encI [2]) rfl) ?_
  simp [-condC_bool]
  refine AOps.effD [5001, 5002] rfl (lay1_ok b ((l ++ [GIns.mk 37 0]) ++ p1) p2 19 2 (by simp <;> omega)) (by simp [wb]) rfl (by simp) rfl (by kernel_rfl) (by simp [wb]) (by simp [wb]) (by simp [wb]) (by simp [wb]) (by simp [wb]) ?_
  simp [-condC_bool, wb, a1, hnum]
  refine AOps.weaken (Wk.freeze 23 (ys := encI [s.Num]) rfl) ?_
  simp [-condC_bool]
  refine AOps.effD [5001, 5002] rfl (lay1_ok b (((l ++ [GIns.mk 37 0]) ++ p1) ++ [GIns.mk 19 2]) p2 6 s.Num (by simp <;> omega)) (by simp [wb]) rfl (by simp) rfl (by kernel_rfl) (by simp [wb]) (by simp [wb]) (by simp [wb]) (by simp [wb]) (by simp [wb]) ?_
  simp [-condC_bool, wb, a1, hnum]
  refine AOps.weaken (Wk.freeze 27 (ys := encI [n]) rfl) ?_
  simp [-condC_bool]
  refine AOps.effD [5001, 5002] rfl (lay1_ok b ((((l ++ [GIns.mk 37 0]) ++ p1) ++ [GIns.mk 19 2]) ++ [GIns.mk 6 s.Num]) p2 38 n (by simp <;> omega)) (by simp [wb]) rfl (by simp) rfl (by kernel_rfl) (by simp [wb]) (by simp [wb]) (by simp [wb]) (by simp [wb]) (by simp [wb]) ?_
  simp [-condC_bool, wb, a1, hnum]
  refine AOps.weaken (Wk.freeze 32 (ys := encI [s.Num]) rfl) ?_
  simp [-condC_bool]
  refine AOps.effD [5001, 5002] rfl (lay1_ok b (((((l ++ [GIns.mk 37 0]) ++ p1) ++ [GIns.mk 19 2]) ++ [GIns.mk 6 s.Num]) ++ [GIns.mk 38 n]) p2 5 s.Num (by simp <;> omega)) (by simp [wb]) rfl (by simp) rfl (by kernel_rfl) (by simp [wb]) (by simp [wb]) (by simp [wb]) (by simp [wb]) (by simp [wb]) ?_
  simp [-condC_bool, wb, a1, hnum]
  refine AOps.weaken (Wk.freeze 36 (ys := encI [(n + 1)]) rfl) ?_
  simp [-condC_bool]
  refine AOps.effD [5001, 5002] rfl (lay1_ok b ((((((l ++ [GIns.mk 37 0]) ++ p1) ++ [GIns.mk 19 2]) ++ [GIns.mk 6 s.Num]) ++ [GIns.mk 38 n]) ++ [GIns.mk 5 s.Num]) p2 25 (n + 1) (by simp <;> omega)) (by simp [wb]) rfl (by simp) rfl (by kernel_rfl) (by simp [wb]) (by simp [wb]) (by simp [wb]) (by simp [wb]) (by simp [wb]) ?_
  simp [-condC_bool, wb, a1, hnum]
  refine AOps.effD [5001, 5002] rfl (lay0_ok b (((((((l ++ [GIns.mk 37 0]) ++ p1) ++ [GIns.mk 19 2]) ++ [GIns.mk 6 s.Num]) ++ [GIns.mk 38 n]) ++ [GIns.mk 5 s.Num]) ++ [GIns.mk 25 (n + 1)]) p2 37 (by simp <;> omega)) (by simp [wb]) rfl (by simp) rfl (by kernel_rfl) (by simp [wb]) (by simp [wb]) (by simp [wb]) (by simp [wb]) (by simp [wb]) ?_
  simp [-condC_bool, wb, a1, hnum]
  refine AOps.weaken (Wk.freeze 43 (ys := encI [s.Num]) rfl) ?_
  simp [-condC_bool]
  refine AOps.effD [5001, 5002] rfl (lay1_ok b ((((((((l ++ [GIns.mk 37 0]) ++ p1) ++ [GIns.mk 19 2]) ++ [GIns.mk 6 s.Num]) ++ [GIns.mk 38 n]) ++ [GIns.mk 5 s.Num]) ++ [GIns.mk 25 (n + 1)]) ++ [GIns.mk 37 0]) p2 5 s.Num (by simp <;> omega)) (by simp [wb]) rfl (by simp) rfl (by kernel_rfl) (by simp [wb]) (by simp [wb]) (by simp [wb]) (by simp [wb]) (by simp [wb]) ?_
  simp [-condC_bool, wb, a1, hnum]
  refine AOps.weaken (Wk.freeze 46 (ys := encI [3]) rfl) ?_
  simp [-condC_bool]
  refine AOps.effD [5001, 5002] rfl (lay1_ok b (((((((((l ++ [GIns.mk 37 0]) ++ p1) ++ [GIns.mk 19 2]) ++ [GIns.mk 6 s.Num]) ++ [GIns.mk 38 n]) ++ [GIns.mk 5 s.Num]) ++ [GIns.mk 25 (n + 1)]) ++ [GIns.mk 37 0]) ++ [GIns.mk 5 s.Num]) p2 19 3 (by simp <;> omega)) (by simp [wb]) rfl (by simp) rfl (by kernel_rfl) (by simp [wb]) (by simp [wb]) (by simp [wb]) (by simp [wb]) (by simp [wb]) ?_
  simp [-condC_bool, wb, a1, hnum]
  refine AOps.weaken (Wk.freeze 52 (ys := encI [(s.Num + 1)]) rfl) ?_
  simp [-condC_bool]
  refine AOps.effD [5001, 5002] rfl (lay1_ok b ((((((((((l ++ [GIns.mk 37 0]) ++ p1) ++ [GIns.mk 19 2]) ++ [GIns.mk 6 s.Num]) ++ [GIns.mk 38 n]) ++ [GIns.mk 5 s.Num]) ++ [GIns.mk 25 (n + 1)]) ++ [GIns.mk 37 0]) ++ [GIns.mk 5 s.Num]) ++ [GIns.mk 19 3]) p2 6 (s.Num + 1) (by simp <;> omega)) (by simp [wb]) rfl (by simp) rfl (by kernel_rfl) (by simp [wb]) (by simp [wb]) (by simp [wb]) (by simp [wb]) (by simp [wb]) ?_
  simp [-condC_bool, wb, a1, hnum]
  refine AOps.effD [5001, 5002] rfl (wB b (((((((((((l ++ [GIns.mk 37 0]) ++ p1) ++ [GIns.mk 19 2]) ++ [GIns.mk 6 s.Num]) ++ [GIns.mk 38 n]) ++ [GIns.mk 5 s.Num]) ++ [GIns.mk 25 (n + 1)]) ++ [GIns.mk 37 0]) ++ [GIns.mk 5 s.Num]) ++ [GIns.mk 19 3]) ++ [GIns.mk 6 (s.Num + 1)]) ⟨by omega, by omega, by simp <;> omega⟩) (by simp [wb]) rfl (by simp) rfl (by kernel_rfl) (by simp [wb]) (by simp [wb]) (by simp [wb]) (by simp [wb]) (by simp [wb]) ?_
  simp [-condC_bool, wb, a1, hnum]
  refine AOps.weaken (Wk.freeze 62 (ys := encI [(s.Num + 1)]) rfl) ?_
  simp [-condC_bool]
  refine AOps.effD [5001, 5002] rfl (lay1_ok b ((((((((((((l ++ [GIns.mk 37 0]) ++ p1) ++ [GIns.mk 19 2]) ++ [GIns.mk 6 s.Num]) ++ [GIns.mk 38 n]) ++ [GIns.mk 5 s.Num]) ++ [GIns.mk 25 (n + 1)]) ++ [GIns.mk 37 0]) ++ [GIns.mk 5 s.Num]) ++ [GIns.mk 19 3]) ++ [GIns.mk 6 (s.Num + 1)]) ++ q1) q2 5 (s.Num + 1) (by simp <;> omega)) (by simp [wb]) rfl (by simp) rfl (by kernel_rfl) (by simp [wb]) (by simp [wb]) (by simp [wb]) (by simp [wb]) (by simp [wb]) ?_
  simp [-condC_bool, wb, a1, hnum]
  refine AOps.weaken (Wk.freeze 67 (ys := encI [s.Num]) rfl) ?_
  simp [-condC_bool]
  refine AOps.effD [5001, 5002] rfl (lay1_ok b (((((((((((((l ++ [GIns.mk 37 0]) ++ p1) ++ [GIns.mk 19 2]) ++ [GIns.mk 6 s.Num]) ++ [GIns.mk 38 n]) ++ [GIns.mk 5 s.Num]) ++ [GIns.mk 25 (n + 1)]) ++ [GIns.mk 37 0]) ++ [GIns.mk 5 s.Num]) ++ [GIns.mk 19 3]) ++ [GIns.mk 6 (s.Num + 1)]) ++ q1) ++ [GIns.mk 5 (s.Num + 1)]) q2 6 s.Num (by simp <;> omega)) (by simp [wb]) rfl (by simp) rfl (by kernel_rfl) (by simp [wb]) (by simp [wb]) (by simp [wb]) (by simp [wb]) (by simp [wb]) ?_
  simp [-condC_bool, wb, a1, hnum]
  refine AOps.weaken (Wk.freeze 71 (ys := encI [n]) rfl) ?_
  simp [-condC_bool]
  refine AOps.effD [5001, 5002] rfl (lay1_ok b ((((((((((((((l ++ [GIns.mk 37 0]) ++ p1) ++ [GIns.mk 19 2]) ++ [GIns.mk 6 s.Num]) ++ [GIns.mk 38 n]) ++ [GIns.mk 5 s.Num]) ++ [GIns.mk 25 (n + 1)]) ++ [GIns.mk 37 0]) ++ [GIns.mk 5 s.Num]) ++ [GIns.mk 19 3]) ++ [GIns.mk 6 (s.Num + 1)]) ++ q1) ++ [GIns.mk 5 (s.Num + 1)]) ++ [GIns.mk 6 s.Num]) q2 24 n (by simp <;> omega)) (by simp [wb]) rfl (by simp) rfl (by kernel_rfl) (by simp [wb]) (by simp [wb]) (by simp [wb]) (by simp [wb]) (by simp [wb]) ?_
  simp [-condC_bool, wb, a1, hnum]
  refine AOps.weaken (Wk.freeze 75 (ys := encI [(n + 1)]) rfl) ?_
  simp [-condC_bool]
  refine AOps.effD [5001, 5002] rfl (lay1_ok b (((((((((((((((l ++ [GIns.mk 37 0]) ++ p1) ++ [GIns.mk 19 2]) ++ [GIns.mk 6 s.Num]) ++ [GIns.mk 38 n]) ++ [GIns.mk 5 s.Num]) ++ [GIns.mk 25 (n + 1)]) ++ [GIns.mk 37 0]) ++ [GIns.mk 5 s.Num]) ++ [GIns.mk 19 3]) ++ [GIns.mk 6 (s.Num + 1)]) ++ q1) ++ [GIns.mk 5 (s.Num + 1)]) ++ [GIns.mk 6 s.Num]) ++ [GIns.mk 24 n]) q2 38 (n + 1) (by simp <;> omega)) (by simp [wb]) rfl (by simp) rfl (by kernel_rfl) (by simp [wb]) (by simp [wb]) (by simp [wb]) (by simp [wb]) (by simp [wb]) ?_
  simp [wb, tick]

def bareN (k : Int) : Int := if k = 7 then 17 else if k = 8 then 18 else if k = 12 then 27 else if k = 13 then 28 else if k = 14 then 29 else if k = 15 then 30 else if k = 16 then 31 else if k = 20 then 34 else if k = 21 then 35 else 36
theorem bareN_ok (k : Int) : Pure Try.prog 124 [.d (.v (.int .i64 k))] (.d (.v (.int .i64 (bareN k)))) := by
  refine Pure.run Try.func124 rfl (by simp [Try.f124]) ?_; simp [-condC_bool, Try.f124]
  repeat' (first
    | (with_reducible refine And.intro ?_ ?_)
    | (refine condC_split (fun h => ?_) (fun h => ?_) <;> (try simp at h) <;> (try simp [-condC_bool, *]))
    | (with_reducible intro _))
  all_goals simp [bareN, *]
theorem wPlain_of (s : GStmt) (hA : WEs s.Args) (h1 : s.Kind ≠ 9) (h2 : s.Kind ≠ 10) (h3 : s.Kind ≠ 11) (h4 : s.Kind ≠ 1) (hk : s.Kind = 2 ∨ s.Kind = 3 ∨ s.Kind = 23 ∨ s.Kind = 4 ∨ s.Kind = 5 ∨ s.Kind = 6 ∨ s.Kind = 17 ∨ s.Kind = 18 ∨ s.Kind = 19 ∨ s.Kind = 7 ∨ s.Kind = 8 ∨ s.Kind = 12 ∨ s.Kind = 13 ∨ s.Kind = 14 ∨ s.Kind = 15 ∨ s.Kind = 16 ∨ s.Kind = 20 ∨ s.Kind = 21 ∨ s.Kind = 22) : WSt 111 s := by
  intro b l n hn
  rw [genS_plain s n h1 h2 h3 h4]
  have hz := szS_eq s
  have b1 := genEs_bd' s.Args n
  have wA := fun b l h => hA b l n h
  generalize genEs s.Args n = p at *
  obtain ⟨p1, p2⟩ := p
  simp only at b1 wA ⊢
  unfold WCalls wb at *
  rcases hk with hk | hk | hk | hk | hk | hk | hk | hk | hk | hk | hk | hk | hk | hk | hk | hk | hk | hk | hk
  · refine ACalls.runP [5001, 5002] (by simp) Try.func111 rfl (by simp [Try.f111]) ?_; simp [-condC_bool, Try.f111, hk]
    intro bs
    refine AOps.effD [5001, 5002] rfl (lay0_ok b l n 37 (by omega)) (by simp [wb]) rfl (by simp) rfl (by kernel_rfl) (by simp [wb]) (by simp [wb]) (by simp [wb]) (by simp [wb]) (by simp [wb]) ?_
    simp [-condC_bool, wb, hk]
    refine AOps.effD [5001, 5002] rfl (wA b (l ++ [GIns.mk 37 0]) ⟨by omega, by omega, by simp <;> omega⟩) (by simp [wb]) rfl (by simp) rfl (by kernel_rfl) (by simp [wb]) (by simp [wb]) (by simp [wb]) (by simp [wb]) (by simp [wb]) ?_
    simp [-condC_bool, wb, hk]
    refine AOps.weaken (Wk.freeze 23 (ys := encI [s.Num]) rfl) ?_
    simp [-condC_bool]
    refine AOps.effD [5001, 5002] rfl (lay1_ok b ((l ++ [GIns.mk 37 0]) ++ p1) p2 6 s.Num (by simp <;> omega)) (by simp [wb]) rfl (by simp) rfl (by kernel_rfl) (by simp [wb]) (by simp [wb]) (by simp [wb]) (by simp [wb]) (by simp [wb]) ?_
    simp [wb, tick, hk, deedM]
  · refine ACalls.runP [5001, 5002] (by simp) Try.func111 rfl (by simp [Try.f111]) ?_; simp [-condC_bool, Try.f111, hk]
    intro bs
    refine AOps.effD [5001, 5002] rfl (lay0_ok b l n 37 (by omega)) (by simp [wb]) rfl (by simp) rfl (by kernel_rfl) (by simp [wb]) (by simp [wb]) (by simp [wb]) (by simp [wb]) (by simp [wb]) ?_
    simp [-condC_bool, wb, hk]
    refine AOps.effD [5001, 5002] rfl (wA b (l ++ [GIns.mk 37 0]) ⟨by omega, by omega, by simp <;> omega⟩) (by simp [wb]) rfl (by simp) rfl (by kernel_rfl) (by simp [wb]) (by simp [wb]) (by simp [wb]) (by simp [wb]) (by simp [wb]) ?_
    simp [-condC_bool, wb, hk]
    refine AOps.weaken (Wk.freeze 23 (ys := encI [s.Num]) rfl) ?_
    simp [-condC_bool]
    refine AOps.effD [5001, 5002] rfl (lay1_ok b ((l ++ [GIns.mk 37 0]) ++ p1) p2 6 s.Num (by simp <;> omega)) (by simp [wb]) rfl (by simp) rfl (by kernel_rfl) (by simp [wb]) (by simp [wb]) (by simp [wb]) (by simp [wb]) (by simp [wb]) ?_
    simp [wb, tick, hk, deedM]
  · refine ACalls.runP [5001, 5002] (by simp) Try.func111 rfl (by simp [Try.f111]) ?_; simp [-condC_bool, Try.f111, hk]
    intro bs
    refine AOps.effD [5001, 5002] rfl (lay0_ok b l n 37 (by omega)) (by simp [wb]) rfl (by simp) rfl (by kernel_rfl) (by simp [wb]) (by simp [wb]) (by simp [wb]) (by simp [wb]) (by simp [wb]) ?_
    simp [-condC_bool, wb, hk]
    refine AOps.effD [5001, 5002] rfl (wA b (l ++ [GIns.mk 37 0]) ⟨by omega, by omega, by simp <;> omega⟩) (by simp [wb]) rfl (by simp) rfl (by kernel_rfl) (by simp [wb]) (by simp [wb]) (by simp [wb]) (by simp [wb]) (by simp [wb]) ?_
    simp [-condC_bool, wb, hk]
    refine AOps.weaken (Wk.freeze 30 (ys := encI [s.Num]) rfl) ?_
    simp [-condC_bool]
    refine AOps.effD [5001, 5002] rfl (lay1_ok b ((l ++ [GIns.mk 37 0]) ++ p1) p2 4 s.Num (by simp <;> omega)) (by simp [wb]) rfl (by simp) rfl (by kernel_rfl) (by simp [wb]) (by simp [wb]) (by simp [wb]) (by simp [wb]) (by simp [wb]) ?_
    simp [wb, tick, hk, deedM]
  · refine ACalls.runP [5001, 5002] (by simp) Try.func111 rfl (by simp [Try.f111]) ?_; simp [-condC_bool, Try.f111, hk]
    intro bs
    refine AOps.effD [5001, 5002] rfl (lay0_ok b l n 37 (by omega)) (by simp [wb]) rfl (by simp) rfl (by kernel_rfl) (by simp [wb]) (by simp [wb]) (by simp [wb]) (by simp [wb]) (by simp [wb]) ?_
    simp [-condC_bool, wb, hk]
    refine AOps.effD [5001, 5002] rfl (wA b (l ++ [GIns.mk 37 0]) ⟨by omega, by omega, by simp <;> omega⟩) (by simp [wb]) rfl (by simp) rfl (by kernel_rfl) (by simp [wb]) (by simp [wb]) (by simp [wb]) (by simp [wb]) (by simp [wb]) ?_
    simp [-condC_bool, wb, hk]
    refine AOps.weaken (Wk.freeze 37 (ys := encI [s.Num]) rfl) ?_
    simp [-condC_bool]
    refine AOps.effD [5001, 5002] rfl (lay1_ok b ((l ++ [GIns.mk 37 0]) ++ p1) p2 14 s.Num (by simp <;> omega)) (by simp [wb]) rfl (by simp) rfl (by kernel_rfl) (by simp [wb]) (by simp [wb]) (by simp [wb]) (by simp [wb]) (by simp [wb]) ?_
    simp [wb, tick, hk, deedM]
  · refine ACalls.runP [5001, 5002] (by simp) Try.func111 rfl (by simp [Try.f111]) ?_; simp [-condC_bool, Try.f111, hk]
    intro bs
    refine AOps.effD [5001, 5002] rfl (lay0_ok b l n 37 (by omega)) (by simp [wb]) rfl (by simp) rfl (by kernel_rfl) (by simp [wb]) (by simp [wb]) (by simp [wb]) (by simp [wb]) (by simp [wb]) ?_
    simp [-condC_bool, wb, hk]
    refine AOps.effD [5001, 5002] rfl (wA b (l ++ [GIns.mk 37 0]) ⟨by omega, by omega, by simp <;> omega⟩) (by simp [wb]) rfl (by simp) rfl (by kernel_rfl) (by simp [wb]) (by simp [wb]) (by simp [wb]) (by simp [wb]) (by simp [wb]) ?_
    simp [-condC_bool, wb, hk]
    refine AOps.weaken (Wk.freeze 44 (ys := encI [s.Num]) rfl) ?_
    simp [-condC_bool]
    refine AOps.effD [5001, 5002] rfl (lay1_ok b ((l ++ [GIns.mk 37 0]) ++ p1) p2 15 s.Num (by simp <;> omega)) (by simp [wb]) rfl (by simp) rfl (by kernel_rfl) (by simp [wb]) (by simp [wb]) (by simp [wb]) (by simp [wb]) (by simp [wb]) ?_
    simp [wb, tick, hk, deedM]
  · refine ACalls.runP [5001, 5002] (by simp) Try.func111 rfl (by simp [Try.f111]) ?_; simp [-condC_bool, Try.f111, hk]
    intro bs
    refine AOps.effD [5001, 5002] rfl (lay0_ok b l n 37 (by omega)) (by simp [wb]) rfl (by simp) rfl (by kernel_rfl) (by simp [wb]) (by simp [wb]) (by simp [wb]) (by simp [wb]) (by simp [wb]) ?_
    simp [-condC_bool, wb, hk]
    refine AOps.effD [5001, 5002] rfl (wA b (l ++ [GIns.mk 37 0]) ⟨by omega, by omega, by simp <;> omega⟩) (by simp [wb]) rfl (by simp) rfl (by kernel_rfl) (by simp [wb]) (by simp [wb]) (by simp [wb]) (by simp [wb]) (by simp [wb]) ?_
    simp [-condC_bool, wb, hk]
    refine AOps.weaken (Wk.freeze 51 (ys := encI [s.Num]) rfl) ?_
    simp [-condC_bool]
    refine AOps.effD [5001, 5002] rfl (lay1_ok b ((l ++ [GIns.mk 37 0]) ++ p1) p2 16 s.Num (by simp <;> omega)) (by simp [wb]) rfl (by simp) rfl (by kernel_rfl) (by simp [wb]) (by simp [wb]) (by simp [wb]) (by simp [wb]) (by simp [wb]) ?_
    simp [wb, tick, hk, deedM]
  · refine ACalls.runP [5001, 5002] (by simp) Try.func111 rfl (by simp [Try.f111]) ?_; simp [-condC_bool, Try.f111, hk]
    intro bs
    refine AOps.effD [5001, 5002] rfl (lay0_ok b l n 37 (by omega)) (by simp [wb]) rfl (by simp) rfl (by kernel_rfl) (by simp [wb]) (by simp [wb]) (by simp [wb]) (by simp [wb]) (by simp [wb]) ?_
    simp [-condC_bool, wb, hk]
    refine AOps.effD [5001, 5002] rfl (wA b (l ++ [GIns.mk 37 0]) ⟨by omega, by omega, by simp <;> omega⟩) (by simp [wb]) rfl (by simp) rfl (by kernel_rfl) (by simp [wb]) (by simp [wb]) (by simp [wb]) (by simp [wb]) (by simp [wb]) ?_
    simp [-condC_bool, wb, hk]
    refine AOps.weaken (Wk.freeze 58 (ys := encI [s.Num]) rfl) ?_
    simp [-condC_bool]
    refine AOps.effD [5001, 5002] rfl (lay1_ok b ((l ++ [GIns.mk 37 0]) ++ p1) p2 32 s.Num (by simp <;> omega)) (by simp [wb]) rfl (by simp) rfl (by kernel_rfl) (by simp [wb]) (by simp [wb]) (by simp [wb]) (by simp [wb]) (by simp [wb]) ?_
    simp [wb, tick, hk, deedM]
  · refine ACalls.runP [5001, 5002] (by simp) Try.func111 rfl (by simp [Try.f111]) ?_; simp [-condC_bool, Try.f111, hk]
    intro bs
    refine AOps.effD [5001, 5002] rfl (lay0_ok b l n 37 (by omega)) (by simp [wb]) rfl (by simp) rfl (by kernel_rfl) (by simp [wb]) (by simp [wb]) (by simp [wb]) (by simp [wb]) (by simp [wb]) ?_
    simp [-condC_bool, wb, hk]
    refine AOps.effD [5001, 5002] rfl (wA b (l ++ [GIns.mk 37 0]) ⟨by omega, by omega, by simp <;> omega⟩) (by simp [wb]) rfl (by simp) rfl (by kernel_rfl) (by simp [wb]) (by simp [wb]) (by simp [wb]) (by simp [wb]) (by simp [wb]) ?_
    simp [-condC_bool, wb, hk]
    refine AOps.weaken (Wk.freeze 65 (ys := encI [s.Num]) rfl) ?_
    simp [-condC_bool]
    refine AOps.effD [5001, 5002] rfl (lay1_ok b ((l ++ [GIns.mk 37 0]) ++ p1) p2 33 s.Num (by simp <;> omega)) (by simp [wb]) rfl (by simp) rfl (by kernel_rfl) (by simp [wb]) (by simp [wb]) (by simp [wb]) (by simp [wb]) (by simp [wb]) ?_
    simp [wb, tick, hk, deedM]
  · refine ACalls.runP [5001, 5002] (by simp) Try.func111 rfl (by simp [Try.f111]) ?_; simp [-condC_bool, Try.f111, hk]
    intro bs
    refine AOps.effD [5001, 5002] rfl (lay0_ok b l n 37 (by omega)) (by simp [wb]) rfl (by simp) rfl (by kernel_rfl) (by simp [wb]) (by simp [wb]) (by simp [wb]) (by simp [wb]) (by simp [wb]) ?_
    simp [-condC_bool, wb, hk]
    refine AOps.effD [5001, 5002] rfl (wA b (l ++ [GIns.mk 37 0]) ⟨by omega, by omega, by simp <;> omega⟩) (by simp [wb]) rfl (by simp) rfl (by kernel_rfl) (by simp [wb]) (by simp [wb]) (by simp [wb]) (by simp [wb]) (by simp [wb]) ?_
    simp [-condC_bool, wb, hk]
    refine AOps.effD [5001, 5002] rfl (lay0_ok b ((l ++ [GIns.mk 37 0]) ++ p1) p2 2 (by simp <;> omega)) (by simp [wb]) rfl (by simp) rfl (by kernel_rfl) (by simp [wb]) (by simp [wb]) (by simp [wb]) (by simp [wb]) (by simp [wb]) ?_
    simp [wb, tick, hk, deedM]
  · refine ACalls.runP [5001, 5002] (by simp) Try.func111 rfl (by simp [Try.f111]) ?_; simp [-condC_bool, Try.f111, hk]
    intro bs
    refine AOps.effD [5001, 5002] rfl (lay0_ok b l n 37 (by omega)) (by simp [wb]) rfl (by simp) rfl (by kernel_rfl) (by simp [wb]) (by simp [wb]) (by simp [wb]) (by simp [wb]) (by simp [wb]) ?_
    simp [-condC_bool, wb, hk]
    refine AOps.effD [5001, 5002] rfl (wA b (l ++ [GIns.mk 37 0]) ⟨by omega, by omega, by simp <;> omega⟩) (by simp [wb]) rfl (by simp) rfl (by kernel_rfl) (by simp [wb]) (by simp [wb]) (by simp [wb]) (by simp [wb]) (by simp [wb]) ?_
    simp [-condC_bool, wb, hk]
    have hbare := bareN_ok 7
    rw [show bareN 7 = 17 by simp [bareN]] at hbare
    refine AOps.pureC rfl (hbare) rfl rfl (by simp) rfl ?_
    simp [-condC_bool, wb, hk]
    refine AOps.effD [5001, 5002] rfl (lay0_ok b ((l ++ [GIns.mk 37 0]) ++ p1) p2 17 (by simp <;> omega)) (by simp [wb]) rfl (by simp) rfl (by kernel_rfl) (by simp [wb]) (by simp [wb]) (by simp [wb]) (by simp [wb]) (by simp [wb]) ?_
    simp [wb, tick, hk, deedM]
  · refine ACalls.runP [5001, 5002] (by simp) Try.func111 rfl (by simp [Try.f111]) ?_; simp [-condC_bool, Try.f111, hk]
    intro bs
    refine AOps.effD [5001, 5002] rfl (lay0_ok b l n 37 (by omega)) (by simp [wb]) rfl (by simp) rfl (by kernel_rfl) (by simp [wb]) (by simp [wb]) (by simp [wb]) (by simp [wb]) (by simp [wb]) ?_
    simp [-condC_bool, wb, hk]
    refine AOps.effD [5001, 5002] rfl (wA b (l ++ [GIns.mk 37 0]) ⟨by omega, by omega, by simp <;> omega⟩) (by simp [wb]) rfl (by simp) rfl (by kernel_rfl) (by simp [wb]) (by simp [wb]) (by simp [wb]) (by simp [wb]) (by simp [wb]) ?_
    simp [-condC_bool, wb, hk]
    have hbare := bareN_ok 8
    rw [show bareN 8 = 18 by simp [bareN]] at hbare
    refine AOps.pureC rfl (hbare) rfl rfl (by simp) rfl ?_
    simp [-condC_bool, wb, hk]
    refine AOps.effD [5001, 5002] rfl (lay0_ok b ((l ++ [GIns.mk 37 0]) ++ p1) p2 18 (by simp <;> omega)) (by simp [wb]) rfl (by simp) rfl (by kernel_rfl) (by simp [wb]) (by simp [wb]) (by simp [wb]) (by simp [wb]) (by simp [wb]) ?_
    simp [wb, tick, hk, deedM]
  · refine ACalls.runP [5001, 5002] (by simp) Try.func111 rfl (by simp [Try.f111]) ?_; simp [-condC_bool, Try.f111, hk]
    intro bs
    refine AOps.effD [5001, 5002] rfl (lay0_ok b l n 37 (by omega)) (by simp [wb]) rfl (by simp) rfl (by kernel_rfl) (by simp [wb]) (by simp [wb]) (by simp [wb]) (by simp [wb]) (by simp [wb]) ?_
    simp [-condC_bool, wb, hk]
    refine AOps.effD [5001, 5002] rfl (wA b (l ++ [GIns.mk 37 0]) ⟨by omega, by omega, by simp <;> omega⟩) (by simp [wb]) rfl (by simp) rfl (by kernel_rfl) (by simp [wb]) (by simp [wb]) (by simp [wb]) (by simp [wb]) (by simp [wb]) ?_
    simp [-condC_bool, wb, hk]
    have hbare := bareN_ok 12
    rw [show bareN 12 = 27 by simp [bareN]] at hbare
    refine AOps.pureC rfl (hbare) rfl rfl (by simp) rfl ?_
    simp [-condC_bool, wb, hk]
    refine AOps.effD [5001, 5002] rfl (lay0_ok b ((l ++ [GIns.mk 37 0]) ++ p1) p2 27 (by simp <;> omega)) (by simp [wb]) rfl (by simp) rfl (by kernel_rfl) (by simp [wb]) (by simp [wb]) (by simp [wb]) (by simp [wb]) (by simp [wb]) ?_
    simp [wb, tick, hk, deedM]
  · refine ACalls.runP [5001, 5002] (by simp) Try.func111 rfl (by simp [Try.f111]) ?_; simp [-condC_bool, Try.f111, hk]
    intro bs
    refine AOps.effD [5001, 5002] rfl (lay0_ok b l n 37 (by omega)) (by simp [wb]) rfl (by simp) rfl (by kernel_rfl) (by simp [wb]) (by simp [wb]) (by simp [wb]) (by simp [wb]) (by simp [wb]) ?_
    simp [-condC_bool, wb, hk]
    refine AOps.effD [5001, 5002] rfl (wA b (l ++ [GIns.mk 37 0]) ⟨by omega, by omega, by simp <;> omega⟩) (by simp [wb]) rfl (by simp) rfl (by kernel_rfl) (by simp [wb]) (by simp [wb]) (by simp [wb]) (by simp [wb]) (by simp [wb]) ?_
    simp [-condC_bool, wb, hk]
    have hbare := bareN_ok 13
    rw [show bareN 13 = 28 by simp [bareN]] at hbare
    refine AOps.pureC rfl (hbare) rfl rfl (by simp) rfl ?_
    simp [-condC_bool, wb, hk]
    refine AOps.effD [5001, 5002] rfl (lay0_ok b ((l ++ [GIns.mk 37 0]) ++ p1) p2 28 (by simp <;> omega)) (by simp [wb]) rfl (by simp) rfl (by kernel_rfl) (by simp [wb]) (by simp [wb]) (by simp [wb]) (by simp [wb]) (by simp [wb]) ?_
    simp [wb, tick, hk, deedM]
  · refine ACalls.runP [5001, 5002] (by simp) Try.func111 rfl (by simp [Try.f111]) ?_; simp [-condC_bool, Try.f111, hk]
    intro bs
    refine AOps.effD [5001, 5002] rfl (lay0_ok b l n 37 (by omega)) (by simp [wb]) rfl (by simp) rfl (by kernel_rfl) (by simp [wb]) (by simp [wb]) (by simp [wb]) (by simp [wb]) (by simp [wb]) ?_
    simp [-condC_bool, wb, hk]
    refine AOps.effD [5001, 5002] rfl (wA b (l ++ [GIns.mk 37 0]) ⟨by omega, by omega, by simp <;> omega⟩) (by simp [wb]) rfl (by simp) rfl (by kernel_rfl) (by simp [wb]) (by simp [wb]) (by simp [wb]) (by simp [wb]) (by simp [wb]) ?_
    simp [-condC_bool, wb, hk]
    have hbare := bareN_ok 14
    rw [show bareN 14 = 29 by simp [bareN]] at hbare
    refine AOps.pureC rfl (hbare) rfl rfl (by simp) rfl ?_
    simp [-condC_bool, wb, hk]
    refine AOps.effD [5001, 5002] rfl (lay0_ok b ((l ++ [GIns.mk 37 0]) ++ p1) p2 29 (by simp <;> omega)) (by simp [wb]) rfl (by simp) rfl (by kernel_rfl) (by simp [wb]) (by simp [wb]) (by simp [wb]) (by simp [wb]) (by simp [wb]) ?_
    simp [wb, tick, hk, deedM]
  · refine ACalls.runP [5001, 5002] (by simp) Try.func111 rfl (by simp [Try.f111]) ?_; simp [-condC_bool, Try.f111, hk]
    intro bs
    refine AOps.effD [5001, 5002] rfl (lay0_ok b l n 37 (by omega)) (by simp [wb]) rfl (by simp) rfl (by kernel_rfl) (by simp [wb]) (by simp [wb]) (by simp [wb]) (by simp [wb]) (by simp [wb]) ?_
    simp [-condC_bool, wb, hk]
    refine AOps.effD [5001, 5002] rfl (wA b (l ++ [GIns.mk 37 0]) ⟨by omega, by omega, by simp <;> omega⟩) (by simp [wb]) rfl (by simp) rfl (by kernel_rfl) (by simp [wb]) (by simp [wb]) (by simp [wb]) (by simp [wb]) (by simp [wb]) ?_
    simp [-condC_bool, wb, hk]
    have hbare := bareN_ok 15
    rw [show bareN 15 = 30 by simp [bareN]] at hbare
    refine AOps.pureC rfl (hbare) rfl rfl (by simp) rfl ?_
    simp [-condC_bool, wb, hk]
    refine AOps.effD [5001, 5002] rfl (lay0_ok b ((l ++ [GIns.mk 37 0]) ++ p1) p2 30 (by simp <;> omega)) (by simp [wb]) rfl (by simp) rfl (by kernel_rfl) (by simp [wb]) (by simp [wb]) (by simp [wb]) (by simp [wb]) (by simp [wb]) ?_
    simp [wb, tick, hk, deedM]
  · refine ACalls.runP [5001, 5002] (by simp) Try.func111 rfl (by simp [Try.f111]) ?_; simp [-condC_bool, Try.f111, hk]
    intro bs
    refine AOps.effD [5001, 5002] rfl (lay0_ok b l n 37 (by omega)) (by simp [wb]) rfl (by simp) rfl (by kernel_rfl) (by simp [wb]) (by simp [wb]) (by simp [wb]) (by simp [wb]) (by simp [wb]) ?_
    simp [-condC_bool, wb, hk]
    refine AOps.effD [5001, 5002] rfl (wA b (l ++ [GIns.mk 37 0]) ⟨by omega, by omega, by simp <;> omega⟩) (by simp [wb]) rfl (by simp) rfl (by kernel_rfl) (by simp [wb]) (by simp [wb]) (by simp [wb]) (by simp [wb]) (by simp [wb]) ?_
    simp [-condC_bool, wb, hk]
    have hbare := bareN_ok 16
    rw [show bareN 16 = 31 by simp [bareN]] at hbare
    refine AOps.pureC rfl (hbare) rfl rfl (by simp) rfl ?_
    simp [-condC_bool, wb, hk]
    refine AOps.effD [5001, 5002] rfl (lay0_ok b ((l ++ [GIns.mk 37 0]) ++ p1) p2 31 (by simp <;> omega)) (by simp [wb]) rfl (by simp) rfl (by kernel_rfl) (by simp [wb]) (by simp [wb]) (by simp [wb]) (by simp [wb]) (by simp [wb]) ?_
    simp [wb, tick, hk, deedM]
  · refine ACalls.runP [5001, 5002] (by simp) Try.func111 rfl (by simp [Try.f111]) ?_; simp [-condC_bool, Try.f111, hk]
    intro bs
    refine AOps.effD [5001, 5002] rfl (lay0_ok b l n 37 (by omega)) (by simp [wb]) rfl (by simp) rfl (by kernel_rfl) (by simp [wb]) (by simp [wb]) (by simp [wb]) (by simp [wb]) (by simp [wb]) ?_
    simp [-condC_bool, wb, hk]
    refine AOps.effD [5001, 5002] rfl (wA b (l ++ [GIns.mk 37 0]) ⟨by omega, by omega, by simp <;> omega⟩) (by simp [wb]) rfl (by simp) rfl (by kernel_rfl) (by simp [wb]) (by simp [wb]) (by simp [wb]) (by simp [wb]) (by simp [wb]) ?_
    simp [-condC_bool, wb, hk]
    have hbare := bareN_ok 20
    rw [show bareN 20 = 34 by simp [bareN]] at hbare
    refine AOps.pureC rfl (hbare) rfl rfl (by simp) rfl ?_
    simp [-condC_bool, wb, hk]
    refine AOps.effD [5001, 5002] rfl (lay0_ok b ((l ++ [GIns.mk 37 0]) ++ p1) p2 34 (by simp <;> omega)) (by simp [wb]) rfl (by simp) rfl (by kernel_rfl) (by simp [wb]) (by simp [wb]) (by simp [wb]) (by simp [wb]) (by simp [wb]) ?_
    simp [wb, tick, hk, deedM]
  · refine ACalls.runP [5001, 5002] (by simp) Try.func111 rfl (by simp [Try.f111]) ?_; simp [-condC_bool, Try.f111, hk]
    intro bs
    refine AOps.effD [5001, 5002] rfl (lay0_ok b l n 37 (by omega)) (by simp [wb]) rfl (by simp) rfl (by kernel_rfl) (by simp [wb]) (by simp [wb]) (by simp [wb]) (by simp [wb]) (by simp [wb]) ?_
    simp [-condC_bool, wb, hk]
    refine AOps.effD [5001, 5002] rfl (wA b (l ++ [GIns.mk 37 0]) ⟨by omega, by omega, by simp <;> omega⟩) (by simp [wb]) rfl (by simp) rfl (by kernel_rfl) (by simp [wb]) (by simp [wb]) (by simp [wb]) (by simp [wb]) (by simp [wb]) ?_
    simp [-condC_bool, wb, hk]
    have hbare := bareN_ok 21
    rw [show bareN 21 = 35 by simp [bareN]] at hbare
    refine AOps.pureC rfl (hbare) rfl rfl (by simp) rfl ?_
    simp [-condC_bool, wb, hk]
    refine AOps.effD [5001, 5002] rfl (lay0_ok b ((l ++ [GIns.mk 37 0]) ++ p1) p2 35 (by simp <;> omega)) (by simp [wb]) rfl (by simp) rfl (by kernel_rfl) (by simp [wb]) (by simp [wb]) (by simp [wb]) (by simp [wb]) (by simp [wb]) ?_
    simp [wb, tick, hk, deedM]
  · refine ACalls.runP [5001, 5002] (by simp) Try.func111 rfl (by simp [Try.f111]) ?_; simp [-condC_bool, Try.f111, hk]
    intro bs
    refine AOps.effD [5001, 5002] rfl (lay0_ok b l n 37 (by omega)) (by simp [wb]) rfl (by simp) rfl (by kernel_rfl) (by simp [wb]) (by simp [wb]) (by simp [wb]) (by simp [wb]) (by simp [wb]) ?_
    simp [-condC_bool, wb, hk]
    refine AOps.effD [5001, 5002] rfl (wA b (l ++ [GIns.mk 37 0]) ⟨by omega, by omega, by simp <;> omega⟩) (by simp [wb]) rfl (by simp) rfl (by kernel_rfl) (by simp [wb]) (by simp [wb]) (by simp [wb]) (by simp [wb]) (by simp [wb]) ?_
    simp [-condC_bool, wb, hk]
    have hbare := bareN_ok 22
    rw [show bareN 22 = 36 by simp [bareN]] at hbare
    refine AOps.pureC rfl (hbare) rfl rfl (by simp) rfl ?_
    simp [-condC_bool, wb, hk]
    refine AOps.effD [5001, 5002] rfl (lay0_ok b ((l ++ [GIns.mk 37 0]) ++ p1) p2 36 (by simp <;> omega)) (by simp [wb]) rfl (by simp) rfl (by kernel_rfl) (by simp [wb]) (by simp [wb]) (by simp [wb]) (by simp [wb]) (by simp [wb]) ?_
    simp [wb, tick, hk, deedM]

theorem wSay_of (s : GStmt) (hk : s.Kind = 1) (hlen : s.Args.length ≤ 1000000000000000) (hX : ∀ x ∈ s.Args, x.Kind ≠ 19 → (if x.Kind = 13 then WEs x.Args else WExpr x)) : WSt 115 s := by
  intro b l n hn
  rw [genS_say s n hk]
  have hz := szS_eq s
  unfold WCalls wb
  refine ACalls.runP [5001, 5002] (by simp) Try.func115 rfl (by simp [Try.f115]) ?_; simp [-condC_bool, Try.f115]
  intro bs
  refine AOps.effD [5001, 5002] rfl (lay0_ok b l n 37 (by omega)) (by simp [wb]) rfl (by simp) rfl (by kernel_rfl) (by simp [wb]) (by simp [wb]) (by simp [wb]) (by simp [wb]) (by simp [wb]) ?_
  simp [-condC_bool, wb]
  refine AWP.loopL [0, 9, 10, 11] s.Args (fun pre => [(11, .d (.v (.int .i64 pre.length)))]) (fun pre => [(5001, .box (b + 1) 97 [.rv 5002, .d (.v (.int .i64 (genSay pre n).2))]), (5002, .row 64 2 (dd ((l ++ [GIns.mk 37 0] ++ (genSay pre n).1).map GIns.enc)))]) (fun _ => True) (by rfl) (by omega) (by simp [genSay]) ?_ ?_
  · rintro pre x post hsp - hlt hge a4
    have hx := hX x (by rw [hsp]; simp)
    have hsn := genSay_snoc pre x n
    have hsz : szEs pre + szE x ≤ szEs s.Args := by rw [hsp, szEs_app]; simp only [szEs]; omega
    have b1 := genSay_bd pre n
    have b2 := sayI_bd x (genSay pre n).2
    have hzx := szE_eq x
    clear hsp hX
    generalize genSay pre n = k at *
    obtain ⟨k1, k2⟩ := k
    simp only at hsn b1 b2 ⊢
    by_cases h19 : x.Kind = 19
    · have hI : sayI x k2 = ([⟨21, x.Num⟩], k2) := by simp [sayI, h19]
      rw [hI] at hsn
      simp [-condC_bool, hlt, hge, h19]
      intro bs2
      refine AOps.weaken (Wk.freeze 27 (ys := encI [x.Num]) rfl) ?_
      simp [-condC_bool]
      refine AOps.effD [5001, 5002] rfl (lay1_ok b (l ++ [GIns.mk 37 0] ++ k1) k2 21 x.Num (by simp <;> omega)) (by simp [wb]) rfl (by simp) rfl (by kernel_rfl) (by simp [wb]) (by simp [wb]) (by simp [wb]) (by simp [wb]) (by simp [wb]) ?_
      simp [wb, hsn, a4]
    · have hx := hx h19
      have e19 : (x.Kind == 19) = false := by simp [h19]
      by_cases h13 : x.Kind = 13
      · rw [if_pos h13] at hx
        have hI : sayI x k2 = ((genEs x.Args k2).1 ++ [⟨23, 0⟩], (genEs x.Args k2).2) := by simp [sayI, h13]
        have hC := hx b (l ++ [GIns.mk 37 0] ++ k1) k2 ⟨by omega, by omega, by simp <;> omega⟩
        rw [hI] at hsn
        have b3 := genEs_bd' x.Args k2
        generalize genEs x.Args k2 = q at *
        obtain ⟨q1, q2⟩ := q
        simp only at hsn hC b3
        unfold WCalls wb at hC
        simp [-condC_bool, hlt, hge, h13]
        intro bs2
        refine AOps.effD [5001, 5002] rfl (hC) (by simp [wb]) rfl (by simp) rfl (by kernel_rfl) (by simp [wb]) (by simp [wb]) (by simp [wb]) (by simp [wb]) (by simp [wb]) ?_
        simp [-condC_bool, wb]
        refine AOps.effD [5001, 5002] rfl (lay0_ok b (l ++ [GIns.mk 37 0] ++ k1 ++ q1) q2 23 (by simp <;> omega)) (by simp [wb]) rfl (by simp) rfl (by kernel_rfl) (by simp [wb]) (by simp [wb]) (by simp [wb]) (by simp [wb]) (by simp [wb]) ?_
        simp [wb, hsn, a4]
      · rw [if_neg h13] at hx
        have e13 : (x.Kind == 13) = false := by simp [h13]
        have hI : sayI x k2 = ((genE x k2).1 ++ [⟨22, 0⟩], (genE x k2).2) := by simp [sayI, h13, h19]
        have hC := hx b (l ++ [GIns.mk 37 0] ++ k1) k2 ⟨by omega, by omega, by simp <;> omega⟩
        rw [hI] at hsn
        have b3 := genE_bd x k2
        generalize genE x k2 = q at *
        obtain ⟨q1, q2⟩ := q
        simp only at hsn hC b3
        unfold WCalls wb at hC
        simp [-condC_bool, hlt, hge, e19, e13]
        intro bs2
        refine AOps.effD [5001, 5002] rfl (hC) (by simp [wb]) rfl (by simp) rfl (by kernel_rfl) (by simp [wb]) (by simp [wb]) (by simp [wb]) (by simp [wb]) (by simp [wb]) ?_
        simp [-condC_bool, wb]
        refine AOps.effD [5001, 5002] rfl (lay0_ok b (l ++ [GIns.mk 37 0] ++ k1 ++ q1) q2 22 (by simp <;> omega)) (by simp [wb]) rfl (by simp) rfl (by kernel_rfl) (by simp [wb]) (by simp [wb]) (by simp [wb]) (by simp [wb]) (by simp [wb]) ?_
        simp [wb, hsn, a4]
  · intro _
    simp [tick]
end Go.Ab
