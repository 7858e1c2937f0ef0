/-
  The texts Gst8 Gst9 Glaw2 Gtick Glaw3 Gmay Gmay2, one behind the other.
-/
import Derived.Test.YticchnalleplcaaMg4
set_option linter.unusedSimpArgs false
set_option linter.unusedVariables false
namespace Go.Ab
open Go.Proofs
set_option maxRecDepth 40000
set_option maxHeartbeats 4000000

def WEs (es : List GExpr) : Prop := ∀ (b : Nat) (l : List GIns) (n : Int), 0 ≤ n ∧ n + 2 * szEs es ≤ 1000000000 ∧ l.length + 6 * szEs es ≤ 100000000000 →
  WCalls 94 [.d (.sl (es.map GExpr.enc))] b l n (.tup []) (l ++ (genEs es n).1) (genEs es n).2
def WBlock (ss : List GStmt) : Prop := ∀ (b : Nat) (l : List GIns) (n : Int), 0 ≤ n ∧ n + 2 * szB ss ≤ 1000000000 ∧ l.length + 16 * szB ss ≤ 100000000000 →
  WCalls 63 [.d (.sl (ss.map GStmt.enc))] b l n (.tup []) (l ++ (genB ss n).1) (genB ss n).2
def WSt (f : FuncId) (s : GStmt) : Prop := ∀ (b : Nat) (l : List GIns) (n : Int), 0 ≤ n ∧ n + 2 * szS s ≤ 1000000000 ∧ l.length + 16 * szS s ≤ 100000000000 →
  WCalls f [.agg (s.enc.map .d)] b l n (.tup []) (l ++ (genS s n).1) (genS s n).2

theorem wIf0_of (s : GStmt) (hA : WEs s.Args) (hB : WBlock s.Body) (hk : s.Kind = 9) (he : s.Else = []) : WSt 112 s := by
  intro b l n hn
  rw [genS_if0 s n hk he]
  have hz := szS_eq s
  have b1 := genEs_bd' s.Args (n + 1)
  have b2 := genB_bd' s.Body (genEs s.Args (n + 1)).2
  have wA := fun b l h => hA b l (n + 1) h
  have wB := fun b l h => hB b l (genEs s.Args (n + 1)).2 h
  generalize genEs s.Args (n + 1) = p at *
  obtain ⟨p1, p2⟩ := p
  simp only at wB b2
  generalize genB s.Body p2 = q at *
  obtain ⟨q1, q2⟩ := q
  simp only at b1 wA b2 wB ⊢
  have a1 : inR .i64 (n + 1) := by rw [inR_i64]; omega
  have hlen : s.Else.length = 0 := by simp [he]
  unfold WCalls wb at *
  refine ACalls.runP [5001, 5002] (by simp) Try.func112 rfl (by simp [Try.f112]) ?_; simp [-condC_bool, Try.f112]
  intro bs
  refine AOps.effD [5001, 5002] rfl (wlabel_ok b l n (by omega)) (by simp [wb]) rfl (by simp) rfl (by kernel_rfl) (by simp [wb]) (by simp [wb]) (by simp [wb]) (by simp [wb]) (by simp [wb]) ?_
  simp [-condC_bool, wb, hlen, a1, he]
  refine AOps.effD [5001, 5002] rfl (lay0_ok b l (n + 1) 37 (by omega)) (by simp [wb]) rfl (by simp) rfl (by kernel_rfl) (by simp [wb]) (by simp [wb]) (by simp [wb]) (by simp [wb]) (by simp [wb]) ?_
  simp [-condC_bool, wb, hlen, a1, he]
  refine AOps.effD [5001, 5002] rfl (wA b (l ++ [GIns.mk 37 0]) ⟨by omega, by omega, by simp <;> omega⟩) (by simp [wb]) rfl (by simp) rfl (by kernel_rfl) (by simp [wb]) (by simp [wb]) (by simp [wb]) (by simp [wb]) (by simp [wb]) ?_
  simp [-condC_bool, wb, hlen, a1, he]
  refine AOps.weaken (Wk.freeze 23 (ys := encI [n]) rfl) ?_
  simp [-condC_bool]
  refine AOps.effD [5001, 5002] rfl (lay1_ok b ((l ++ [GIns.mk 37 0]) ++ p1) p2 25 n (by simp <;> omega)) (by simp [wb]) rfl (by simp) rfl (by kernel_rfl) (by simp [wb]) (by simp [wb]) (by simp [wb]) (by simp [wb]) (by simp [wb]) ?_
  simp [-condC_bool, wb, hlen, a1, he]
  refine AOps.effD [5001, 5002] rfl (wB b (((l ++ [GIns.mk 37 0]) ++ p1) ++ [GIns.mk 25 n]) ⟨by omega, by omega, by simp <;> omega⟩) (by simp [wb]) rfl (by simp) rfl (by kernel_rfl) (by simp [wb]) (by simp [wb]) (by simp [wb]) (by simp [wb]) (by simp [wb]) ?_
  simp [-condC_bool, wb, hlen, a1, he]
  refine AOps.weaken (Wk.freeze 47 (ys := encI [n]) rfl) ?_
  simp [-condC_bool]
  refine AOps.effD [5001, 5002] rfl (lay1_ok b ((((l ++ [GIns.mk 37 0]) ++ p1) ++ [GIns.mk 25 n]) ++ q1) q2 38 n (by simp <;> omega)) (by simp [wb]) rfl (by simp) rfl (by kernel_rfl) (by simp [wb]) (by simp [wb]) (by simp [wb]) (by simp [wb]) (by simp [wb]) ?_
  simp [wb, tick]

theorem wIf1_of (s : GStmt) (hA : WEs s.Args) (hB : WBlock s.Body) (hE : WBlock s.Else) (hk : s.Kind = 9) (he : s.Else ≠ []) : WSt 112 s := by
  intro b l n hn
  rw [genS_if1 s n hk he]
  have hz := szS_eq s
  have b1 := genEs_bd' s.Args (n + 2)
  have b2 := genB_bd' s.Body (genEs s.Args (n + 2)).2
  have b3 := genB_bd' s.Else (genB s.Body (genEs s.Args (n + 2)).2).2
  have wA := fun b l h => hA b l (n + 2) h
  have wB := fun b l h => hB b l (genEs s.Args (n + 2)).2 h
  have wE := fun b l h => hE b l (genB s.Body (genEs s.Args (n + 2)).2).2 h
  generalize genEs s.Args (n + 2) = p at *
  obtain ⟨p1, p2⟩ := p
  simp only at wB b2 wE b3
  generalize genB s.Body p2 = q at *
  obtain ⟨q1, q2⟩ := q
  simp only at wE b3
  generalize genB s.Else q2 = r at *
  obtain ⟨r1, r2⟩ := r
  simp only at b1 wA b2 wB b3 wE ⊢
  have a1 : inR .i64 (n + 1) := by rw [inR_i64]; omega
  have hlen : 0 < s.Else.length := by
    cases h : s.Else with | nil => exact (he h).elim | cons a l => simp
  unfold WCalls wb at *
  refine ACalls.runP [5001, 5002] (by simp) Try.func112 rfl (by simp [Try.f112]) ?_; simp [-condC_bool, Try.f112]
  intro bs
  refine AOps.effD [5001, 5002] rfl (wlabel_ok b l n (by omega)) (by simp [wb]) rfl (by simp) rfl (by kernel_rfl) (by simp [wb]) (by simp [wb]) (by simp [wb]) (by simp [wb]) (by simp [wb]) ?_
  simp [-condC_bool, wb, hlen, a1]
  have hl2 := wlabel_ok b l (n + 1) (by omega)
  rw [show n + 1 + 1 = n + 2 by omega] at hl2
  unfold WCalls wb at hl2
  refine AOps.effD [5001, 5002] rfl (hl2) (by simp [wb]) rfl (by simp) rfl (by kernel_rfl) (by simp [wb]) (by simp [wb]) (by simp [wb]) (by simp [wb]) (by simp [wb]) ?_
  simp [-condC_bool, wb, hlen, a1]
  refine AOps.effD [5001, 5002] rfl (lay0_ok b l (n + 2) 37 (by omega)) (by simp [wb]) rfl (by simp) rfl (by kernel_rfl) (by simp [wb]) (by simp [wb]) (by simp [wb]) (by simp [wb]) (by simp [wb]) ?_
  simp [-condC_bool, wb, hlen, a1]
  refine AOps.effD [5001, 5002] rfl (wA b (l ++ [GIns.mk 37 0]) ⟨by omega, by omega, by simp <;> omega⟩) (by simp [wb]) rfl (by simp) rfl (by kernel_rfl) (by simp [wb]) (by simp [wb]) (by simp [wb]) (by simp [wb]) (by simp [wb]) ?_
  simp [-condC_bool, wb, hlen, a1]
  refine AOps.weaken (Wk.freeze 23 (ys := encI [n]) rfl) ?_
  simp [-condC_bool]
  refine AOps.effD [5001, 5002] rfl (lay1_ok b ((l ++ [GIns.mk 37 0]) ++ p1) p2 25 n (by simp <;> omega)) (by simp [wb]) rfl (by simp) rfl (by kernel_rfl) (by simp [wb]) (by simp [wb]) (by simp [wb]) (by simp [wb]) (by simp [wb]) ?_
  simp [-condC_bool, wb, hlen, a1]
  refine AOps.effD [5001, 5002] rfl (wB b (((l ++ [GIns.mk 37 0]) ++ p1) ++ [GIns.mk 25 n]) ⟨by omega, by omega, by simp <;> omega⟩) (by simp [wb]) rfl (by simp) rfl (by kernel_rfl) (by simp [wb]) (by simp [wb]) (by simp [wb]) (by simp [wb]) (by simp [wb]) ?_
  simp [-condC_bool, wb, hlen, a1]
  refine AOps.weaken (Wk.freeze 35 (ys := encI [(n + 1)]) rfl) ?_
  simp [-condC_bool]
  refine AOps.effD [5001, 5002] rfl (lay1_ok b ((((l ++ [GIns.mk 37 0]) ++ p1) ++ [GIns.mk 25 n]) ++ q1) q2 24 (n + 1) (by simp <;> omega)) (by simp [wb]) rfl (by simp) rfl (by kernel_rfl) (by simp [wb]) (by simp [wb]) (by simp [wb]) (by simp [wb]) (by simp [wb]) ?_
  simp [-condC_bool, wb, hlen, a1]
  refine AOps.weaken (Wk.freeze 39 (ys := encI [n]) rfl) ?_
  simp [-condC_bool]
  refine AOps.effD [5001, 5002] rfl (lay1_ok b (((((l ++ [GIns.mk 37 0]) ++ p1) ++ [GIns.mk 25 n]) ++ q1) ++ [GIns.mk 24 (n + 1)]) q2 38 n (by simp <;> omega)) (by simp [wb]) rfl (by simp) rfl (by kernel_rfl) (by simp [wb]) (by simp [wb]) (by simp [wb]) (by simp [wb]) (by simp [wb]) ?_
  simp [-condC_bool, wb, hlen, a1]
  refine AOps.effD [5001, 5002] rfl (wE b ((((((l ++ [GIns.mk 37 0]) ++ p1) ++ [GIns.mk 25 n]) ++ q1) ++ [GIns.mk 24 (n + 1)]) ++ [GIns.mk 38 n]) ⟨by omega, by omega, by simp <;> omega⟩) (by simp [wb]) rfl (by simp) rfl (by kernel_rfl) (by simp [wb]) (by simp [wb]) (by simp [wb]) (by simp [wb]) (by simp [wb]) ?_
  simp [-condC_bool, wb, hlen, a1]
  refine AOps.weaken (Wk.freeze 47 (ys := encI [(n + 1)]) rfl) ?_
  simp [-condC_bool]
  refine AOps.effD [5001, 5002] rfl (lay1_ok b (((((((l ++ [GIns.mk 37 0]) ++ p1) ++ [GIns.mk 25 n]) ++ q1) ++ [GIns.mk 24 (n + 1)]) ++ [GIns.mk 38 n]) ++ r1) r2 38 (n + 1) (by simp <;> omega)) (by simp [wb]) rfl (by simp) rfl (by kernel_rfl) (by simp [wb]) (by simp [wb]) (by simp [wb]) (by simp [wb]) (by simp [wb]) ?_
  simp [wb, tick]

theorem wWhile_of (s : GStmt) (hA : WEs s.Args) (hB : WBlock s.Body) (hk : s.Kind = 10) : WSt 113 s := by
  intro b l n hn
  rw [genS_while s n hk]
  have hz := szS_eq s
  have b1 := genEs_bd' s.Args (n + 2)
  have b2 := genB_bd' s.Body (genEs s.Args (n + 2)).2
  have wA := fun b l h => hA b l (n + 2) h
  have wB := fun b l h => hB b l (genEs s.Args (n + 2)).2 h
  generalize genEs s.Args (n + 2) = p at *
  obtain ⟨p1, p2⟩ := p
  simp only at wB b2
  generalize genB s.Body p2 = q at *
  obtain ⟨q1, q2⟩ := q
  simp only at b1 wA b2 wB ⊢
  have a1 : inR .i64 (n + 1) := by rw [inR_i64]; omega
  unfold WCalls wb at *
  refine ACalls.runP [5001, 5002] (by simp) Try.func113 rfl (by simp [Try.f113]) ?_; simp [-condC_bool, Try.f113]
  intro bs
  refine AOps.effD [5001, 5002] rfl (two_ok b l n (by omega)) (by simp [wb]) rfl (by simp) rfl (by kernel_rfl) (by simp [wb]) (by simp [wb]) (by simp [wb]) (by simp [wb]) (by simp [wb]) ?_
  simp [-condC_bool, wb, a1]
  refine AOps.weaken (Wk.freeze 13 (ys := encI [n]) rfl) ?_
  simp [-condC_bool]
  refine AOps.effD [5001, 5002] rfl (lay1_ok b l (n + 2) 38 n (by omega)) (by simp [wb]) rfl (by simp) rfl (by kernel_rfl) (by simp [wb]) (by simp [wb]) (by simp [wb]) (by simp [wb]) (by simp [wb]) ?_
  simp [-condC_bool, wb, a1]
  refine AOps.effD [5001, 5002] rfl (lay0_ok b (l ++ [GIns.mk 38 n]) (n + 2) 37 (by simp <;> omega)) (by simp [wb]) rfl (by simp) rfl (by kernel_rfl) (by simp [wb]) (by simp [wb]) (by simp [wb]) (by simp [wb]) (by simp [wb]) ?_
  simp [-condC_bool, wb, a1]
  refine AOps.effD [5001, 5002] rfl (wA b ((l ++ [GIns.mk 38 n]) ++ [GIns.mk 37 0]) ⟨by omega, by omega, by simp <;> omega⟩) (by simp [wb]) rfl (by simp) rfl (by kernel_rfl) (by simp [wb]) (by simp [wb]) (by simp [wb]) (by simp [wb]) (by simp [wb]) ?_
  simp [-condC_bool, wb, a1]
  refine AOps.weaken (Wk.freeze 23 (ys := encI [(n + 1)]) rfl) ?_
  simp [-condC_bool]
  refine AOps.effD [5001, 5002] rfl (lay1_ok b (((l ++ [GIns.mk 38 n]) ++ [GIns.mk 37 0]) ++ p1) p2 25 (n + 1) (by simp <;> omega)) (by simp [wb]) rfl (by simp) rfl (by kernel_rfl) (by simp [wb]) (by simp [wb]) (by simp [wb]) (by simp [wb]) (by simp [wb]) ?_
  simp [-condC_bool, wb, a1]
  refine AOps.effD [5001, 5002] rfl (wB b ((((l ++ [GIns.mk 38 n]) ++ [GIns.mk 37 0]) ++ p1) ++ [GIns.mk 25 (n + 1)]) ⟨by omega, by omega, by simp <;> omega⟩) (by simp [wb]) rfl (by simp) rfl (by kernel_rfl) (by simp [wb]) (by simp [wb]) (by simp [wb]) (by simp [wb]) (by simp [wb]) ?_
  simp [-condC_bool, wb, a1]
  refine AOps.weaken (Wk.freeze 31 (ys := encI [n]) rfl) ?_
  simp [-condC_bool]
  refine AOps.effD [5001, 5002] rfl (lay1_ok b (((((l ++ [GIns.mk 38 n]) ++ [GIns.mk 37 0]) ++ p1) ++ [GIns.mk 25 (n + 1)]) ++ q1) q2 24 n (by simp <;> omega)) (by simp [wb]) rfl (by simp) rfl (by kernel_rfl) (by simp [wb]) (by simp [wb]) (by simp [wb]) (by simp [wb]) (by simp [wb]) ?_
  simp [-condC_bool, wb, a1]
  refine AOps.weaken (Wk.freeze 35 (ys := encI [(n + 1)]) rfl) ?_
  simp [-condC_bool]
  refine AOps.effD [5001, 5002] rfl (lay1_ok b ((((((l ++ [GIns.mk 38 n]) ++ [GIns.mk 37 0]) ++ p1) ++ [GIns.mk 25 (n + 1)]) ++ q1) ++ [GIns.mk 24 n]) q2 38 (n + 1) (by simp <;> omega)) (by simp [wb]) rfl (by simp) rfl (by kernel_rfl) (by simp [wb]) (by simp [wb]) (by simp [wb]) (by simp [wb]) (by simp [wb]) ?_
  simp [wb, tick]

theorem wEach_of (s : GStmt) (hA : WEs s.Args) (hB : WBlock s.Body) (hk : s.Kind = 11) (hnum : inR .i64 (s.Num + 1)) : WSt 114 s := by
  intro b l n hn
  rw [genS_each s n hk]
  have hz := szS_eq s
  have b1 := genEs_bd' s.Args (n + 2)
  have b2 := genB_bd' s.Body (genEs s.Args (n + 2)).2
  have wA := fun b l h => hA b l (n + 2) h
  have wB := fun b l h => hB b l (genEs s.Args (n + 2)).2 h
  generalize genEs s.Args (n + 2) = p at *
  obtain ⟨p1, p2⟩ := p
  simp only at wB b2
  generalize genB s.Body p2 = q at *
  obtain ⟨q1, q2⟩ := q
  simp only at b1 wA b2 wB ⊢
  have a1 : inR .i64 (n + 1) := by rw [inR_i64]; omega
  unfold WCalls wb at *
  refine ACalls.runP [5001, 5002] (by simp) Try.func114 rfl (by simp [Try.f114]) ?_; simp [-condC_bool, Try.f114]
  intro bs
  refine AOps.effD [5001, 5002] rfl (two_ok b l n (by omega)) (by simp [wb]) rfl (by simp) rfl (by kernel_rfl) (by simp [wb]) (by simp [wb]) (by simp [wb]) (by simp [wb]) (by simp [wb]) ?_
  simp [-condC_bool, wb, a1, hnum]
  refine AOps.effD [5001, 5002] rfl (lay0_ok b l (n + 2) 37 (by omega)) (by simp [wb]) rfl (by simp) rfl (by kernel_rfl) (by simp [wb]) (by simp [wb]) (by simp [wb]) (by simp [wb]) (by simp [wb]) ?_
  simp [-condC_bool, wb, a1, hnum]
  refine AOps.effD [5001, 5002] rfl (wA b (l ++ [GIns.mk 37 0]) ⟨by omega, by omega, by simp <;> omega⟩) (by simp [wb]) rfl (by simp) rfl (by kernel_rfl) (by simp [wb]) (by simp [wb]) (by simp [wb]) (by simp [wb]) (by simp [wb]) ?_
  simp [-condC_bool, wb, a1, hnum]
  refine AOps.weaken (Wk.freeze 18 (ys := encI [2]) rfl) ?_
  simp [-condC_bool]
  refine AOps.effD [5001, 5002] rfl (lay1_ok b ((l ++ [GIns.mk 37 0]) ++ p1) p2 19 2 (by simp <;> omega)) (by simp [wb]) rfl (by simp) rfl (by kernel_rfl) (by simp [wb]) (by simp [wb]) (by simp [wb]) (by simp [wb]) (by simp [wb]) ?_
  simp [-condC_bool, wb, a1, hnum]
  refine AOps.weaken (Wk.freeze 23 (ys := encI [s.Num]) rfl) ?_
  simp [-condC_bool]
  refine AOps.effD [5001, 5002] rfl (lay1_ok b (((l ++ [GIns.mk 37 0]) ++ p1) ++ [GIns.mk 19 2]) p2 6 s.Num (by simp <;> omega)) (by simp [wb]) rfl (by simp) rfl (by kernel_rfl) (by simp [wb]) (by simp [wb]) (by simp [wb]) (by simp [wb]) (by simp [wb]) ?_
  simp [-condC_bool, wb, a1, hnum]
  refine AOps.weaken (Wk.freeze 27 (ys := encI [n]) rfl) ?_
  simp [-condC_bool]
  refine AOps.effD [5001, 5002] rfl (lay1_ok b ((((l ++ [GIns.mk 37 0]) ++ p1) ++ [GIns.mk 19 2]) ++ [GIns.mk 6 s.Num]) p2 38 n (by simp <;> omega)) (by simp [wb]) rfl (by simp) rfl (by kernel_rfl) (by simp [wb]) (by simp [wb]) (by simp [wb]) (by simp [wb]) (by simp [wb]) ?_
  simp [-condC_bool, wb, a1, hnum]
  refine AOps.weaken (Wk.freeze 32 (ys := encI [s.Num]) rfl) ?_
  simp [-condC_bool]
  refine AOps.effD [5001, 5002] rfl (lay1_ok b (((((l ++ [GIns.mk 37 0]) ++ p1) ++ [GIns.mk 19 2]) ++ [GIns.mk 6 s.Num]) ++ [GIns.mk 38 n]) p2 5 s.Num (by simp <;> omega)) (by simp [wb]) rfl (by simp) rfl (by kernel_rfl) (by simp [wb]) (by simp [wb]) (by simp [wb]) (by simp [wb]) (by simp [wb]) ?_
  simp [-condC_bool, wb, a1, hnum]
  refine AOps.weaken (Wk.freeze 36 (ys := encI [(n + 1)]) rfl) ?_
  simp [-condC_bool]
  refine AOps.effD [5001, 5002] rfl (lay1_ok b ((((((l ++ [GIns.mk 37 0]) ++ p1) ++ [GIns.mk 19 2]) ++ [GIns.mk 6 s.Num]) ++ [GIns.mk 38 n]) ++ [GIns.mk 5 s.Num]) p2 25 (n + 1) (by simp <;> omega)) (by simp [wb]) rfl (by simp) rfl (by kernel_rfl) (by simp [wb]) (by simp [wb]) (by simp [wb]) (by simp [wb]) (by simp [wb]) ?_
  simp [-condC_bool, wb, a1, hnum]
  refine AOps.effD [5001, 5002] rfl (lay0_ok b (((((((l ++ [GIns.mk 37 0]) ++ p1) ++ [GIns.mk 19 2]) ++ [GIns.mk 6 s.Num]) ++ [GIns.mk 38 n]) ++ [GIns.mk 5 s.Num]) ++ [GIns.mk 25 (n + 1)]) p2 37 (by simp <;> omega)) (by simp [wb]) rfl (by simp) rfl (by kernel_rfl) (by simp [wb]) (by simp [wb]) (by simp [wb]) (by simp [wb]) (by simp [wb]) ?_
  simp [-condC_bool, wb, a1, hnum]
  refine AOps.weaken (Wk.freeze 43 (ys := encI [s.Num]) rfl) ?_
  simp [-condC_bool]
  refine AOps.effD [5001, 5002] rfl (lay1_ok b ((((((((l ++ [GIns.mk 37 0]) ++ p1) ++ [GIns.mk 19 2]) ++ [GIns.mk 6 s.Num]) ++ [GIns.mk 38 n]) ++ [GIns.mk 5 s.Num]) ++ [GIns.mk 25 (n + 1)]) ++ [GIns.mk 37 0]) p2 5 s.Num (by simp <;> omega)) (by simp [wb]) rfl (by simp) rfl (by kernel_rfl) (by simp [wb]) (by simp [wb]) (by simp [wb]) (by simp [wb]) (by simp [wb]) ?_
  simp [-condC_bool, wb, a1, hnum]
  refine AOps.weaken (Wk.freeze 46 (ys := encI [3]) rfl) ?_
  simp [-condC_bool]
  refine AOps.effD [5001, 5002] rfl (lay1_ok b (((((((((l ++ [GIns.mk 37 0]) ++ p1) ++ [GIns.mk 19 2]) ++ [GIns.mk 6 s.Num]) ++ [GIns.mk 38 n]) ++ [GIns.mk 5 s.Num]) ++ [GIns.mk 25 (n + 1)]) ++ [GIns.mk 37 0]) ++ [GIns.mk 5 s.Num]) p2 19 3 (by simp <;> omega)) (by simp [wb]) rfl (by simp) rfl (by kernel_rfl) (by simp [wb]) (by simp [wb]) (by simp [wb]) (by simp [wb]) (by simp [wb]) ?_
  simp [-condC_bool, wb, a1, hnum]
  refine AOps.weaken (Wk.freeze 52 (ys := encI [(s.Num + 1)]) rfl) ?_
  simp [-condC_bool]
  refine AOps.effD [5001, 5002] rfl (lay1_ok b ((((((((((l ++ [GIns.mk 37 0]) ++ p1) ++ [GIns.mk 19 2]) ++ [GIns.mk 6 s.Num]) ++ [GIns.mk 38 n]) ++ [GIns.mk 5 s.Num]) ++ [GIns.mk 25 (n + 1)]) ++ [GIns.mk 37 0]) ++ [GIns.mk 5 s.Num]) ++ [GIns.mk 19 3]) p2 6 (s.Num + 1) (by simp <;> omega)) (by simp [wb]) rfl (by simp) rfl (by kernel_rfl) (by simp [wb]) (by simp [wb]) (by simp [wb]) (by simp [wb]) (by simp [wb]) ?_
  simp [-condC_bool, wb, a1, hnum]
  refine AOps.effD [5001, 5002] rfl (wB b (((((((((((l ++ [GIns.mk 37 0]) ++ p1) ++ [GIns.mk 19 2]) ++ [GIns.mk 6 s.Num]) ++ [GIns.mk 38 n]) ++ [GIns.mk 5 s.Num]) ++ [GIns.mk 25 (n + 1)]) ++ [GIns.mk 37 0]) ++ [GIns.mk 5 s.Num]) ++ [GIns.mk 19 3]) ++ [GIns.mk 6 (s.Num + 1)]) ⟨by omega, by omega, by simp <;> omega⟩) (by simp [wb]) rfl (by simp) rfl (by kernel_rfl) (by simp [wb]) (by simp [wb]) (by simp [wb]) (by simp [wb]) (by simp [wb]) ?_
  simp [-condC_bool, wb, a1, hnum]
  refine AOps.weaken (Wk.freeze 62 (ys := encI [(s.Num + 1)]) rfl) ?_
  simp [-condC_bool]
  refine AOps.effD [5001, 5002] rfl (lay1_ok b ((((((((((((l ++ [GIns.mk 37 0]) ++ p1) ++ [GIns.mk 19 2]) ++ [GIns.mk 6 s.Num]) ++ [GIns.mk 38 n]) ++ [GIns.mk 5 s.Num]) ++ [GIns.mk 25 (n + 1)]) ++ [GIns.mk 37 0]) ++ [GIns.mk 5 s.Num]) ++ [GIns.mk 19 3]) ++ [GIns.mk 6 (s.Num + 1)]) ++ q1) q2 5 (s.Num + 1) (by simp <;> omega)) (by simp [wb]) rfl (by simp) rfl (by kernel_rfl) (by simp [wb]) (by simp [wb]) (by simp [wb]) (by simp [wb]) (by simp [wb]) ?_
  simp [-condC_bool, wb, a1, hnum]
  refine AOps.weaken (Wk.freeze 67 (ys := encI [s.Num]) rfl) ?_
  simp [-condC_bool]
  refine AOps.effD [5001, 5002] rfl (lay1_ok b (((((((((((((l ++ [GIns.mk 37 0]) ++ p1) ++ [GIns.mk 19 2]) ++ [GIns.mk 6 s.Num]) ++ [GIns.mk 38 n]) ++ [GIns.mk 5 s.Num]) ++ [GIns.mk 25 (n + 1)]) ++ [GIns.mk 37 0]) ++ [GIns.mk 5 s.Num]) ++ [GIns.mk 19 3]) ++ [GIns.mk 6 (s.Num + 1)]) ++ q1) ++ [GIns.mk 5 (s.Num + 1)]) q2 6 s.Num (by simp <;> omega)) (by simp [wb]) rfl (by simp) rfl (by kernel_rfl) (by simp [wb]) (by simp [wb]) (by simp [wb]) (by simp [wb]) (by simp [wb]) ?_
  simp [-condC_bool, wb, a1, hnum]
  refine AOps.weaken (Wk.freeze 71 (ys := encI [n]) rfl) ?_
  simp [-condC_bool]
  refine AOps.effD [5001, 5002] rfl (lay1_ok b ((((((((((((((l ++ [GIns.mk 37 0]) ++ p1) ++ [GIns.mk 19 2]) ++ [GIns.mk 6 s.Num]) ++ [GIns.mk 38 n]) ++ [GIns.mk 5 s.Num]) ++ [GIns.mk 25 (n + 1)]) ++ [GIns.mk 37 0]) ++ [GIns.mk 5 s.Num]) ++ [GIns.mk 19 3]) ++ [GIns.mk 6 (s.Num + 1)]) ++ q1) ++ [GIns.mk 5 (s.Num + 1)]) ++ [GIns.mk 6 s.Num]) q2 24 n (by simp <;> omega)) (by simp [wb]) rfl (by simp) rfl (by kernel_rfl) (by simp [wb]) (by simp [wb]) (by simp [wb]) (by simp [wb]) (by simp [wb]) ?_
  simp [-condC_bool, wb, a1, hnum]
  refine AOps.weaken (Wk.freeze 75 (ys := encI [(n + 1)]) rfl) ?_
  simp [-condC_bool]
  refine AOps.effD [5001, 5002] rfl (lay1_ok b (((((((((((((((l ++ [GIns.mk 37 0]) ++ p1) ++ [GIns.mk 19 2]) ++ [GIns.mk 6 s.Num]) ++ [GIns.mk 38 n]) ++ [GIns.mk 5 s.Num]) ++ [GIns.mk 25 (n + 1)]) ++ [GIns.mk 37 0]) ++ [GIns.mk 5 s.Num]) ++ [GIns.mk 19 3]) ++ [GIns.mk 6 (s.Num + 1)]) ++ q1) ++ [GIns.mk 5 (s.Num + 1)]) ++ [GIns.mk 6 s.Num]) ++ [GIns.mk 24 n]) q2 38 (n + 1) (by simp <;> omega)) (by simp [wb]) rfl (by simp) rfl (by kernel_rfl) (by simp [wb]) (by simp [wb]) (by simp [wb]) (by simp [wb]) (by simp [wb]) ?_
  simp [wb, tick]

def bareN (k : Int) : Int := if k = 7 then 17 else if k = 8 then 18 else if k = 12 then 27 else if k = 13 then 28 else if k = 14 then 29 else if k = 15 then 30 else if k = 16 then 31 else if k = 20 then 34 else if k = 21 then 35 else 36
theorem bareN_ok (k : Int) : Pure Try.prog 124 [.d (.v (.int .i64 k))] (.d (.v (.int .i64 (bareN k)))) := by
  refine Pure.run Try.func124 rfl (by simp [Try.f124]) ?_; simp [-condC_bool, Try.f124]
  repeat' (first
    | (with_reducible refine And.intro ?_ ?_)
    | (refine condC_split (fun h => ?_) (fun h => ?_) <;> (try simp at h) <;> (try simp [-condC_bool, *]))
    | (with_reducible intro _))
  all_goals simp [bareN, *]
theorem wPlain_of (s : GStmt) (hA : WEs s.Args) (h1 : s.Kind ≠ 9) (h2 : s.Kind ≠ 10) (h3 : s.Kind ≠ 11) (h4 : s.Kind ≠ 1) (hk : s.Kind = 2 ∨ s.Kind = 3 ∨ s.Kind = 23 ∨ s.Kind = 4 ∨ s.Kind = 5 ∨ s.Kind = 6 ∨ s.Kind = 17 ∨ s.Kind = 18 ∨ s.Kind = 19 ∨ s.Kind = 7 ∨ s.Kind = 8 ∨ s.Kind = 12 ∨ s.Kind = 13 ∨ s.Kind = 14 ∨ s.Kind = 15 ∨ s.Kind = 16 ∨ s.Kind = 20 ∨ s.Kind = 21 ∨ s.Kind = 22) : WSt 111 s := by
  intro b l n hn
  rw [genS_plain s n h1 h2 h3 h4]
  have hz := szS_eq s
  have b1 := genEs_bd' s.Args n
  have wA := fun b l h => hA b l n h
  generalize genEs s.Args n = p at *
  obtain ⟨p1, p2⟩ := p
  simp only at b1 wA ⊢
  unfold WCalls wb at *
  rcases hk with hk | hk | hk | hk | hk | hk | hk | hk | hk | hk | hk | hk | hk | hk | hk | hk | hk | hk | hk
  · refine ACalls.runP [5001, 5002] (by simp) Try.func111 rfl (by simp [Try.f111]) ?_; simp [-condC_bool, Try.f111, hk]
    intro bs
    refine AOps.effD [5001, 5002] rfl (lay0_ok b l n 37 (by omega)) (by simp [wb]) rfl (by simp) rfl (by kernel_rfl) (by simp [wb]) (by simp [wb]) (by simp [wb]) (by simp [wb]) (by simp [wb]) ?_
    simp [-condC_bool, wb, hk]
    refine AOps.effD [5001, 5002] rfl (wA b (l ++ [GIns.mk 37 0]) ⟨by omega, by omega, by simp <;> omega⟩) (by simp [wb]) rfl (by simp) rfl (by kernel_rfl) (by simp [wb]) (by simp [wb]) (by simp [wb]) (by simp [wb]) (by simp [wb]) ?_
    simp [-condC_bool, wb, hk]
    refine AOps.weaken (Wk.freeze 23 (ys := encI [s.Num]) rfl) ?_
    simp [-condC_bool]
    refine AOps.effD [5001, 5002] rfl (lay1_ok b ((l ++ [GIns.mk 37 0]) ++ p1) p2 6 s.Num (by simp <;> omega)) (by simp [wb]) rfl (by simp) rfl (by kernel_rfl) (by simp [wb]) (by simp [wb]) (by simp [wb]) (by simp [wb]) (by simp [wb]) ?_
    simp [wb, tick, hk, deedM]
  · refine ACalls.runP [5001, 5002] (by simp) Try.func111 rfl (by simp [Try.f111]) ?_; simp [-condC_bool, Try.f111, hk]
    intro bs
    refine AOps.effD [5001, 5002] rfl (lay0_ok b l n 37 (by omega)) (by simp [wb]) rfl (by simp) rfl (by kernel_rfl) (by simp [wb]) (by simp [wb]) (by simp [wb]) (by simp [wb]) (by simp [wb]) ?_
    simp [-condC_bool, wb, hk]
    refine AOps.effD [5001, 5002] rfl (wA b (l ++ [GIns.mk 37 0]) ⟨by omega, by omega, by simp <;> omega⟩) (by simp [wb]) rfl (by simp) rfl (by kernel_rfl) (by simp [wb]) (by simp [wb]) (by simp [wb]) (by simp [wb]) (by simp [wb]) ?_
    simp [-condC_bool, wb, hk]
    refine AOps.weaken (Wk.freeze 23 (ys := encI [s.Num]) rfl) ?_
    simp [-condC_bool]
    refine AOps.effD [5001, 5002] rfl (lay1_ok b ((l ++ [GIns.mk 37 0]) ++ p1) p2 6 s.Num (by simp <;> omega)) (by simp [wb]) rfl (by simp) rfl (by kernel_rfl) (by simp [wb]) (by simp [wb]) (by simp [wb]) (by simp [wb]) (by simp [wb]) ?_
    simp [wb, tick, hk, deedM]
  · refine ACalls.runP [5001, 5002] (by simp) Try.func111 rfl (by simp [Try.f111]) ?_; simp [-condC_bool, Try.f111, hk]
    intro bs
    refine AOps.effD [5001, 5002] rfl (lay0_ok b l n 37 (by omega)) (by simp [wb]) rfl (by simp) rfl (by kernel_rfl) (by simp [wb]) (by simp [wb]) (by simp [wb]) (by simp [wb]) (by simp [wb]) ?_
    simp [-condC_bool, wb, hk]
    refine AOps.effD [5001, 5002] rfl (wA b (l ++ [GIns.mk 37 0]) ⟨by omega, by omega, by simp <;> omega⟩) (by simp [wb]) rfl (by simp) rfl (by kernel_rfl) (by simp [wb]) (by simp [wb]) (by simp [wb]) (by simp [wb]) (by simp [wb]) ?_
    simp [-condC_bool, wb, hk]
    refine AOps.weaken (Wk.freeze 30 (ys := encI [s.Num]) rfl) ?_
    simp [-condC_bool]
    refine AOps.effD [5001, 5002] rfl (lay1_ok b ((l ++ [GIns.mk 37 0]) ++ p1) p2 4 s.Num (by simp <;> omega)) (by simp [wb]) rfl (by simp) rfl (by kernel_rfl) (by simp [wb]) (by simp [wb]) (by simp [wb]) (by simp [wb]) (by simp [wb]) ?_
    simp [wb, tick, hk, deedM]
  · refine ACalls.runP [5001, 5002] (by simp) Try.func111 rfl (by simp [Try.f111]) ?_; simp [-condC_bool, Try.f111, hk]
    intro bs
    refine AOps.effD [5001, 5002] rfl (lay0_ok b l n 37 (by omega)) (by simp [wb]) rfl (by simp) rfl (by kernel_rfl) (by simp [wb]) (by simp [wb]) (by simp [wb]) (by simp [wb]) (by simp [wb]) ?_
    simp [-condC_bool, wb, hk]
    refine AOps.effD [5001, 5002] rfl (wA b (l ++ [GIns.mk 37 0]) ⟨by omega, by omega, by simp <;> omega⟩) (by simp [wb]) rfl (by simp) rfl (by kernel_rfl) (by simp [wb]) (by simp [wb]) (by simp [wb]) (by simp [wb]) (by simp [wb]) ?_
    simp [-condC_bool, wb, hk]
    refine AOps.weaken (Wk.freeze 37 (ys := encI [s.Num]) rfl) ?_
    simp [-condC_bool]
    refine AOps.effD [5001, 5002] rfl (lay1_ok b ((l ++ [GIns.mk 37 0]) ++ p1) p2 14 s.Num (by simp <;> omega)) (by simp [wb]) rfl (by simp) rfl (by kernel_rfl) (by simp [wb]) (by simp [wb]) (by simp [wb]) (by simp [wb]) (by simp [wb]) ?_
    simp [wb, tick, hk, deedM]
  · refine ACalls.runP [5001, 5002] (by simp) Try.func111 rfl (by simp [Try.f111]) ?_; simp [-condC_bool, Try.f111, hk]
    intro bs
    refine AOps.effD [5001, 5002] rfl (lay0_ok b l n 37 (by omega)) (by simp [wb]) rfl (by simp) rfl (by kernel_rfl) (by simp [wb]) (by simp [wb]) (by simp [wb]) (by simp [wb]) (by simp [wb]) ?_
    simp [-condC_bool, wb, hk]
    refine AOps.effD [5001, 5002] rfl (wA b (l ++ [GIns.mk 37 0]) ⟨by omega, by omega, by simp <;> omega⟩) (by simp [wb]) rfl (by simp) rfl (by kernel_rfl) (by simp [wb]) (by simp [wb]) (by simp [wb]) (by simp [wb]) (by simp [wb]) ?_
    simp [-condC_bool, wb, hk]
    refine AOps.weaken (Wk.freeze 44 (ys := encI [s.Num]) rfl) ?_
    simp [-condC_bool]
    refine AOps.effD [5001, 5002] rfl (lay1_ok b ((l ++ [GIns.mk 37 0]) ++ p1) p2 15 s.Num (by simp <;> omega)) (by simp [wb]) rfl (by simp) rfl (by kernel_rfl) (by simp [wb]) (by simp [wb]) (by simp [wb]) (by simp [wb]) (by simp [wb]) ?_
    simp [wb, tick, hk, deedM]
  · refine ACalls.runP [5001, 5002] (by simp) Try.func111 rfl (by simp [Try.f111]) ?_; simp [-condC_bool, Try.f111, hk]
    intro bs
    refine AOps.effD [5001, 5002] rfl (lay0_ok b l n 37 (by omega)) (by simp [wb]) rfl (by simp) rfl (by kernel_rfl) (by simp [wb]) (by simp [wb]) (by simp [wb]) (by simp [wb]) (by simp [wb]) ?_
    simp [-condC_bool, wb, hk]
    refine AOps.effD [5001, 5002] rfl (wA b (l ++ [GIns.mk 37 0]) ⟨by omega, by omega, by simp <;> omega⟩) (by simp [wb]) rfl (by simp) rfl (by kernel_rfl) (by simp [wb]) (by simp [wb]) (by simp [wb]) (by simp [wb]) (by simp [wb]) ?_
    simp [-condC_bool, wb, hk]
    refine AOps.weaken (Wk.freeze 51 (ys := encI [s.Num]) rfl) ?_
    simp [-condC_bool]
    refine AOps.effD [5001, 5002] rfl (lay1_ok b ((l ++ [GIns.mk 37 0]) ++ p1) p2 16 s.Num (by simp <;> omega)) (by simp [wb]) rfl (by simp) rfl (by kernel_rfl) (by simp [wb]) (by simp [wb]) (by simp [wb]) (by simp [wb]) (by simp [wb]) ?_
    simp [wb, tick, hk, deedM]
  · refine ACalls.runP [5001, 5002] (by simp) Try.func111 rfl (by simp [Try.f111]) ?_; simp [-condC_bool, Try.f111, hk]
    intro bs
    refine AOps.effD [5001, 5002] rfl (lay0_ok b l n 37 (by omega)) (by simp [wb]) rfl (by simp) rfl (by kernel_rfl) (by simp [wb]) (by simp [wb]) (by simp [wb]) (by simp [wb]) (by simp [wb]) ?_
    simp [-condC_bool, wb, hk]
    refine AOps.effD [5001, 5002] rfl (wA b (l ++ [GIns.mk 37 0]) ⟨by omega, by omega, by simp <;> omega⟩) (by simp [wb]) rfl (by simp) rfl (by kernel_rfl) (by simp [wb]) (by simp [wb]) (by simp [wb]) (by simp [wb]) (by simp [wb]) ?_
    simp [-condC_bool, wb, hk]
    refine AOps.weaken (Wk.freeze 58 (ys := encI [s.Num]) rfl) ?_
    simp [-condC_bool]
    refine AOps.effD [5001, 5002] rfl (lay1_ok b ((l ++ [GIns.mk 37 0]) ++ p1) p2 32 s.Num (by simp <;> omega)) (by simp [wb]) rfl (by simp) rfl (by kernel_rfl) (by simp [wb]) (by simp [wb]) (by simp [wb]) (by simp [wb]) (by simp [wb]) ?_
    simp [wb, tick, hk, deedM]
  · refine ACalls.runP [5001, 5002] (by simp) Try.func111 rfl (by simp [Try.f111]) ?_; simp [-condC_bool, Try.f111, hk]
    intro bs
    refine AOps.effD [5001, 5002] rfl (lay0_ok b l n 37 (by omega)) (by simp [wb]) rfl (by simp) rfl (by kernel_rfl) (by simp [wb]) (by simp [wb]) (by simp [wb]) (by simp [wb]) (by simp [wb]) ?_
    simp [-condC_bool, wb, hk]
    refine AOps.effD [5001, 5002] rfl (wA b (l ++ [GIns.mk 37 0]) ⟨by omega, by omega, by simp <;> omega⟩) (by simp [wb]) rfl (by simp) rfl (by kernel_rfl) (by simp [wb]) (by simp [wb]) (by simp [wb]) (by simp [wb]) (by simp [wb]) ?_
    simp [-condC_bool, wb, hk]
    refine AOps.weaken (Wk.freeze 65 (ys := encI [s.Num]) rfl) ?_
    simp [-condC_bool]
    refine AOps.effD [5001, 5002] rfl (lay1_ok b ((l ++ [GIns.mk 37 0]) ++ p1) p2 33 s.Num (by simp <;> omega)) (by simp [wb]) rfl (by simp) rfl (by kernel_rfl) (by simp [wb]) (by simp [wb]) (by simp [wb]) (by simp [wb]) (by simp [wb]) ?_
    simp [wb, tick, hk, deedM]
  · refine ACalls.runP [5001, 5002] (by simp) Try.func111 rfl (by simp [Try.f111]) ?_; simp [-condC_bool, Try.f111, hk]
    intro bs
    refine AOps.effD [5001, 5002] rfl (lay0_ok b l n 37 (by omega)) (by simp [wb]) rfl (by simp) rfl (by kernel_rfl) (by simp [wb]) (by simp [wb]) (by simp [wb]) (by simp [wb]) (by simp [wb]) ?_
    simp [-condC_bool, wb, hk]
    refine AOps.effD [5001, 5002] rfl (wA b (l ++ [GIns.mk 37 0]) ⟨by omega, by omega, by simp <;> omega⟩) (by simp [wb]) rfl (by simp) rfl (by kernel_rfl) (by simp [wb]) (by simp [wb]) (by simp [wb]) (by simp [wb]) (by simp [wb]) ?_
    simp [-condC_bool, wb, hk]
    refine AOps.effD [5001, 5002] rfl (lay0_ok b ((l ++ [GIns.mk 37 0]) ++ p1) p2 2 (by simp <;> omega)) (by simp [wb]) rfl (by simp) rfl (by kernel_rfl) (by simp [wb]) (by simp [wb]) (by simp [wb]) (by simp [wb]) (by simp [wb]) ?_
    simp [wb, tick, hk, deedM]
  · refine ACalls.runP [5001, 5002] (by simp) Try.func111 rfl (by simp [Try.f111]) ?_; simp [-condC_bool, Try.f111, hk]
    intro bs
    refine AOps.effD [5001, 5002] rfl (lay0_ok b l n 37 (by omega)) (by simp [wb]) rfl (by simp) rfl (by kernel_rfl) (by simp [wb]) (by simp [wb]) (by simp [wb]) (by simp [wb]) (by simp [wb]) ?_
    simp [-condC_bool, wb, hk]
    refine AOps.effD [5001, 5002] rfl (wA b (l ++ [GIns.mk 37 0]) ⟨by omega, by omega, by simp <;> omega⟩) (by simp [wb]) rfl (by simp) rfl (by kernel_rfl) (by simp [wb]) (by simp [wb]) (by simp [wb]) (by simp [wb]) (by simp [wb]) ?_
    simp [-condC_bool, wb, hk]
    have hbare := bareN_ok 7
    rw [show bareN 7 = 17 by simp [bareN]] at hbare
    refine AOps.pureC rfl (hbare) rfl rfl (by simp) rfl ?_
    simp [-condC_bool, wb, hk]
    refine AOps.effD [5001, 5002] rfl (lay0_ok b ((l ++ [GIns.mk 37 0]) ++ p1) p2 17 (by simp <;> omega)) (by simp [wb]) rfl (by simp) rfl (by kernel_rfl) (by simp [wb]) (by simp [wb]) (by simp [wb]) (by simp [wb]) (by simp [wb]) ?_
    simp [wb, tick, hk, deedM]
  · refine ACalls.runP [5001, 5002] (by simp) Try.func111 rfl (by simp [Try.f111]) ?_; simp [-condC_bool, Try.f111, hk]
    intro bs
    refine AOps.effD [5001, 5002] rfl (lay0_ok b l n 37 (by omega)) (by simp [wb]) rfl (by simp) rfl (by kernel_rfl) (by simp [wb]) (by simp [wb]) (by simp [wb]) (by simp [wb]) (by simp [wb]) ?_
    simp [-condC_bool, wb, hk]
    refine AOps.effD [5001, 5002] rfl (wA b (l ++ [GIns.mk 37 0]) ⟨by omega, by omega, by simp <;> omega⟩) (by simp [wb]) rfl (by simp) rfl (by kernel_rfl) (by simp [wb]) (by simp [wb]) (by simp [wb]) (by simp [wb]) (by simp [wb]) ?_
    simp [-condC_bool, wb, hk]
    have hbare := bareN_ok 8
    rw [show bareN 8 = 18 by simp [bareN]] at hbare
    refine AOps.pureC rfl (hbare) rfl rfl (by simp) rfl ?_
    simp [-condC_bool, wb, hk]
    refine AOps.effD [5001, 5002] rfl (lay0_ok b ((l ++ [GIns.mk 37 0]) ++ p1) p2 18 (by simp <;> omega)) (by simp [wb]) rfl (by simp) rfl (by kernel_rfl) (by simp [wb]) (by simp [wb]) (by simp [wb]) (by simp [wb]) (by simp [wb]) ?_
    simp [wb, tick, hk, deedM]
  · refine ACalls.runP [5001, 5002] (by simp) Try.func111 rfl (by simp [Try.f111]) ?_; simp [-condC_bool, Try.f111, hk]
    intro bs
    refine AOps.effD [5001, 5002] rfl (lay0_ok b l n 37 (by omega)) (by simp [wb]) rfl (by simp) rfl (by kernel_rfl) (by simp [wb]) (by simp [wb]) (by simp [wb]) (by simp [wb]) (by simp [wb]) ?_
    simp [-condC_bool, wb, hk]
    refine AOps.effD [5001, 5002] rfl (wA b (l ++ [GIns.mk 37 0]) ⟨by omega, by omega, by simp <;> omega⟩) (by simp [wb]) rfl (by simp) rfl (by kernel_rfl) (by simp [wb]) (by simp [wb]) (by simp [wb]) (by simp [wb]) (by simp [wb]) ?_
    simp [-condC_bool, wb, hk]
    have hbare := bareN_ok 12
    rw [show bareN 12 = 27 by simp [bareN]] at hbare
    refine AOps.pureC rfl (hbare) rfl rfl (by simp) rfl ?_
    simp [-condC_bool, wb, hk]
    refine AOps.effD [5001, 5002] rfl (lay0_ok b ((l ++ [GIns.mk 37 0]) ++ p1) p2 27 (by simp <;> omega)) (by simp [wb]) rfl (by simp) rfl (by kernel_rfl) (by simp [wb]) (by simp [wb]) (by simp [wb]) (by simp [wb]) (by simp [wb]) ?_
    simp [wb, tick, hk, deedM]
  · refine ACalls.runP [5001, 5002] (by simp) Try.func111 rfl (by simp [Try.f111]) ?_; simp [-condC_bool, Try.f111, hk]
    intro bs
    refine AOps.effD [5001, 5002] rfl (lay0_ok b l n 37 (by omega)) (by simp [wb]) rfl (by simp) rfl (by kernel_rfl) (by simp [wb]) (by simp [wb]) (by simp [wb]) (by simp [wb]) (by simp [wb]) ?_
    simp [-condC_bool, wb, hk]
    refine AOps.effD [5001, 5002] rfl (wA b (l ++ [GIns.mk 37 0]) ⟨by omega, by omega, by simp <;> omega⟩) (by simp [wb]) rfl (by simp) rfl (by kernel_rfl) (by simp [wb]) (by simp [wb]) (by simp [wb]) (by simp [wb]) (by simp [wb]) ?_
    simp [-condC_bool, wb, hk]
    have hbare := bareN_ok 13
    rw [show bareN 13 = 28 by simp [bareN]] at hbare
    refine AOps.pureC rfl (hbare) rfl rfl (by simp) rfl ?_
    simp [-condC_bool, wb, hk]
    refine AOps.effD [5001, 5002] rfl (lay0_ok b ((l ++ [GIns.mk 37 0]) ++ p1) p2 28 (by simp <;> omega)) (by simp [wb]) rfl (by simp) rfl (by kernel_rfl) (by simp [wb]) (by simp [wb]) (by simp [wb]) (by simp [wb]) (by simp [wb]) ?_
    simp [wb, tick, hk, deedM]
  · refine ACalls.runP [5001, 5002] (by simp) Try.func111 rfl (by simp [Try.f111]) ?_; simp [-condC_bool, Try.f111, hk]
    intro bs
    refine AOps.effD [5001, 5002] rfl (lay0_ok b l n 37 (by omega)) (by simp [wb]) rfl (by simp) rfl (by kernel_rfl) (by simp [wb]) (by simp [wb]) (by simp [wb]) (by simp [wb]) (by simp [wb]) ?_
    simp [-condC_bool, wb, hk]
    refine AOps.effD [5001, 5002] rfl (wA b (l ++ [GIns.mk 37 0]) ⟨by omega, by omega, by simp <;> omega⟩) (by simp [wb]) rfl (by simp) rfl (by kernel_rfl) (by simp [wb]) (by simp [wb]) (by simp [wb]) (by simp [wb]) (by simp [wb]) ?_
    simp [-condC_bool, wb, hk]
    have hbare := bareN_ok 14
    rw [show bareN 14 = 29 by simp [bareN]] at hbare
    refine AOps.pureC rfl (hbare) rfl rfl (by simp) rfl ?_
    simp [-condC_bool, wb, hk]
    refine AOps.effD [5001, 5002] rfl (lay0_ok b ((l ++ [GIns.mk 37 0]) ++ p1) p2 29 (by simp <;> omega)) (by simp [wb]) rfl (by simp) rfl (by kernel_rfl) (by simp [wb]) (by simp [wb]) (by simp [wb]) (by simp [wb]) (by simp [wb]) ?_
    simp [wb, tick, hk, deedM]
  · refine ACalls.runP [5001, 5002] (by simp) Try.func111 rfl (by simp [Try.f111]) ?_; simp [-condC_bool, Try.f111, hk]
    intro bs
    refine AOps.effD [5001, 5002] rfl (lay0_ok b l n 37 (by omega)) (by simp [wb]) rfl (by simp) rfl (by kernel_rfl) (by simp [wb]) (by simp [wb]) (by simp [wb]) (by simp [wb]) (by simp [wb]) ?_
    simp [-condC_bool, wb, hk]
    refine AOps.effD [5001, 5002] rfl (wA b (l ++ [GIns.mk 37 0]) ⟨by omega, by omega, by simp <;> omega⟩) (by simp [wb]) rfl (by simp) rfl (by kernel_rfl) (by simp [wb]) (by simp [wb]) (by simp [wb]) (by simp [wb]) (by simp [wb]) ?_
    simp [-condC_bool, wb, hk]
    have hbare := bareN_ok 15
    rw [show bareN 15 = 30 by simp [bareN]] at hbare
    refine AOps.pureC rfl (hbare) rfl rfl (by simp) rfl ?_
    simp [-condC_bool, wb, hk]
    refine AOps.effD [5001, 5002] rfl (lay0_ok b ((l ++ [GIns.mk 37 0]) ++ p1) p2 30 (by simp <;> omega)) (by simp [wb]) rfl (by simp) rfl (by kernel_rfl) (by simp [wb]) (by simp [wb]) (by simp [wb]) (by simp [wb]) (by simp [wb]) ?_
    simp [wb, tick, hk, deedM]
  · refine ACalls.runP [5001, 5002] (by simp) Try.func111 rfl (by simp [Try.f111]) ?_; simp [-condC_bool, Try.f111, hk]
    intro bs
    refine AOps.effD [5001, 5002] rfl (lay0_ok b l n 37 (by omega)) (by simp [wb]) rfl (by simp) rfl (by kernel_rfl) (by simp [wb]) (by simp [wb]) (by simp [wb]) (by simp [wb]) (by simp [wb]) ?_
    simp [-condC_bool, wb, hk]
    refine AOps.effD [5001, 5002] rfl (wA b (l ++ [GIns.mk 37 0]) ⟨by omega, by omega, by simp <;> omega⟩) (by simp [wb]) rfl (by simp) rfl (by kernel_rfl) (by simp [wb]) (by simp [wb]) (by simp [wb]) (by simp [wb]) (by simp [wb]) ?_
    simp [-condC_bool, wb, hk]
    have hbare := bareN_ok 16
    rw [show bareN 16 = 31 by simp [bareN]] at hbare
    refine AOps.pureC rfl (hbare) rfl rfl (by simp) rfl ?_
    simp [-condC_bool, wb, hk]
    refine AOps.effD [5001, 5002] rfl (lay0_ok b ((l ++ [GIns.mk 37 0]) ++ p1) p2 31 (by simp <;> omega)) (by simp [wb]) rfl (by simp) rfl (by kernel_rfl) (by simp [wb]) (by simp [wb]) (by simp [wb]) (by simp [wb]) (by simp [wb]) ?_
    simp [wb, tick, hk, deedM]
  · refine ACalls.runP [5001, 5002] (by simp) Try.func111 rfl (by simp [Try.f111]) ?_; simp [-condC_bool, Try.f111, hk]
    intro bs
    refine AOps.effD [5001, 5002] rfl (lay0_ok b l n 37 (by omega)) (by simp [wb]) rfl (by simp) rfl (by kernel_rfl) (by simp [wb]) (by simp [wb]) (by simp [wb]) (by simp [wb]) (by simp [wb]) ?_
    simp [-condC_bool, wb, hk]
    refine AOps.effD [5001, 5002] rfl (wA b (l ++ [GIns.mk 37 0]) ⟨by omega, by omega, by simp <;> omega⟩) (by simp [wb]) rfl (by simp) rfl (by kernel_rfl) (by simp [wb]) (by simp [wb]) (by simp [wb]) (by simp [wb]) (by simp [wb]) ?_
    simp [-condC_bool, wb, hk]
    have hbare := bareN_ok 20
    rw [show bareN 20 = 34 by simp [bareN]] at hbare
    refine AOps.pureC rfl (hbare) rfl rfl (by simp) rfl ?_
    simp [-condC_bool, wb, hk]
    refine AOps.effD [5001, 5002] rfl (lay0_ok b ((l ++ [GIns.mk 37 0]) ++ p1) p2 34 (by simp <;> omega)) (by simp [wb]) rfl (by simp) rfl (by kernel_rfl) (by simp [wb]) (by simp [wb]) (by simp [wb]) (by simp [wb]) (by simp [wb]) ?_
    simp [wb, tick, hk, deedM]
  · refine ACalls.runP [5001, 5002] (by simp) Try.func111 rfl (by simp [Try.f111]) ?_; simp [-condC_bool, Try.f111, hk]
    intro bs
    refine AOps.effD [5001, 5002] rfl (lay0_ok b l n 37 (by omega)) (by simp [wb]) rfl (by simp) rfl (by kernel_rfl) (by simp [wb]) (by simp [wb]) (by simp [wb]) (by simp [wb]) (by simp [wb]) ?_
    simp [-condC_bool, wb, hk]
    refine AOps.effD [5001, 5002] rfl (wA b (l ++ [GIns.mk 37 0]) ⟨by omega, by omega, by simp <;> omega⟩) (by simp [wb]) rfl (by simp) rfl (by kernel_rfl) (by simp [wb]) (by simp [wb]) (by simp [wb]) (by simp [wb]) (by simp [wb]) ?_
    simp [-condC_bool, wb, hk]
    have hbare := bareN_ok 21
    rw [show bareN 21 = 35 by simp [bareN]] at hbare
    refine AOps.pureC rfl (hbare) rfl rfl (by simp) rfl ?_
    simp [-condC_bool, wb, hk]
    refine AOps.effD [5001, 5002] rfl (lay0_ok b ((l ++ [GIns.mk 37 0]) ++ p1) p2 35 (by simp <;> omega)) (by simp [wb]) rfl (by simp) rfl (by kernel_rfl) (by simp [wb]) (by simp [wb]) (by simp [wb]) (by simp [wb]) (by simp [wb]) ?_
    simp [wb, tick, hk, deedM]
  · refine ACalls.runP [5001, 5002] (by simp) Try.func111 rfl (by simp [Try.f111]) ?_; simp [-condC_bool, Try.f111, hk]
    intro bs
    refine AOps.effD [5001, 5002] rfl (lay0_ok b l n 37 (by omega)) (by simp [wb]) rfl (by simp) rfl (by kernel_rfl) (by simp [wb]) (by simp [wb]) (by simp [wb]) (by simp [wb]) (by simp [wb]) ?_
    simp [-condC_bool, wb, hk]
    refine AOps.effD [5001, 5002] rfl (wA b (l ++ [GIns.mk 37 0]) ⟨by omega, by omega, by simp <;> omega⟩) (by simp [wb]) rfl (by simp) rfl (by kernel_rfl) (by simp [wb]) (by simp [wb]) (by simp [wb]) (by simp [wb]) (by simp [wb]) ?_
    simp [-condC_bool, wb, hk]
    have hbare := bareN_ok 22
    rw [show bareN 22 = 36 by simp [bareN]] at hbare
    refine AOps.pureC rfl (hbare) rfl rfl (by simp) rfl ?_
    simp [-condC_bool, wb, hk]
    refine AOps.effD [5001, 5002] rfl (lay0_ok b ((l ++ [GIns.mk 37 0]) ++ p1) p2 36 (by simp <;> omega)) (by simp [wb]) rfl (by simp) rfl (by kernel_rfl) (by simp [wb]) (by simp [wb]) (by simp [wb]) (by simp [wb]) (by simp [wb]) ?_
    simp [wb, tick, hk, deedM]

theorem wSay_of (s : GStmt) (hk : s.Kind = 1) (hlen : s.Args.length ≤ 1000000000000000) (hX : ∀ x ∈ s.Args, x.Kind ≠ 19 → (if x.Kind = 13 then WEs x.Args else WExpr x)) : WSt 115 s := by
  intro b l n hn
  rw [genS_say s n hk]
  have hz := szS_eq s
  unfold WCalls wb
  refine ACalls.runP [5001, 5002] (by simp) Try.func115 rfl (by simp [Try.f115]) ?_; simp [-condC_bool, Try.f115]
  intro bs
  refine AOps.effD [5001, 5002] rfl (lay0_ok b l n 37 (by omega)) (by simp [wb]) rfl (by simp) rfl (by kernel_rfl) (by simp [wb]) (by simp [wb]) (by simp [wb]) (by simp [wb]) (by simp [wb]) ?_
  simp [-condC_bool, wb]
  refine AWP.loopL [0, 9, 10, 11] s.Args (fun pre => [(11, .d (.v (.int .i64 pre.length)))]) (fun pre => [(5001, .box (b + 1) 97 [.rv 5002, .d (.v (.int .i64 (genSay pre n).2))]), (5002, .row 64 2 (dd ((l ++ [GIns.mk 37 0] ++ (genSay pre n).1).map GIns.enc)))]) (fun _ => True) (by rfl) (by omega) (by simp [genSay]) ?_ ?_
  · rintro pre x post hsp - hlt hge a4
    have hx := hX x (by rw [hsp]; simp)
    have hsn := genSay_snoc pre x n
    have hsz : szEs pre + szE x ≤ szEs s.Args := by rw [hsp, szEs_app]; simp only [szEs]; omega
    have b1 := genSay_bd pre n
    have b2 := sayI_bd x (genSay pre n).2
    have hzx := szE_eq x
    clear hsp hX
    generalize genSay pre n = k at *
    obtain ⟨k1, k2⟩ := k
    simp only at hsn b1 b2 ⊢
    by_cases h19 : x.Kind = 19
    · have hI : sayI x k2 = ([⟨21, x.Num⟩], k2) := by simp [sayI, h19]
      rw [hI] at hsn
      simp [-condC_bool, hlt, hge, h19]
      intro bs2
      refine AOps.weaken (Wk.freeze 27 (ys := encI [x.Num]) rfl) ?_
      simp [-condC_bool]
      refine AOps.effD [5001, 5002] rfl (lay1_ok b (l ++ [GIns.mk 37 0] ++ k1) k2 21 x.Num (by simp <;> omega)) (by simp [wb]) rfl (by simp) rfl (by kernel_rfl) (by simp [wb]) (by simp [wb]) (by simp [wb]) (by simp [wb]) (by simp [wb]) ?_
      simp [wb, hsn, a4]
    · have hx := hx h19
      have e19 : (x.Kind == 19) = false := by simp [h19]
      by_cases h13 : x.Kind = 13
      · rw [if_pos h13] at hx
        have hI : sayI x k2 = ((genEs x.Args k2).1 ++ [⟨23, 0⟩], (genEs x.Args k2).2) := by simp [sayI, h13]
        have hC := hx b (l ++ [GIns.mk 37 0] ++ k1) k2 ⟨by omega, by omega, by simp <;> omega⟩
        rw [hI] at hsn
        have b3 := genEs_bd' x.Args k2
        generalize genEs x.Args k2 = q at *
        obtain ⟨q1, q2⟩ := q
        simp only at hsn hC b3
        unfold WCalls wb at hC
        simp [-condC_bool, hlt, hge, h13]
        intro bs2
        refine AOps.effD [5001, 5002] rfl (hC) (by simp [wb]) rfl (by simp) rfl (by kernel_rfl) (by simp [wb]) (by simp [wb]) (by simp [wb]) (by simp [wb]) (by simp [wb]) ?_
        simp [-condC_bool, wb]
        refine AOps.effD [5001, 5002] rfl (lay0_ok b (l ++ [GIns.mk 37 0] ++ k1 ++ q1) q2 23 (by simp <;> omega)) (by simp [wb]) rfl (by simp) rfl (by kernel_rfl) (by simp [wb]) (by simp [wb]) (by simp [wb]) (by simp [wb]) (by simp [wb]) ?_
        simp [wb, hsn, a4]
      · rw [if_neg h13] at hx
        have e13 : (x.Kind == 13) = false := by simp [h13]
        have hI : sayI x k2 = ((genE x k2).1 ++ [⟨22, 0⟩], (genE x k2).2) := by simp [sayI, h13, h19]
        have hC := hx b (l ++ [GIns.mk 37 0] ++ k1) k2 ⟨by omega, by omega, by simp <;> omega⟩
        rw [hI] at hsn
        have b3 := genE_bd x k2
        generalize genE x k2 = q at *
        obtain ⟨q1, q2⟩ := q
        simp only at hsn hC b3
        unfold WCalls wb at hC
        simp [-condC_bool, hlt, hge, e19, e13]
        intro bs2
        refine AOps.effD [5001, 5002] rfl (hC) (by simp [wb]) rfl (by simp) rfl (by kernel_rfl) (by simp [wb]) (by simp [wb]) (by simp [wb]) (by simp [wb]) (by simp [wb]) ?_
        simp [-condC_bool, wb]
        refine AOps.effD [5001, 5002] rfl (lay0_ok b (l ++ [GIns.mk 37 0] ++ k1 ++ q1) q2 22 (by simp <;> omega)) (by simp [wb]) rfl (by simp) rfl (by kernel_rfl) (by simp [wb]) (by simp [wb]) (by simp [wb]) (by simp [wb]) (by simp [wb]) ?_
        simp [wb, hsn, a4]
  · intro _
    simp [tick]
end Go.Ab

set_option linter.unusedSimpArgs false
set_option linter.unusedVariables false
namespace Go.Ab
open Go.Proofs
set_option maxRecDepth 40000
set_option maxHeartbeats 4000000

theorem WSt.stmt {s : GStmt} (h9 : s.Kind = 9 → WSt 112 s) (h10 : s.Kind = 10 → WSt 113 s) (h11 : s.Kind = 11 → WSt 114 s) (h1 : s.Kind = 1 → WSt 115 s)
    (hp : s.Kind ≠ 9 → s.Kind ≠ 10 → s.Kind ≠ 11 → s.Kind ≠ 1 → WSt 111 s) : WSt 103 s := by
  intro b l n hn
  by_cases k9 : s.Kind = 9
  · have hC := h9 k9 b l n hn
    unfold WCalls wb at *
    refine ACalls.runP [5001, 5002] (by simp) Try.func103 rfl (by simp [Try.f103]) ?_; simp [-condC_bool, Try.f103, k9]
    intro bs
    refine AOps.effD [5001, 5002] rfl (hC) (by simp [wb]) rfl (by simp) rfl (by kernel_rfl) (by simp [wb]) (by simp [wb]) (by simp [wb]) (by simp [wb]) (by simp [wb]) ?_
    simp [wb]
  have e9 : (s.Kind == 9) = false := by simp [k9]
  by_cases k10 : s.Kind = 10
  · have hC := h10 k10 b l n hn
    unfold WCalls wb at *
    refine ACalls.runP [5001, 5002] (by simp) Try.func103 rfl (by simp [Try.f103]) ?_; simp [-condC_bool, Try.f103, k10]
    intro bs
    refine AOps.effD [5001, 5002] rfl (hC) (by simp [wb]) rfl (by simp) rfl (by kernel_rfl) (by simp [wb]) (by simp [wb]) (by simp [wb]) (by simp [wb]) (by simp [wb]) ?_
    simp [wb]
  have e10 : (s.Kind == 10) = false := by simp [k10]
  by_cases k11 : s.Kind = 11
  · have hC := h11 k11 b l n hn
    unfold WCalls wb at *
    refine ACalls.runP [5001, 5002] (by simp) Try.func103 rfl (by simp [Try.f103]) ?_; simp [-condC_bool, Try.f103, k11]
    intro bs
    refine AOps.effD [5001, 5002] rfl (hC) (by simp [wb]) rfl (by simp) rfl (by kernel_rfl) (by simp [wb]) (by simp [wb]) (by simp [wb]) (by simp [wb]) (by simp [wb]) ?_
    simp [wb]
  have e11 : (s.Kind == 11) = false := by simp [k11]
  by_cases k1 : s.Kind = 1
  · have hC := h1 k1 b l n hn
    unfold WCalls wb at *
    refine ACalls.runP [5001, 5002] (by simp) Try.func103 rfl (by simp [Try.f103]) ?_; simp [-condC_bool, Try.f103, k1]
    intro bs
    refine AOps.effD [5001, 5002] rfl (hC) (by simp [wb]) rfl (by simp) rfl (by kernel_rfl) (by simp [wb]) (by simp [wb]) (by simp [wb]) (by simp [wb]) (by simp [wb]) ?_
    simp [wb]
  have e1 : (s.Kind == 1) = false := by simp [k1]
  have hC := hp k9 k10 k11 k1 b l n hn
  unfold WCalls wb at *
  refine ACalls.runP [5001, 5002] (by simp) Try.func103 rfl (by simp [Try.f103]) ?_; simp [-condC_bool, Try.f103, e9, e10, e11, e1]
  intro bs
  refine AOps.effD [5001, 5002] rfl (hC) (by simp [wb]) rfl (by simp) rfl (by kernel_rfl) (by simp [wb]) (by simp [wb]) (by simp [wb]) (by simp [wb]) (by simp [wb]) ?_
  simp [wb]

theorem wBlock_of (ss : List GStmt) (hlen : ss.length ≤ 1000000000000000) (ih : ∀ s ∈ ss, WSt 103 s) : WBlock ss := by
  intro b l n hn
  unfold WCalls wb
  refine ACalls.runP [5001, 5002] (by simp) Try.func63 rfl (by simp [Try.f63]) ?_; simp [Try.f63]
  refine AWP.loopL [0, 6, 7, 8] ss (fun pre => [(8, .d (.v (.int .i64 pre.length)))]) (fun pre => [(5001, .box (b + 1) 97 [.rv 5002, .d (.v (.int .i64 (genB pre n).2))]), (5002, .row 64 2 (dd ((l ++ (genB pre n).1).map GIns.enc)))]) (fun _ => True) (by rfl) (by omega) (by simp [genB]) ?_ ?_
  · rintro pre s post hsp - hlt hge a4
    have hS := ih s (by rw [hsp]; simp)
    have hsn := genB_snoc pre s n
    have hsz : szB pre + szS s ≤ szB ss := by rw [hsp, szB_app]; simp only [szB]; omega
    have b1 := genB_bd' pre n
    clear hsp ih
    generalize genB pre n = k at *
    obtain ⟨k1, k2⟩ := k
    simp only at hsn b1 ⊢
    have hC := hS b (l ++ k1) k2 ⟨by omega, by omega, by rw [List.length_append]; omega⟩
    have b2 := genS_bd s k2
    generalize genS s k2 = q at *
    obtain ⟨q1, q2⟩ := q
    simp only at hsn hC b2
    simp [hlt, hge]
    intro bs
    refine AOps.effD [5001, 5002] rfl (hC) (by simp [wb]) rfl (by simp) rfl (by kernel_rfl) (by simp [wb]) (by simp [wb]) (by simp [wb]) (by simp [wb]) (by simp [wb]) ?_
    simp [hsn, a4, wb]
  · intro _
    simp

theorem shape_kind {s : GStmt} (h : (shapeM s).1 = true) : s.Kind = 1 ∨ s.Kind = 9 ∨ s.Kind = 10 ∨ s.Kind = 11 ∨ s.Kind = 2 ∨ s.Kind = 3 ∨ s.Kind = 23 ∨ s.Kind = 4 ∨ s.Kind = 5 ∨ s.Kind = 6 ∨ s.Kind = 17 ∨ s.Kind = 18 ∨ s.Kind = 19 ∨ s.Kind = 7 ∨ s.Kind = 8 ∨ s.Kind = 12 ∨ s.Kind = 13 ∨ s.Kind = 14 ∨ s.Kind = 15 ∨ s.Kind = 16 ∨ s.Kind = 20 ∨ s.Kind = 21 ∨ s.Kind = 22 := by
  refine Decidable.byContradiction fun hn => ?_
  simp only [not_or] at hn
  obtain ⟨n1, n9, n10, n11, n2, n3, n23, n4, n5, n6, n17, n18, n19, n7, n8, n12, n13, n14, n15, n16, n20, n21, n22⟩ := hn
  simp [shapeM, n1, n9, n10, n11, n2, n3, n23, n4, n5, n6, n17, n18, n19, n7, n8, n12, n13, n14, n15, n16, n20, n21, n22] at h
theorem each_num {t : GTables} {locals : Int} (hlo : inR .i64 locals) {s : GStmt} (p2 : thereM t s locals = true) (k11 : s.Kind = 11) : inR .i64 (s.Num + 1) := by
  have hnm : s.Name.toList = [] ∧ s.Num < locals - 1 := by
    unfold thereM at p2
    cases h : s.Name.toList with
    | nil => simp [h, k11] at p2; exact ⟨rfl, by omega⟩
    | cons a l => simp [h] at p2
  have h0 : 0 ≤ s.Num := by simp [thereM, hnm.1, k11] at p2; omega
  rw [inR_i64] at hlo ⊢
  omega
theorem wStmt_ok (t : GTables) (locals : Int) (hlo : inR .i64 locals) (s : GStmt) (hw : s.wf) (hb : boundS t locals s = true) : WSt 103 s := by
  obtain ⟨N, hN⟩ : ∃ N, SizeOf.sizeOf s < N := ⟨_, Nat.lt_succ_self _⟩
  induction N generalizing s with
  | zero => omega
  | succ N ih =>
    obtain ⟨p1, p2, p3, p4, p5⟩ := boundS_parts hb
    have hla := GStmt.wl_Args hw
    have hlb := GStmt.wl_Body hw
    have hle := GStmt.wl_Else hw
    have hB : WBlock s.Body := wBlock_of s.Body (by omega) (fun x hx => ih x (GStmt.wf_Body hw x hx) (p4 x hx) (by have := GStmt.lt_body s; have := List.sizeOf_lt_of_mem hx; omega))
    have hE : WBlock s.Else := wBlock_of s.Else (by omega) (fun x hx => ih x (GStmt.wf_Else hw x hx) (p5 x hx) (by have := GStmt.lt_else s; have := List.sizeOf_lt_of_mem hx; omega))
    have hEs : s.Kind ≠ 1 → WEs s.Args := fun k1 b l n hn => wexprs_of s.Args (by omega) b l n hn (fun x hx => wexpr_ok t locals x (GStmt.wf_Args hw x hx) (by
      have := p3 x hx
      rwa [show decide (s.Kind = 1) = false by simp [k1]] at this))
    refine WSt.stmt (fun k => ?_) (fun k => wWhile_of s (hEs (by omega)) hB k) (fun k => wEach_of s (hEs (by omega)) hB k (each_num hlo p2 k)) (fun k => ?_) (fun h9 h10 h11 h1 => ?_)
    · by_cases he : s.Else = []
      · exact wIf0_of s (hEs (by omega)) hB k he
      · exact wIf1_of s (hEs (by omega)) hB hE k he
    · refine wSay_of s k (by omega) (fun x hx h19 => ?_)
      have hbx := p3 x hx
      rw [show decide (s.Kind = 1) = true by simp [k]] at hbx
      have hwx := GStmt.wf_Args hw x hx
      split
      · rename_i h13
        have hlx := GExpr.wl_Args hwx
        exact fun b l n hn => wexprs_of x.Args (by omega) b l n hn (fun y hy => wexpr_ok t locals y (GExpr.wf_Args hwx y hy) (bound_mem hbx hy))
      · rename_i h13
        exact wexpr_ok t locals x hwx (bound_said hbx h19 h13)
    · refine wPlain_of s (hEs h1) h9 h10 h11 h1 ?_
      have := shape_kind p1
      omega
end Go.Ab

set_option linter.unusedSimpArgs false
set_option linter.unusedVariables false
namespace Go.Ab
open Go.Proofs
set_option maxRecDepth 40000
set_option maxHeartbeats 4000000

section
variable {t : GTables} {locals : Int} {l : List GStmt}
theorem wBlock_ok (hlo : inR .i64 locals) (hl : ∀ s ∈ l, s.wf) (hlen : l.length * 104 ≤ 140737488351232) (hb : boundB t locals l = true) : WBlock l := by
  unfold boundB at hb
  rw [Bool.and_eq_true, boundSs_all, List.all_eq_true] at hb
  exact wBlock_of l (by omega) (fun s hs => wStmt_ok t locals hlo s (hl s hs) (hb.1 s hs))
theorem refBlock_ok (hlo : inR .i64 locals) (hl : ∀ s ∈ l, s.wf) (hlen : l.length * 104 ≤ 140737488351232) (hb : boundB t locals l = true) : RBlock l := by
  unfold boundB at hb
  rw [Bool.and_eq_true, boundSs_all, List.all_eq_true] at hb
  exact fun m hm => refBlock_of l (by omega) (fun s hs => refStmt_ok t locals hlo s (hl s hs) (hb.1 s hs)) m hm
end
theorem genBlock_ok (l : List GStmt) (hl : WBlock l) (hn : szB l ≤ 30000000) : Pure Try.prog 37 [.d (.sl (l.map GStmt.enc))] (.d (.sl ((genB l 0).1.map GIns.enc))) := by
  have hc := fun b => hl b [] 0 ⟨by omega, by omega, by simp <;> omega⟩
  generalize genB l 0 = q at *
  obtain ⟨q1, q2⟩ := q
  simp only [List.nil_append] at hc ⊢
  refine Pure.run Try.func37 rfl (by simp [Try.f37]) ?_; simp [Try.f37]
  intro bs
  refine AOps.weaken ((Wk.ren 5 5001 (by simp)).trans (Wk.ownBox 5001 0 5002 (e := 64) (k := 2) rfl rfl (by simp))) ?_
  simp [Heap.upd]
  refine AOps.weaken (Wk.pick [7, 6, 3, 2] [5001, 5002] (by rfl) (by simp) (by simp)) ?_
  simp
  refine AOps.effD [5001, 5002] rfl (hc (bs 0)) (by simp [wb]) rfl (by simp) rfl (by kernel_rfl) (by simp [wb]) (by simp [wb]) (by simp [wb]) (by simp [wb]) (by simp [wb]) ?_
  simp [wb]
theorem genRoutine_ok (l : List GStmt) (hl : WBlock l) (hn : szB l ≤ 30000000) : Pure Try.prog 34 [.d (.sl (l.map GStmt.enc))] (.d (.sl (((genB l 0).1 ++ [GIns.mk 1 0, GIns.mk 27 0]).map GIns.enc))) := by
  have hc := fun b => hl b [] 0 ⟨by omega, by omega, by simp <;> omega⟩
  have bd := genB_bd' l 0
  generalize genB l 0 = q at *
  obtain ⟨q1, q2⟩ := q
  simp only [List.nil_append] at hc bd ⊢
  refine Pure.run Try.func34 rfl (by simp [Try.f34]) ?_; simp [Try.f34]
  intro bs
  refine AOps.weaken ((Wk.ren 5 5001 (by simp)).trans (Wk.ownBox 5001 0 5002 (e := 64) (k := 2) rfl rfl (by simp))) ?_
  simp [Heap.upd]
  refine AOps.weaken (Wk.pick [7, 6, 3, 2] [5001, 5002] (by rfl) (by simp) (by simp)) ?_
  simp
  refine AOps.effD [5001, 5002] rfl (hc (bs 0)) (by simp [wb]) rfl (by simp) rfl (by kernel_rfl) (by simp [wb]) (by simp [wb]) (by simp [wb]) (by simp [wb]) (by simp [wb]) ?_
  simp [wb]
  refine AOps.effD [5001, 5002] rfl (lay0_ok (bs 0) q1 q2 1 (by omega)) (by simp [wb]) rfl (by simp) rfl (by kernel_rfl) (by simp [wb]) (by simp [wb]) (by simp [wb]) (by simp [wb]) (by simp [wb]) ?_
  simp [wb]
  refine AOps.effD [5001, 5002] rfl (lay0_ok (bs 0) (q1 ++ [GIns.mk 1 0]) q2 27 (by simp <;> omega)) (by simp [wb]) rfl (by simp) rfl (by kernel_rfl) (by simp [wb]) (by simp [wb]) (by simp [wb]) (by simp [wb]) (by simp [wb]) ?_
  simp [wb]
theorem refBlockTop_ok (l : List GStmt) (hl : RBlock l) (hn : szB l ≤ 30000000) : Pure Try.prog 38 [.d (.sl (l.map GStmt.enc))] (.d (.sl ((genB l 0).1.map GIns.enc))) := by
  have hc := hl 0 ⟨by omega, by omega⟩
  unfold genT at hc
  generalize genB l 0 = q at *
  obtain ⟨q1, q2⟩ := q
  simp only at hc ⊢
  refine Pure.run Try.func38 rfl (by simp [Try.f38]) ?_; simp [Try.f38]
  refine AOps.pureC rfl (hc) rfl rfl (by simp) rfl ?_
  simp
theorem refRoutineTop_ok (l : List GStmt) (hl : RBlock l) (hn : szB l ≤ 30000000) : Pure Try.prog 39 [.d (.sl (l.map GStmt.enc))] (.d (.sl (((genB l 0).1 ++ [GIns.mk 1 0, GIns.mk 27 0]).map GIns.enc))) := by
  have hc := refBlockTop_ok l hl hn
  have bd := genB_bd' l 0
  generalize genB l 0 = q at *
  obtain ⟨q1, q2⟩ := q
  simp only at hc bd ⊢
  refine Pure.run Try.func39 rfl (by simp [Try.f39]) ?_; simp [Try.f39]
  refine AOps.pureC rfl (hc) rfl rfl (by simp) rfl ?_
  simp
  refine AOps.pureC rfl (code_ok 1 0) rfl rfl (by simp) rfl ?_
  simp
  refine AOps.pureC rfl (code_ok 27 0) rfl rfl (by simp) rfl ?_
  simp
  refine AOps.weaken (Wk.freeze 7 (ys := ([GIns.mk 1 0, GIns.mk 27 0]).map _) rfl) ?_
  simp
  refine AOps.pureC rfl (join_ok q1 [GIns.mk 1 0, GIns.mk 27 0] (by omega) (by simp)) (by simp) rfl (by simp) rfl ?_
  simp
theorem same_self (a : List GIns) (ha : a.length ≤ 1000000000000) : Pure Try.prog 29 [.d (.sl (a.map GIns.enc)), .d (.sl (a.map GIns.enc))] (.d (.v (.bool true))) :=
  (same_ok a a ha).eq rfl (by simp)
theorem genBlocks_ok (t : GTables) (ht : t.wf) (l : List GStmt) (hl : ∀ s ∈ l, s.wf) (hlen : l.length * 104 ≤ 140737488351232) (locals : Int) (hlo : inR .i64 locals) : Pure Try.prog 9 [.agg (t.enc.map .d), .d (.sl (l.map GStmt.enc)), .d (.v (.int .i64 locals))] (.d (.v (.bool true))) := by
  have hA := awake_ok.ok
  have key : 0 ≤ fewB l 600 → boundB t locals l = true → WBlock l ∧ RBlock l ∧ szB l ≤ 600 := fun h1 h2 => ⟨wBlock_ok hlo hl hlen h2, refBlock_ok hlo hl hlen h2, by have := (fewB_bd _ l (Nat.lt_succ_self _) 600 (by omega)).2.2 h1; omega⟩
  refine Pure.run Try.func9 rfl (by simp [Try.f9]) ?_; simp [-condC_bool, Try.f9]
  repeat' (first
    | (with_reducible refine And.intro ?_ ?_)
    | (refine condC_split (fun h => ?_) (fun h => ?_) <;> (try simp at h) <;> (try simp [-condC_bool, *]))
    | (refine AOps.pureC rfl (refFewB_ok l hl hlen _ ⟨by omega, by omega⟩) rfl rfl (by simp) rfl ?_ <;> (try simp [-condC_bool, *]))
    | (refine AOps.pureC rfl (refBoundB_ok t ht locals hlo l hl hlen) rfl rfl (by simp) rfl ?_ <;> (try simp [-condC_bool, *]))
    | (refine AOps.pureC rfl (awake_ok) rfl rfl (by simp) rfl ?_ <;> (try simp [-condC_bool, *]))
    | (refine AOps.pureG rfl (fun h => refFewB_ok l hl hlen _ ⟨by omega, by omega⟩) rfl rfl (by simp) (by simp) rfl ?_ <;> (try simp [-condC_bool, *]))
    | (refine AOps.pureG rfl (fun h => refBoundB_ok t ht locals hlo l hl hlen) rfl rfl (by simp) (by simp) rfl ?_ <;> (try simp [-condC_bool, *]))
    | (refine AOps.pureG rfl (fun h => awake_ok) rfl rfl (by simp) (by simp) rfl ?_ <;> (try simp [-condC_bool, *]))
    | (with_reducible intro _))
  obtain ⟨k1, k2, k3⟩ := key h.1 h.2.2
  have bd := genB_bd' l 0
  have g1 := genBlock_ok l k1 (by omega)
  have g2 := refBlockTop_ok l k2 (by omega)
  have g3 := genRoutine_ok l k1 (by omega)
  have g4 := refRoutineTop_ok l k2 (by omega)
  have s1 := same_self (genB l 0).1 (by omega)
  have s2 := same_self ((genB l 0).1 ++ [GIns.mk 1 0, GIns.mk 27 0]) (by simp <;> omega)
  generalize (genB l 0).1 ++ [GIns.mk 1 0, GIns.mk 27 0] = g' at *
  generalize (genB l 0).1 = g at *
  repeat' (first
    | (with_reducible refine And.intro ?_ ?_)
    | (refine condC_split (fun h => ?_) (fun h => ?_) <;> (try simp at h) <;> (try simp [-condC_bool, *]))
    | (refine AOps.pureC rfl (g1) rfl rfl (by simp) rfl ?_ <;> (try simp [-condC_bool, *]))
    | (refine AOps.pureC rfl (g2) rfl rfl (by simp) rfl ?_ <;> (try simp [-condC_bool, *]))
    | (refine AOps.pureC rfl (g3) rfl rfl (by simp) rfl ?_ <;> (try simp [-condC_bool, *]))
    | (refine AOps.pureC rfl (g4) rfl rfl (by simp) rfl ?_ <;> (try simp [-condC_bool, *]))
    | (refine AOps.pureC rfl (s1) rfl rfl (by simp) rfl ?_ <;> (try simp [-condC_bool, *]))
    | (refine AOps.pureC rfl (s2) rfl rfl (by simp) rfl ?_ <;> (try simp [-condC_bool, *]))
    | (refine AOps.pureC rfl (awake_ok) rfl rfl (by simp) rfl ?_ <;> (try simp [-condC_bool, *]))
    | (refine AOps.pureG rfl (fun h => g1) rfl rfl (by simp) (by simp) rfl ?_ <;> (try simp [-condC_bool, *]))
    | (refine AOps.pureG rfl (fun h => g2) rfl rfl (by simp) (by simp) rfl ?_ <;> (try simp [-condC_bool, *]))
    | (refine AOps.pureG rfl (fun h => g3) rfl rfl (by simp) (by simp) rfl ?_ <;> (try simp [-condC_bool, *]))
    | (refine AOps.pureG rfl (fun h => g4) rfl rfl (by simp) (by simp) rfl ?_ <;> (try simp [-condC_bool, *]))
    | (refine AOps.pureG rfl (fun h => s1) rfl rfl (by simp) (by simp) rfl ?_ <;> (try simp [-condC_bool, *]))
    | (refine AOps.pureG rfl (fun h => s2) rfl rfl (by simp) (by simp) rfl ?_ <;> (try simp [-condC_bool, *]))
    | (refine AOps.pureG rfl (fun h => awake_ok) rfl rfl (by simp) (by simp) rfl ?_ <;> (try simp [-condC_bool, *]))
    | (with_reducible intro _))
theorem genBlocks_cl (t : GTables) (ht : t.wf) (l : List GStmt) (hlen : l.length * 104 ≤ 140737488351232) (hl : ∀ s ∈ l, s.wf) (locals : Int) (hlo : inR .i64 locals) : Pure Try.prog 9 [.agg (t.enc.map .d), .d (.sl (l.map GStmt.enc)), .d (.v (.int .i64 locals))] (.d (.v (.bool true))) := genBlocks_ok t ht l hl hlen locals hlo
end Go.Ab

set_option linter.unusedSimpArgs false
set_option linter.unusedVariables false
namespace Go.Ab
open Go.Proofs
set_option maxRecDepth 40000
set_option maxHeartbeats 4000000

/-! ### Labels and ticks, in plain Lean -/
def stC (C : List GIns) (k : Int) : Nat := C.countP fun i => decide (i.Op = 38) && decide (i.Arg = k)
def akC (C : List GIns) (k : Int) : Nat := C.countP fun i => (decide (i.Op = 24) || decide (i.Op = 25)) && decide (i.Arg = k)
def nlC (C : List GIns) : Nat := C.countP fun i => decide (i.Op = 38)
def tkC (C : List GIns) : Nat := C.countP fun i => decide (i.Op = 37)
theorem stC_app (a b : List GIns) (k : Int) : stC (a ++ b) k = stC a k + stC b k := List.countP_append
theorem akC_app (a b : List GIns) (k : Int) : akC (a ++ b) k = akC a k + akC b k := List.countP_append
theorem nlC_app (a b : List GIns) : nlC (a ++ b) = nlC a + nlC b := List.countP_append
theorem tkC_app (a b : List GIns) : tkC (a ++ b) = tkC a + tkC b := List.countP_append
theorem stC_cons (i : GIns) (l : List GIns) (k : Int) : stC (i :: l) k = stC l k + if i.Op = 38 ∧ i.Arg = k then 1 else 0 := by simp [stC, List.countP_cons]
theorem akC_cons (i : GIns) (l : List GIns) (k : Int) : akC (i :: l) k = akC l k + if (i.Op = 24 ∨ i.Op = 25) ∧ i.Arg = k then 1 else 0 := by simp [akC, List.countP_cons]
theorem nlC_cons (i : GIns) (l : List GIns) : nlC (i :: l) = nlC l + if i.Op = 38 then 1 else 0 := by simp [nlC, List.countP_cons]
theorem tkC_cons (i : GIns) (l : List GIns) : tkC (i :: l) = tkC l + if i.Op = 37 then 1 else 0 := by simp [tkC, List.countP_cons]
@[simp] theorem stC_nil (k : Int) : stC [] k = 0 := rfl
@[simp] theorem akC_nil (k : Int) : akC [] k = 0 := rfl
@[simp] theorem nlC_nil : nlC [] = 0 := rfl
@[simp] theorem tkC_nil : tkC [] = 0 := rfl

/-- The labels from a on, below b: each stands once, and is asked for; no others are. -/
structure Lab (C : List GIns) (a b : Int) : Prop where
  le : a ≤ b
  st : ∀ k, (a ≤ k ∧ k < b → stC C k = 1) ∧ (¬ (a ≤ k ∧ k < b) → stC C k = 0)
  ak : ∀ k, (a ≤ k ∧ k < b → 0 < akC C k) ∧ (¬ (a ≤ k ∧ k < b) → akC C k = 0)
  nl : (nlC C : Int) = b - a
theorem Lab.nil (a : Int) : Lab [] a a := ⟨by omega, fun k => by simp <;> omega, fun k => by simp <;> omega, by simp⟩
theorem Lab.app {C D : List GIns} {a b c : Int} (h : Lab C a b) (h' : Lab D b c) : Lab (C ++ D) a c := by
  have l1 := h.le
  have l2 := h'.le
  refine ⟨by omega, fun k => ?_, fun k => ?_, ?_⟩
  · have := h.st k; have := h'.st k
    rw [stC_app]; omega
  · have := h.ak k; have := h'.ak k
    rw [akC_app]; omega
  · have := h.nl; have := h'.nl
    rw [nlC_app]; omega
def dull (i : GIns) : Prop := i.Op ≠ 24 ∧ i.Op ≠ 25 ∧ i.Op ≠ 38
theorem dull_st {l : List GIns} (h : ∀ i ∈ l, dull i) : (∀ k, stC l k = 0) ∧ (∀ k, akC l k = 0) ∧ nlC l = 0 := by
  induction l with
  | nil => simp
  | cons i l ih =>
    obtain ⟨h1, h2, h3⟩ := ih (fun x hx => h x (by simp [hx]))
    obtain ⟨a, b, c⟩ := h i (by simp)
    exact ⟨fun k => by rw [stC_cons, h1]; simp [c], fun k => by rw [akC_cons, h2]; simp [a, b], by rw [nlC_cons, h3]; simp [c]⟩
theorem Lab.dull {l : List GIns} (h : ∀ i ∈ l, dull i) (a : Int) : Lab l a a := by
  obtain ⟨h1, h2, h3⟩ := dull_st h
  exact ⟨by omega, fun k => by rw [h1]; omega, fun k => by rw [h2]; omega, by rw [h3]; omega⟩
theorem iteInd {α : Type} {p : α → Prop} {c : Prop} [Decidable c] {a b : α} (h1 : c → p a) (h2 : ¬ c → p b) : p (if c then a else b) := by
  split
  · exact h1 ‹_›
  · exact h2 ‹_›
theorem ownM_dull (e : GExpr) : dull (ownM e) ∧ (ownM e).Op ≠ 37 := by
  unfold ownM Go.Ab.dull
  repeat' split
  all_goals simp
theorem deedM_dull (k num : Int) : dull (deedM k num) ∧ (deedM k num).Op ≠ 37 := by
  have key : ∀ p : GIns → Prop, (∀ i ∈ [GIns.mk 6 num, ⟨4, num⟩, ⟨14, num⟩, ⟨15, num⟩, ⟨16, num⟩, ⟨32, num⟩, ⟨33, num⟩, ⟨17, 0⟩, ⟨18, 0⟩, ⟨27, 0⟩, ⟨28, 0⟩, ⟨29, 0⟩, ⟨30, 0⟩, ⟨31, 0⟩, ⟨34, 0⟩, ⟨35, 0⟩, ⟨36, 0⟩, ⟨2, 0⟩], p i) → p (deedM k num) := by
    intro p h
    unfold deedM
    simp only [List.mem_cons, List.not_mem_nil, or_false, forall_eq_or_imp, forall_eq] at h
    obtain ⟨a1, a2, a3, a4, a5, a6, a7, a8, a9, a10, a11, a12, a13, a14, a15, a16, a17, a18⟩ := h
    iterate 17 (refine iteInd (fun _ => ?_) (fun _ => ?_); assumption)
    assumption
  refine key (fun i => dull i ∧ i.Op ≠ 37) ?_
  simp [Go.Ab.dull]
/-- Two labels of one's own, around what has those behind them. -/
theorem Lab.two {A B C D E : List GIns} {n m k : Int} (hA : Lab A (n + 2) m) (hB : Lab B m k)
    (h1 : ∀ j, stC C j + stC D j + stC E j = (if n = j then 1 else 0) + (if n + 1 = j then 1 else 0))
    (h2 : ∀ j, (j = n ∨ j = n + 1 → 0 < akC C j + akC D j + akC E j) ∧ (¬ (j = n ∨ j = n + 1) → akC C j + akC D j + akC E j = 0))
    (h3 : nlC C + nlC D + nlC E = 2) : Lab (C ++ A ++ D ++ B ++ E) n k := by
  have l1 := hA.le
  have l2 := hB.le
  refine ⟨by omega, fun j => ?_, fun j => ?_, ?_⟩
  · have := hA.st j; have := hB.st j; have := h1 j
    simp only [stC_app]
    split at this <;> split at this <;> omega
  · have := hA.ak j; have := hB.ak j; have := h2 j
    simp only [akC_app]; omega
  · have := hA.nl; have := hB.nl
    simp only [nlC_app]; omega
theorem genEs_lab (l : List GExpr) (hl : ∀ x ∈ l, ∀ m, Lab (genE x m).1 m (genE x m).2) (m : Int) : Lab (genEs l m).1 m (genEs l m).2 := by
  induction l generalizing m with
  | nil => rw [genEs]; exact .nil m
  | cons x l ih =>
    rw [genEs]
    exact (hl x (by simp) m).app (ih (fun y hy => hl y (by simp [hy])) _)
theorem genE_lab (e : GExpr) (m : Int) : Lab (genE e m).1 m (genE e m).2 := by
  obtain ⟨n, hn⟩ : ∃ n, SizeOf.sizeOf e < n := ⟨_, Nat.lt_succ_self _⟩
  induction n generalizing e m with
  | zero => omega
  | succ n ih =>
    have hs : ∀ x ∈ e.Args, ∀ m, Lab (genE x m).1 m (genE x m).2 := fun x hx m => ih x m (by have := GExpr.lt_of_mem hx; omega)
    by_cases hL : logicE e
    · obtain ⟨hk, ho⟩ := hL
      by_cases hA : ∃ a b r, e.Args = a :: b :: r
      · obtain ⟨a, b, r, hA⟩ := hA
        have h1 := hs a (by simp [hA]) (m + 2)
        have h2 := hs b (by simp [hA]) (genE a (m + 2)).2
        rcases ho with ho | ho
        · rw [genE_or e a b r m hk ho hA]
          have := Lab.two (C := []) (D := [⟨25, m⟩] ++ [⟨1, 1⟩, ⟨24, m + 1⟩, ⟨38, m⟩]) (E := [⟨11, 0⟩, ⟨38, m + 1⟩]) h1 h2
            (fun j => by simp only [stC_cons, stC_nil, List.cons_append, List.nil_append]; simp <;> omega) (fun j => by simp only [akC_cons, akC_nil, List.cons_append, List.nil_append]; simp; by_cases e1 : m = j <;> by_cases e2 : m + 1 = j <;> simp [e1, e2] <;> omega) (by simp [nlC_cons])
          simpa [List.append_assoc] using this
        · rw [genE_and e a b r m hk ho hA]
          have := Lab.two (C := []) (D := [⟨25, m⟩]) (E := [⟨11, 0⟩, ⟨24, m + 1⟩, ⟨38, m⟩, ⟨1, 0⟩, ⟨38, m + 1⟩]) h1 h2
            (fun j => by simp only [stC_cons, stC_nil, List.cons_append, List.nil_append]; simp <;> omega) (fun j => by simp only [akC_cons, akC_nil, List.cons_append, List.nil_append]; simp; by_cases e1 : m = j <;> by_cases e2 : m + 1 = j <;> simp [e1, e2] <;> omega) (by simp [nlC_cons])
          simpa [List.append_assoc] using this
      · have : genE e m = ([], m) := by
          cases e with
          | mk k o n s l =>
            cases l with
            | nil => rw [genE.eq_def]; simp [show k = 6 from hk, show o = 1 ∨ o = 2 from ho]
            | cons a l =>
              cases l with
              | nil => rw [genE.eq_def]; simp [show k = 6 from hk, show o = 1 ∨ o = 2 from ho]
              | cons b r => exact absurd ⟨a, b, r, rfl⟩ hA
        rw [this]
        exact .nil m
    · rw [genE_plain e m hL]
      exact (genEs_lab e.Args hs m).app (.dull (fun i hi => by rw [List.mem_singleton.1 hi]; exact (ownM_dull e).1) _)
theorem genEs_lab' (l : List GExpr) (m : Int) : Lab (genEs l m).1 m (genEs l m).2 := genEs_lab l (fun x _ m => genE_lab x m) m
theorem sayI_lab (x : GExpr) (m : Int) : Lab (sayI x m).1 m (sayI x m).2 := by
  unfold sayI
  split
  · exact .dull (by simp [dull]) _
  · split
    · exact (genEs_lab' x.Args m).app (.dull (by simp [dull]) _)
    · exact (genE_lab x m).app (.dull (by simp [dull]) _)
theorem genSay_lab (l : List GExpr) (m : Int) : Lab (genSay l m).1 m (genSay l m).2 := by
  induction l generalizing m with
  | nil => rw [genSay]; exact .nil m
  | cons x l ih =>
    rw [genSay]
    exact (sayI_lab x m).app (ih _)
theorem genB_lab : ∀ (N : Nat) (l : List GStmt), SizeOf.sizeOf l < N → ∀ m : Int, Lab (genB l m).1 m (genB l m).2 := by
  intro N
  induction N with
  | zero => intro l h; omega
  | succ N ih =>
    intro l h m
    cases l with
    | nil => rw [genB]; exact .nil m
    | cons s l =>
      have hl : SizeOf.sizeOf l < N := by simp only [List.cons.sizeOf_spec] at h; omega
      have hs : SizeOf.sizeOf s < N := by simp only [List.cons.sizeOf_spec] at h; omega
      have hb := GStmt.lt_body s
      have he := GStmt.lt_else s
      rw [genB]
      refine Lab.app ?_ (ih l hl _)
      by_cases k9 : s.Kind = 9
      · by_cases he0 : s.Else = []
        · rw [genS_if0 s m k9 he0]
          have a1 := genEs_lab' s.Args (m + 1)
          have a2 := ih s.Body (by omega) (genEs s.Args (m + 1)).2
          have l1 := a1.le
          have l2 := a2.le
          refine ⟨by omega, fun j => ?_, fun j => ?_, ?_⟩
          · have := a1.st j; have := a2.st j
            simp [stC_app, stC_cons, tick]; split <;> omega
          · have := a1.ak j; have := a2.ak j
            simp [akC_app, akC_cons, tick]; split <;> omega
          · have := a1.nl; have := a2.nl
            simp [nlC_app, nlC_cons, tick]; omega
        · rw [genS_if1 s m k9 he0]
          have a1 := genEs_lab' s.Args (m + 2)
          have a2 := ih s.Body (by omega) (genEs s.Args (m + 2)).2
          have a3 := ih s.Else (by omega) (genB s.Body (genEs s.Args (m + 2)).2).2
          have l1 := a1.le
          have l2 := a2.le
          have l3 := a3.le
          refine ⟨by omega, fun j => ?_, fun j => ?_, ?_⟩
          · have := a1.st j; have := a2.st j; have := a3.st j
            simp [stC_app, stC_cons, tick]; split <;> split <;> omega
          · have := a1.ak j; have := a2.ak j; have := a3.ak j
            simp [akC_app, akC_cons, tick]; split <;> split <;> omega
          · have := a1.nl; have := a2.nl; have := a3.nl
            simp [nlC_app, nlC_cons, tick]; omega
      by_cases k10 : s.Kind = 10
      · rw [genS_while s m k10]
        have a1 := genEs_lab' s.Args (m + 2)
        have a2 := ih s.Body (by omega) (genEs s.Args (m + 2)).2
        have l1 := a1.le
        have l2 := a2.le
        refine ⟨by omega, fun j => ?_, fun j => ?_, ?_⟩
        · have := a1.st j; have := a2.st j
          simp [stC_app, stC_cons, tick]; split <;> split <;> omega
        · have := a1.ak j; have := a2.ak j
          simp [akC_app, akC_cons, tick]; split <;> split <;> omega
        · have := a1.nl; have := a2.nl
          simp [nlC_app, nlC_cons, tick]; omega
      by_cases k11 : s.Kind = 11
      · rw [genS_each s m k11]
        have a1 := genEs_lab' s.Args (m + 2)
        have a2 := ih s.Body (by omega) (genEs s.Args (m + 2)).2
        have l1 := a1.le
        have l2 := a2.le
        refine ⟨by omega, fun j => ?_, fun j => ?_, ?_⟩
        · have := a1.st j; have := a2.st j
          simp [stC_app, stC_cons, tick]; split <;> split <;> omega
        · have := a1.ak j; have := a2.ak j
          simp [akC_app, akC_cons, tick]; split <;> split <;> omega
        · have := a1.nl; have := a2.nl
          simp [nlC_app, nlC_cons, tick]; omega
      by_cases k1 : s.Kind = 1
      · rw [genS_say s m k1]
        exact (Lab.dull (by simp [dull, tick]) m).app (genSay_lab s.Args m)
      · rw [genS_plain s m k9 k10 k11 k1]
        exact ((Lab.dull (by simp [dull, tick]) m).app (genEs_lab' s.Args m)).app (.dull (fun i hi => by rw [List.mem_singleton.1 hi]; exact (deedM_dull _ _).1) _)

/-! ### ticks -/
mutual
def sizeS : GStmt → Nat
  | .mk _ _ _ _ b c => 1 + sizeSs b + sizeSs c
def sizeSs : List GStmt → Nat
  | [] => 0
  | s :: l => sizeS s + sizeSs l
end
mutual
def eachS : GStmt → Nat
  | .mk k _ _ _ b c => (if k = 11 then 1 else 0) + (eachSs b + eachSs c)
def eachSs : List GStmt → Nat
  | [] => 0
  | s :: l => eachS s + eachSs l
end
theorem sizeS_eq (s : GStmt) : sizeS s = 1 + sizeSs s.Body + sizeSs s.Else := by cases s; rw [sizeS]; rfl
theorem eachS_eq (s : GStmt) : eachS s = (if s.Kind = 11 then 1 else 0) + (eachSs s.Body + eachSs s.Else) := by cases s; rw [eachS]; rfl
theorem sizeSs_snoc (l : List GStmt) (s : GStmt) : sizeSs (l ++ [s]) = sizeSs l + sizeS s := by
  induction l with
  | nil => simp [sizeSs]
  | cons x l ih => simp only [List.cons_append, sizeSs, ih]; omega
theorem eachSs_snoc (l : List GStmt) (s : GStmt) : eachSs (l ++ [s]) = eachSs l + eachS s := by
  induction l with
  | nil => simp [eachSs]
  | cons x l ih => simp only [List.cons_append, eachSs, ih]; omega
theorem size_le_sz : ∀ (N : Nat) (l : List GStmt), SizeOf.sizeOf l < N → sizeSs l ≤ szB l ∧ eachSs l ≤ szB l := by
  intro N
  induction N with
  | zero => intro l h; omega
  | succ N ih =>
    intro l h
    cases l with
    | nil => simp [sizeSs, eachSs]
    | cons s l =>
      have hl : SizeOf.sizeOf l < N := by simp only [List.cons.sizeOf_spec] at h; omega
      have hs : SizeOf.sizeOf s < N := by simp only [List.cons.sizeOf_spec] at h; omega
      have hb := GStmt.lt_body s
      have he := GStmt.lt_else s
      have h1 := ih l hl
      have h2 := ih s.Body (by omega)
      have h3 := ih s.Else (by omega)
      rw [sizeSs, eachSs, szB, sizeS_eq, eachS_eq, szS_eq]
      split <;> omega
theorem genEs_tk (l : List GExpr) (hl : ∀ x ∈ l, ∀ m, tkC (genE x m).1 = 0) (m : Int) : tkC (genEs l m).1 = 0 := by
  induction l generalizing m with
  | nil => simp [genEs]
  | cons x l ih =>
    rw [genEs, tkC_app, hl x (by simp) m, ih (fun y hy => hl y (by simp [hy]))]
theorem genE_tk (e : GExpr) (m : Int) : tkC (genE e m).1 = 0 := by
  obtain ⟨n, hn⟩ : ∃ n, SizeOf.sizeOf e < n := ⟨_, Nat.lt_succ_self _⟩
  induction n generalizing e m with
  | zero => omega
  | succ n ih =>
    have hs : ∀ x ∈ e.Args, ∀ m, tkC (genE x m).1 = 0 := fun x hx m => ih x m (by have := GExpr.lt_of_mem hx; omega)
    by_cases hL : logicE e
    · obtain ⟨hk, ho⟩ := hL
      by_cases hA : ∃ a b r, e.Args = a :: b :: r
      · obtain ⟨a, b, r, hA⟩ := hA
        have h1 := hs a (by simp [hA]) (m + 2)
        have h2 := hs b (by simp [hA]) (genE a (m + 2)).2
        rcases ho with ho | ho
        · rw [genE_or e a b r m hk ho hA]
          simp [tkC_app, tkC_cons, h1, h2]
        · rw [genE_and e a b r m hk ho hA]
          simp [tkC_app, tkC_cons, h1, h2]
      · have : genE e m = ([], m) := by
          cases e with
          | mk k o n s l =>
            cases l with
            | nil => rw [genE.eq_def]; simp [show k = 6 from hk, show o = 1 ∨ o = 2 from ho]
            | cons a l =>
              cases l with
              | nil => rw [genE.eq_def]; simp [show k = 6 from hk, show o = 1 ∨ o = 2 from ho]
              | cons b r => exact absurd ⟨a, b, r, rfl⟩ hA
        rw [this]
        rfl
    · rw [genE_plain e m hL, tkC_app, genEs_tk e.Args hs, tkC_cons, if_neg (ownM_dull e).2]
      rfl
theorem genEs_tk' (l : List GExpr) (m : Int) : tkC (genEs l m).1 = 0 := genEs_tk l (fun x _ m => genE_tk x m) m
theorem sayI_tk (x : GExpr) (m : Int) : tkC (sayI x m).1 = 0 := by
  unfold sayI
  split
  · simp [tkC_cons]
  · split
    · simp [tkC_app, tkC_cons, genEs_tk']
    · simp [tkC_app, tkC_cons, genE_tk]
theorem genSay_tk (l : List GExpr) (m : Int) : tkC (genSay l m).1 = 0 := by
  induction l generalizing m with
  | nil => simp [genSay]
  | cons x l ih => rw [genSay, tkC_app, sayI_tk, ih]
theorem shape_body {s : GStmt} (h : (shapeM s).1 = true) : (s.Kind ≠ 9 → s.Else = []) ∧ (s.Kind ≠ 9 → s.Kind ≠ 10 → s.Kind ≠ 11 → s.Body = []) := by
  have hk := shape_kind h
  rcases hk with hk | hk | hk | hk | hk | hk | hk | hk | hk | hk | hk | hk | hk | hk | hk | hk | hk | hk | hk | hk | hk | hk | hk <;>
  · simp [shapeM, hk, hasM] at h
    simp [hk, h]
theorem genB_tk {t : GTables} {locals : Int} : ∀ (N : Nat) (l : List GStmt), SizeOf.sizeOf l < N → (∀ s ∈ l, boundS t locals s = true) → ∀ m : Int, tkC (genB l m).1 = sizeSs l + eachSs l := by
  intro N
  induction N with
  | zero => intro l h; omega
  | succ N ih =>
    intro l h hbd m
    cases l with
    | nil => simp [genB, sizeSs, eachSs]
    | cons s l =>
      have hl : SizeOf.sizeOf l < N := by simp only [List.cons.sizeOf_spec] at h; omega
      have hs : SizeOf.sizeOf s < N := by simp only [List.cons.sizeOf_spec] at h; omega
      have hb := GStmt.lt_body s
      have he := GStmt.lt_else s
      obtain ⟨p1, p2, p3, p4, p5⟩ := boundS_parts (hbd s (by simp))
      obtain ⟨q1, q2⟩ := shape_body p1
      have iB := ih s.Body (by omega) p4
      have iE := ih s.Else (by omega) p5
      rw [genB, sizeSs, eachSs, tkC_app, ih l hl (fun x hx => hbd x (by simp [hx])), sizeS_eq, eachS_eq]
      have key : tkC (genS s m).1 = 1 + sizeSs s.Body + sizeSs s.Else + ((if s.Kind = 11 then 1 else 0) + (eachSs s.Body + eachSs s.Else)) := by
        by_cases k9 : s.Kind = 9
        · by_cases he0 : s.Else = []
          · rw [genS_if0 s m k9 he0]
            simp [tkC_app, tkC_cons, tick, genEs_tk', iB, k9, he0, sizeSs, eachSs]; omega
          · rw [genS_if1 s m k9 he0]
            simp [tkC_app, tkC_cons, tick, genEs_tk', iB, iE, k9]; omega
        have e0 := q1 k9
        by_cases k10 : s.Kind = 10
        · rw [genS_while s m k10]
          simp [tkC_app, tkC_cons, tick, genEs_tk', iB, k10, e0, sizeSs, eachSs]; omega
        by_cases k11 : s.Kind = 11
        · rw [genS_each s m k11]
          simp [tkC_app, tkC_cons, tick, genEs_tk', iB, k11, e0, sizeSs, eachSs]; omega
        have b0 := q2 k9 k10 k11
        by_cases k1 : s.Kind = 1
        · rw [genS_say s m k1]
          simp [tkC_cons, tick, genSay_tk, k1, e0, b0, sizeSs, eachSs]
        · rw [genS_plain s m k9 k10 k11 k1]
          simp [tkC_app, tkC_cons, tick, genEs_tk', k11, e0, b0, sizeSs, eachSs, (deedM_dull _ _).2]
      rw [key]; omega
end Go.Ab

set_option linter.unusedSimpArgs false
set_option linter.unusedVariables false
namespace Go.Ab
open Go.Proofs
set_option maxRecDepth 40000
set_option maxHeartbeats 4000000

theorem refSize_ok (l : List GStmt) (hl : ∀ s ∈ l, s.wf) (hlen : l.length * 104 ≤ 140737488351232) (hm : sizeSs l ≤ 1000000000000) : Pure Try.prog 35 [.d (.sl (l.map GStmt.enc))] (.d (.v (.int .i64 (sizeSs l)))) := by
  obtain ⟨n, hn⟩ : ∃ n, SizeOf.sizeOf l < n := ⟨_, Nat.lt_succ_self _⟩
  induction n generalizing l with
  | zero => omega
  | succ n ih =>
    have hsub : ∀ s ∈ l, sizeS s ≤ 1000000000000 → Pure Try.prog 35 [.d (.sl (s.Body.map GStmt.enc))] (.d (.v (.int .i64 (sizeSs s.Body)))) ∧ Pure Try.prog 35 [.d (.sl (s.Else.map GStmt.enc))] (.d (.v (.int .i64 (sizeSs s.Else)))) := by
      intro s hs hz
      have hw := hl s hs
      have h1 := List.sizeOf_lt_of_mem hs
      have h2 := GStmt.lt_body s
      have h3 := GStmt.lt_else s
      rw [sizeS_eq] at hz
      exact ⟨ih s.Body (GStmt.wf_Body hw) (GStmt.wl_Body hw) (by omega) (by omega), ih s.Else (GStmt.wf_Else hw) (GStmt.wl_Else hw) (by omega) (by omega)⟩
    have happ : ∀ pre s post, l = pre ++ s :: post → sizeSs pre + sizeS s ≤ sizeSs l := by
      intro pre s post h
      rw [h]
      clear h hsub ih hn hm hlen hl
      induction pre with
      | nil => simp [sizeSs]
      | cons x pre ih => simp only [List.cons_append, sizeSs] at ih ⊢; omega
    refine Pure.run Try.func35 rfl (by simp [Try.f35]) ?_; simp [Try.f35]
    refine AWP.loopL [3, 6, 7, 8] l (fun pre => [(3, .d (.v (.int .i64 (sizeSs pre)))), (8, .d (.v (.int .i64 pre.length)))]) (fun _ => []) (fun _ => True) (by rfl) (by omega) (by simp [sizeSs]) ?_ ?_
    · rintro pre s post hsp - hlt hge a4
      have h0 := happ pre s post hsp
      obtain ⟨c1, c2⟩ := hsub s (by rw [hsp]; simp) (by omega)
      have hsn := sizeSs_snoc pre s
      rw [sizeS_eq] at hsn h0
      have d1 := c1.ok
      have d2 := c2.ok
      clear hsp
      have a1 : inR .i64 (1 + (sizeSs s.Body : Int)) := by rw [inR_i64]; omega
      have a2 : inR .i64 (1 + (sizeSs s.Body : Int) + sizeSs s.Else) := by rw [inR_i64]; omega
      have a3 : inR .i64 ((sizeSs pre : Int) + (1 + (sizeSs s.Body : Int) + sizeSs s.Else)) := by rw [inR_i64]; omega
      simp [hlt, hge]
      intro bs
      refine AWP.regionD [.d (.v (.int .i64 (sizeSs s.Body))), .d (.v (.int .i64 (sizeSs s.Else)))] Try.mixed (by kernel_rfl) (by rfl) ?_
      simp [d1, d2, a1, a2, a3, a4, hsn]
    · intro _
      simp
theorem refEaches_ok (l : List GStmt) (hl : ∀ s ∈ l, s.wf) (hlen : l.length * 104 ≤ 140737488351232) (hm : eachSs l ≤ 1000000000000) : Pure Try.prog 36 [.d (.sl (l.map GStmt.enc))] (.d (.v (.int .i64 (eachSs l)))) := by
  obtain ⟨n, hn⟩ : ∃ n, SizeOf.sizeOf l < n := ⟨_, Nat.lt_succ_self _⟩
  induction n generalizing l with
  | zero => omega
  | succ n ih =>
    have hsub : ∀ s ∈ l, eachS s ≤ 1000000000000 → Pure Try.prog 36 [.d (.sl (s.Body.map GStmt.enc))] (.d (.v (.int .i64 (eachSs s.Body)))) ∧ Pure Try.prog 36 [.d (.sl (s.Else.map GStmt.enc))] (.d (.v (.int .i64 (eachSs s.Else)))) := by
      intro s hs hz
      have hw := hl s hs
      have h1 := List.sizeOf_lt_of_mem hs
      have h2 := GStmt.lt_body s
      have h3 := GStmt.lt_else s
      rw [eachS_eq] at hz
      exact ⟨ih s.Body (GStmt.wf_Body hw) (GStmt.wl_Body hw) (by omega) (by omega), ih s.Else (GStmt.wf_Else hw) (GStmt.wl_Else hw) (by omega) (by omega)⟩
    have happ : ∀ pre s post, l = pre ++ s :: post → eachSs pre + eachS s ≤ eachSs l := by
      intro pre s post h
      rw [h]
      clear h hsub ih hn hm hlen hl
      induction pre with
      | nil => simp [eachSs]
      | cons x pre ih => simp only [List.cons_append, eachSs] at ih ⊢; omega
    refine Pure.run Try.func36 rfl (by simp [Try.f36]) ?_; simp [Try.f36]
    refine AWP.loopL [0, 3, 4] l (fun pre => [(3, .d (.v (.int .i64 (eachSs pre)))), (4, .d (.v (.int .i64 pre.length)))]) (fun _ => []) (fun _ => True) (by rfl) (by omega) (by simp [eachSs]) ?_ ?_
    · rintro pre s post hsp - hlt hge a4
      have h0 := happ pre s post hsp
      obtain ⟨c1, c2⟩ := hsub s (by rw [hsp]; simp) (by omega)
      have hsn := eachSs_snoc pre s
      rw [eachS_eq] at hsn h0
      have d1 := c1.ok
      have d2 := c2.ok
      clear hsp
      have a1 : inR .i64 ((eachSs s.Body : Int) + eachSs s.Else) := by rw [inR_i64]; omega
      by_cases hk : s.Kind = 11
      · rw [if_pos hk] at h0 hsn
        have a0 : inR .i64 ((eachSs pre : Int) + 1) := by rw [inR_i64]; omega
        have a3 : inR .i64 ((eachSs pre : Int) + 1 + ((eachSs s.Body : Int) + eachSs s.Else)) := by rw [inR_i64]; omega
        simp [hlt, hge, hk, a0]
        refine AWP.regionD [.d (.v (.int .i64 (eachSs s.Body))), .d (.v (.int .i64 (eachSs s.Else)))] Try.mixed (by kernel_rfl) (by rfl) ?_
        simp [hlt, hge, d1, d2, a1, a3, a4, hsn]
        omega
      · rw [if_neg hk] at h0 hsn
        have a3 : inR .i64 ((eachSs pre : Int) + ((eachSs s.Body : Int) + eachSs s.Else)) := by rw [inR_i64]; omega
        simp [hlt, hge, hk]
        refine AWP.regionD [.d (.v (.int .i64 (eachSs s.Body))), .d (.v (.int .i64 (eachSs s.Else)))] Try.mixed (by kernel_rfl) (by rfl) ?_
        simp [hlt, hge, d1, d2, a1, a3, a4, hsn]
    · intro _
      simp

/-! ### GenTicks -/
theorem Lab.rng {C : List GIns} {a b : Int} (h : Lab C a b) {i : GIns} (hi : i ∈ C) (ho : i.Op = 24 ∨ i.Op = 25 ∨ i.Op = 38) : a ≤ i.Arg ∧ i.Arg < b := by
  refine Decidable.byContradiction fun hn => ?_
  have h1 := (h.st i.Arg).2 hn
  have h2 := (h.ak i.Arg).2 hn
  have key : ∀ p : GIns → Bool, p i = true → 0 < C.countP p := fun p hp => List.countP_pos_iff.2 ⟨i, hi, hp⟩
  rcases ho with ho | ho | ho
  · have := key (fun j => (decide (j.Op = 24) || decide (j.Op = 25)) && decide (j.Arg = i.Arg)) (by simp [ho])
    unfold akC at h2; omega
  · have := key (fun j => (decide (j.Op = 24) || decide (j.Op = 25)) && decide (j.Arg = i.Arg)) (by simp [ho])
    unfold akC at h2; omega
  · have := key (fun j => decide (j.Op = 38) && decide (j.Arg = i.Arg)) (by simp [ho])
    unfold stC at h1; omega
theorem Lab.top {C : List GIns} {b : Int} (h : Lab C 0 b) : b ≤ C.length := by
  have h1 := h.nl
  have h2 : nlC C ≤ C.length := List.countP_le_length
  omega
def cnt (f : List GIns → Int → Nat) (C : List GIns) (N : Nat) : List Int := (List.range N).map fun k : Nat => ((f C (k : Int) : Nat) : Int)
theorem cnt_length (f : List GIns → Int → Nat) (C : List GIns) (N : Nat) : (cnt f C N).length = N := by simp [cnt]
theorem cnt_get (f : List GIns → Int → Nat) (C : List GIns) (N i : Nat) (h : i < N) : (cnt f C N)[i]? = some (f C i : Int) := by simp [cnt, h]
theorem cnt_zero (f : List GIns → Int → Nat) (hf : ∀ k, f [] k = 0) (N : Nat) : cnt f [] N = List.replicate N 0 := by
  unfold cnt
  apply List.ext_getElem <;> simp [hf]
theorem cnt_same (f : List GIns → Int → Nat) (C D : List GIns) (N : Nat) (h : ∀ k, f D k = f C k) : cnt f D N = cnt f C N := by simp [cnt, h]
theorem cnt_set (f : List GIns → Int → Nat) (C D : List GIns) (N : Nat) (a : Int) (h0 : 0 ≤ a) (h : ∀ k, f D k = f C k + if a = k then 1 else 0) : (cnt f C N).set a.toNat ((f C a : Int) + 1) = cnt f D N := by
  apply List.ext_getElem
  · simp [cnt]
  · intro i h1 h2
    rw [List.getElem_set]
    simp only [cnt, List.getElem_map, List.getElem_range, h]
    by_cases e : a.toNat = i
    · have : a = (i : Int) := by omega
      subst this
      simp
    · have : ¬ a = (i : Int) := by omega
      simp [e, this]
theorem genTicks_ok (t : GTables) (ht : t.wf) (l : List GStmt) (hlen : l.length * 104 ≤ 140737488351232) (hl : ∀ s ∈ l, s.wf) (locals : Int) (hlo : inR .i64 locals) : Pure Try.prog 8 [.agg (t.enc.map .d), .d (.sl (l.map GStmt.enc)), .d (.v (.int .i64 locals))] (.d (.v (.bool true))) := by
  have hA := awake_ok.ok
  have key : 0 ≤ fewB l 600 → boundB t locals l = true → WBlock l ∧ (∀ s ∈ l, boundS t locals s = true) ∧ szB l ≤ 600 := fun h1 h2 => ⟨wBlock_ok hlo hl hlen h2, (by unfold boundB at h2; rw [Bool.and_eq_true, boundSs_all, List.all_eq_true] at h2; exact h2.1), by have := (fewB_bd _ l (Nat.lt_succ_self _) 600 (by omega)).2.2 h1; omega⟩
  refine Pure.run Try.func8 rfl (by simp [Try.f8]) ?_; simp [-condC_bool, Try.f8]
  repeat' (first
    | (with_reducible refine And.intro ?_ ?_)
    | (refine condC_split (fun h => ?_) (fun h => ?_) <;> (try simp at h) <;> (try simp [-condC_bool, *]))
    | (refine AOps.pureC rfl (refFewB_ok l hl hlen _ ⟨by omega, by omega⟩) rfl rfl (by simp) rfl ?_ <;> (try simp [-condC_bool, *]))
    | (refine AOps.pureC rfl (refBoundB_ok t ht locals hlo l hl hlen) rfl rfl (by simp) rfl ?_ <;> (try simp [-condC_bool, *]))
    | (refine AOps.pureC rfl (awake_ok) rfl rfl (by simp) rfl ?_ <;> (try simp [-condC_bool, *]))
    | (refine AOps.pureG rfl (fun h => refFewB_ok l hl hlen _ ⟨by omega, by omega⟩) rfl rfl (by simp) (by simp) rfl ?_ <;> (try simp [-condC_bool, *]))
    | (refine AOps.pureG rfl (fun h => refBoundB_ok t ht locals hlo l hl hlen) rfl rfl (by simp) (by simp) rfl ?_ <;> (try simp [-condC_bool, *]))
    | (refine AOps.pureG rfl (fun h => awake_ok) rfl rfl (by simp) (by simp) rfl ?_ <;> (try simp [-condC_bool, *]))
    | (with_reducible intro _))
  obtain ⟨k1, k2, k3⟩ := key h.1 h.2.2
  have bd := genB_bd' l 0
  have g3 := genRoutine_ok l k1 (by omega)
  have hL := (genB_lab _ l (Nat.lt_succ_self _) 0).app (Lab.dull (l := [GIns.mk 1 0, GIns.mk 27 0]) (by simp [dull]) _)
  have hT : tkC ((genB l 0).1 ++ [GIns.mk 1 0, GIns.mk 27 0]) = sizeSs l + eachSs l := by rw [tkC_app, genB_tk _ l (Nat.lt_succ_self _) k2]; simp [tkC_cons]
  have hZ := size_le_sz _ l (Nat.lt_succ_self _)
  have r1 := refSize_ok l hl hlen (by omega)
  have r2 := refEaches_ok l hl hlen (by omega)
  have hCl : ((genB l 0).1 ++ [GIns.mk 1 0, GIns.mk 27 0]).length ≤ 10000 := by simp; omega
  generalize (genB l 0).1 ++ [GIns.mk 1 0, GIns.mk 27 0] = C at *
  generalize (genB l 0).2 = z at *
  have hz := hL.top
  have hz0 := hL.le
  have z1 := cnt_zero stC (fun _ => rfl) C.length
  have z2 := cnt_zero akC (fun _ => rfl) C.length
  refine AOps.pureC rfl (g3) rfl rfl (by simp) rfl ?_
  simp [-condC_bool]
  refine ⟨⟨by simp [maxLen] <;> omega, by omega⟩, ?_⟩
  refine AWP.loopL [1, 7, 8, 9, 10, 33, 34, 35] C (fun pre => [(8, .d (.v (.int .i64 (tkC pre)))), (35, .d (.v (.int .i64 pre.length)))]) (fun pre => [(29, .row 3 1 (dd (encI (cnt stC pre C.length)))), (32, .row 3 1 (dd (encI (cnt akC pre C.length))))]) (fun _ => True) (by rfl) (by omega) (by simp [z1, z2]) ?_ ?_
  · rintro pre i post hsp - hlt hge a4
    have hi : i ∈ C := by rw [hsp]; simp
    have hr := hL.rng hi
    have hb1 : (tkC pre : Int) ≤ 10000 := by
      have : tkC pre ≤ pre.length := List.countP_le_length
      omega
    have hb2 : ∀ k, (stC pre k : Int) ≤ 10000 := fun k => by
      have : stC pre k ≤ pre.length := List.countP_le_length
      omega
    have hb3 : ∀ k, (akC pre k : Int) ≤ 10000 := fun k => by
      have : akC pre k ≤ pre.length := List.countP_le_length
      omega
    have t1 : tkC (pre ++ [i]) = tkC pre + if i.Op = 37 then 1 else 0 := by rw [tkC_app, tkC_cons]; simp
    have t2 : ∀ k, stC (pre ++ [i]) k = stC pre k + if i.Op = 38 ∧ i.Arg = k then 1 else 0 := fun k => by rw [stC_app, stC_cons]; simp
    have t3 : ∀ k, akC (pre ++ [i]) k = akC pre k + if (i.Op = 24 ∨ i.Op = 25) ∧ i.Arg = k then 1 else 0 := fun k => by rw [akC_app, akC_cons]; simp
    clear hsp hL
    by_cases h37 : i.Op = 37
    · have s2 := cnt_same stC pre (pre ++ [i]) C.length (fun k => by rw [t2]; simp [h37])
      have s3 := cnt_same akC pre (pre ++ [i]) C.length (fun k => by rw [t3]; simp [h37])
      rw [if_pos h37] at t1
      have a1 : inR .i64 ((tkC pre : Int) + 1) := by rw [inR_i64]; omega
      simp [hlt, hge, h37, a1, a4, s2, s3, t1]
    by_cases h38 : i.Op = 38
    · obtain ⟨r1, r2⟩ := hr (by omega)
      have s2 := cnt_set stC pre (pre ++ [i]) C.length i.Arg r1 (fun k => by rw [t2]; simp [h38])
      have s3 := cnt_same akC pre (pre ++ [i]) C.length (fun k => by rw [t3]; simp [h38])
      have g1 := cnt_get stC pre C.length i.Arg.toNat (by omega)
      rw [show ((i.Arg.toNat : Nat) : Int) = i.Arg by omega] at g1
      rw [if_neg h37] at t1
      have hb := hb2 i.Arg
      have a1 : inR .i64 ((stC pre i.Arg : Int) + 1) := by rw [inR_i64]; omega
      simp [hlt, hge, h38, a1, a4, s2, s3, t1, g1]
      simp [cnt_length]
      omega
    have asked : (i.Op = 24 ∨ i.Op = 25) → cnt stC (pre ++ [i]) C.length = cnt stC pre C.length ∧ (cnt akC pre C.length).set i.Arg.toNat ((akC pre i.Arg : Int) + 1) = cnt akC (pre ++ [i]) C.length ∧ (cnt akC pre C.length)[i.Arg.toNat]? = some (akC pre i.Arg : Int) ∧ inR .i64 ((akC pre i.Arg : Int) + 1) ∧ 0 ≤ i.Arg ∧ i.Arg < C.length := by
      intro ho
      obtain ⟨r1, r2⟩ := hr (by omega)
      have g1 := cnt_get akC pre C.length i.Arg.toNat (by omega)
      rw [show ((i.Arg.toNat : Nat) : Int) = i.Arg by omega] at g1
      have hb := hb3 i.Arg
      exact ⟨cnt_same stC pre (pre ++ [i]) C.length (fun k => by rw [t2]; simp [h38]), cnt_set akC pre (pre ++ [i]) C.length i.Arg r1 (fun k => by rw [t3]; simp [ho]), g1, by rw [inR_i64]; omega, r1, by omega⟩
    by_cases h24 : i.Op = 24
    · obtain ⟨s2, s3, g1, a1, r1, r2⟩ := asked (.inl h24)
      rw [if_neg h37] at t1
      simp [hlt, hge, h24, a1, a4, s2, s3, t1, g1]
      simp [cnt_length]
      omega
    by_cases h25 : i.Op = 25
    · obtain ⟨s2, s3, g1, a1, r1, r2⟩ := asked (.inr h25)
      rw [if_neg h37] at t1
      simp [hlt, hge, h25, a1, a4, s2, s3, t1, g1]
      simp [cnt_length]
      omega
    · have s2 := cnt_same stC pre (pre ++ [i]) C.length (fun k => by rw [t2]; simp [h38])
      have s3 := cnt_same akC pre (pre ++ [i]) C.length (fun k => by rw [t3]; simp [h24, h25])
      rw [if_neg h37] at t1
      have e1 : (i.Op == 37) = false := by simp [h37]
      have e2 : (i.Op == 38) = false := by simp [h38]
      have e3 : (i.Op == 24) = false := by simp [h24]
      have e4 : (i.Op == 25) = false := by simp [h25]
      simp [hlt, hge, e1, e2, e3, e4, h37, h38, h24, h25, a4, s2, s3, t1]
  · intro _
    simp [cnt_length]
    refine AWP.loopS [1, 8, 9, 10, 78, 79] C.length (fun i => [(79, .d (.v (.int .i64 i)))]) (fun _ => []) (fun _ => True) (by rfl) (by simp) ?_
    intro i hi _
    rcases Nat.lt_or_eq_of_le hi with hlt | rfl
    · have g1 := cnt_get stC C C.length i hlt
      have g2 := cnt_get akC C C.length i hlt
      have st := hL.st i
      have ak := hL.ak i
      have a4 : inR .i64 ((i : Int) + 1) := by rw [inR_i64]; omega
      generalize stC C i = x at *
      generalize akC C i = y at *
      simp [hlt]
      refine AWP.regionD [] Try.mixed (by kernel_rfl) (by rfl) ?_
      simp [g1, g2, cnt_length, hlt, a4]
      obtain ⟨_, q1⟩ := List.getElem?_eq_some_iff.1 g1
      obtain ⟨_, q2⟩ := List.getElem?_eq_some_iff.1 g2
      rw [q1, q2]
      by_cases hin : 0 ≤ (i : Int) ∧ (i : Int) < z
      · have s1 := st.1 hin
        have s2 := ak.1 hin
        subst s1
        simp
        omega
      · have s1 := st.2 hin
        have s2 := ak.2 hin
        subst s1; subst s2
        simp
    · have a1 : inR .i64 ((sizeSs l : Int) + eachSs l) := by rw [inR_i64]; omega
      simp [-condC_bool]
      repeat' (first
        | (with_reducible refine And.intro ?_ ?_)
        | (refine condC_split (fun h => ?_) (fun h => ?_) <;> (try simp at h) <;> (try simp [-condC_bool, *, hT]))
        | (refine AOps.pureC rfl (r1) rfl rfl (by simp) rfl ?_ <;> (try simp [-condC_bool, *, hT]))
        | (refine AOps.pureC rfl (r2) rfl rfl (by simp) rfl ?_ <;> (try simp [-condC_bool, *, hT]))
        | (refine AOps.pureC rfl (awake_ok) rfl rfl (by simp) rfl ?_ <;> (try simp [-condC_bool, *, hT]))
        | (refine AOps.pureG rfl (fun h => r1) rfl rfl (by simp) (by simp) rfl ?_ <;> (try simp [-condC_bool, *, hT]))
        | (refine AOps.pureG rfl (fun h => r2) rfl rfl (by simp) (by simp) rfl ?_ <;> (try simp [-condC_bool, *, hT]))
        | (refine AOps.pureG rfl (fun h => awake_ok) rfl rfl (by simp) (by simp) rfl ?_ <;> (try simp [-condC_bool, *, hT]))
        | (with_reducible intro _))
end Go.Ab

set_option linter.unusedSimpArgs false
set_option linter.unusedVariables false
namespace Go.Ab
open Go.Proofs
set_option maxRecDepth 40000
set_option maxHeartbeats 4000000

/-! ### op.Right -/
def ropM (n lo below : Int) : Bool := decide (lo ≤ n) && decide (n < below)
theorem ropAmong_ok (n lo below : Int) : Pure Try.prog 69 [.d (.v (.int .i64 n)), .d (.v (.int .i64 lo)), .d (.v (.int .i64 below))] (.d (.v (.bool (ropM n lo below)))) := by
  refine Pure.run Try.func69 rfl (by simp [Try.f69]) ?_; simp [Try.f69]
  rfl
theorem ropKnown_ok (n : Int) : Pure Try.prog 70 [.d (.v (.int .i64 n))] (.d (.v (.bool (decide (1 ≤ n) && decide (n ≤ 38))))) := by
  refine Pure.run Try.func70 rfl (by simp [Try.f70]) ?_; simp [Try.f70]
def rightM (t : GTables) (i : GIns) : Bool :=
  if i.Op = 38 then false
  else if i.Op = 1 ∨ i.Op = 24 ∨ i.Op = 25 then isM i.Arg
  else if i.Op = 3 ∨ i.Op = 4 then ropM i.Arg 0 t.Globals.length
  else if i.Op = 5 ∨ i.Op = 6 then ropM i.Arg 0 24
  else if i.Op = 7 then ropM i.Arg 1 7
  else if i.Op = 19 then ropM i.Arg 1 4
  else if i.Op = 8 then ropM i.Arg 3 15
  else if i.Op = 12 ∨ i.Op = 15 ∨ i.Op = 16 then ropM i.Arg 0 t.Flags
  else if i.Op = 13 ∨ i.Op = 14 then ropM i.Arg 0 t.Props.length
  else if i.Op = 21 then ropM i.Arg 0 t.Texts.length
  else if i.Op = 26 then ropM i.Arg 0 t.Funcs.length
  else if i.Op = 32 ∨ i.Op = 33 then ropM i.Arg 0 t.Daemons.length
  else decide (1 ≤ i.Op) && decide (i.Op ≤ 38) && decide (i.Arg = 0)
theorem wrap16_is (n : Int) : (decide (n = IntKind.i64.wrap (IntKind.i16.wrap n))) = isM n := by
  have h16 : IntKind.i16.wrap n = if 32768 ≤ n % 65536 then n % 65536 - 65536 else n % 65536 := by
    simp [IntKind.wrap, IntKind.bits, IntKind.signed]
  have hr : -32768 ≤ IntKind.i16.wrap n ∧ IntKind.i16.wrap n ≤ 32767 := by rw [h16]; split <;> omega
  rw [inR_wrap (by rw [inR_i64]; omega)]
  unfold isM
  rw [Bool.eq_iff_iff, h16]
  simp only [decide_eq_true_eq, Bool.and_eq_true]
  split <;> omega
theorem numIs_ok (n : Int) : Pure Try.prog 68 [.d (.v (.int .i64 n))] (.d (.v (.bool (isM n)))) := by
  rw [← wrap16_is]
  refine Pure.run Try.func68 rfl (by simp [Try.f68]) ?_; simp [Try.f68]
  rfl
theorem opRight_ok (t : GTables) (i : GIns) : Pure Try.prog 40 [.agg (t.enc.map .d), .agg (i.enc.map .d)] (.d (.v (.bool (rightM t i)))) := by
  refine Pure.run Try.func40 rfl (by simp [Try.f40]) ?_; simp [-condC_bool, Try.f40]
  repeat' (first
    | (with_reducible refine And.intro ?_ ?_)
    | (refine condC_split (fun h => ?_) (fun h => ?_) <;> (try simp at h) <;> (try simp [-condC_bool, *]))
    | (refine AOps.pureC rfl (ropAmong_ok _ _ _) rfl rfl (by simp) rfl ?_ <;> (try simp [-condC_bool, *]))
    | (refine AOps.pureC rfl (numIs_ok _) rfl rfl (by simp) rfl ?_ <;> (try simp [-condC_bool, *]))
    | (refine AOps.pureC rfl (ropKnown_ok _) rfl rfl (by simp) rfl ?_ <;> (try simp [-condC_bool, *]))
    | (refine AOps.pureG rfl (fun h => ropAmong_ok _ _ _) rfl rfl (by simp) (by simp) rfl ?_ <;> (try simp [-condC_bool, *]))
    | (refine AOps.pureG rfl (fun h => numIs_ok _) rfl rfl (by simp) (by simp) rfl ?_ <;> (try simp [-condC_bool, *]))
    | (refine AOps.pureG rfl (fun h => ropKnown_ok _) rfl rfl (by simp) (by simp) rfl ?_ <;> (try simp [-condC_bool, *]))
    | (with_reducible intro _))
  all_goals first | (simp [rightM, *]; done) | (rw [show (i.Arg == 0) = decide (i.Arg = 0) from rfl]; simp [rightM, *]; done)

/-! ### What is generated may be -/
def Rt (t : GTables) (C : List GIns) : Prop := ∀ i ∈ C, i.Op = 24 ∨ i.Op = 25 ∨ i.Op = 38 ∨ rightM t i = true
theorem Rt.nil (t : GTables) : Rt t [] := by simp [Rt]
theorem Rt.app {t : GTables} {a b : List GIns} (h : Rt t a) (h' : Rt t b) : Rt t (a ++ b) := fun i hi => (List.mem_append.1 hi).elim (h i) (h' i)
theorem Rt.cons {t : GTables} {i : GIns} {l : List GIns} (h : i.Op = 24 ∨ i.Op = 25 ∨ i.Op = 38 ∨ rightM t i = true) (h' : Rt t l) : Rt t (i :: l) := fun j hj => by
  rcases List.mem_cons.1 hj with rfl | hj
  · exact h
  · exact h' j hj
theorem ownM_right {t : GTables} {locals : Int} (hlo : locals ≤ 24) {e : GExpr} (hb : boundM t locals e false = true) (hL : ¬ logicE e) : rightM t (ownM e) = true := by
  have hk := bound_kind hb
  rw [boundM_eq, Bool.and_eq_true] at hb
  have h1 := hb.1
  rcases hk with hk | hk | hk | hk | hk | hk | hk | hk | hk | hk | hk | hk
  · simp [boundK, hk] at h1; simp [ownM, hk, rightM, h1]
  · simp [boundK, hk, amongM] at h1; simp [ownM, hk, rightM, ropM]; omega
  · simp [boundK, hk] at h1; simp [ownM, hk, rightM, ropM]; omega
  · simp [boundK, hk, amongM] at h1; simp [ownM, hk, rightM, ropM]; omega
  · simp [ownM, hk, rightM]
  · simp [ownM, hk, rightM]
  · simp [ownM, hk, rightM]
  · have n1 : e.Op ≠ 1 := fun h => hL ⟨hk, .inl h⟩
    have n2 : e.Op ≠ 2 := fun h => hL ⟨hk, .inr h⟩
    simp [boundK, hk, amongM] at h1; simp [ownM, hk, rightM, ropM]; omega
  · simp [boundK, hk] at h1; simp [ownM, hk, rightM, ropM]; omega
  · simp [boundK, hk, amongM] at h1; simp [ownM, hk, rightM, ropM]; omega
  · simp [boundK, hk] at h1
    have h2 := h1.2
    unfold paramsM at h2
    split at h2
    · rename_i h3
      simp [amongM] at h3
      simp [ownM, hk, rightM, ropM]; omega
    · omega
  · simp [boundK, hk, amongM] at h1; simp [ownM, hk, rightM, ropM]; omega
theorem genEs_right {t : GTables} (l : List GExpr) (hl : ∀ x ∈ l, ∀ m, Rt t (genE x m).1) (m : Int) : Rt t (genEs l m).1 := by
  induction l generalizing m with
  | nil => rw [genEs]; exact .nil t
  | cons x l ih =>
    rw [genEs]
    exact (hl x (by simp) m).app (ih (fun y hy => hl y (by simp [hy])) _)
theorem genE_right {t : GTables} {locals : Int} (hlo : locals ≤ 24) (e : GExpr) (hb : boundM t locals e false = true) (m : Int) : Rt t (genE e m).1 := by
  obtain ⟨n, hn⟩ : ∃ n, SizeOf.sizeOf e < n := ⟨_, Nat.lt_succ_self _⟩
  induction n generalizing e m with
  | zero => omega
  | succ n ih =>
    have hs : ∀ x ∈ e.Args, ∀ m, Rt t (genE x m).1 := fun x hx m => ih x (bound_mem hb hx) m (by have := GExpr.lt_of_mem hx; omega)
    by_cases hL : logicE e
    · obtain ⟨a, b, hA⟩ := bound_logic hb hL.1
      obtain ⟨hk, ho⟩ := hL
      have h1 := hs a (by simp [hA]) (m + 2)
      have h2 := hs b (by simp [hA]) (genE a (m + 2)).2
      rcases ho with ho | ho
      · rw [genE_or e a b [] m hk ho hA]
        refine (h1.app ?_).app ((Rt.app ?_ h2).app ?_) <;> simp [Rt, rightM, isM]
      · rw [genE_and e a b [] m hk ho hA]
        refine (h1.app ?_).app (h2.app ?_) <;> simp [Rt, rightM, isM]
    · rw [genE_plain e m hL]
      exact (genEs_right e.Args hs m).app (.cons (.inr (.inr (.inr (ownM_right hlo hb hL)))) (.nil t))
theorem sayI_right {t : GTables} {locals : Int} (hlo : locals ≤ 24) (x : GExpr) (hb : boundM t locals x true = true) (m : Int) : Rt t (sayI x m).1 := by
  unfold sayI
  split
  · rename_i hk
    rw [boundM_eq, Bool.and_eq_true] at hb
    have h1 := hb.1
    simp [boundK, hk, amongM] at h1
    refine .cons (.inr (.inr (.inr ?_))) (.nil t)
    simp [rightM, ropM]; omega
  · split
    · exact (genEs_right x.Args (fun y hy m => genE_right hlo y (bound_mem hb hy) m) m).app (by simp [Rt, rightM])
    · rename_i h19 h13
      exact (genE_right hlo x (bound_said hb h19 h13) m).app (by simp [Rt, rightM])
theorem genSay_right {t : GTables} {locals : Int} (hlo : locals ≤ 24) (l : List GExpr) (hl : ∀ x ∈ l, boundM t locals x true = true) (m : Int) : Rt t (genSay l m).1 := by
  induction l generalizing m with
  | nil => rw [genSay]; exact .nil t
  | cons x l ih =>
    rw [genSay]
    exact (sayI_right hlo x (hl x (by simp)) m).app (ih (fun y hy => hl y (by simp [hy])) _)
theorem deedM_right {t : GTables} {locals : Int} (hlo : locals ≤ 24) {s : GStmt} (p1 : (shapeM s).1 = true) (p2 : thereM t s locals = true) (h1 : s.Kind ≠ 9) (h2 : s.Kind ≠ 10) (h3 : s.Kind ≠ 11) (h4 : s.Kind ≠ 1) : rightM t (deedM s.Kind s.Num) = true := by
  have hnm : s.Name.toList.isEmpty = true := by
    unfold thereM at p2
    cases h : s.Name.toList.isEmpty with
    | true => rfl
    | false => simp [h] at p2
  have hk := shape_kind p1
  simp only [thereM, hnm, if_true] at p2
  rcases hk with hk | hk | hk | hk | hk | hk | hk | hk | hk | hk | hk | hk | hk | hk | hk | hk | hk | hk | hk | hk | hk | hk | hk
  all_goals first
    | (exact absurd hk (by assumption))
    | (simp [hk, amongM] at p2; simp [deedM, hk, rightM, ropM]; omega)
    | (simp [deedM, hk, rightM]; done)
theorem genB_right {t : GTables} {locals : Int} (hlo : locals ≤ 24) : ∀ (N : Nat) (l : List GStmt), SizeOf.sizeOf l < N → (∀ s ∈ l, boundS t locals s = true) → ∀ m : Int, Rt t (genB l m).1 := by
  intro N
  induction N with
  | zero => intro l h; omega
  | succ N ih =>
    intro l h hbd m
    cases l with
    | nil => rw [genB]; exact .nil t
    | cons s l =>
      have hl : SizeOf.sizeOf l < N := by simp only [List.cons.sizeOf_spec] at h; omega
      have hs : SizeOf.sizeOf s < N := by simp only [List.cons.sizeOf_spec] at h; omega
      have hb := GStmt.lt_body s
      have he := GStmt.lt_else s
      obtain ⟨p1, p2, p3, p4, p5⟩ := boundS_parts (hbd s (by simp))
      have iB := ih s.Body (by omega) p4
      have iE := ih s.Else (by omega) p5
      rw [genB]
      refine Rt.app ?_ (ih l hl (fun x hx => hbd x (by simp [hx])) _)
      by_cases k1 : s.Kind = 1
      · rw [genS_say s m k1]
        refine Rt.app (by simp [Rt, rightM, tick]) (genSay_right hlo s.Args (fun x hx => ?_) m)
        have := p3 x hx
        rwa [show decide (s.Kind = 1) = true by simp [k1]] at this
      have iA : ∀ m, Rt t (genEs s.Args m).1 := fun m => genEs_right s.Args (fun x hx m => genE_right hlo x (by
        have := p3 x hx
        rwa [show decide (s.Kind = 1) = false by simp [k1]] at this) m) m
      by_cases k9 : s.Kind = 9
      · by_cases he0 : s.Else = []
        · rw [genS_if0 s m k9 he0]
          refine ((((Rt.app ?_ (iA _)).app ?_).app (iB _)).app ?_) <;> simp [Rt, rightM, tick]
        · rw [genS_if1 s m k9 he0]
          refine ((((((Rt.app ?_ (iA _)).app ?_).app (iB _)).app ?_).app (iE _)).app ?_) <;> simp [Rt, rightM, tick]
      by_cases k10 : s.Kind = 10
      · rw [genS_while s m k10]
        refine ((((Rt.app ?_ (iA _)).app ?_).app (iB _)).app ?_) <;> simp [Rt, rightM, tick]
      by_cases k11 : s.Kind = 11
      · have hnum : 0 ≤ s.Num ∧ s.Num < locals - 1 := by
          have hnm : s.Name.toList.isEmpty = true := by
            unfold thereM at p2
            cases h : s.Name.toList.isEmpty with
            | true => rfl
            | false => simp [h] at p2
          simp [thereM, hnm, k11] at p2
          omega
        rw [genS_each s m k11]
        refine (((((Rt.app ?_ (iA _)).app ?_).app ?_).app (iB _)).app ?_) <;> simp [Rt, rightM, tick, ropM] <;> omega
      · rw [genS_plain s m k9 k10 k11 k1]
        refine (Rt.app (by simp [Rt, rightM, tick]) (iA _)).app (.cons (.inr (.inr (.inr (deedM_right hlo p1 p2 k9 k10 k11 k1)))) (.nil t))

/-! ### GenMay -/
def cntB (C : List GIns) (N : Nat) : List Bool := (List.range N).map fun k : Nat => decide (0 < stC C (k : Int))
theorem cntB_length (C : List GIns) (N : Nat) : (cntB C N).length = N := by simp [cntB]
theorem cntB_get (C : List GIns) (N i : Nat) (h : i < N) : (cntB C N)[i]? = some (decide (0 < stC C (i : Int))) := by simp [cntB, h]
theorem cntB_zero (N : Nat) : cntB [] N = List.replicate N false := by
  unfold cntB
  apply List.ext_getElem <;> simp
theorem cntB_same (C D : List GIns) (N : Nat) (h : ∀ k, stC D k = stC C k) : cntB D N = cntB C N := by simp [cntB, h]
theorem cntB_set (C D : List GIns) (N : Nat) (a : Int) (h0 : 0 ≤ a) (h : ∀ k, stC D k = stC C k + if a = k then 1 else 0) : (cntB C N).set a.toNat true = cntB D N := by
  apply List.ext_getElem
  · simp [cntB]
  · intro i h1 h2
    rw [List.getElem_set]
    simp only [cntB, List.getElem_map, List.getElem_range, h]
    by_cases e : a.toNat = i
    · have : a = (i : Int) := by omega
      subst this
      simp
    · have : ¬ a = (i : Int) := by omega
      simp [e, this]
/-- How much is written of statements: at least as much as there is. -/
theorem szB_bulk : ∀ (N : Nat) (l : List GStmt), SizeOf.sizeOf l < N → szB l ≤ bDss (l.map GStmt.enc) := by
  have hE : ∀ (N : Nat) (l : List GExpr), SizeOf.sizeOf l < N → szEs l ≤ bDss (l.map GExpr.enc) := by
    intro N
    induction N with
    | zero => intro l h; omega
    | succ N ih =>
      intro l h
      cases l with
      | nil => simp [szEs]
      | cons x l =>
        have hl : SizeOf.sizeOf l < N := by simp only [List.cons.sizeOf_spec] at h; omega
        have hx : SizeOf.sizeOf x < N := by simp only [List.cons.sizeOf_spec] at h; omega
        have h1 := ih l hl
        have h2 := ih x.Args (by cases x; simp only [GExpr.Args_mk]; simp only [GExpr.mk.sizeOf_spec] at hx; omega)
        have h3 : bDs x.enc = bD (.v (.int .i64 x.Kind)) + (bD (.v (.int .i64 x.Op)) + (bD (.v (.int .i64 x.Num)) + (bD (.v (.string x.Name)) + (bD (.sl (x.Args.map GExpr.enc)) + 0)))) := by
          cases x; simp [GExpr.enc, GExpr.encs_eq, bDs]
        rw [szEs, szE_eq, List.map_cons, bDss, h3]
        simp only [bD]
        omega
  intro N
  induction N with
  | zero => intro l h; omega
  | succ N ih =>
    intro l h
    cases l with
    | nil => simp [szB]
    | cons s l =>
      have hl : SizeOf.sizeOf l < N := by simp only [List.cons.sizeOf_spec] at h; omega
      have hs : SizeOf.sizeOf s < N := by simp only [List.cons.sizeOf_spec] at h; omega
      have hb := GStmt.lt_body s
      have he := GStmt.lt_else s
      have h1 := ih l hl
      have h2 := ih s.Body (by omega)
      have h3 := ih s.Else (by omega)
      have h4 := hE _ s.Args (Nat.lt_succ_self _)
      have h5 : bDs s.enc = bD (.v (.int .i64 s.Kind)) + (bD (.v (.int .i64 s.Num)) + (bD (.v (.string s.Name)) + (bD (.sl (s.Args.map GExpr.enc)) + (bD (.sl (s.Body.map GStmt.enc)) + (bD (.sl (s.Else.map GStmt.enc)) + 0))))) := by
        cases s; simp [GStmt.enc, GStmt.encs_eq, bDs]
      rw [szB, szS_eq, List.map_cons, bDss, h5]
      simp only [bD]
      omega
end Go.Ab

set_option linter.unusedSimpArgs false
set_option linter.unusedVariables false
namespace Go.Ab
open Go.Proofs
set_option maxRecDepth 40000
set_option maxHeartbeats 4000000

theorem genMay_ok (t : GTables) (ht : t.wf) (l : List GStmt) (hlen : l.length * 104 ≤ 140737488351232) (hl : ∀ s ∈ l, s.wf) (locals : Int) (hlo : inR .i64 locals) (hbulk : szB l ≤ 1048576) : Pure Try.prog 10 [.agg (t.enc.map .d), .d (.sl (l.map GStmt.enc)), .d (.v (.int .i64 locals))] (.d (.v (.bool true))) := by
  have hA := awake_ok.ok
  have hZ := size_le_sz _ l (Nat.lt_succ_self _)
  have key : boundB t locals l = true → WBlock l ∧ (∀ s ∈ l, boundS t locals s = true) := fun h2 => ⟨wBlock_ok hlo hl hlen h2, (by unfold boundB at h2; rw [Bool.and_eq_true, boundSs_all, List.all_eq_true] at h2; exact h2.1)⟩
  have r1 := refSize_ok l hl hlen (by omega)
  refine Pure.run Try.func10 rfl (by simp [Try.f10]) ?_; simp [-condC_bool, Try.f10]
  repeat' (first
    | (with_reducible refine And.intro ?_ ?_)
    | (refine condC_split (fun h => ?_) (fun h => ?_) <;> (try simp at h) <;> (try simp [-condC_bool, *]))
    | (refine AOps.pureC rfl (r1) rfl rfl (by simp) rfl ?_ <;> (try simp [-condC_bool, *]))
    | (refine AOps.pureC rfl (refBoundB_ok t ht locals hlo l hl hlen) rfl rfl (by simp) rfl ?_ <;> (try simp [-condC_bool, *]))
    | (refine AOps.pureC rfl (awake_ok) rfl rfl (by simp) rfl ?_ <;> (try simp [-condC_bool, *]))
    | (refine AOps.pureG rfl (fun h => r1) rfl rfl (by simp) (by simp) rfl ?_ <;> (try simp [-condC_bool, *]))
    | (refine AOps.pureG rfl (fun h => refBoundB_ok t ht locals hlo l hl hlen) rfl rfl (by simp) (by simp) rfl ?_ <;> (try simp [-condC_bool, *]))
    | (refine AOps.pureG rfl (fun h => awake_ok) rfl rfl (by simp) (by simp) rfl ?_ <;> (try simp [-condC_bool, *]))
    | (with_reducible intro _))
  obtain ⟨k1, k2⟩ := key h.2.2
  have bd := genB_bd' l 0
  have g3 := genRoutine_ok l k1 (by omega)
  have hL := (genB_lab _ l (Nat.lt_succ_self _) 0).app (Lab.dull (l := [GIns.mk 1 0, GIns.mk 27 0]) (by simp [dull]) _)
  have hR := (genB_right h.1.1 _ l (Nat.lt_succ_self _) k2 0).app (show Rt t [GIns.mk 1 0, GIns.mk 27 0] by simp [Rt, rightM, isM])
  have hCl : ((genB l 0).1 ++ [GIns.mk 1 0, GIns.mk 27 0]).length ≤ 100000000 ∧ 2 ≤ ((genB l 0).1 ++ [GIns.mk 1 0, GIns.mk 27 0]).length := by simp; omega
  generalize (genB l 0).1 ++ [GIns.mk 1 0, GIns.mk 27 0] = C at *
  generalize (genB l 0).2 = z at *
  have hz := hL.top
  have hz0 := hL.le
  have z1 := cntB_zero (C.length + 1)
  have a1 : inR .i64 ((C.length : Int) + 1) := by rw [inR_i64]; omega
  have e1 : ((C.length : Int) + 1).toNat = C.length + 1 := by omega
  have hoR := fun i => (opRight_ok t i)
  refine AOps.pureC rfl (g3) rfl rfl (by simp) rfl ?_
  simp [-condC_bool, a1, e1]
  refine ⟨⟨by omega, by simp [maxLen] <;> omega, by omega⟩, ?_⟩
  refine AWP.loopL [3, 7, 8, 34, 35, 36] C (fun pre => [(36, .d (.v (.int .i64 pre.length)))]) (fun pre => [(33, .row 4 1 (dd (encB (cntB pre (C.length + 1)))))]) (fun _ => True) (by rfl) (by omega) (by simp [z1]) ?_ ?_
  · rintro pre i post hsp - hlt hge a4
    have hi : i ∈ C := by rw [hsp]; simp
    have hr := hL.rng hi
    have t2 : ∀ k, stC (pre ++ [i]) k = stC pre k + if i.Op = 38 ∧ i.Arg = k then 1 else 0 := fun k => by rw [stC_app, stC_cons]; simp
    have h1 : i.Op = 38 → stC pre i.Arg = 0 := fun h38 => by
      have hs := (hL.st i.Arg).1 (hr (by omega))
      rw [hsp, stC_app, stC_cons] at hs
      simp [h38] at hs
      omega
    clear hsp hL hR
    by_cases h38 : i.Op = 38
    · obtain ⟨r1, r2⟩ := hr (by omega)
      have s2 := cntB_set pre (pre ++ [i]) (C.length + 1) i.Arg r1 (fun k => by rw [t2]; simp [h38])
      have g1 := cntB_get pre (C.length + 1) i.Arg.toNat (by omega)
      rw [show ((i.Arg.toNat : Nat) : Int) = i.Arg by omega, h1 h38] at g1
      simp at g1
      simp [hlt, hge, h38, a4, s2, g1, cntB_length]
      omega
    · have s2 := cntB_same pre (pre ++ [i]) (C.length + 1) (fun k => by rw [t2]; simp [h38])
      simp [hlt, hge, h38, a4, s2]
  · intro _
    simp
    refine AWP.loopL [3, 7, 8, 65, 66, 67] C (fun pre => [(67, .d (.v (.int .i64 pre.length)))]) (fun _ => []) (fun _ => True) (by rfl) (by omega) (by simp) ?_ ?_
    · rintro pre i post hsp - hlt hge a4
      have hi : i ∈ C := by rw [hsp]; simp
      have hr := hL.rng hi
      have hri := hR i hi
      have st := fun ho => (hL.st i.Arg).1 (hr ho)
      clear hsp hL hR
      by_cases h38 : i.Op = 38
      · simp [hlt, hge, h38, a4]
      have e38 : (i.Op == 38) = false := by simp [h38]
      by_cases h24 : i.Op = 24 ∨ i.Op = 25
      · obtain ⟨r1, r2⟩ := hr (by omega)
        have g1 := cntB_get C (C.length + 1) i.Arg.toNat (by omega)
        rw [show ((i.Arg.toNat : Nat) : Int) = i.Arg by omega, st (by omega)] at g1
        simp at g1
        rcases h24 with h24 | h24
        · simp [hlt, hge, h24, a4, g1, cntB_length]
          omega
        · simp [hlt, hge, h24, a4, g1, cntB_length]
          omega
      · have e24 : (i.Op == 24) = false := by simp; omega
        have e25 : (i.Op == 25) = false := by simp; omega
        have hrr : rightM t i = true := by rcases hri with h | h | h | h <;> first | exact h | omega
        simp [-condC_bool, hlt, hge, e38, e24, e25, a4]
        intro bs2
        repeat' (first
          | (with_reducible refine And.intro ?_ ?_)
          | (refine condC_split (fun h => ?_) (fun h => ?_) <;> (try simp at h) <;> (try simp [-condC_bool, *, hrr]))
          | (refine AOps.pureC rfl (opRight_ok t i) rfl rfl (by simp) rfl ?_ <;> (try simp [-condC_bool, *, hrr]))
          | (refine AOps.pureG rfl (fun h => opRight_ok t i) rfl rfl (by simp) (by simp) rfl ?_ <;> (try simp [-condC_bool, *, hrr]))
          | (with_reducible intro _))
    · intro _
      have e2 : decide ((2 : Int) ≤ C.length) = true := by simp; omega
      simp [-condC_bool]
      repeat' (first
        | (with_reducible refine And.intro ?_ ?_)
        | (refine condC_split (fun h => ?_) (fun h => ?_) <;> (try simp at h) <;> (try simp [-condC_bool, *, e2]))
        | (refine AOps.pureC rfl (awake_ok) rfl rfl (by simp) rfl ?_ <;> (try simp [-condC_bool, *, e2]))
        | (refine AOps.pureG rfl (fun h => awake_ok) rfl rfl (by simp) (by simp) rfl ?_ <;> (try simp [-condC_bool, *, e2]))
        | (with_reducible intro _))
theorem genMay_up (t : GTables) (ht : t.wf) (l : List GStmt) (hlen : l.length * 104 ≤ 140737488351232) (hl : ∀ s ∈ l, s.wf) (locals : Int) (hlo : inR .i64 locals) (hB : bDss [t.enc, [D.sl (l.map GStmt.enc)], [D.v (.int .i64 locals)]] ≤ 1048576) : Pure Try.prog 10 [.agg (t.enc.map .d), .d (.sl (l.map GStmt.enc)), .d (.v (.int .i64 locals))] (.d (.v (.bool true))) := by
  have h := szB_bulk _ l (Nat.lt_succ_self _)
  simp only [bDss, bDs, bD] at hB
  exact genMay_ok t ht l hlen hl locals hlo (by omega)
end Go.Ab
