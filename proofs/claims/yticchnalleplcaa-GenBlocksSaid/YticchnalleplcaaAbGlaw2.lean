import Derived.Test.YticchnalleplcaaAbGst9
set_option linter.unusedSimpArgs false
set_option linter.unusedVariables false
namespace Go.Ab
open Go.Proofs
set_option maxRecDepth 40000
set_option maxHeartbeats 4000000

section
variable {t : GTables} {locals : Int} {l : List GStmt}
theorem wBlock_ok (hlo : inR .i64 locals) (hl : ∀ s ∈ l, s.wf) (hlen : l.length * 104 ≤ 140737488351232) (hb : boundB t locals l = true) : WBlock l := by
  unfold boundB at hb
  rw [Bool.and_eq_true, boundSs_all, List.all_eq_true] at hb
  exact wBlock_of l (by omega) (fun s hs => wStmt_ok t locals hlo s (hl s hs) (hb.1 s hs))
theorem refBlock_ok (hlo : inR .i64 locals) (hl : ∀ s ∈ l, s.wf) (hlen : l.length * 104 ≤ 140737488351232) (hb : boundB t locals l = true) : RBlock l := by
  unfold boundB at hb
  rw [Bool.and_eq_true, boundSs_all, List.all_eq_true] at hb
  exact fun m hm => refBlock_of l (by omega) (fun s hs => refStmt_ok t locals hlo s (hl s hs) (hb.1 s hs)) m hm
end
theorem genBlock_ok (l : List GStmt) (hl : WBlock l) (hn : szB l ≤ 30000) : Pure Try.prog 37 [.d (.sl (l.map GStmt.enc))] (.d (.sl ((genB l 0).1.map GIns.enc))) := by
  have hc := fun b => hl b [] 0 ⟨by omega, by omega, by simp <;> omega⟩
  generalize genB l 0 = q at *
  obtain ⟨q1, q2⟩ := q
  simp only [List.nil_append] at hc ⊢
  refine Pure.run Try.func37 rfl (by simp [Try.f37]) ?_; simp [Try.f37]
  intro bs
  refine AOps.weaken ((Wk.ren 5 5001 (by simp)).trans (Wk.ownBox 5001 0 5002 (e := 64) (k := 2) rfl rfl (by simp))) ?_
  simp [Heap.upd]
  refine AOps.weaken (Wk.pick [7, 6, 3, 2] [5001, 5002] (by rfl) (by simp) (by simp)) ?_
  simp
  refine AOps.effD [5001, 5002] rfl (hc (bs 0)) (by simp [wb]) rfl (by simp) rfl (by kernel_rfl) (by simp [wb]) (by simp [wb]) (by simp [wb]) (by simp [wb]) (by simp [wb]) ?_
  simp [wb]
theorem genRoutine_ok (l : List GStmt) (hl : WBlock l) (hn : szB l ≤ 30000) : Pure Try.prog 34 [.d (.sl (l.map GStmt.enc))] (.d (.sl (((genB l 0).1 ++ [GIns.mk 1 0, GIns.mk 27 0]).map GIns.enc))) := by
  have hc := fun b => hl b [] 0 ⟨by omega, by omega, by simp <;> omega⟩
  have bd := genB_bd' l 0
  generalize genB l 0 = q at *
  obtain ⟨q1, q2⟩ := q
  simp only [List.nil_append] at hc bd ⊢
  refine Pure.run Try.func34 rfl (by simp [Try.f34]) ?_; simp [Try.f34]
  intro bs
  refine AOps.weaken ((Wk.ren 5 5001 (by simp)).trans (Wk.ownBox 5001 0 5002 (e := 64) (k := 2) rfl rfl (by simp))) ?_
  simp [Heap.upd]
  refine AOps.weaken (Wk.pick [7, 6, 3, 2] [5001, 5002] (by rfl) (by simp) (by simp)) ?_
  simp
  refine AOps.effD [5001, 5002] rfl (hc (bs 0)) (by simp [wb]) rfl (by simp) rfl (by kernel_rfl) (by simp [wb]) (by simp [wb]) (by simp [wb]) (by simp [wb]) (by simp [wb]) ?_
  simp [wb]
  refine AOps.effD [5001, 5002] rfl (lay0_ok (bs 0) q1 q2 1 (by omega)) (by simp [wb]) rfl (by simp) rfl (by kernel_rfl) (by simp [wb]) (by simp [wb]) (by simp [wb]) (by simp [wb]) (by simp [wb]) ?_
  simp [wb]
  refine AOps.effD [5001, 5002] rfl (lay0_ok (bs 0) (q1 ++ [GIns.mk 1 0]) q2 27 (by simp <;> omega)) (by simp [wb]) rfl (by simp) rfl (by kernel_rfl) (by simp [wb]) (by simp [wb]) (by simp [wb]) (by simp [wb]) (by simp [wb]) ?_
  simp [wb]
theorem refBlockTop_ok (l : List GStmt) (hl : RBlock l) (hn : szB l ≤ 30000) : Pure Try.prog 38 [.d (.sl (l.map GStmt.enc))] (.d (.sl ((genB l 0).1.map GIns.enc))) := by
  have hc := hl 0 ⟨by omega, by omega⟩
  unfold genT at hc
  generalize genB l 0 = q at *
  obtain ⟨q1, q2⟩ := q
  simp only at hc ⊢
  refine Pure.run Try.func38 rfl (by simp [Try.f38]) ?_; simp [Try.f38]
  refine AOps.pureC rfl (hc) rfl rfl (by simp) rfl ?_
  simp
theorem refRoutineTop_ok (l : List GStmt) (hl : RBlock l) (hn : szB l ≤ 30000) : Pure Try.prog 39 [.d (.sl (l.map GStmt.enc))] (.d (.sl (((genB l 0).1 ++ [GIns.mk 1 0, GIns.mk 27 0]).map GIns.enc))) := by
  have hc := refBlockTop_ok l hl hn
  have bd := genB_bd' l 0
  generalize genB l 0 = q at *
  obtain ⟨q1, q2⟩ := q
  simp only at hc bd ⊢
  refine Pure.run Try.func39 rfl (by simp [Try.f39]) ?_; simp [Try.f39]
  refine AOps.pureC rfl (hc) rfl rfl (by simp) rfl ?_
  simp
  refine AOps.pureC rfl (code_ok 1 0) rfl rfl (by simp) rfl ?_
  simp
  refine AOps.pureC rfl (code_ok 27 0) rfl rfl (by simp) rfl ?_
  simp
  refine AOps.weaken (Wk.freeze 7 (ys := ([GIns.mk 1 0, GIns.mk 27 0]).map _) rfl) ?_
  simp
  refine AOps.pureC rfl (join_ok q1 [GIns.mk 1 0, GIns.mk 27 0] (by omega) (by simp)) (by simp) rfl (by simp) rfl ?_
  simp
theorem same_self (a : List GIns) (ha : a.length ≤ 1000000) : Pure Try.prog 29 [.d (.sl (a.map GIns.enc)), .d (.sl (a.map GIns.enc))] (.d (.v (.bool true))) :=
  (same_ok a a ha).eq rfl (by simp)
theorem genBlocks_ok (t : GTables) (ht : t.wf) (l : List GStmt) (hl : ∀ s ∈ l, s.wf) (hlen : l.length * 104 ≤ 140737488351232) (locals : Int) (hlo : inR .i64 locals) : Pure Try.prog 9 [.agg (t.enc.map .d), .d (.sl (l.map GStmt.enc)), .d (.v (.int .i64 locals))] (.d (.v (.bool true))) := by
  have hA := awake_ok.ok
  have key : 0 ≤ fewB l 600 → boundB t locals l = true → WBlock l ∧ RBlock l ∧ szB l ≤ 600 := fun h1 h2 => ⟨wBlock_ok hlo hl hlen h2, refBlock_ok hlo hl hlen h2, by have := (fewB_bd _ l (Nat.lt_succ_self _) 600 (by omega)).2.2 h1; omega⟩
  refine Pure.run Try.func9 rfl (by simp [Try.f9]) ?_; simp [-condC_bool, Try.f9]
  repeat' (first
    | (with_reducible refine And.intro ?_ ?_)
    | (refine condC_split (fun h => ?_) (fun h => ?_) <;> (try simp at h) <;> (try simp [-condC_bool, *]))
    | (refine AOps.pureC rfl (refFewB_ok l hl hlen _ ⟨by omega, by omega⟩) rfl rfl (by simp) rfl ?_ <;> (try simp [-condC_bool, *]))
    | (refine AOps.pureC rfl (refBoundB_ok t ht locals hlo l hl hlen) rfl rfl (by simp) rfl ?_ <;> (try simp [-condC_bool, *]))
    | (refine AOps.pureC rfl (awake_ok) rfl rfl (by simp) rfl ?_ <;> (try simp [-condC_bool, *]))
    | (refine AOps.pureG rfl (fun h => refFewB_ok l hl hlen _ ⟨by omega, by omega⟩) rfl rfl (by simp) (by simp) rfl ?_ <;> (try simp [-condC_bool, *]))
    | (refine AOps.pureG rfl (fun h => refBoundB_ok t ht locals hlo l hl hlen) rfl rfl (by simp) (by simp) rfl ?_ <;> (try simp [-condC_bool, *]))
    | (refine AOps.pureG rfl (fun h => awake_ok) rfl rfl (by simp) (by simp) rfl ?_ <;> (try simp [-condC_bool, *]))
    | (with_reducible intro _))
  obtain ⟨k1, k2, k3⟩ := key h.1 h.2.2
  have bd := genB_bd' l 0
  have g1 := genBlock_ok l k1 (by omega)
  have g2 := refBlockTop_ok l k2 (by omega)
  have g3 := genRoutine_ok l k1 (by omega)
  have g4 := refRoutineTop_ok l k2 (by omega)
  have s1 := same_self (genB l 0).1 (by omega)
  have s2 := same_self ((genB l 0).1 ++ [GIns.mk 1 0, GIns.mk 27 0]) (by simp <;> omega)
  generalize (genB l 0).1 ++ [GIns.mk 1 0, GIns.mk 27 0] = g' at *
  generalize (genB l 0).1 = g at *
  repeat' (first
    | (with_reducible refine And.intro ?_ ?_)
    | (refine condC_split (fun h => ?_) (fun h => ?_) <;> (try simp at h) <;> (try simp [-condC_bool, *]))
    | (refine AOps.pureC rfl (g1) rfl rfl (by simp) rfl ?_ <;> (try simp [-condC_bool, *]))
    | (refine AOps.pureC rfl (g2) rfl rfl (by simp) rfl ?_ <;> (try simp [-condC_bool, *]))
    | (refine AOps.pureC rfl (g3) rfl rfl (by simp) rfl ?_ <;> (try simp [-condC_bool, *]))
    | (refine AOps.pureC rfl (g4) rfl rfl (by simp) rfl ?_ <;> (try simp [-condC_bool, *]))
    | (refine AOps.pureC rfl (s1) rfl rfl (by simp) rfl ?_ <;> (try simp [-condC_bool, *]))
    | (refine AOps.pureC rfl (s2) rfl rfl (by simp) rfl ?_ <;> (try simp [-condC_bool, *]))
    | (refine AOps.pureC rfl (awake_ok) rfl rfl (by simp) rfl ?_ <;> (try simp [-condC_bool, *]))
    | (refine AOps.pureG rfl (fun h => g1) rfl rfl (by simp) (by simp) rfl ?_ <;> (try simp [-condC_bool, *]))
    | (refine AOps.pureG rfl (fun h => g2) rfl rfl (by simp) (by simp) rfl ?_ <;> (try simp [-condC_bool, *]))
    | (refine AOps.pureG rfl (fun h => g3) rfl rfl (by simp) (by simp) rfl ?_ <;> (try simp [-condC_bool, *]))
    | (refine AOps.pureG rfl (fun h => g4) rfl rfl (by simp) (by simp) rfl ?_ <;> (try simp [-condC_bool, *]))
    | (refine AOps.pureG rfl (fun h => s1) rfl rfl (by simp) (by simp) rfl ?_ <;> (try simp [-condC_bool, *]))
    | (refine AOps.pureG rfl (fun h => s2) rfl rfl (by simp) (by simp) rfl ?_ <;> (try simp [-condC_bool, *]))
    | (refine AOps.pureG rfl (fun h => awake_ok) rfl rfl (by simp) (by simp) rfl ?_ <;> (try simp [-condC_bool, *]))
    | (with_reducible intro _))
theorem genBlocks_cl (t : GTables) (ht : t.wf) (l : List GStmt) (hlen : l.length * 104 ≤ 140737488351232) (hl : ∀ s ∈ l, s.wf) (locals : Int) (hlo : inR .i64 locals) : Pure Try.prog 9 [.agg (t.enc.map .d), .d (.sl (l.map GStmt.enc)), .d (.v (.int .i64 locals))] (.d (.v (.bool true))) := genBlocks_ok t ht l hl hlen locals hlo
end Go.Ab
