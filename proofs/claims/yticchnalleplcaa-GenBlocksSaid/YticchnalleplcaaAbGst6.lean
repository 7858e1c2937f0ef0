import Derived.Test.YticchnalleplcaaAbGst5
set_option linter.unusedSimpArgs false
set_option linter.unusedVariables false
namespace Go.Ab
open Go.Proofs
set_option maxRecDepth 40000
set_option maxHeartbeats 4000000
/-! join, of which an argument is a row of the caller's -/
theorem join_r2 (h : Nat) (hh : h ≠ 5) (a b : List GIns) (ha : a.length ≤ 1000000) (hb : b.length ≤ 1000000) : ACalls Try.prog 66 [.d (.sl (a.map GIns.enc)), .rv h] [(h, .row 64 2 (dd (b.map GIns.enc)))] (fun r L => r = .ret (.d (.sl ((a ++ b).map GIns.enc))) ∧ L = [(h, .row 64 2 (dd (b.map GIns.enc)))]) := by
  have h5 : (h == 5) = false := by simp [hh]
  refine ACalls.of_AWP Try.func66 rfl (by simp [Try.f66]) ?_
  refine AWP.seqK ?_
  simp [Try.f66]
  refine AWP.seqK ?_
  simp [hh, hh.symm, h5]
  refine ⟨by omega, by omega, ?_⟩
  refine AWP.weaken (Wk.freeze 5 (k := 2) (ty := 64) (ys := a.map GIns.enc ++ b.map GIns.enc) rfl) (AWP.ret ?_)
  simp [hh, hh.symm, h5]
theorem join_r1 (h : Nat) (hh : h ≠ 5) (a b : List GIns) (ha : a.length ≤ 1000000) (hb : b.length ≤ 1000000) : ACalls Try.prog 66 [.rv h, .d (.sl (b.map GIns.enc))] [(h, .row 64 2 (dd (a.map GIns.enc)))] (fun r L => r = .ret (.d (.sl ((a ++ b).map GIns.enc))) ∧ L = [(h, .row 64 2 (dd (a.map GIns.enc)))]) := by
  have h5 : (h == 5) = false := by simp [hh]
  refine ACalls.of_AWP Try.func66 rfl (by simp [Try.f66]) ?_
  refine AWP.seqK ?_
  simp [Try.f66]
  refine AWP.seqK ?_
  simp [hh, hh.symm, h5]
  refine ⟨by omega, by omega, ?_⟩
  refine AWP.weaken (Wk.freeze 5 (k := 2) (ty := 64) (ys := a.map GIns.enc ++ b.map GIns.enc) rfl) (AWP.ret ?_)
  simp [hh, hh.symm, h5]

/-! ### what is known of a statement that may be -/
theorem boundS_parts {t : GTables} {locals : Int} {s : GStmt} (h : boundS t locals s = true) : (shapeM s).1 = true ∧ thereM t s locals = true ∧ (∀ x ∈ s.Args, boundM t locals x (decide (s.Kind = 1)) = true) ∧ (∀ x ∈ s.Body, boundS t locals x = true) ∧ (∀ x ∈ s.Else, boundS t locals x = true) := by
  rw [boundS_eq] at h
  simp only [Bool.and_eq_true, boundB, boundSs_all, List.all_eq_true] at h
  obtain ⟨⟨⟨⟨⟨h1, h2⟩, h3⟩, h4⟩, h5⟩, h6⟩ := h
  exact ⟨h1, h2, h4, h5.1, h6.1⟩
theorem shape_one {s : GStmt} (h : (shapeM s).1 = true) (hk : s.Kind = 9 ∨ s.Kind = 10 ∨ s.Kind = 11) : ∃ x, s.Args = [x] := by
  have hl : s.Args.length = 1 := by
    rcases hk with hk | hk | hk <;> · simp [shapeM, hk, hasM] at h; omega
  generalize s.Args = l at hl
  match l, hl with
  | [x], _ => exact ⟨x, rfl⟩

def RStmt (s : GStmt) : Prop := ∀ n : Int, 0 ≤ n ∧ n + 2 * szS s ≤ 100000 → Pure Try.prog 104 [.agg (s.enc.map .d), .d (.v (.int .i64 n))] (genT (genS s n))
theorem refBlock_of (l : List GStmt) (hlen : l.length ≤ 1000000000000000) (ih : ∀ s ∈ l, RStmt s) (n : Int) (hn : 0 ≤ n ∧ n + 2 * szB l ≤ 100000) : Pure Try.prog 65 [.d (.sl (l.map GStmt.enc)), .d (.v (.int .i64 n))] (genT (genB l n)) := by
  unfold genT
  refine Pure.run Try.func65 rfl (by simp [Try.f65]) ?_; simp [Try.f65]
  refine AWP.weaken (Wk.nil' (t := 6) rfl) ?_
  refine AWP.loopL [0, 1, 6, 7] l (fun pre => [(1, .d (.v (.int .i64 (genB pre n).2))), (6, .d (.sl ((genB pre n).1.map GIns.enc))), (7, .d (.v (.int .i64 pre.length)))]) (fun _ => []) (fun _ => True) (by rfl) (by omega) (by simp [genB]) ?_ ?_
  · rintro pre s post hsp - hlt hge a4
    have hS := ih s (by rw [hsp]; simp)
    have hsn := genB_snoc pre s n
    have hsz : szB pre + szS s ≤ szB l := by rw [hsp, szB_app]; simp only [szB]; omega
    have b1 := genB_bd' pre n
    clear hsp
    generalize genB pre n = k at *
    obtain ⟨k1, k2⟩ := k
    simp only at hsn b1
    have b2 := genS_bd s k2
    have hC := hS k2 ⟨by omega, by omega⟩
    generalize genS s k2 = q at *
    obtain ⟨q1, q2⟩ := q
    unfold genT at hC
    simp only at hsn hC b2
    simp [hlt, hge]
    refine AOps.pureC rfl (hC) rfl rfl (by simp) rfl ?_
    simp
    refine AOps.pureC rfl (join_ok k1 q1 (by omega) (by omega)) (by simp) rfl (by simp) rfl ?_
    simp [hsn, a4]
  · intro _
    simp

theorem refEach_of (s : GStmt) (x : GExpr) (hA : s.Args = [x]) (n : Int) (hn : 0 ≤ n ∧ n + 2 * szS s ≤ 100000) (hnum : inR .i64 (s.Num + 1)) (hw : s.wf)
    (hx : ∀ m : Int, 0 ≤ m ∧ m + 2 * szE x ≤ 100000 → Pure Try.prog 60 [.agg (x.enc.map .d), .d (.v (.int .i64 m))] (genT (genE x m)))
    (hb : ∀ m : Int, 0 ≤ m ∧ m + 2 * szB s.Body ≤ 100000 → Pure Try.prog 65 [.d (.sl (s.Body.map GStmt.enc)), .d (.v (.int .i64 m))] (genT (genB s.Body m))) (hk : s.Kind = 11) :
    Pure Try.prog 116 [.agg (s.enc.map .d), .d (.v (.int .i64 n))] (genT (genS s n)) := by
  rw [genS_each s n hk, hA, genE_one]
  have hz := szS_eq s
  rw [hA] at hz
  simp only [szEs] at hz
  have b1 := genE_bd x (n + 2)
  have b2 := genB_bd' s.Body (genE x (n + 2)).2
  have hC := hx (n + 2) ⟨by omega, by omega⟩
  generalize genE x (n + 2) = p at *
  obtain ⟨p1, p2⟩ := p
  simp only at b1 b2 hC ⊢
  have hD := hb p2 ⟨by omega, by omega⟩
  generalize genB s.Body p2 = q at *
  obtain ⟨q1, q2⟩ := q
  unfold genT at hC hD ⊢
  simp only at b2 hC hD ⊢
  have a1 : inR .i64 (n + 2) := by rw [inR_i64]; omega
  have a2 : inR .i64 (n + 1) := by rw [inR_i64]; omega
  have c1 := fun a b L => (code_ok a b).ok L
  have c2 := fun m L => (label_ok m).ok L
  have c3 := fun m L => (jump_ok m).ok L
  have c4 := fun m L => (zero_ok m).ok L
  refine Pure.run Try.func116 rfl (by simp [Try.f116]) ?_; simp [Try.f116]
  intro bs
  simp [hA, a1]
  refine AOps.pureC rfl (hC) rfl rfl (by simp) rfl ?_
  simp
  refine AOps.pureC rfl (hD) rfl rfl (by simp) rfl ?_
  simp
  refine AOps.pureC rfl (code_ok 37 0) rfl rfl (by simp) rfl ?_
  simp
  refine AOps.weaken (Wk.freeze 29 (ys := ([GIns.mk 37 0]).map _) rfl) ?_
  simp
  refine AOps.pureC rfl (join_ok [GIns.mk 37 0] p1 (by simp) (by omega)) (by simp) rfl (by simp) rfl ?_
  simp
  refine AWP.regionM0 [some (0, 1), some (0, 0), some (0, 0), some (0, 0), some (0, 0), some (0, 0), some (0, 0), some (0, 0), some (0, 0), some (0, 0), some (0, 0), some (0, 0), some (0, 0), some (0, 0), none, none, some (2, 2)] [.agg ((GIns.mk 19 2).enc.map .d), .agg ((GIns.mk 6 s.Num).enc.map .d), .agg ((GIns.mk 38 n).enc.map .d), .agg ((GIns.mk 5 s.Num).enc.map .d), .agg ((GIns.mk 25 (n + 1)).enc.map .d), .agg ((GIns.mk 37 0).enc.map .d)] Try.mixed (by kernel_rfl) ?_
  simp [c1, c2, c3, c4, a1, a2]
  refine EffM.intro (fun _ => LOp.call 46 [46] rfl (join_r2 46 (by decide) ([GIns.mk 37 0] ++ p1) [GIns.mk 19 2, GIns.mk 6 s.Num, GIns.mk 38 n, GIns.mk 5 s.Num, GIns.mk 25 (n + 1), GIns.mk 37 0] (by simp <;> omega) (by simp)) (by simp) rfl (by kernel_rfl) (by simp [dd]) (by simp) (by simp +contextual) (by simp) (by simp)) ?_
  simp
  refine AWP.regionM0 [some (0, 1), some (0, 0), some (0, 0), some (0, 0), some (0, 0), some (0, 0), some (0, 0), some (0, 0), some (0, 0), none, none, some (2, 2)] [.agg ((GIns.mk 5 s.Num).enc.map .d), .agg ((GIns.mk 19 3).enc.map .d), .agg ((GIns.mk 6 (s.Num + 1)).enc.map .d)] Try.mixed (by kernel_rfl) ?_
  simp [c1, c2, c3, c4, a1, a2, hnum]
  refine EffM.intro (fun _ => LOp.call 57 [57] rfl (join_r2 57 (by decide) (([GIns.mk 37 0] ++ p1) ++ [GIns.mk 19 2, GIns.mk 6 s.Num, GIns.mk 38 n, GIns.mk 5 s.Num, GIns.mk 25 (n + 1), GIns.mk 37 0]) [GIns.mk 5 s.Num, GIns.mk 19 3, GIns.mk 6 (s.Num + 1)] (by simp <;> omega) (by simp)) (by simp) rfl (by kernel_rfl) (by simp [dd]) (by simp) (by simp +contextual) (by simp) (by simp)) ?_
  simp
  have c5 := fun L => (join_ok ((([GIns.mk 37 0] ++ p1) ++ [GIns.mk 19 2, GIns.mk 6 s.Num, GIns.mk 38 n, GIns.mk 5 s.Num, GIns.mk 25 (n + 1), GIns.mk 37 0]) ++ [GIns.mk 5 s.Num, GIns.mk 19 3, GIns.mk 6 (s.Num + 1)]) q1 (by simp <;> omega) (by omega)).ok L
  simp at c5
  refine AWP.regionM0 [some (0, 0), some (0, 0), some (0, 0), some (0, 0), some (0, 0), some (0, 0), some (0, 0), some (0, 0), some (0, 0), some (0, 0), some (0, 0), some (0, 0), some (0, 0), some (0, 0), some (0, 0), none, none, some (0, 2), some (2, 2), some (2, 2)] [.d (.sl ((((([GIns.mk 37 0] ++ p1) ++ [GIns.mk 19 2, GIns.mk 6 s.Num, GIns.mk 38 n, GIns.mk 5 s.Num, GIns.mk 25 (n + 1), GIns.mk 37 0]) ++ [GIns.mk 5 s.Num, GIns.mk 19 3, GIns.mk 6 (s.Num + 1)]) ++ q1).map GIns.enc)), .agg ((GIns.mk 5 (s.Num + 1)).enc.map .d), .agg ((GIns.mk 6 s.Num).enc.map .d), .agg ((GIns.mk 24 n).enc.map .d), .agg ((GIns.mk 38 (n + 1)).enc.map .d)] Try.mixed (by kernel_rfl) ?_
  simp [c1, c2, c3, c4, c5, a1, a2, hnum]
  refine EffM.intro (fun _ => LOp.call 74 [74] rfl (join_r2 74 (by decide) (((([GIns.mk 37 0] ++ p1) ++ [GIns.mk 19 2, GIns.mk 6 s.Num, GIns.mk 38 n, GIns.mk 5 s.Num, GIns.mk 25 (n + 1), GIns.mk 37 0]) ++ [GIns.mk 5 s.Num, GIns.mk 19 3, GIns.mk 6 (s.Num + 1)]) ++ q1) [GIns.mk 5 (s.Num + 1), GIns.mk 6 s.Num, GIns.mk 24 n, GIns.mk 38 (n + 1)] (by simp <;> omega) (by simp)) (by simp) rfl (by kernel_rfl) (by simp [dd]) (by simp) (by simp +contextual) (by simp) (by simp)) ?_
  simp [tick]
end Go.Ab
