import Derived.Test.YticchnalleplcaaAbGref
set_option linter.unusedSimpArgs false
set_option linter.unusedVariables false
namespace Go.Ab
open Go.Proofs

/-! ### the reference: expressions -/
theorem bound_logic {t : GTables} {locals : Int} {e : GExpr} (h : boundM t locals e false = true) (hk : e.Kind = 6) : ∃ a b, e.Args = [a, b] := by
  rw [boundM_eq, Bool.and_eq_true] at h
  have h1 := h.1
  simp [boundK, hk, bareM] at h1
  have hl : e.Args.length = 2 := by omega
  generalize e.Args = l at hl
  match l, hl with
  | [a, b], _ => exact ⟨a, b, rfl⟩
theorem bound_mem {t : GTables} {locals : Int} {e x : GExpr} {said : Bool} (h : boundM t locals e said = true) (hx : x ∈ e.Args) : boundM t locals x false = true := by
  rw [boundM_eq, Bool.and_eq_true, boundsM_all, List.all_eq_true] at h
  exact h.2 x hx

def genT (r : List GIns × Int) : V := .tup [.d (.sl (r.1.map GIns.enc)), .d (.v (.int .i64 r.2))]

/-- exprs, its elements' contract given. -/
theorem refExprs_of (l : List GExpr) (hl : l.length ≤ 2199023255488) (n : Int) (hn : 0 ≤ n ∧ n + 2 * szEs l ≤ 100000)
    (ih : ∀ (i : Nat) (h : i < l.length) (m : Int), 0 ≤ m ∧ m + 2 * szE l[i] ≤ 100000 → Pure Try.prog 60 [.agg (l[i].enc.map .d), .d (.v (.int .i64 m))] (genT (genE l[i] m))) :
    Pure Try.prog 98 [.d (.sl (l.map GExpr.enc)), .d (.v (.int .i64 n))] (genT (genEs l n)) := by
  have hbd := fun i => genEs_bd (l.take i) (fun x _ m => genE_bd x m) n
  have hszs : ∀ i, szEs (l.take i) ≤ szEs l := fun i => by
    have := szEs_app (l.take i) (l.drop i); rw [List.take_append_drop] at this; omega
  unfold genT
  refine Pure.run Try.func98 rfl (by simp [Try.f98]) ?_; simp [Try.f98]
  refine AWP.weaken (Wk.nil' (t := 6) rfl) ?_
  refine AWP.loopS [0, 1, 6, 7] l.length (fun i => [(1, .d (.v (.int .i64 (genEs (l.take i) n).2))), (6, .d (.sl ((genEs (l.take i) n).1.map GIns.enc))), (7, .d (.v (.int .i64 i)))]) (fun _ => []) (fun _ => True) (by rfl) (by simp [genEs]) ?_
  intro i hi _
  rcases Nat.lt_or_eq_of_le hi with hlt | rfl
  · have hge : l[i]? = some l[i] := List.getElem?_eq_getElem hlt
    have htk : List.take (i + 1) l = List.take i l ++ [l[i]] := by rw [List.take_add_one, hge]; rfl
    have hS := ih i hlt
    have hsn := genEs_snoc (l.take i) l[i] n
    have hsz := szEs_app (l.take i) [l[i]]
    rw [← htk] at hsn hsz
    simp only [szEs] at hsz
    have h0 := hszs (i + 1)
    have h1 := hbd i
    have h2 := genE_bd l[i] (genEs (l.take i) n).2
    generalize hE : l[i] = x at *
    generalize hM : genEs (l.take i) n = k at *
    generalize hM' : genEs (l.take (i + 1)) n = k' at *
    obtain ⟨k1, k2⟩ := k
    simp only at hsn h1 h2
    have a4 : inR .i64 ((i : Int) + 1) := by rw [inR_i64]; omega
    simp [hlt, hge, hE]
    have hC := hS k2 ⟨by omega, by omega⟩
    generalize genE x k2 = q at *
    obtain ⟨q1, q2⟩ := q
    unfold genT at hC
    simp only at h2 hsn hC
    refine AOps.pureC rfl (hC) (by simp) rfl (by simp) rfl ?_
    simp
    refine AOps.pureC rfl (join_ok k1 q1 (by omega) (by omega)) (by simp) rfl (by simp) rfl ?_
    simp [hM', hsn, a4, hlt]
  · simp

theorem refExpr_ok (t : GTables) (locals : Int) (e : GExpr) (he : e.wf) (hb : boundM t locals e false = true) (n : Int) (hn : 0 ≤ n ∧ n + 2 * szE e ≤ 100000) :
    Pure Try.prog 60 [.agg (e.enc.map .d), .d (.v (.int .i64 n))] (genT (genE e n)) := by
  obtain ⟨N, hN⟩ : ∃ N, SizeOf.sizeOf e < N := ⟨_, Nat.lt_succ_self _⟩
  induction N generalizing e n with
  | zero => omega
  | succ N ih =>
    have hw := (GExpr.wf_iff e).1 he
    have hlen : e.Args.length ≤ 2199023255488 := by omega
    have hsub : ∀ x ∈ e.Args, ∀ m : Int, 0 ≤ m ∧ m + 2 * szE x ≤ 100000 → Pure Try.prog 60 [.agg (x.enc.map .d), .d (.v (.int .i64 m))] (genT (genE x m)) := fun x hx m hm =>
      ih x (hw.2.2.2.2.2 _ hx) (bound_mem hb hx) m hm (by have := GExpr.lt_of_mem hx; omega)
    have hz := szE_eq e
    by_cases hk : e.Kind = 6
    · obtain ⟨a, b, hA⟩ := bound_logic hb hk
      have hSa := hsub a (by simp [hA])
      have hSb := hsub b (by simp [hA])
      rw [hA] at hz
      simp only [szEs] at hz
      have ba := genE_bd a (n + 2)
      have bb := genE_bd b (genE a (n + 2)).2
      have a1 : inR .i64 (n + 2) := by rw [inR_i64]; omega
      have a2 : inR .i64 (n + 1) := by rw [inR_i64]; omega
      have hz' := fun L => (zero_ok n).ok L
      have hl1 := fun m L => (label_ok m).ok L
      have hl2 := fun m L => (jump_ok m).ok L
      have hl3 := fun a b L => (code_ok a b).ok L
      have ca := hSa (n + 2) ⟨by omega, by omega⟩
      by_cases ho : e.Op = 1
      · rw [genE_or e a b [] n hk ho hA]
        generalize genE a (n + 2) = p at *
        obtain ⟨p1, p2⟩ := p
        have cb := hSb p2 ⟨by omega, by omega⟩
        generalize genE b p2 = q at *
        obtain ⟨q1, q2⟩ := q
        unfold genT at ca cb ⊢
        simp only at ba bb ca cb ⊢
        refine Pure.run Try.func60 rfl (by simp [Try.f60]) ?_; simp [Try.f60, hk, ho]
        intro bs
        simp [hA, a1]
        refine AOps.pureC rfl (ca) (by simp) rfl (by simp) rfl ?_
        simp [hA, a1, a2, ho]
        refine AOps.pureC rfl (cb) (by simp) rfl (by simp) rfl ?_
        simp [hA, a1, a2, ho]
        refine AOps.pureC rfl (zero_ok n) (by simp) rfl (by simp) rfl ?_
        simp [hA, a1, a2, ho]
        refine AOps.weaken (Wk.freeze 48 (ys := ([GIns.mk 25 n]).map _) rfl) ?_
        simp
        refine AOps.pureC rfl (join_ok (p1) [GIns.mk 25 n] (by first | omega | (simp <;> omega)) (by simp)) (by simp) rfl (by simp) rfl ?_
        simp [hA, a1, a2, ho]
        refine AOps.pureC rfl (code_ok 1 1) (by simp) rfl (by simp) rfl ?_
        simp [hA, a1, a2, ho]
        refine AOps.pureC rfl (jump_ok (n+1)) (by simp) rfl (by simp) rfl ?_
        simp [hA, a1, a2, ho]
        refine AOps.pureC rfl (label_ok n) (by simp) rfl (by simp) rfl ?_
        simp [hA, a1, a2, ho]
        refine AOps.weaken (Wk.freeze 60 (ys := ([GIns.mk 1 1, GIns.mk 24 (n+1), GIns.mk 38 n]).map _) rfl) ?_
        simp
        refine AOps.pureC rfl (join_ok (p1 ++ [GIns.mk 25 n]) [GIns.mk 1 1, GIns.mk 24 (n+1), GIns.mk 38 n] (by first | omega | (simp <;> omega)) (by simp)) (by simp) rfl (by simp) rfl ?_
        simp [hA, a1, a2, ho]
        refine AOps.pureC rfl (join_ok (p1 ++ [GIns.mk 25 n] ++ [GIns.mk 1 1, GIns.mk 24 (n+1), GIns.mk 38 n]) q1 (by first | omega | (simp <;> omega)) (by omega)) (by simp) rfl (by simp) rfl ?_
        simp [hA, a1, a2, ho]
        refine AOps.pureC rfl (code_ok 11 0) (by simp) rfl (by simp) rfl ?_
        simp [hA, a1, a2, ho]
        refine AOps.pureC rfl (label_ok (n+1)) (by simp) rfl (by simp) rfl ?_
        simp [hA, a1, a2, ho]
        refine AOps.weaken (Wk.freeze 69 (ys := ([GIns.mk 11 0, GIns.mk 38 (n+1)]).map _) rfl) ?_
        simp
        refine AOps.pureC rfl (join_ok (p1 ++ [GIns.mk 25 n] ++ [GIns.mk 1 1, GIns.mk 24 (n+1), GIns.mk 38 n] ++ q1) [GIns.mk 11 0, GIns.mk 38 (n+1)] (by first | omega | (simp <;> omega)) (by simp)) (by simp) rfl (by simp) rfl ?_
        simp [hA, a1, a2, ho]
      · by_cases ho' : e.Op = 2
        · rw [genE_and e a b [] n hk ho' hA]
          generalize genE a (n + 2) = p at *
          obtain ⟨p1, p2⟩ := p
          have cb := hSb p2 ⟨by omega, by omega⟩
          generalize genE b p2 = q at *
          obtain ⟨q1, q2⟩ := q
          unfold genT at ca cb ⊢
          simp only at ba bb ca cb ⊢
          refine Pure.run Try.func60 rfl (by simp [Try.f60]) ?_; simp [Try.f60, hk, ho']
          intro bs
          simp [hA, a1]
          refine AOps.pureC rfl (ca) (by simp) rfl (by simp) rfl ?_
          simp [hA, a1, a2, ho']
          refine AOps.pureC rfl (cb) (by simp) rfl (by simp) rfl ?_
          simp [hA, a1, a2, ho']
          refine AOps.pureC rfl (zero_ok n) (by simp) rfl (by simp) rfl ?_
          simp [hA, a1, a2, ho']
          refine AOps.weaken (Wk.freeze 48 (ys := ([GIns.mk 25 n]).map _) rfl) ?_
          simp
          refine AOps.pureC rfl (join_ok (p1) [GIns.mk 25 n] (by first | omega | (simp <;> omega)) (by simp)) (by simp) rfl (by simp) rfl ?_
          simp [hA, a1, a2, ho']
          refine AOps.pureC rfl (join_ok (p1 ++ [GIns.mk 25 n]) q1 (by first | omega | (simp <;> omega)) (by omega)) (by simp) rfl (by simp) rfl ?_
          simp [hA, a1, a2, ho']
          refine AOps.pureC rfl (code_ok 11 0) (by simp) rfl (by simp) rfl ?_
          simp [hA, a1, a2, ho']
          refine AOps.pureC rfl (jump_ok (n+1)) (by simp) rfl (by simp) rfl ?_
          simp [hA, a1, a2, ho']
          refine AOps.pureC rfl (label_ok n) (by simp) rfl (by simp) rfl ?_
          simp [hA, a1, a2, ho']
          refine AOps.pureC rfl (code_ok 1 0) (by simp) rfl (by simp) rfl ?_
          simp [hA, a1, a2, ho']
          refine AOps.pureC rfl (label_ok (n+1)) (by simp) rfl (by simp) rfl ?_
          simp [hA, a1, a2, ho']
          refine AOps.weaken (Wk.freeze 85 (ys := ([GIns.mk 11 0, GIns.mk 24 (n+1), GIns.mk 38 n, GIns.mk 1 0, GIns.mk 38 (n+1)]).map _) rfl) ?_
          simp
          refine AOps.pureC rfl (join_ok (p1 ++ [GIns.mk 25 n] ++ q1) [GIns.mk 11 0, GIns.mk 24 (n+1), GIns.mk 38 n, GIns.mk 1 0, GIns.mk 38 (n+1)] (by first | omega | (simp <;> omega)) (by simp)) (by simp) rfl (by simp) rfl ?_
          simp [hA, a1, a2, ho']
        · have hL : ¬ logicE e := by simp [logicE, hk, ho, ho']
          rw [genE_plain e n hL]
          have hz := szE_eq e
          have bd := genEs_bd e.Args (fun x _ m => genE_bd x m) n
          have hc := refExprs_of e.Args hlen n ⟨by omega, by omega⟩ (fun i h m hm => hsub _ (List.getElem_mem h) m hm)
          generalize genEs e.Args n = p at *
          obtain ⟨p1, p2⟩ := p
          unfold genT at hc ⊢
          simp only at bd hc ⊢
          refine Pure.run Try.func60 rfl (by simp [Try.f60]) ?_; simp [Try.f60, hk, ho, ho']
          intro bs
          refine AOps.pureC rfl (hc) (by simp) rfl (by simp) rfl ?_
          simp
          refine AOps.pureC rfl (own_ok e) (by simp) rfl (by simp) rfl ?_
          simp
          refine AOps.weaken (Wk.freeze 98 (ys := ([ownM e]).map _) rfl) ?_
          simp
          refine AOps.pureC rfl (join_ok p1 [ownM e] (by omega) (by simp)) (by simp) rfl (by simp) rfl ?_
          simp
    · have hL : ¬ logicE e := by simp [logicE, hk]
      rw [genE_plain e n hL]
      have hz := szE_eq e
      have bd := genEs_bd e.Args (fun x _ m => genE_bd x m) n
      have hc := refExprs_of e.Args hlen n ⟨by omega, by omega⟩ (fun i h m hm => hsub _ (List.getElem_mem h) m hm)
      generalize genEs e.Args n = p at *
      obtain ⟨p1, p2⟩ := p
      unfold genT at hc ⊢
      simp only at bd hc ⊢
      refine Pure.run Try.func60 rfl (by simp [Try.f60]) ?_; simp [Try.f60, hk]
      intro bs
      refine AOps.pureC rfl (hc) (by simp) rfl (by simp) rfl ?_
      simp
      refine AOps.pureC rfl (own_ok e) (by simp) rfl (by simp) rfl ?_
      simp
      refine AOps.weaken (Wk.freeze 98 (ys := ([ownM e]).map _) rfl) ?_
      simp
      refine AOps.pureC rfl (join_ok p1 [ownM e] (by omega) (by simp)) (by simp) rfl (by simp) rfl ?_
      simp
end Go.Ab
