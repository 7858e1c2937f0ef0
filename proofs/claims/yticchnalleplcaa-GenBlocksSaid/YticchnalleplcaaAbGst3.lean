import Derived.Test.YticchnalleplcaaAbGst2
set_option linter.unusedSimpArgs false
set_option linter.unusedVariables false
namespace Go.Ab
open Go.Proofs
set_option maxRecDepth 40000
set_option maxHeartbeats 4000000

/-! ### What may be -/
def callM (s : GStmt) : Bool := decide ((s.Args[0]?.getD GExpr.zero).Kind = 18)
mutual
def boundS (t : GTables) (locals : Int) : GStmt → Bool
  | .mk k n nm a b c => (shapeM (.mk k n nm a b c)).1 && thereM t (.mk k n nm a b c) locals && (decide (k ≠ 19) || callM (.mk k n nm a b c)) && (a.all fun x => boundM t locals x (decide (k = 1))) && (boundSs t locals b && decide (b.length ≤ 256)) && (boundSs t locals c && decide (c.length ≤ 256))
def boundSs (t : GTables) (locals : Int) : List GStmt → Bool
  | [] => true
  | s :: l => boundS t locals s && boundSs t locals l
end
def boundB (t : GTables) (locals : Int) (l : List GStmt) : Bool := boundSs t locals l && decide (l.length ≤ 256)
theorem boundS_eq (t : GTables) (locals : Int) (s : GStmt) : boundS t locals s = ((shapeM s).1 && thereM t s locals && (decide (s.Kind ≠ 19) || callM s) && (s.Args.all fun x => boundM t locals x (decide (s.Kind = 1))) && boundB t locals s.Body && boundB t locals s.Else) := by cases s; rw [boundS]; rfl
theorem boundSs_all (t : GTables) (locals : Int) (l : List GStmt) : boundSs t locals l = l.all fun s => boundS t locals s := by
  induction l with
  | nil => rw [boundSs]; rfl
  | cons s l ih => rw [boundSs, ih]; rfl
theorem shape_call {s : GStmt} (h : (shapeM s).1 = true) (hk : s.Kind = 19) : ∃ x, s.Args = [x] := by
  simp [shapeM, hk, hasM] at h
  have hl : s.Args.length = 1 := by omega
  generalize s.Args = l at hl
  match l, hl with
  | [x], _ => exact ⟨x, rfl⟩

theorem boundB_ok (t : GTables) (ht : t.wf) (locals : Int) (hlo : inR .i64 locals) (l : List GStmt) (hl : ∀ s ∈ l, s.wf) (hlen : l.length * 104 ≤ 140737488351232) : Pure Try.prog 62 [.agg (t.enc.map .d), .d (.sl (l.map GStmt.enc)), .d (.v (.int .i64 locals))] (.d (.v (.bool (boundB t locals l)))) := by
  obtain ⟨n, hn⟩ : ∃ n, SizeOf.sizeOf l < n := ⟨_, Nat.lt_succ_self _⟩
  induction n generalizing l with
  | zero => omega
  | succ n ih =>
    have hsub : ∀ s ∈ l, Pure Try.prog 62 [.agg (t.enc.map .d), .d (.sl (s.Body.map GStmt.enc)), .d (.v (.int .i64 locals))] (.d (.v (.bool (boundB t locals s.Body)))) ∧
        Pure Try.prog 62 [.agg (t.enc.map .d), .d (.sl (s.Else.map GStmt.enc)), .d (.v (.int .i64 locals))] (.d (.v (.bool (boundB t locals s.Else)))) := by
      intro s hs
      have hw := hl s hs
      have h1 := List.sizeOf_lt_of_mem hs
      have h2 := GStmt.lt_body s
      have h3 := GStmt.lt_else s
      exact ⟨ih s.Body (GStmt.wf_Body hw) (GStmt.wl_Body hw) (by omega), ih s.Else (GStmt.wf_Else hw) (GStmt.wl_Else hw) (by omega)⟩
    refine Pure.run Try.func62 rfl (by simp [Try.f62]) ?_; simp [Try.f62]
    intro bs0
    refine AWP.loopL [1, 2, 3, 13, 14, 15] l (fun pre => [(15, .d (.v (.int .i64 pre.length)))]) (fun _ => []) (fun pre => boundSs t locals pre = true) (by rfl) (by omega) (by simp [boundSs]) ?_ ?_
    · rintro pre s post hsp hpre hlt hge a4
      have hno : boundS t locals s = false → boundB t locals l = false := fun h => by
        unfold boundB; rw [boundSs_all, hsp]; simp [h]
      have hyes : boundS t locals s = true → boundSs t locals (pre ++ [s]) = true := fun h => by
        rw [boundSs_all] at hpre ⊢; rw [List.all_append, hpre]; simp [h]
      have hS := hsub s (by rw [hsp]; simp)
      have hws := hl s (by rw [hsp]; simp)
      have hwa := GStmt.wl_Args hws
      rw [boundS_eq] at hno hyes
      have hcall : (shapeM s).1 = true → s.Kind = 19 → 0 < s.Args.length := fun h1 h2 => by obtain ⟨x, hx⟩ := shape_call h1 h2; simp [hx]
      have hsp' := hsp.symm
      clear ih hsub hlen hn hsp
      simp [-condC_bool, hlt, hge]
      intro bs
      refine AOps.pureC rfl (shape_ok s) rfl rfl (by simp) rfl ?_
      simp [-condC_bool]
      repeat' (first
        | (with_reducible refine And.intro ?_ ?_)
        | (refine condC_split (fun h => ?_) (fun h => ?_) <;> (try simp at h) <;> (try simp [-condC_bool, *]))
        | (refine AOps.pureC rfl (there_ok t ht s locals hlo) rfl rfl (by simp) rfl ?_ <;> (try simp [-condC_bool, *]))
        | (refine AOps.pureG rfl (fun h => there_ok t ht s locals hlo) rfl rfl (by simp) (by simp) rfl ?_ <;> (try simp [-condC_bool, *]))
        | (with_reducible intro _))
      all_goals first | assumption | (exact hcall (by assumption) (by assumption)) | (apply hno; rcases h with (h | h) | ⟨h1, h2⟩ <;> simp [callM, *]; done) | skip
      have hS1 := hS.1.ok
      have hS2 := hS.2.ok
      refine AWP.loopL [1, 2, 3, 8, 13, 14, 15, 47, 48, 49] s.Args (fun pre => [(49, .d (.v (.int .i64 pre.length)))]) (fun _ => []) (fun pre => (pre.all fun x => boundM t locals x (decide (s.Kind = 1))) = true) (by rfl) (by omega) (by simp) ?_ ?_
      · rintro pre' e post' hsp2 hpre2 hlt2 hge2 b4
        have hwe := GStmt.wf_Args hws e (by rw [hsp2]; simp)
        have hnoE : boundM t locals e (decide (s.Kind = 1)) = false → boundB t locals l = false := fun h => by
          apply hno; rw [hsp2]; simp [h]
        clear hsp2 hno hyes hsp' h
        simp [-condC_bool, hlt2, hge2]
        intro bs2
        refine AOps.pureC rfl (boundX_ok t ht locals e hwe _) rfl rfl (by simp) rfl ?_
        simp [-condC_bool]
        repeat' (first
          | (with_reducible refine And.intro ?_ ?_)
          | (refine condC_split (fun h => ?_) (fun h => ?_) <;> (try simp at h) <;> (try simp [-condC_bool, *]))
          | (refine AOps.pureC rfl (boundX_ok t ht locals e hwe _) rfl rfl (by simp) rfl ?_ <;> (try simp [-condC_bool, *]))
          | (refine AOps.pureG rfl (fun h => boundX_ok t ht locals e hwe _) rfl rfl (by simp) (by simp) rfl ?_ <;> (try simp [-condC_bool, *]))
          | (with_reducible intro _))
        · exact hnoE h
        · rename_i y hy
          rcases hy with hy | rfl
          · exact List.all_eq_true.1 hpre2 y hy
          · exact h
      · intro hall
        clear hsp'
        simp [-condC_bool]
        repeat' (first
          | (with_reducible refine And.intro ?_ ?_)
          | (refine condC_split (fun h => ?_) (fun h => ?_) <;> (try simp at h) <;> (try simp [-condC_bool, *]))
          | (refine AOps.pureC rfl (hS.1) rfl rfl (by simp) rfl ?_ <;> (try simp [-condC_bool, *]))
          | (refine AOps.pureC rfl (hS.2) rfl rfl (by simp) rfl ?_ <;> (try simp [-condC_bool, *]))
          | (refine AOps.pureG rfl (fun h => hS.1) rfl rfl (by simp) (by simp) rfl ?_ <;> (try simp [-condC_bool, *]))
          | (refine AOps.pureG rfl (fun h => hS.2) rfl rfl (by simp) (by simp) rfl ?_ <;> (try simp [-condC_bool, *]))
          | (with_reducible intro _))
        · apply hno; rcases h with h | h <;> simp [h]
        · rename_i h'
          apply hyes
          obtain ⟨⟨h1, h2⟩, h3⟩ := h'
          have h4 : (decide (s.Kind ≠ 19) || callM s) = true := by
            by_cases hk : s.Kind = 19
            · simp [callM, h3 hk]
            · simp [hk]
          rw [h1, h2, h4, hall, h.1, h.2]
          rfl
    · intro hpre
      simp [boundB, hpre]
      omega

theorem refBoundB_ok (t : GTables) (ht : t.wf) (locals : Int) (hlo : inR .i64 locals) (l : List GStmt) (hl : ∀ s ∈ l, s.wf) (hlen : l.length * 104 ≤ 140737488351232) : Pure Try.prog 33 [.agg (t.enc.map .d), .d (.sl (l.map GStmt.enc)), .d (.v (.int .i64 locals))] (.d (.v (.bool (decide (deepB l 65 ≤ 32) && boundB t locals l)))) := by
  refine Pure.run Try.func33 rfl (by simp [Try.f33]) ?_; simp [-condC_bool, Try.f33]
  intro bs
  repeat' (first
    | (with_reducible refine And.intro ?_ ?_)
    | (refine condC_split (fun h => ?_) (fun h => ?_) <;> (try simp at h) <;> (try simp [-condC_bool, *]))
    | (refine AOps.pureC rfl (depthB_ok l hl hlen) rfl rfl (by simp) rfl ?_ <;> (try simp [-condC_bool, *]))
    | (refine AOps.pureC rfl (boundB_ok t ht locals hlo l hl hlen) rfl rfl (by simp) rfl ?_ <;> (try simp [-condC_bool, *]))
    | (refine AOps.pureG rfl (fun h => depthB_ok l hl hlen) rfl rfl (by simp) (by simp) rfl ?_ <;> (try simp [-condC_bool, *]))
    | (refine AOps.pureG rfl (fun h => boundB_ok t ht locals hlo l hl hlen) rfl rfl (by simp) (by simp) rfl ?_ <;> (try simp [-condC_bool, *]))
    | (with_reducible intro _))
end Go.Ab
