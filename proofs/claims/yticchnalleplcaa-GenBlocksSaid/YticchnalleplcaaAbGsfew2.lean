import Derived.Test.YticchnalleplcaaAbGsfew
import Derived.Test.YticchnalleplcaaAbLp
set_option linter.unusedSimpArgs false
set_option linter.unusedVariables false
namespace Go.Ab
open Go.Proofs

def vB : List GStmt → Int → Int
  | [], m => m
  | s :: l, m => vB l (fewB s.Else (fewB s.Body (fewsM s.Args (m - 1))))
theorem vB_snoc (l : List GStmt) (s : GStmt) (m : Int) : vB (l ++ [s]) m = fewB s.Else (fewB s.Body (fewsM s.Args (vB l m - 1))) := by
  induction l generalizing m with
  | nil => simp [vB]
  | cons x l ih => simp only [List.cons_append, vB]; exact ih _

theorem refFewB_ok (l : List GStmt) (hl : ∀ s ∈ l, s.wf) (hlen : l.length * 104 ≤ 140737488351232) (m : Int) (hm : -4000000 ≤ m ∧ m ≤ 1000000) : Pure Try.prog 32 [.d (.sl (l.map GStmt.enc)), .d (.v (.int .i64 m))] (.d (.v (.int .i64 (fewB l m)))) := by
  obtain ⟨n, hn⟩ : ∃ n, SizeOf.sizeOf l < n := ⟨_, Nat.lt_succ_self _⟩
  induction n generalizing l m with
  | zero => omega
  | succ n ih =>
    have hsub : ∀ s ∈ l, (∀ m, -4000000 ≤ m ∧ m ≤ 1000000 → Pure Try.prog 32 [.d (.sl (s.Body.map GStmt.enc)), .d (.v (.int .i64 m))] (.d (.v (.int .i64 (fewB s.Body m))))) ∧
        (∀ m, -4000000 ≤ m ∧ m ≤ 1000000 → Pure Try.prog 32 [.d (.sl (s.Else.map GStmt.enc)), .d (.v (.int .i64 m))] (.d (.v (.int .i64 (fewB s.Else m))))) := by
      intro s hs
      have hw := hl s hs
      have h1 := List.sizeOf_lt_of_mem hs
      have h2 := GStmt.lt_body s
      have h3 := GStmt.lt_else s
      exact ⟨fun m hm => ih s.Body (GStmt.wf_Body hw) (GStmt.wl_Body hw) m hm (by omega), fun m hm => ih s.Else (GStmt.wf_Else hw) (GStmt.wl_Else hw) m hm (by omega)⟩
    refine Pure.run Try.func32 rfl (by simp [Try.f32]) ?_; simp [Try.f32]
    refine AWP.loopL [1, 9, 10, 11] l (fun pre => [(1, .d (.v (.int .i64 (vB pre m)))), (11, .d (.v (.int .i64 pre.length)))]) (fun _ => []) (fun pre => (∃ post, l = pre ++ post ∧ fewB l m = fewB post (vB pre m)) ∧ -4000000 ≤ vB pre m ∧ vB pre m ≤ 1000000) (by rfl) (by omega) (by simp [vB, hm]) ?_ ?_
    · rintro pre s post hsp ⟨⟨post', hsp', hv⟩, hv1, hv2⟩ hlt hge a4
      obtain rfl : post' = s :: post := List.append_cancel_left (hsp'.symm.trans hsp)
      have hS := hsub s (by rw [hsp]; simp)
      have hws := hl s (by rw [hsp]; simp)
      have hsn := vB_snoc pre s m
      rw [fewB_cons] at hv
      generalize hM : vB pre m = v at *
      have a1 : inR .i64 (v - 1) := by rw [inR_i64]; omega
      have hwa := GStmt.wl_Args hws
      simp [hlt, hge]
      intro bs
      refine ⟨a1, ?_⟩
      refine AWP.loopL [1, 6, 9, 10, 11, 18, 19, 20] s.Args (fun pre => [(1, .d (.v (.int .i64 (fewsM pre (v - 1))))), (20, .d (.v (.int .i64 pre.length)))]) (fun _ => []) (fun _ => True) (by rfl) (by omega) (by simp [fewsM]) ?_ ?_
      · rintro pre' e post' hsp2 - hlt2 hge2 b4
        have hap := fewsM_app pre' (e :: post') (v - 1)
        have hsn2 := fewsM_snoc pre' e (v - 1)
        have hle := fewsM_le pre' (v - 1)
        rw [← hsp2] at hap
        generalize hM2 : fewsM pre' (v - 1) = k at *
        simp [hlt2, hge2]
        intro bs2
        refine ⟨fun h => ?_, fun h => ?_⟩
        · rw [fewsM_neg _ _ h] at hap
          rw [hv, hap, if_pos h]
        · have hwe := GStmt.wf_Args hws e (by rw [hsp2]; simp)
          refine AOps.pureC rfl (refFew_ok e hwe k ⟨h, by omega⟩) (by simp) rfl (by simp) rfl ?_
          simp
          refine ⟨b4, ?_⟩
          rw [hsn2, if_neg (by omega)]
      · intro _
        have h1 := fewsM_le s.Args (v - 1)
        generalize fewsM s.Args (v - 1) = k at *
        simp
        refine ⟨fun h => ?_, fun h => ?_⟩
        · rw [hv, if_pos h]
        · rw [if_neg (by omega)] at hv
          have b1 := fewB_bd _ s.Body (Nat.lt_succ_self _) k h
          have c1 := (hS.1 k ⟨by omega, by omega⟩).ok
          generalize fewB s.Body k = k2 at *
          have b2 : -4000000 ≤ fewB s.Else k2 ∧ fewB s.Else k2 ≤ 1000000 := by
            rcases Int.lt_or_le k2 0 with hk | hk
            · have := fewB_neg s.Else k2 hk; omega
            · have := fewB_bd _ s.Else (Nat.lt_succ_self _) k2 hk; omega
          have c2 := (hS.2 k2 ⟨by omega, by omega⟩).ok
          generalize fewB s.Else k2 = k3 at *
          refine AWP.regionD [.d (.v (.int .i64 k2)), .d (.v (.int .i64 k3))] Try.mixed (by kernel_rfl) (by rfl) ?_
          simp [c1, c2, a4, hsn, hv, b2]
          exact ⟨post, hsp, rfl⟩
    · rintro ⟨⟨post', hsp', hv⟩, _⟩
      obtain rfl : post' = [] := by simpa using hsp'
      simp [hv, fewB]
end Go.Ab
