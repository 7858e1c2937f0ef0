import Derived.Test.YticchnalleplcaaAbGst8
set_option linter.unusedSimpArgs false
set_option linter.unusedVariables false
namespace Go.Ab
open Go.Proofs
set_option maxRecDepth 40000
set_option maxHeartbeats 4000000

theorem WSt.stmt {s : GStmt} (h9 : s.Kind = 9 → WSt 112 s) (h10 : s.Kind = 10 → WSt 113 s) (h11 : s.Kind = 11 → WSt 114 s) (h1 : s.Kind = 1 → WSt 115 s)
    (hp : s.Kind ≠ 9 → s.Kind ≠ 10 → s.Kind ≠ 11 → s.Kind ≠ 1 → WSt 111 s) : WSt 103 s := by
  intro b l n hn
  by_cases k9 : s.Kind = 9
  · have hC := h9 k9 b l n hn
    unfold WCalls wb at *
    refine ACalls.runP [5001, 5002] (by simp) Try.func103 rfl (by simp [Try.f103]) ?_; simp [-condC_bool, Try.f103, k9]
    intro bs
    refine AOps.effD [5001, 5002] rfl (hC) (by simp [wb]) rfl (by simp) rfl (by kernel_rfl) (by simp [wb]) (by simp [wb]) (by simp [wb]) (by simp [wb]) (by simp [wb]) ?_
    simp [wb]
  have e9 : (s.Kind == 9) = false := by simp [k9]
  by_cases k10 : s.Kind = 10
  · have hC := h10 k10 b l n hn
    unfold WCalls wb at *
    refine ACalls.runP [5001, 5002] (by simp) Try.func103 rfl (by simp [Try.f103]) ?_; simp [-condC_bool, Try.f103, k10]
    intro bs
    refine AOps.effD [5001, 5002] rfl (hC) (by simp [wb]) rfl (by simp) rfl (by kernel_rfl) (by simp [wb]) (by simp [wb]) (by simp [wb]) (by simp [wb]) (by simp [wb]) ?_
    simp [wb]
  have e10 : (s.Kind == 10) = false := by simp [k10]
  by_cases k11 : s.Kind = 11
  · have hC := h11 k11 b l n hn
    unfold WCalls wb at *
    refine ACalls.runP [5001, 5002] (by simp) Try.func103 rfl (by simp [Try.f103]) ?_; simp [-condC_bool, Try.f103, k11]
    intro bs
    refine AOps.effD [5001, 5002] rfl (hC) (by simp [wb]) rfl (by simp) rfl (by kernel_rfl) (by simp [wb]) (by simp [wb]) (by simp [wb]) (by simp [wb]) (by simp [wb]) ?_
    simp [wb]
  have e11 : (s.Kind == 11) = false := by simp [k11]
  by_cases k1 : s.Kind = 1
  · have hC := h1 k1 b l n hn
    unfold WCalls wb at *
    refine ACalls.runP [5001, 5002] (by simp) Try.func103 rfl (by simp [Try.f103]) ?_; simp [-condC_bool, Try.f103, k1]
    intro bs
    refine AOps.effD [5001, 5002] rfl (hC) (by simp [wb]) rfl (by simp) rfl (by kernel_rfl) (by simp [wb]) (by simp [wb]) (by simp [wb]) (by simp [wb]) (by simp [wb]) ?_
    simp [wb]
  have e1 : (s.Kind == 1) = false := by simp [k1]
  have hC := hp k9 k10 k11 k1 b l n hn
  unfold WCalls wb at *
  refine ACalls.runP [5001, 5002] (by simp) Try.func103 rfl (by simp [Try.f103]) ?_; simp [-condC_bool, Try.f103, e9, e10, e11, e1]
  intro bs
  refine AOps.effD [5001, 5002] rfl (hC) (by simp [wb]) rfl (by simp) rfl (by kernel_rfl) (by simp [wb]) (by simp [wb]) (by simp [wb]) (by simp [wb]) (by simp [wb]) ?_
  simp [wb]

theorem wBlock_of (ss : List GStmt) (hlen : ss.length ≤ 1000000000000000) (ih : ∀ s ∈ ss, WSt 103 s) : WBlock ss := by
  intro b l n hn
  unfold WCalls wb
  refine ACalls.runP [5001, 5002] (by simp) Try.func63 rfl (by simp [Try.f63]) ?_; simp [Try.f63]
  refine AWP.loopL [0, 6, 7, 8] ss (fun pre => [(8, .d (.v (.int .i64 pre.length)))]) (fun pre => [(5001, .box (b + 1) 97 [.rv 5002, .d (.v (.int .i64 (genB pre n).2))]), (5002, .row 64 2 (dd ((l ++ (genB pre n).1).map GIns.enc)))]) (fun _ => True) (by rfl) (by omega) (by simp [genB]) ?_ ?_
  · rintro pre s post hsp - hlt hge a4
    have hS := ih s (by rw [hsp]; simp)
    have hsn := genB_snoc pre s n
    have hsz : szB pre + szS s ≤ szB ss := by rw [hsp, szB_app]; simp only [szB]; omega
    have b1 := genB_bd' pre n
    clear hsp ih
    generalize genB pre n = k at *
    obtain ⟨k1, k2⟩ := k
    simp only at hsn b1 ⊢
    have hC := hS b (l ++ k1) k2 ⟨by omega, by omega, by rw [List.length_append]; omega⟩
    have b2 := genS_bd s k2
    generalize genS s k2 = q at *
    obtain ⟨q1, q2⟩ := q
    simp only at hsn hC b2
    simp [hlt, hge]
    intro bs
    refine AOps.effD [5001, 5002] rfl (hC) (by simp [wb]) rfl (by simp) rfl (by kernel_rfl) (by simp [wb]) (by simp [wb]) (by simp [wb]) (by simp [wb]) (by simp [wb]) ?_
    simp [hsn, a4, wb]
  · intro _
    simp

theorem shape_kind {s : GStmt} (h : (shapeM s).1 = true) : s.Kind = 1 ∨ s.Kind = 9 ∨ s.Kind = 10 ∨ s.Kind = 11 ∨ s.Kind = 2 ∨ s.Kind = 3 ∨ s.Kind = 23 ∨ s.Kind = 4 ∨ s.Kind = 5 ∨ s.Kind = 6 ∨ s.Kind = 17 ∨ s.Kind = 18 ∨ s.Kind = 19 ∨ s.Kind = 7 ∨ s.Kind = 8 ∨ s.Kind = 12 ∨ s.Kind = 13 ∨ s.Kind = 14 ∨ s.Kind = 15 ∨ s.Kind = 16 ∨ s.Kind = 20 ∨ s.Kind = 21 ∨ s.Kind = 22 := by
  refine Decidable.byContradiction fun hn => ?_
  simp only [not_or] at hn
  obtain ⟨n1, n9, n10, n11, n2, n3, n23, n4, n5, n6, n17, n18, n19, n7, n8, n12, n13, n14, n15, n16, n20, n21, n22⟩ := hn
  simp [shapeM, n1, n9, n10, n11, n2, n3, n23, n4, n5, n6, n17, n18, n19, n7, n8, n12, n13, n14, n15, n16, n20, n21, n22] at h
theorem each_num {t : GTables} {locals : Int} (hlo : inR .i64 locals) {s : GStmt} (p2 : thereM t s locals = true) (k11 : s.Kind = 11) : inR .i64 (s.Num + 1) := by
  have hnm : s.Name.toList = [] ∧ s.Num < locals - 1 := by
    unfold thereM at p2
    cases h : s.Name.toList with
    | nil => simp [h, k11] at p2; exact ⟨rfl, by omega⟩
    | cons a l => simp [h] at p2
  have h0 : 0 ≤ s.Num := by simp [thereM, hnm.1, k11] at p2; omega
  rw [inR_i64] at hlo ⊢
  omega
theorem wStmt_ok (t : GTables) (locals : Int) (hlo : inR .i64 locals) (s : GStmt) (hw : s.wf) (hb : boundS t locals s = true) : WSt 103 s := by
  obtain ⟨N, hN⟩ : ∃ N, SizeOf.sizeOf s < N := ⟨_, Nat.lt_succ_self _⟩
  induction N generalizing s with
  | zero => omega
  | succ N ih =>
    obtain ⟨p1, p2, p3, p4, p5⟩ := boundS_parts hb
    have hla := GStmt.wl_Args hw
    have hlb := GStmt.wl_Body hw
    have hle := GStmt.wl_Else hw
    have hB : WBlock s.Body := wBlock_of s.Body (by omega) (fun x hx => ih x (GStmt.wf_Body hw x hx) (p4 x hx) (by have := GStmt.lt_body s; have := List.sizeOf_lt_of_mem hx; omega))
    have hE : WBlock s.Else := wBlock_of s.Else (by omega) (fun x hx => ih x (GStmt.wf_Else hw x hx) (p5 x hx) (by have := GStmt.lt_else s; have := List.sizeOf_lt_of_mem hx; omega))
    have hEs : s.Kind ≠ 1 → WEs s.Args := fun k1 b l n hn => wexprs_of s.Args (by omega) b l n hn (fun x hx => wexpr_ok t locals x (GStmt.wf_Args hw x hx) (by
      have := p3 x hx
      rwa [show decide (s.Kind = 1) = false by simp [k1]] at this))
    refine WSt.stmt (fun k => ?_) (fun k => wWhile_of s (hEs (by omega)) hB k) (fun k => wEach_of s (hEs (by omega)) hB k (each_num hlo p2 k)) (fun k => ?_) (fun h9 h10 h11 h1 => ?_)
    · by_cases he : s.Else = []
      · exact wIf0_of s (hEs (by omega)) hB k he
      · exact wIf1_of s (hEs (by omega)) hB hE k he
    · refine wSay_of s k (by omega) (fun x hx h19 => ?_)
      have hbx := p3 x hx
      rw [show decide (s.Kind = 1) = true by simp [k]] at hbx
      have hwx := GStmt.wf_Args hw x hx
      split
      · rename_i h13
        have hlx := GExpr.wl_Args hwx
        exact fun b l n hn => wexprs_of x.Args (by omega) b l n hn (fun y hy => wexpr_ok t locals y (GExpr.wf_Args hwx y hy) (bound_mem hbx hy))
      · rename_i h13
        exact wexpr_ok t locals x hwx (bound_said hbx h19 h13)
    · refine wPlain_of s (hEs h1) h9 h10 h11 h1 ?_
      have := shape_kind p1
      omega
end Go.Ab
