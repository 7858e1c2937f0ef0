import Derived.Test.YticchnalleplcaaAbGex
set_option linter.unusedSimpArgs false
set_option linter.unusedVariables false
namespace Go.Ab
open Go.Proofs

theorem bareLook_ok : Pure Try.prog 124 [.d (.v (.int .i64 21))] (.d (.v (.int .i64 35))) := by
  refine Pure.run Try.func124 rfl (by simp [Try.f124]) ?_; simp [Try.f124]
set_option maxRecDepth 20000 in
theorem plainLook_ok (s : GStmt) (hk : s.Kind = 21) (hA : s.Args = []) (b : Nat) (l : List GIns) (n : Int) (hl : l.length ≤ 1000) (hn : 0 ≤ n ∧ n ≤ 1000) : WCalls 111 [.agg (s.enc.map .d)] b l n (.tup []) (l ++ [⟨37, 0⟩, ⟨35, 0⟩]) n := by
  have hx := wexprs_of [] (by simp) b (l ++ [⟨37, 0⟩]) n ⟨by omega, by simp [szEs] <;> omega, by simp [szEs] <;> omega⟩ (by simp)
  simp only [genEs, List.append_nil, List.map_nil] at hx
  unfold WCalls wb
  refine ACalls.runP [5001, 5002] (by simp) Try.func111 rfl (by simp [Try.f111]) ?_; simp [Try.f111, hk, hA]
  intro bs
  refine AOps.effD [5001, 5002] rfl (lay0_ok b l n 37 (by omega)) (by simp [wb]) rfl (by simp) rfl (by kernel_rfl) (by simp [wb]) (by simp [wb]) (by simp [wb]) (by simp [wb]) (by simp [wb]) ?_
  simp [wb, hk, hA]
  refine AOps.effD [5001, 5002] rfl (hx) (by simp [wb]) rfl (by simp) rfl (by kernel_rfl) (by simp [wb]) (by simp [wb]) (by simp [wb]) (by simp [wb]) (by simp [wb]) ?_
  simp [wb, hk, hA]
  refine AOps.pureC rfl (bareLook_ok) (by simp) rfl (by simp) rfl ?_
  simp
  refine AOps.effD [5001, 5002] rfl (lay0_ok b (l ++ [⟨37, 0⟩]) n 35 (by simp <;> omega)) (by simp [wb]) rfl (by simp) rfl (by kernel_rfl) (by simp [wb]) (by simp [wb]) (by simp [wb]) (by simp [wb]) (by simp [wb]) ?_
  simp [wb]
theorem stmtLook_ok (s : GStmt) (hk : s.Kind = 21) (hA : s.Args = []) (b : Nat) (l : List GIns) (n : Int) (hl : l.length ≤ 1000) (hn : 0 ≤ n ∧ n ≤ 1000) : WCalls 103 [.agg (s.enc.map .d)] b l n (.tup []) (l ++ [⟨37, 0⟩, ⟨35, 0⟩]) n := by
  have hc := plainLook_ok s hk hA b l n hl hn
  unfold WCalls wb
  refine ACalls.runP [5001, 5002] (by simp) Try.func103 rfl (by simp [Try.f103]) ?_; simp [Try.f103, hk, hA]
  intro bs
  refine AOps.effD [5001, 5002] rfl (hc) (by simp [wb]) rfl (by simp) rfl (by kernel_rfl) (by simp [wb]) (by simp [wb]) (by simp [wb]) (by simp [wb]) (by simp [wb]) ?_
  simp [wb]
theorem blockLook_ok (s : GStmt) (hk : s.Kind = 21) (hA : s.Args = []) (b : Nat) : WCalls 63 [.d (.sl ([s].map GStmt.enc))] b [] 0 (.tup []) [⟨37, 0⟩, ⟨35, 0⟩] 0 := by
  have hc := stmtLook_ok s hk hA b [] 0 (by simp) (by omega)
  unfold WCalls wb
  refine ACalls.runP [5001, 5002] (by simp) Try.func63 rfl (by simp [Try.f63]) ?_; simp [Try.f63]
  refine AWP.loopS [0, 6, 7, 8] 1 (fun i => [(8, .d (.v (.int .i64 i)))]) (fun i => [(5001, .box (b + 1) 97 [.rv 5002, .d (.v (.int .i64 0))]), (5002, .row 64 2 (dd ((if i = 0 then ([] : List GIns) else [⟨37, 0⟩, ⟨35, 0⟩]).map GIns.enc)))]) (fun _ => True) (by rfl) (by simp) ?_
  intro i hi _
  rcases Nat.lt_or_eq_of_le hi with hlt | rfl
  · obtain rfl : i = 0 := by omega
    simp
    intro bs
    refine AOps.effD [5001, 5002] rfl (hc) (by simp [wb]) rfl (by simp) rfl (by kernel_rfl) (by simp [wb]) (by simp [wb]) (by simp [wb]) (by simp [wb]) (by simp [wb]) ?_
    simp [wb]
    rw [inR_i64]; omega
  · simp
theorem routineLook_ok (s : GStmt) (hk : s.Kind = 21) (hA : s.Args = []) : Pure Try.prog 34 [.d (.sl ([s].map GStmt.enc))] (.d (.sl ([(⟨37, 0⟩ : GIns), ⟨35, 0⟩, ⟨1, 0⟩, ⟨27, 0⟩].map GIns.enc))) := by
  refine Pure.run Try.func34 rfl (by simp [Try.f34]) ?_; simp [Try.f34]
  intro bs
  refine AOps.weaken ((Wk.ren 5 5001 (by simp)).trans (Wk.ownBox 5001 0 5002 (e := 64) (k := 2) rfl rfl (by simp))) ?_
  simp [Heap.upd]
  refine AOps.weaken (Wk.pick [7, 6, 3, 2] [5001, 5002] (by rfl) (by simp) (by simp)) ?_
  simp
  refine AOps.effD [5001, 5002] rfl (blockLook_ok s hk hA (bs 0)) (by simp [wb]) rfl (by simp) rfl (by kernel_rfl) (by simp [wb]) (by simp [wb]) (by simp [wb]) (by simp [wb]) (by simp [wb]) ?_
  simp [wb]
  refine AOps.effD [5001, 5002] rfl (lay0_ok (bs 0) [⟨37, 0⟩, ⟨35, 0⟩] 0 1 (by simp)) (by simp [wb]) rfl (by simp) rfl (by kernel_rfl) (by simp [wb]) (by simp [wb]) (by simp [wb]) (by simp [wb]) (by simp [wb]) ?_
  simp [wb]
  refine AOps.effD [5001, 5002] rfl (lay0_ok (bs 0) [⟨37, 0⟩, ⟨35, 0⟩, ⟨1, 0⟩] 0 27 (by simp)) (by simp [wb]) rfl (by simp) rfl (by kernel_rfl) (by simp [wb]) (by simp [wb]) (by simp [wb]) (by simp [wb]) (by simp [wb]) ?_
  simp [wb]

def gNum (n : Int) : GExpr := .mk 1 0 n ⟨#[]⟩ []
def gOr : GExpr := .mk 6 1 0 ⟨#[]⟩ [gNum 1, gNum 2]
def gLook : GStmt := .mk 21 0 ⟨#[]⟩ [] [] []
def tab0 : GTables := ⟨0, 0, 0, 0, [], 0, [], [], [], [], [], [], [], [], []⟩
def want1 : List GIns := [⟨1, 1⟩, ⟨25, 0⟩, ⟨1, 1⟩, ⟨24, 1⟩, ⟨38, 0⟩, ⟨1, 2⟩, ⟨11, 0⟩, ⟨38, 1⟩]
def want2 : List GIns := [⟨37, 0⟩, ⟨35, 0⟩, ⟨1, 0⟩, ⟨27, 0⟩]
theorem genOr : (genE gOr 0).1 = want1 := by
  simp [gOr, gNum, genE, genEs, want1, ownM]
theorem gOr_wf : gOr.wf := by
  simp [gOr, gNum, GExpr.wf, GExpr.wfs, inR_i64]
  decide
def numC (n : Int) : List D := [.v (.int .i64 1), .v (.int .i64 0), .v (.int .i64 n), .v (.string ⟨#[]⟩), .v (.slice none 0 0)]
def lookC : List D := [.v (.int .i64 21), .v (.int .i64 0), .v (.string ⟨#[]⟩), .v (.slice none 0 0), .v (.slice none 0 0), .v (.slice none 0 0)]
theorem awake_ok : Pure Try.prog 28 [] (.d (.v (.bool true))) := by
  have hG := (genExpr_ok tab0 0 gOr gOr_wf (by simp [gOr, gNum, boundM, boundsM, boundK, bareM, isM, amongM]) (by simp [gOr, gNum, szE, szEs]))
  rw [genOr] at hG
  have hR := routineLook_ok gLook rfl rfl
  have s1 := same_ok want1 want1 (by decide)
  have s2 := fun args L => (same_ok want2 want2 (by decide)).lend (args := args) (L := L) rfl
  rw [show decide (want1 = want1) = true by simp] at s1
  rw [show decide (want2 = want2) = true by simp] at s2
  refine Pure.run Try.func28 rfl (by simp [Try.f28]) ?_; simp [Try.f28]
  intro bs
  refine AOps.weaken (Wk.freezeN 10 (ys := [numC 1, numC 2]) rfl) ?_
  simp [numC]
  refine AOps.pureC rfl hG (by simp [gOr, gNum, GExpr.enc, GExpr.encs]) rfl (by simp) rfl ?_
  simp
  refine AOps.weaken (Wk.freezeN 23 (ys := [lookC]) rfl) ?_
  simp [lookC]
  refine AOps.pureC rfl hR (by simp [gLook, GStmt.enc, GStmt.encs, GExpr.enc, GExpr.encs]) rfl (by simp) rfl ?_
  simp
  refine AOps.weaken (Wk.freeze 21 (ys := want1.map GIns.enc) rfl) ?_
  simp
  refine AOps.pureC rfl s1 (by simp) rfl (by simp) rfl ?_
  simp
  refine runC_sound _ _ [.d (.v (.bool true))] (by rfl) ?_
  simp
  exact s2 _ _ rfl
end Go.Ab
