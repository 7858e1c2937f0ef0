import Derived.Test.YticchnalleplcaaAbGexpr
import Derived.Test.YticchnalleplcaaAbFam
set_option linter.unusedSimpArgs false
set_option linter.unusedVariables false
namespace Go.Ab
open Go.Proofs

/-- The writer's resources: its box, and the row of its instructions. -/
def wb (b : Nat) (l : List GIns) (n : Int) : Heap := [(5001, .box (b + 1) 97 [.rv 5002, .d (.v (.int .i64 n))]), (5002, .row 64 2 (dd (l.map GIns.enc)))]
def WCalls (f : FuncId) (args : List V) (b : Nat) (l : List GIns) (n : Int) (x : V) (l' : List GIns) (n' : Int) : Prop := ACalls Try.prog f (.bp 5001 0 :: args) (wb b l n) (fun r L => r = .ret x ∧ L = wb b l' n')

theorem wlabel_ok (b : Nat) (l : List GIns) (n : Int) (hn : 0 ≤ n ∧ n ≤ 1000000) : WCalls 123 [] b l n (.d (.v (.int .i64 n))) l (n + 1) := by
  unfold WCalls wb
  refine ACalls.run Try.func123 rfl (by simp [Try.f123]) ?_; simp [Try.f123]
  rw [inR_i64, inR_i64]; omega
theorem lay0_ok (b : Nat) (l : List GIns) (n : Int) (op : Int) (hl : l.length ≤ 1000000) : WCalls 64 [.d (.v (.int .i64 op)), .d (.v (.slice none 0 0))] b l n (.tup []) (l ++ [⟨op, 0⟩]) n := by
  unfold WCalls wb
  refine ACalls.runP [5001, 5002] (by simp) Try.func64 rfl (by simp [Try.f64]) ?_; simp [Try.f64]
  intro bs
  refine AWP.loopS [0, 6, 11, 12, 13] 0 (fun i => []) (fun _ => []) (fun _ => True) (by rfl) (by simp) ?_
  intro i hi _
  obtain rfl : i = 0 := by omega
  simp
  refine AWP.regionM0 [some (0, 2), some (0, 1), some (0, 1), some (0, 1), some (0, 1), some (0, 0), none, none, some (2, 2), some (2, 2), none] [] Try.mixed (by kernel_rfl) ?_
  simp
  exact ⟨by omega, by simp [dd, GIns.enc]⟩
theorem lay1_ok (b : Nat) (l : List GIns) (n : Int) (op x : Int) (hl : l.length ≤ 1000000) : WCalls 64 [.d (.v (.int .i64 op)), .d (.sl (encI [x]))] b l n (.tup []) (l ++ [⟨op, x⟩]) n := by
  unfold WCalls wb
  refine ACalls.runP [5001, 5002] (by simp) Try.func64 rfl (by simp [Try.f64]) ?_; simp [Try.f64]
  intro bs
  refine AWP.loopS [0, 6, 11, 12, 13] 1 (fun i => [(13, .d (.v (.int .i64 i)))]) (fun i => [(6, .box (bs 0 + 1) 64 [.d (.v (.int .i64 op)), .d (.v (.int .i64 (if i = 0 then 0 else x)))])]) (fun _ => True) (by rfl) (by simp) ?_
  intro i hi _
  rcases Nat.lt_or_eq_of_le hi with hlt | rfl
  · obtain rfl : i = 0 := by omega
    simp
    rw [inR_i64]; omega
  · simp
    refine AWP.regionM0 [some (0, 2), some (0, 1), some (0, 1), some (0, 1), some (0, 1), some (0, 0), none, none, some (2, 2), some (2, 2), none] [] Try.mixed (by kernel_rfl) ?_
    simp
    exact ⟨by omega, by simp [dd, GIns.enc]⟩
theorem two_ok (b : Nat) (l : List GIns) (n : Int) (hn : 0 ≤ n ∧ n ≤ 999999) : WCalls 107 [] b l n (.tup [.d (.v (.int .i64 n)), .d (.v (.int .i64 (n + 1)))]) l (n + 2) := by
  have h2 := wlabel_ok b l (n + 1) (by omega)
  rw [show n + 1 + 1 = n + 2 by omega] at h2
  unfold WCalls wb
  refine ACalls.run Try.func107 rfl (by simp [Try.f107]) ?_; simp [Try.f107]
  refine AOps.effD [5001, 5002] rfl (wlabel_ok b l n (by omega)) (by simp [wb]) rfl (by simp) rfl (by kernel_rfl) (by simp [wb]) (by simp [wb]) (by simp [wb]) (by simp [wb]) (by simp [wb]) ?_
  simp
  refine AOps.effD [5001, 5002] rfl (h2) (by simp [wb]) rfl (by simp) rfl (by kernel_rfl) (by simp [wb]) (by simp [wb]) (by simp [wb]) (by simp [wb]) (by simp [wb]) ?_
  simp [wb]
end Go.Ab
