import Derived.Test.YticchnalleplcaaAbGsfew2
import Derived.Test.YticchnalleplcaaAbWr
set_option linter.unusedSimpArgs false
set_option linter.unusedVariables false
namespace Go.Ab
open Go.Proofs
set_option maxRecDepth 40000
set_option maxHeartbeats 4000000

/-! ### Statements: what may be (boundBlock) -/
def hasM (s : GStmt) (named : Bool) (args : Int) (body other : Bool) : Bool :=
  decide ((s.Args.length : Int) = args) && (body || decide (s.Body.length = 0)) && (other || decide (s.Else.length = 0)) && (named || (s.Name.toList.isEmpty && decide (s.Num = 0)))
def shapeM (s : GStmt) : Bool × Bool :=
  if s.Kind = 1 then (hasM s false s.Args.length false false && amongM s.Args.length 1 8, false)
  else if s.Kind = 2 ∨ s.Kind = 3 ∨ s.Kind = 5 ∨ s.Kind = 6 ∨ s.Kind = 17 ∨ s.Kind = 23 then (hasM s true 1 false false, true)
  else if s.Kind = 4 then (hasM s true 2 false false, true)
  else if s.Kind = 7 then (hasM s false 2 false false, false)
  else if s.Kind = 8 ∨ s.Kind = 12 ∨ s.Kind = 16 ∨ s.Kind = 20 ∨ s.Kind = 22 ∨ s.Kind = 19 then (hasM s false 1 false false, false)
  else if s.Kind = 9 then (hasM s false 1 true true, false)
  else if s.Kind = 10 then (hasM s false 1 true false, false)
  else if s.Kind = 11 then (hasM s true 1 true false, true)
  else if s.Kind = 18 then (hasM s true 0 false false, true)
  else if s.Kind = 13 ∨ s.Kind = 14 ∨ s.Kind = 15 ∨ s.Kind = 21 then (hasM s false 0 false false, false)
  else (false, false)
def thereM (t : GTables) (s : GStmt) (locals : Int) : Bool :=
  if s.Name.toList.isEmpty then
    if s.Kind = 2 ∨ s.Kind = 3 then decide (0 ≤ s.Num) && decide (s.Num < locals)
    else if s.Kind = 11 then decide (0 ≤ s.Num) && decide (s.Num < locals - 1) && decide (1 < locals)
    else if s.Kind = 23 then amongM s.Num 0 (t.Globals.length - 1)
    else if s.Kind = 4 then amongM s.Num 0 (t.Props.length - 1)
    else if s.Kind = 5 ∨ s.Kind = 6 then decide (0 ≤ s.Num) && decide (s.Num < t.Flags)
    else if s.Kind = 17 ∨ s.Kind = 18 then amongM s.Num 0 (t.Daemons.length - 1)
    else true
  else false
theorem has_ok (s : GStmt) (named : Bool) (args : Int) (body other : Bool) : Pure Try.prog 110 [.agg (s.enc.map .d), .d (.v (.bool named)), .d (.v (.int .i64 args)), .d (.v (.bool body)), .d (.v (.bool other))] (.d (.v (.bool (hasM s named args body other)))) := by
  refine Pure.run Try.func110 rfl (by simp [Try.f110]) ?_; simp [Try.f110]
  refine ⟨?_, ?_, ?_, ?_, ?_⟩
  any_goals (simp +contextual; done)
  have e : s.Name.toList.isEmpty = decide (s.Name.toList = []) := by cases s.Name.toList <;> simp
  rw [hasM, e, show decide (s.Num = 0) = (s.Num == 0) from rfl]; simp
theorem shape_ok (s : GStmt) : Pure Try.prog 101 [.agg (s.enc.map .d)] (.tup [.d (.v (.bool (shapeM s).1)), .d (.v (.bool (shapeM s).2))]) := by
  refine Pure.run Try.func101 rfl (by simp [Try.f101]) ?_; simp [-condC_bool, Try.f101]
  repeat' (first
    | (with_reducible refine And.intro ?_ ?_)
    | (refine condC_split (fun h => ?_) (fun h => ?_) <;> (try simp at h) <;> (try simp [-condC_bool, *]))
    | (refine AOps.pureC rfl (has_ok s _ _ _ _) rfl rfl (by simp) rfl ?_ <;> (try simp [-condC_bool, *]))
    | (refine AOps.pureC rfl (among_ok _ _ _) rfl rfl (by simp) rfl ?_ <;> (try simp [-condC_bool, *]))
    | (refine AOps.pureG rfl (fun h => has_ok s _ _ _ _) rfl rfl (by simp) (by simp) rfl ?_ <;> (try simp [-condC_bool, *]))
    | (refine AOps.pureG rfl (fun h => among_ok _ _ _) rfl rfl (by simp) (by simp) rfl ?_ <;> (try simp [-condC_bool, *]))
    | (with_reducible intro _))
  all_goals first | (simp [shapeM, *]; done) | trace_state
theorem there_min (t : GTables) (s : GStmt) (hk : s.Kind = 11) (hn : s.Name.toList = []) : Pure Try.prog 102 [.agg (t.enc.map .d), .agg (s.enc.map .d), .d (.v (.int .i64 (-9223372036854775808)))] (.d (.v (.bool false))) := by
  refine Pure.runA Try.func102 rfl (by simp [Try.f102]) ?_
  refine AWP.seqK ?_
  simp [Try.f102]
  intro bs
  refine AWP.seqK ?_
  simp [hn]
  refine AWP.seq (AWP.seqK ?_)
  simp [hk]
  refine AWP.block (AWP.seqK ?_)
  simp
  refine AWP.cond rfl (fun h => by simp at h) (fun _ => ?_)
  refine AWP.seqK ?_
  simp
  refine AWP.cond rfl (fun _ => ?_) (fun h => by simp at h)
  refine AWP.seq (AWP.regionS (AOps.stop 7 [] (by rfl) ?_))
  simp
  refine AOps.subG (a := -9223372036854775808) (b := 1) rfl (by rfl) (by simp) (by simp) (by simp) ?_
  refine runC_sound _ _ [] (by rfl) ?_
  simp
  refine AWP.ret ?_
  simp
theorem there_ok (t : GTables) (ht : t.wf) (s : GStmt) (locals : Int) (hl : inR .i64 locals) : Pure Try.prog 102 [.agg (t.enc.map .d), .agg (s.enc.map .d), .d (.v (.int .i64 locals))] (.d (.v (.bool (thereM t s locals)))) := by
  have b1 := GTables.wl_Globals ht
  have b2 := GTables.wl_Props ht
  have b3 := GTables.wl_Daemons ht
  by_cases hm : (s.Kind = 11 ∧ s.Name.toList = []) ∧ locals = -9223372036854775808
  · obtain ⟨⟨hk, hn⟩, rfl⟩ := hm
    exact (there_min t s hk hn).eq rfl (by simp [thereM, hk, hn])
  have hlo : s.Kind = 11 → s.Name.toList = [] → inR .i64 (locals - 1) := fun h1 h2 => by
    rw [inR_i64] at hl ⊢
    have : ¬ locals = -9223372036854775808 := fun h => hm ⟨⟨h1, h2⟩, h⟩
    omega
  clear hm
  refine Pure.run Try.func102 rfl (by simp [Try.f102]) ?_; simp [-condC_bool, Try.f102]
  repeat' (first
    | (with_reducible refine And.intro ?_ ?_)
    | (refine condC_split (fun h => ?_) (fun h => ?_) <;> (try simp at h) <;> (try simp [-condC_bool, *]))
    | (refine AOps.pureC rfl (among_ok _ _ _) rfl rfl (by simp) rfl ?_ <;> (try simp [-condC_bool, *]))
    | (refine AOps.pureG rfl (fun h => among_ok _ _ _) rfl rfl (by simp) (by simp) rfl ?_ <;> (try simp [-condC_bool, *]))
    | (with_reducible intro _))
  all_goals first | assumption | (exact hlo (by assumption) (by assumption)) | (rw [inR_i64]; omega) | (simp [thereM, *]; done) | trace_state
end Go.Ab
