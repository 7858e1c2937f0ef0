import Derived.Test.YtfcflgiignjlgaaAbHrest2
set_option linter.unusedSimpArgs false
set_option linter.unusedVariables false
namespace Go.Ab
open Go.Proofs

def gw (o : Int) : GWorld := ⟨[], [], [], [], [], [], [], 0, 0, 0, o, 0, 0⟩
def gwc (o : Int) : List D := [.v (.slice none 0 0), .v (.slice none 0 0), .v (.slice none 0 0), .v (.slice none 0 0), .v (.slice none 0 0), .v (.slice none 0 0), .v (.slice none 0 0), .v (.int .u64 0), .v (.int .i64 0), .v (.int .i64 0), .v (.int .i64 o), .v (.int .i64 0), .v (.int .i64 0)]
def gcmd (v : Int) : GCmd := ⟨v, 0, 0, 0, 0⟩
def grA : GGraph := ⟨[gw 0, gw 0, gw 1], [⟨0, 1, gcmd 1⟩, ⟨1, 2, gcmd 2⟩], true⟩
def grB : GGraph := ⟨[gw 0, gw 0, gw 1], [⟨0, 1, gcmd 1⟩], true⟩

theorem awake_ok : Pure Try.prog 8 [] (.d (.v (.bool true))) := by
  refine Pure.run Try.func8 rfl (by simp [Try.f8]) ?_; simp [Try.f8]
  intro bs bs1
  refine AWP.weaken (s' := ⟨[(3, .bp 3 0), (2, .bp 2 0), (1, .bp 1 0)], [(3, .box (bs1 2 + 1) 25 (grA.enc.map .d)), (2, .box (bs 1 + 1) 35 ((gcmd 2).enc.map .d)), (1, .box (bs 0 + 1) 35 ((gcmd 1).enc.map .d))]⟩)
    ((Wk.freezeN 10 (ys := [gwc 0, gwc 0, gwc 1]) rfl).trans ((Wk.freezeN 15 (ys := grA.Edges.map GEdge.enc) rfl).trans (Wk.pick [3, 2, 1] [3, 2, 1] rfl (by simp) rfl))) ?_
  refine AWP.regionM [some (0, 1), some (0, 1), some (0, 1), some (0, 1), some (0, 1), some (0, 1), none, none] [] Try.mixed (by kernel_rfl) ?_
  simp
  refine ⟨by decide, fun bs2 => ?_⟩
  refine AWP.weaken (s' := ⟨[(4, .bp 4 0), (3, .bp 3 0), (2, .bp 2 0), (1, .bp 1 0)], [(4, .box (bs2 4 + 1) 25 (grB.enc.map .d)), (3, .box (bs1 2 + 1) 25 (grA.enc.map .d)), (2, .box (bs 1 + 1) 35 ((gcmd 2).enc.map .d)), (1, .box (bs 0 + 1) 35 ((gcmd 1).enc.map .d))]⟩)
    (Wk.pick [4, 3, 2, 1] [4, 3, 2, 1] rfl (by simp) rfl) ?_
  have fA := (far_ok grA (by decide) (by decide)).ok
  have fB := (far_ok grB (by decide) (by decide)).ok
  have rA := (rest_ok grA 0 (by decide) (by decide)).ok
  have dB := (dead_ok grB (by decide) (by decide)).ok
  have e1 : (farM grA == [2, 1, 0]) = true := by decide
  have e2 : (farM grB == [-1, -1, 0]) = true := by decide
  have e3 : decide (restM grA (farM grA) 0 = [gcmd 1, gcmd 2]) = true := by decide
  have e4 : (deadM grB (farM grB) == [0, 1]) = true := by decide
  have i1 := fun args L => (ints_ok (farM grA) [2, 1, 0] (by decide)).lend (args := args) (L := L) rfl
  have i2 := fun args L => (ints_ok (farM grB) [-1, -1, 0] (by decide)).lend (args := args) (L := L) rfl
  have i3 := fun args L => (same_ok (restM grA (farM grA) 0) [gcmd 1, gcmd 2] (by decide)).lend (args := args) (L := L) rfl
  have i4 := fun args L => (ints_ok (deadM grB (farM grB)) [0, 1] (by decide)).lend (args := args) (L := L) rfl
  rw [e1] at i1
  rw [e2] at i2
  rw [e3] at i3
  rw [e4] at i4
  refine AWP.regionM0 [some (0, 1), some (0, 1), none, some (1, 1), some (1, 1), some (1, 2), some (1, 2), some (1, 1), some (1, 1), none, some (2, 2), some (2, 2), some (2, 2), some (2, 3), some (2, 3), none, some (3, 3), some (3, 3), some (3, 3), some (3, 4), some (3, 4), none, some (4, 4), some (4, 4), some (4, 4)] [.d (.sl (encI (farM grA))), .d (.v (.bool true)), .d (.sl ((restM grA (farM grA) 0).map GCmd.enc)), .d (.v (.bool true)), .d (.sl (encI (farM grB))), .d (.v (.bool true)), .d (.sl (encI (deadM grB (farM grB)))), .d (.v (.bool true))] Try.mixed (by kernel_rfl) ?_
  simp [fA, fB, rA, dB]
  exact ⟨i1 _ _ rfl, i3 _ _ rfl, i2 _ _ rfl, i4 _ _ rfl⟩
end Go.Ab
