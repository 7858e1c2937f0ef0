/-
  The engine, part Lp: a loop that goes through a list.
-/
import Derived.Test.YticchnalleplcaaAbQ
set_option linter.unusedSimpArgs false
set_option linter.unusedVariables false
namespace Go.Ab

section
variable {P : Program} {n : Nat} {s : St} {Q : AX → St → Prop} {L : Heap}

/-- What is asked at the end of the round of x, behind those of pre. -/
def LoopL {α : Type} (ts hs : List Nat) (S : List α → St) (H : List α → Prop) (pre : List α) (x : α) (s : St) : Prop := (s.pick ts hs).on (keys (s.pick ts hs).L) = true ∧ s.pick ts hs = S (pre ++ [x]) ∧ H (pre ++ [x])

/-- A loop with a round for each of l: ts are the slots that are kept; F pre and R pre are the slots and resources that have changed behind the rounds of pre; H pre is what else is known there. -/
theorem AWP.loopL {α : Type} {c : Code} {ks : List KI} (ts : List Nat) (l : List α) (F : List α → List (Nat × V)) (R : List α → List (Nat × Res)) (H : List α → Prop) (ht : ts.all (fun t => decide (t < n)) = true) (hl : l.length ≤ 1000000000000000)
    (h0 : (keys s.L).Nodup ∧ (s.pick ts (keys s.L)).on (keys (s.pick ts (keys s.L)).L) = true ∧ s.pick ts (keys s.L) = (s.pick ts (keys s.L)).up (F []) (R []) ∧ H [])
    (round : ∀ pre x post, l = pre ++ x :: post → H pre → (hlt : pre.length < l.length) → l[pre.length] = x → inR .i64 ((pre.length : Int) + 1) →
      codeK P n c ((s.pick ts (keys s.L)).up (F pre) (R pre)) (kontK P n Q (.inv (LoopL ts (keys s.L) (fun l => (s.pick ts (keys s.L)).up (F l) (R l)) H pre x) :: ks)))
    (last : H l → codeK P n c ((s.pick ts (keys s.L)).up (F l) (R l)) (kontK P n Q (.inv (fun _ => False) :: ks))) :
    AWP P n (.loop c) s (kontK P n Q ks) := by
  obtain ⟨h1, h2, h3, h4⟩ := h0
  refine AWP.weaken (Wk.pick ts (keys s.L) ht h1 h2) (AWP.loop (fun k st => ∃ pre post, l = pre ++ post ∧ k = post.length ∧ H pre ∧ st = (s.pick ts (keys s.L)).up (F pre) (R pre)) ⟨l.length, [], l, rfl, rfl, h4, h3⟩ ?_)
  rintro k st ⟨pre, post, hsp, rfl, hH, rfl⟩
  match post, hsp with
  | x :: post, hsp =>
    refine AWP.mono (codeK_sound _ _ _ (round pre x post hsp hH (by rw [hsp]; simp) (by simp [hsp]) (by rw [inR_i64]; rw [hsp] at hl; simp at hl; omega))) (fun y s' h => ?_)
    cases y with
    | normal =>
      obtain ⟨a1, a2, a3⟩ := h
      exact ⟨post.length, by simp, _, Wk.pick ts (keys s.L) ht h1 a1, pre ++ [x], post, by simp [hsp], rfl, a3, a2⟩
    | _ => exact h
  | [], hsp =>
    rw [List.append_nil] at hsp
    subst hsp
    refine AWP.mono (codeK_sound _ _ _ (last hH)) (fun y s' h => ?_)
    cases y with
    | normal => exact h.elim
    | _ => exact h

end
attribute [simp] LoopL
end Go.Ab
