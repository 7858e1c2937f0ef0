/-
  The engine, part B: frames, the logic of code (AWP) and of calls (ACalls), the rules of the forms of code.
-/
import Derived.Test.YticchnalleplcaaAbA
set_option linter.unusedSimpArgs false
set_option linter.unusedVariables false
namespace Go.Ab

structure St where
  fr : List (Nat × V)
  L : Heap

def getF (t : Nat) : List (Nat × V) → V
  | [] => .any
  | (k, x) :: l => if k = t then x else getF t l
def delF (t : Nat) : List (Nat × V) → List (Nat × V)
  | [] => []
  | (k, x) :: l => if k = t then delF t l else (k, x) :: delF t l

theorem mem_delF {t : Nat} {p : Nat × V} : ∀ {l : List (Nat × V)}, p ∈ delF t l → p ∈ l ∧ p.1 ≠ t
  | [], h => by cases h
  | (k, x) :: l, h => by
    rw [delF] at h
    split at h
    · have := mem_delF h; exact ⟨List.mem_cons_of_mem _ this.1, this.2⟩
    · rename_i hk
      rcases List.mem_cons.1 h with rfl | h
      · exact ⟨List.mem_cons_self, hk⟩
      · have := mem_delF h; exact ⟨List.mem_cons_of_mem _ this.1, this.2⟩

theorem getF_mem {t : Nat} : ∀ {l : List (Nat × V)}, getF t l = .any ∨ (t, getF t l) ∈ l
  | [] => .inl rfl
  | (k, x) :: l => by
    rw [getF]
    split
    · rename_i hk; subst hk; exact .inr List.mem_cons_self
    · exact (getF_mem (l := l)).imp id (List.mem_cons_of_mem _)

def St.get (s : St) (t : Nat) : V := getF t s.fr
def St.put (s : St) (t : Option Nat) (x : V) : St :=
  match t with
  | none => s
  | some t => { s with fr := (t, x) :: delF t s.fr }

def evConst (v : Value) : V := if v.oneCell' then .d (.v v) else .any

def St.ev (s : St) : Operand → V
  | .tmp t => s.get t
  | .const v => evConst v
  | .global g => .d (.v (.pointer (some ⟨g, 0, none⟩)))
  | .func f => .clo (.func f) [] []

/-- The frame and the world are as the state says. -/
structure G (fo : Nat → Prop) (n : Nat) (m : Nat → Option Value) (s : St) (a : Act) (w : World) : Prop where
  size : a.tmps.size = n
  fr : ∀ t x, (t, x) ∈ s.fr → t < n ∧ RelV w (OO fo m) m (a.tmps.getD t undef) x
  inv : Inv fo m s.L w
  defers : a.defers = []

inductive AX where
  | normal
  | exit (i : Nat)
  | goto (l : Nat)
  | ret
  | pan (x : V)

def Exits (w : World) (O : Nat → Prop) (m : Nat → Option Value) : Exit → AX → Prop
  | .normal, .normal => True
  | .exit i, .exit j => i = j
  | .goto i, .goto j => i = j
  | .ret, .ret => True
  | .panic chain, .pan x => ∃ v, chain = [{ v := v, recovered := false }] ∧ RelV w O m v x
  | _, _ => False

/-- What a run of code from (m, w) on must come to. -/
def Post (fo : Nat → Prop) (n : Nat) (m : Nat → Option Value) (w : World) (Q : AX → St → Prop) (e : Exit) (a' : Act) (w' : World) : Prop :=
  ∃ m' x s', Q x s' ∧ G fo n m' s' a' w' ∧ Exits w' (OO fo m') m' e x ∧ Step w (own m) w' (own m')

def AWP (P : Program) (n : Nat) (c : Code) (s : St) (Q : AX → St → Prop) : Prop :=
  ∀ fo m a w, G fo n m s a w → Code.wp P c (Post fo n m w Q) a w

theorem Post.mono {fo : Nat → Prop} {n : Nat} {m : Nat → Option Value} {w : World} {Q Q' : AX → St → Prop} (hq : ∀ x s, Q x s → Q' x s) {e : Exit} {a' : Act} {w' : World} (h : Post fo n m w Q e a' w') : Post fo n m w Q' e a' w' := by
  obtain ⟨m', x, s', h1, h2⟩ := h
  exact ⟨m', x, s', hq _ _ h1, h2⟩

theorem Post.step {fo : Nat → Prop} {n : Nat} {m m1 : Nat → Option Value} {w w1 : World} {Q : AX → St → Prop} (hs : Step w (own m) w1 (own m1)) {e : Exit} {a' : Act} {w' : World} (h : Post fo n m1 w1 Q e a' w') : Post fo n m w Q e a' w' := by
  obtain ⟨m', x, s', h1, h2, h3, h4⟩ := h
  exact ⟨m', x, s', h1, h2, h3, hs.trans h4⟩

section
variable {P : Program} {n : Nat} {s : St} {Q : AX → St → Prop}

theorem AWP.mono {c : Code} {Q' : AX → St → Prop} (h : AWP P n c s Q) (hq : ∀ x s, Q x s → Q' x s) : AWP P n c s Q' :=
  fun fo m a w g => Code.wp_mono (fun _ _ _ => Post.mono hq) (h fo m a w g)

/-- The state may be said otherwise, or less of it. -/
def Wk (n : Nat) (s s' : St) : Prop := ∀ fo m a w, G fo n m s a w → ∃ m', G fo n m' s' a w ∧ Step w (own m) w (own m')

theorem Wk.refl (n : Nat) (s : St) : Wk n s s := fun _ m _ w g => ⟨m, g, Step.refl w _⟩
theorem Wk.trans {s1 s2 s3 : St} (h : Wk n s1 s2) (k : Wk n s2 s3) : Wk n s1 s3 := fun fo m a w g =>
  let ⟨m1, g1, t1⟩ := h fo m a w g
  let ⟨m2, g2, t2⟩ := k fo m1 a w g1
  ⟨m2, g2, t1.trans t2⟩

theorem AWP.weaken {c : Code} {s' : St} (h : Wk n s s') (k : AWP P n c s' Q) : AWP P n c s Q := fun fo m a w g => by
  obtain ⟨m', g', hs⟩ := h fo m a w g
  exact Code.wp_mono (fun _ _ _ => Post.step hs) (k fo m' a w g')

theorem G.exits {fo : Nat → Prop} {m : Nat → Option Value} {a : Act} {w : World} (g : G fo n m s a w) (x : AX) (e : Exit) (hx : Exits w (OO fo m) m e x) (h : Q x s) : Post fo n m w Q e a w :=
  ⟨m, x, s, h, g, hx, Step.refl w _⟩

theorem AWP.skip (h : Q .normal s) : AWP P n .skip s Q := fun _ _ _ _ g => wp_skip (g.exits .normal .normal trivial h)
theorem AWP.label {l : Nat} (h : Q .normal s) : AWP P n (.label l) s Q := fun _ _ _ _ g => wp_label (g.exits .normal .normal trivial h)
theorem AWP.exit {i : Nat} (h : Q (.exit i) s) : AWP P n (.exit i) s Q := fun _ _ _ _ g => wp_exit (g.exits (.exit i) (.exit i) rfl h)
theorem AWP.goto {i : Nat} (h : Q (.goto i) s) : AWP P n (.goto i) s Q := fun _ _ _ _ g => wp_goto (g.exits (.goto i) (.goto i) rfl h)
theorem AWP.ret (h : Q .ret s) : AWP P n .ret s Q := fun _ _ _ _ g => wp_ret (g.exits .ret .ret trivial h)

def AX.then (next : St → Prop) (Q : AX → St → Prop) : AX → St → Prop
  | .normal, s => next s
  | x, s => Q x s

theorem AWP.seq {x y : Code} (h : AWP P n x s (AX.then (fun s' => AWP P n y s' Q) Q)) : AWP P n (.seq x y) s Q := fun fo m a w g => by
  refine wp_seq (Code.wp_mono (fun e a1 w1 hp => ?_) (h fo m a w g))
  obtain ⟨m1, x1, s1, hq, g1, hx, hs⟩ := hp
  cases e with
  | normal =>
    cases x1 <;> simp only [Exits] at hx
    exact Code.wp_mono (fun _ _ _ => Post.step hs) (hq fo m1 a1 w1 g1)
  | exit i => cases x1 <;> simp only [Exits] at hx; exact ⟨m1, _, s1, hq, g1, hx, hs⟩
  | goto i => cases x1 <;> simp only [Exits] at hx; exact ⟨m1, _, s1, hq, g1, hx, hs⟩
  | ret => cases x1 <;> simp only [Exits] at hx; exact ⟨m1, _, s1, hq, g1, hx, hs⟩
  | panic ch => cases x1 <;> simp only [Exits] at hx; exact ⟨m1, _, s1, hq, g1, hx, hs⟩
  | outgrown => cases x1 <;> simp only [Exits] at hx

theorem RelV.bool_inv {w : World} {O : Nat → Prop} {m : Nat → Option Value} {x v : Value} (h : RelV w O m x (.d (.v v))) : x = v := by
  cases h with
  | d _ _ h => cases h with
    | v _ _ => rfl

theorem eval_rel {fo : Nat → Prop} {m : Nat → Option Value} {a : Act} {w : World} (g : G fo n m s a w) (o : Operand) : RelV w (OO fo m) m (a.eval o) (s.ev o) := by
  cases o with
  | tmp t =>
    simp only [Act.eval, St.ev, St.get]
    rcases getF_mem (t := t) (l := s.fr) with h | h
    · rw [h]; exact .any _
    · exact (g.fr t _ h).2
  | const v =>
    simp only [Act.eval, St.ev]
    unfold evConst
    split
    · rename_i h; exact .d _ _ (.v _ h)
    · exact .any _
  | global i => exact .d _ _ (.v _ rfl)
  | func f => exact .clo _ _ _ _ _ rfl rfl (by simp) (by simp)

theorem AWP.cond {c : Operand} {x y : Code} {b : Bool} (hc : s.ev c = .d (.v (.bool b))) (ht : b = true → AWP P n x s Q) (hf : b = false → AWP P n y s Q) : AWP P n (.cond c x y) s Q := fun fo m a w g => by
  have he := eval_rel g c
  rw [hc] at he
  exact wp_cond_split he.bool_inv (fun h => ht h fo m a w g) (fun h => hf h fo m a w g)

def AX.inBlock (id : Nat) (Q : AX → St → Prop) : AX → St → Prop
  | .exit i, s => if i = id then Q .normal s else Q (.exit i) s
  | x, s => Q x s

theorem AWP.block {id : Nat} {c : Code} (h : AWP P n c s (AX.inBlock id Q)) : AWP P n (.block id c) s Q := fun fo m a w g => by
  refine wp_block (Code.wp_mono (fun e a1 w1 hp => ?_) (h fo m a w g))
  obtain ⟨m1, x1, s1, hq, g1, hx, hs⟩ := hp
  cases e with
  | exit i =>
    cases x1 <;> simp only [Exits] at hx
    subst hx
    simp only [Exit.inBlock]
    simp only [AX.inBlock] at hq
    split at hq
    · rename_i h; rw [if_pos h]; exact ⟨m1, .normal, s1, hq, g1, trivial, hs⟩
    · rename_i h; rw [if_neg h]; exact ⟨m1, _, s1, hq, g1, rfl, hs⟩
  | normal => cases x1 <;> simp only [Exits] at hx; exact ⟨m1, _, s1, hq, g1, hx, hs⟩
  | goto i => cases x1 <;> simp only [Exits] at hx; exact ⟨m1, _, s1, hq, g1, hx, hs⟩
  | ret => cases x1 <;> simp only [Exits] at hx; exact ⟨m1, _, s1, hq, g1, hx, hs⟩
  | panic ch => cases x1 <;> simp only [Exits] at hx; exact ⟨m1, _, s1, hq, g1, hx, hs⟩
  | outgrown => cases x1 <;> simp only [Exits] at hx

theorem least (p : Nat → Prop) (h : ∃ k, p k) : ∃ k, p k ∧ ∀ j, p j → k ≤ j := by
  obtain ⟨k, hk⟩ := h
  induction k using Nat.strongRecOn with
  | _ k ih =>
    by_cases h : ∃ j, j < k ∧ p j
    · obtain ⟨j, hj, hp⟩ := h
      exact ih j hj hp
    · refine ⟨k, hk, fun j hj => ?_⟩
      rcases Nat.lt_or_ge j k with h' | h'
      · exact (h ⟨j, h', hj⟩).elim
      · exact h'

/-- A loop, by an invariant that bears a bound on the rounds that are left. -/
theorem AWP.loop {c : Code} (I : Nat → St → Prop) (h0 : ∃ k, I k s)
    (round : ∀ k s, I k s → AWP P n c s (AX.then (fun s' => ∃ k', k' < k ∧ ∃ s'', Wk n s' s'' ∧ I k' s'') Q)) : AWP P n (.loop c) s Q := fun fo m a w g => by
  classical
  let J (a1 : Act) (w1 : World) (k : Nat) : Prop := ∃ m1 s1, I k s1 ∧ G fo n m1 s1 a1 w1 ∧ Step w (own m) w1 (own m1)
  refine wp_loop (fun a1 w1 => ∃ k, J a1 w1 k) (fun a1 w1 => if h : ∃ k, J a1 w1 k then Classical.choose (least _ h) else 0) ?_ ?_
  · obtain ⟨k, hk⟩ := h0
    exact ⟨k, m, s, hk, g, Step.refl w _⟩
  · intro a1 w1 hI
    rw [dif_pos hI]
    obtain ⟨m1, s1, hi, g1, hs1⟩ := (Classical.choose_spec (least _ hI)).1
    refine Code.wp_mono (fun e a2 w2 hp => ?_) (round _ s1 hi fo m1 a1 w1 g1)
    obtain ⟨m2, x2, s2, hq, g2, hx, hs2⟩ := hp
    cases e with
    | normal =>
      cases x2 <;> simp only [Exits] at hx
      obtain ⟨k', hlt, s3, hw, hi3⟩ := hq
      obtain ⟨m3, g3, hs3⟩ := hw fo m2 a2 w2 g2
      have hJ : J a2 w2 k' := ⟨m3, s3, hi3, g3, (hs1.trans hs2).trans hs3⟩
      refine ⟨⟨k', hJ⟩, ?_⟩
      rw [dif_pos ⟨k', hJ⟩]
      exact Nat.lt_of_le_of_lt ((Classical.choose_spec (least _ ⟨k', hJ⟩)).2 k' hJ) hlt
    | exit i => cases x2 <;> simp only [Exits] at hx; exact ⟨m2, _, s2, hq, g2, hx, hs1.trans hs2⟩
    | goto i => cases x2 <;> simp only [Exits] at hx; exact ⟨m2, _, s2, hq, g2, hx, hs1.trans hs2⟩
    | ret => cases x2 <;> simp only [Exits] at hx; exact ⟨m2, _, s2, hq, g2, hx, hs1.trans hs2⟩
    | panic ch => cases x2 <;> simp only [Exits] at hx; exact ⟨m2, _, s2, hq, g2, hx, hs1.trans hs2⟩
    | outgrown => cases x2 <;> simp only [Exits] at hx
end

/-- How a call ends. -/
inductive AE where
  | ret (x : V)
  | pan (x : V)

def Ends (w : World) (O : Nat → Prop) (m : Nat → Option Value) : Ending → AE → Prop
  | .returned v, .ret x => RelV w O m v x
  | .panicked chain, .pan x => ∃ v, chain = [{ v := v, recovered := false }] ∧ RelV w O m v x
  | _, _ => False

def CPost (fo : Nat → Prop) (m : Nat → Option Value) (w : World) (R : AE → Heap → Prop) (e : Ending) (w' : World) : Prop :=
  ∃ m' r L', R r L' ∧ Ends w' (OO fo m') m' e r ∧ Inv fo m' L' w' ∧ Step w (own m) w' (own m')

def RelVs (w : World) (O : Nat → Prop) (m : Nat → Option Value) (xs : Array Value) (ys : List V) : Prop :=
  xs.size = ys.length ∧ ∀ (j : Nat) (x : Value) (y : V), xs[j]? = some x → ys[j]? = some y → RelV w O m x y

def ACalls (P : Program) (f : FuncId) (args : List V) (L : Heap) (R : AE → Heap → Prop) : Prop :=
  ∀ fo m w (xs : Array Value), Inv fo m L w → RelVs w (OO fo m) m xs args → Calls P f xs w (CPost fo m w R)

theorem ACalls.mono {P : Program} {f : FuncId} {args : List V} {L : Heap} {R R' : AE → Heap → Prop} (h : ACalls P f args L R) (hr : ∀ r L, R r L → R' r L) : ACalls P f args L R' :=
  fun fo m w xs hi hx => (h fo m w xs hi hx).mono fun _ _ ⟨m', r, L', h1, h2⟩ => ⟨m', r, L', hr _ _ h1, h2⟩

def argFrame (k : Nat) : List V → List (Nat × V)
  | [] => []
  | x :: l => (k, x) :: argFrame (k + 1) l

theorem mem_argFrame {t : Nat} {x : V} : ∀ {l : List V} {k : Nat}, (t, x) ∈ argFrame k l → k ≤ t ∧ l[t - k]? = some x ∧ t < k + l.length
  | [], _, h => by cases h
  | y :: l, k, h => by
    simp only [argFrame, List.mem_cons, Prod.mk.injEq] at h
    rcases h with ⟨rfl, rfl⟩ | h
    · simp
    · obtain ⟨h1, h2, h3⟩ := mem_argFrame h
      refine ⟨by omega, ?_, by simp; omega⟩
      rw [show t - k = (t - (k + 1)) + 1 by omega]
      simpa using h2

end Go.Ab
