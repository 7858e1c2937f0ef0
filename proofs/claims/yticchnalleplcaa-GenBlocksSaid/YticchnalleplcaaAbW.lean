/-
  The engine, part W: regions that draw their order, whose operations only read or call what only makes memory of its own: the order of the text serves every order.
-/
import Derived.Test.YticchnalleplcaaAbS
import Derived.Still
set_option linter.unusedSimpArgs false
set_option linter.unusedVariables false
namespace Go.Ab

section
variable {P : Program} {n : Nat} {Q : AX → St → Prop}

/-- One operation, from a state that is said of the slots that it looks at. -/
def YOp (P : Program) (ops : Array Oper) (o : Oper) (s : St) (x : V) : Prop :=
  ∀ fo m (a : Act) w, Inv fo m s.L w → (∀ t, t ∈ o.looksAt ops → RelV w (OO fo m) m (a.tmps.getD t undef) (s.get t)) →
    ∀ (next : Act → World → Prop) (Q' : Exit → Act → World → Prop), (∀ v w', RelV w' (OO fo m) m v x → Inv fo m s.L w' → Step w (own m) w' (own m) → next (a.put o.dst v) w') →
      if Region.wanted o (yielded ops a.tmps) then o.wp P a w next Q' else next (a.put o.dst undef) w

theorem eval_of_slots {s : St} {w : World} {fo : Nat → Prop} {m : Nat → Option Value} {a : Act} {z : Operand} (h : ∀ t, z = .tmp t → RelV w (OO fo m) m (a.tmps.getD t undef) (s.get t)) : RelV w (OO fo m) m (a.eval z) (s.ev z) := by
  cases z with
  | tmp t => exact h t rfl
  | const v =>
    simp only [Act.eval, St.ev]
    unfold evConst
    split
    · rename_i h; exact .d _ _ (.v _ h)
    · exact .any _
  | global i => exact .d _ _ (.v _ rfl)
  | func f => exact .clo _ _ _ _ _ rfl rfl (by simp) (by simp)

theorem looks_operand {ops : Array Oper} {o : Oper} {t : Tmp} (h : Operand.tmp t ∈ o.op.operands) : t ∈ o.looksAt ops := by
  unfold Oper.looksAt
  refine List.mem_append.2 (.inl (List.mem_filterMap.2 ⟨.tmp t, by simpa using h, rfl⟩))

theorem looks_guard {ops : Array Oper} {o : Oper} {j : Nat} {want : Bool} {t : Tmp} (h : o.guard = some (j, want)) (ht : (ops[j]?).bind (·.dst) = some t) : t ∈ o.looksAt ops := by
  unfold Oper.looksAt
  refine List.mem_append.2 (.inr ?_)
  simp [h, ht]

theorem guard_wanted' {ops : Array Oper} {o : Oper} {s : St} {w : World} {fo : Nat → Prop} {m : Nat → Option Value} {a : Act} (hs : ∀ t, t ∈ o.looksAt ops → RelV w (OO fo m) m (a.tmps.getD t undef) (s.get t)) {b : Bool} (h : guardV ops s o = some (some b)) :
    Region.wanted o (yielded ops a.tmps) = b := by
  unfold guardV at h
  split at h
  · cases h
  · rename_i j want hg
    split at h
    · rename_i t ht
      have hr := hs t (looks_guard hg ht)
      have hy : ∀ b', a.tmps.getD t undef = .bool b' → Region.wanted o (yielded ops a.tmps) = (b' == want) := by
        intro b' hb'
        have hs : a.tmps[t]? = some (.bool b') := by
          simp only [Array.getD_eq_getD_getElem?] at hb'
          cases hx : a.tmps[t]? with
          | none => rw [hx] at hb'; simp [undef] at hb'
          | some x => rw [hx] at hb'; simp only [Option.getD_some] at hb'; rw [hb']
        simp only [Region.wanted, hg, yielded, ht, Option.bind_some, hs]
        cases b' <;> cases want <;> rfl
      split at h
      · rename_i b' hget
        simp only [Option.some.injEq] at h
        subst h
        rw [hget] at hr
        exact hy b' hr.v_inv
      · rename_i g0 x0 hget
        rcases gdG_some h with ⟨rfl, hb⟩ | ⟨b', rfl, hb⟩
        · simp only [Option.some.injEq] at hb
          subst hb
          rw [hget] at hr
          generalize hv : a.tmps.getD t undef = v at hr
          cases hr with
          | gf _ =>
            have hs : yielded ops a.tmps j = none := by
              simp only [yielded, ht, Option.bind_some]
              simp only [Array.getD_eq_getD_getElem?] at hv
              cases hx : a.tmps[t]? with
              | none => rfl
              | some x => rw [hx] at hv; simp only [Option.getD_some] at hv; rw [hv]; rfl
            simp [Region.wanted, hg, hs]
        · simp only [Option.some.injEq] at hb
          subst hb
          rw [hget] at hr
          generalize hv : a.tmps.getD t undef = v at hr
          cases hr with
          | gt _ _ hr => rw [hy b' (by rw [hv]; exact hr.v_inv)]; simp
          | gf _ =>
            have hs : yielded ops a.tmps j = none := by
              simp only [yielded, ht, Option.bind_some]
              simp only [Array.getD_eq_getD_getElem?] at hv
              cases hx : a.tmps[t]? with
              | none => rfl
              | some x => rw [hx] at hv; simp only [Option.getD_some] at hv; rw [hv]; rfl
            simp [Region.wanted, hg, hs]
      · cases h
    · cases h

theorem opT_wp {o : Oper} {ρa : Operand → V} {L : Heap} {x : V} (h : OpT P o ρa L x) {fo : Nat → Prop} {m : Nat → Option Value} {a : Act} {w : World} (hi : Inv fo m L w) (hr : ∀ z, z ∈ o.op.operands → RelV w (OO fo m) m (a.eval z) (ρa z))
    {next : Act → World → Prop} {Q' : Exit → Act → World → Prop} (k : ∀ v w', RelV w' (OO fo m) m v x → Inv fo m L w' → Step w (own m) w' (own m) → next (a.put o.dst v) w') : o.wp P a w next Q' := by
  rcases h fo m a.eval w hi hr with ⟨v, hrun, hr'⟩ | ⟨f, args, hrun, hc⟩
  · unfold Oper.wp
    rw [hrun]
    exact k v w hr' hi (Step.refl w _)
  · unfold Oper.wp
    rw [hrun, Oper.upon_enter]
    refine hc.mono ?_
    rintro e w' ⟨v, rfl, hr', hi', st'⟩
    exact k v w' hr' hi' st'

theorem yop_plain {ops : Array Oper} {o : Oper} {s : St} {x : V} (hg : o.guard = none) (h : OpT P o s.ev s.L x) : YOp P ops o s x := by
  intro fo m a w hi hs next Q' k
  rw [if_pos (by simp [Region.wanted, hg])]
  exact opT_wp h hi (fun z hz => eval_of_slots (fun t ht => hs t (looks_operand (by rw [← ht]; exact hz)))) k

theorem yop_guard {ops : Array Oper} {o : Oper} {s : St} {x : V} {b : Bool} (hgd : guardV ops s o = some (some b))
    (h : b = true → ∃ ρa : Operand → V, (∀ z, z ∈ o.op.operands → ∀ w O m v, RelV w O m v (s.ev z) → RelV w O m v (ρa z)) ∧ OpT P o ρa s.L x) : YOp P ops o s (.gd b x) := by
  intro fo m a w hi hs next Q' k
  have hw := guard_wanted' hs hgd
  cases b with
  | true =>
    obtain ⟨ρa, h1, h2⟩ := h rfl
    rw [if_pos hw]
    exact opT_wp h2 hi (fun z hz => h1 z hz _ _ _ _ (eval_of_slots (fun t ht => hs t (looks_operand (by rw [← ht]; exact hz))))) (fun v w' hr => k v w' (.gt _ _ hr))
  | false =>
    rw [if_neg (by rw [hw]; simp)]
    exact k undef w (.gf _) hi (Step.refl w _)

/-- The operations in the text's order: all of them quiet, or calls with results that are told. -/
def runD (P : Program) (ops : Array Oper) : List Oper → St → List V → (St → Prop) → Prop
  | [], s, _, K => K s
  | o :: rest, s, us, K =>
    if isCall o then
      match callStep P ops s o us with
      | some (s', c, us') => c ∧ runD P ops rest s' us' K
      | none => False
    else
    match stepQ P ops s o with
    | some (s', c) => c ∧ runD P ops rest s' us K
    | none => False

/-- The states and values of a run in the text's order. -/
inductive Trace (P : Program) (ops : Array Oper) : List Oper → St → List (St × V) → St → Prop
  | nil (s : St) : Trace P ops [] s [] s
  | cons {o : Oper} {rest : List Oper} {s : St} {x : V} {l : List (St × V)} {s' : St} (h : YOp P ops o s x) (k : Trace P ops rest (s.put o.dst x) l s') : Trace P ops (o :: rest) s ((s, x) :: l) s'

theorem runD_trace {ops : Array Oper} {K : St → Prop} : ∀ (l : List Oper) (s : St) (us : List V), runD P ops l s us K → ∃ tr s', Trace P ops l s tr s' ∧ K s'
  | [], s, us, h => ⟨[], s, .nil s, h⟩
  | o :: rest, s, us, h => by
    rw [runD] at h
    split at h
    · rename_i hcall
      split at h
      · rename_i s' c us' hcs
        obtain ⟨tr, s1, h1, h2⟩ := runD_trace rest s' us' h.2
        have hc := h.1
        unfold callStep at hcs
        split at hcs
        · cases hcs
        · split at hcs
          · rename_i hg
            simp only [Option.some.injEq, Prod.mk.injEq] at hcs
            obtain ⟨rfl, rfl, rfl⟩ := hcs
            exact ⟨_, _, .cons (yop_plain (guardV_none hg) (CallC.opT hc)) h1, h2⟩
          · rename_i g hg
            simp only [Option.some.injEq, Prod.mk.injEq] at hcs
            obtain ⟨rfl, rfl, rfl⟩ := hcs
            exact ⟨_, _, .cons (yop_guard hg (fun hb => CallG.opT (hc hb))) h1, h2⟩
          · cases hcs
      · exact h.elim
    · split at h
      · rename_i s' c hq
        obtain ⟨tr, s1, h1, h2⟩ := runD_trace rest s' us h.2
        have hc := h.1
        unfold stepQ at hq
        split at hq
        · rename_i hg
          split at hq
          · rename_i x c' hx
            simp only [Option.some.injEq, Prod.mk.injEq] at hq
            obtain ⟨rfl, rfl⟩ := hq
            exact ⟨_, _, .cons (yop_plain (guardV_none hg) (.of_Q (q2_sound hx hc))) h1, h2⟩
          · cases hq
        · rename_i b hg
          split at hq
          · cases hq
          · simp only [Option.some.injEq, Prod.mk.injEq] at hq
            obtain ⟨rfl, rfl⟩ := hq
            refine ⟨_, _, .cons (yop_guard hg (fun hb => ?_)) h1, h2⟩
            obtain ⟨k1, k2⟩ := hc hb
            obtain ⟨c', h3, h4⟩ := gcon_sound k1
            exact ⟨_, gρ_rel k2, .of_Q (q2_sound h3 h4)⟩
        · cases hq
      · exact h.elim

/-- Which operations write a slot. -/
def writes (ops : List Oper) (t : Tmp) : Option Nat := ops.findIdx? fun o => o.dst == some t

/-- The text's order serves: each slot is written once; who looks at it waits for the writer, or the writer waits for him. -/
def indep (ops : List Oper) : Bool :=
  (ops.zipIdx.all fun (o, i) =>
    (match o.dst with | some d => writes ops d == some i | none => true) &&
    (o.after.toList.all fun e => !Region.binds .any e || decide (e.on < i)) &&
    ((o.looksAt ops.toArray).all fun t => match writes ops t with
      | none => true
      | some j => if j < i then o.after.toList.any fun e => Region.binds .any e && e.on == j
        else decide (i < j) && (match ops[j]? with | some oj => oj.after.toList.any fun e => Region.binds .any e && e.on == i | none => false)))


theorem Trace.len {ops : Array Oper} {l : List Oper} {s s' : St} {tr : List (St × V)} (h : Trace P ops l s tr s') : tr.length = l.length ∧ s'.L = s.L := by
  induction h with
  | nil s => exact ⟨rfl, rfl⟩
  | @cons o rest s x l s' h k ih =>
    refine ⟨by simp [ih.1], ih.2.trans ?_⟩
    unfold St.put
    split <;> rfl

theorem Trace.at {ops : Array Oper} {l : List Oper} {s s' : St} {tr : List (St × V)} (h : Trace P ops l s tr s') : ∀ (i : Nat) (si : St) (xi : V), tr[i]? = some (si, xi) → si.L = s.L ∧ ∃ o : Oper, l[i]? = some o ∧ YOp P ops o si xi := by
  induction h with
  | nil s => intro i si xi h; simp at h
  | @cons o rest s x l s' h k ih =>
    intro i si xi hi
    cases i with
    | zero =>
      simp only [List.getElem?_cons_zero, Option.some.injEq, Prod.mk.injEq] at hi
      obtain ⟨rfl, rfl⟩ := hi
      exact ⟨rfl, o, rfl, h⟩
    | succ i =>
      simp only [List.getElem?_cons_succ] at hi ⊢
      obtain ⟨h1, h2⟩ := ih i si xi hi
      refine ⟨h1.trans ?_, h2⟩
      unfold St.put
      split <;> rfl

theorem getF_delF {t d : Nat} (h : t ≠ d) : ∀ l : List (Nat × V), getF t (delF d l) = getF t l
  | [] => rfl
  | (k, x) :: l => by
    rw [delF, getF]
    split
    · rename_i hk; subst hk; rw [if_neg (fun e => h e.symm)]; exact getF_delF h l
    · rw [getF, getF_delF h l]

theorem get_put {s : St} {o : Option Nat} {x : V} {t : Nat} (h : o ≠ some t) : (s.put o x).get t = s.get t := by
  cases o with
  | none => rfl
  | some d =>
    have hne : t ≠ d := fun e => h (by rw [e])
    simp only [St.put, St.get, getF]
    rw [if_neg (fun e => hne e.symm), getF_delF hne]

theorem get_put_same {s : St} {x : V} {t : Nat} : (s.put (some t) x).get t = x := by simp [St.put, St.get, getF]

theorem Trace.get_old {ops : Array Oper} {l : List Oper} {s s' : St} {tr : List (St × V)} (h : Trace P ops l s tr s') (t : Nat) : ∀ (i : Nat) (si : St) (xi : V), tr[i]? = some (si, xi) → (∀ (j : Nat) (o : Oper), j < i → l[j]? = some o → o.dst ≠ some t) → si.get t = s.get t := by
  induction h with
  | nil s => intro i si xi h; simp at h
  | @cons o rest s x l s' h k ih =>
    intro i si xi hi hn
    cases i with
    | zero =>
      simp only [List.getElem?_cons_zero, Option.some.injEq, Prod.mk.injEq] at hi
      rw [hi.1]
    | succ i =>
      simp only [List.getElem?_cons_succ] at hi
      rw [ih i si xi hi (fun j o' hj ho => hn (j + 1) o' (by omega) (by simpa using ho)), get_put (hn 0 o (by omega) rfl)]

theorem Trace.get_new {ops : Array Oper} {l : List Oper} {s s' : St} {tr : List (St × V)} (h : Trace P ops l s tr s') (t : Nat) : ∀ (i j : Nat) (si : St) (xi : V) (sj : St) (xj : V) (o : Oper), tr[i]? = some (si, xi) → j < i → tr[j]? = some (sj, xj) → l[j]? = some o → o.dst = some t →
    (∀ (j' : Nat) (o' : Oper), j < j' → j' < i → l[j']? = some o' → o'.dst ≠ some t) → si.get t = xj := by
  induction h with
  | nil s => intro i j si xi sj xj o h; simp at h
  | @cons o rest s x l s' h k ih =>
    intro i j si xi sj xj o' hi hji hj ho hd hn
    cases i with
    | zero => omega
    | succ i =>
      simp only [List.getElem?_cons_succ] at hi
      cases j with
      | zero =>
        simp only [List.getElem?_cons_zero, Option.some.injEq, Prod.mk.injEq] at hj ho
        obtain ⟨rfl, rfl⟩ := hj
        subst ho
        rw [k.get_old t i si xi hi (fun j' o' hj' ho' => hn (j' + 1) o' (by omega) (by omega) (by simpa using ho'))]
        rw [hd]; exact get_put_same
      | succ j =>
        simp only [List.getElem?_cons_succ] at hj ho
        exact ih i j si xi sj xj o' hi (by omega) hj ho hd (fun j' o'' h1 h2 h3 => hn (j' + 1) o'' (by omega) (by omega) (by simpa using h3))

theorem mem_put {s : St} {d : Option Nat} {x : V} {p : Nat × V} (h : p ∈ (s.put d x).fr) : (d = some p.1 ∧ x = p.2) ∨ (p ∈ s.fr ∧ d ≠ some p.1) := by
  cases d with
  | none => exact .inr ⟨h, by simp⟩
  | some d =>
    simp only [St.put, List.mem_cons] at h
    rcases h with rfl | h
    · exact .inl ⟨rfl, rfl⟩
    · obtain ⟨h1, h2⟩ := mem_delF h
      exact .inr ⟨h1, fun e => h2 (Option.some.inj e).symm⟩

theorem Trace.mem {ops : Array Oper} {l : List Oper} {s s' : St} {tr : List (St × V)} (h : Trace P ops l s tr s') : ∀ p, p ∈ s'.fr → (∃ (j : Nat) (o : Oper) (sj : St), l[j]? = some o ∧ o.dst = some p.1 ∧ tr[j]? = some (sj, p.2)) ∨ (p ∈ s.fr ∧ ∀ (j : Nat) (o : Oper), l[j]? = some o → o.dst ≠ some p.1) := by
  induction h with
  | nil s => intro p hp; exact .inr ⟨hp, by simp⟩
  | @cons o rest s x l s' h k ih =>
    intro p hp
    rcases ih p hp with ⟨j, o', sj, h1, h2, h3⟩ | ⟨h1, h2⟩
    · exact .inl ⟨j + 1, o', sj, by simpa using h1, h2, by simpa using h3⟩
    · rcases mem_put h1 with ⟨hd, hx⟩ | ⟨h3, h4⟩
      · exact .inl ⟨0, o, s, rfl, hd, by simp [hx]⟩
      · refine .inr ⟨h3, fun j o' hj => ?_⟩
        cases j with
        | zero => simp only [List.getElem?_cons_zero, Option.some.injEq] at hj; subst hj; exact h4
        | succ j => simp only [List.getElem?_cons_succ] at hj; exact h2 j o' hj

theorem writes_some {ops : List Oper} {t : Tmp} {j : Nat} (h : writes ops t = some j) : ∃ o, ops[j]? = some o ∧ o.dst = some t := by
  unfold writes at h
  obtain ⟨hj, h1, _⟩ := List.findIdx?_eq_some_iff_getElem.1 h
  exact ⟨ops[j], List.getElem?_eq_getElem hj, by simpa using h1⟩

theorem writes_none {ops : List Oper} {t : Tmp} (h : writes ops t = none) {j : Nat} {o : Oper} (hj : ops[j]? = some o) : o.dst ≠ some t := by
  unfold writes at h
  have := List.findIdx?_eq_none_iff.1 h o (List.mem_of_getElem? hj)
  simpa using this

theorem indep_at {ops : List Oper} (h : indep ops = true) {i : Nat} {o : Oper} (hi : ops[i]? = some o) :
    (∀ d, o.dst = some d → writes ops d = some i) ∧ (∀ e ∈ o.after, Region.binds .any e = true → e.on < i) ∧
    ∀ t ∈ o.looksAt ops.toArray, ∀ j, writes ops t = some j → (j < i ∧ ∃ e ∈ o.after, Region.binds .any e = true ∧ e.on = j) ∨ (i < j ∧ ∃ oj, ops[j]? = some oj ∧ ∃ e ∈ oj.after, Region.binds .any e = true ∧ e.on = i) := by
  unfold indep at h
  rw [List.all_eq_true] at h
  have hm : (o, i) ∈ ops.zipIdx := by
    rw [List.mem_zipIdx_iff_getElem?]; exact hi
  have := h _ hm
  simp only [Bool.and_eq_true, List.all_eq_true] at this
  obtain ⟨⟨h1, h2⟩, h3⟩ := this
  refine ⟨?_, ?_, ?_⟩
  · intro d hd
    rw [hd] at h1
    simpa using h1
  · intro e he hb
    have := h2 e (by simpa using he)
    rw [hb] at this
    simpa using this
  · intro t ht j hj
    have := h3 t ht
    rw [hj] at this
    simp only at this
    split at this
    · rename_i hlt
      left
      rw [List.any_eq_true] at this
      obtain ⟨e, he, h4⟩ := this
      simp only [Bool.and_eq_true, beq_iff_eq] at h4
      exact ⟨hlt, e, by simpa using he, h4.1, h4.2⟩
    · right
      simp only [Bool.and_eq_true, decide_eq_true_eq] at this
      obtain ⟨h4, h5⟩ := this
      split at h5
      · rename_i oj hoj
        rw [List.any_eq_true] at h5
        obtain ⟨e, he, h6⟩ := h5
        simp only [Bool.and_eq_true, beq_iff_eq] at h6
        exact ⟨h4, oj, hoj, e, by simpa using he, h6.1, h6.2⟩
      · cases h5

/-- What holds while the operations come up in some order. -/
structure Mid (fo : Nat → Prop) (m : Nat → Option Value) (m0 : Nat → Option Value) (w0 : World) (n : Nat) (l : List Oper) (s : St) (tr : List (St × V)) (listed : Array Bool) (a : Act) (w : World) : Prop where
  size : a.tmps.size = n
  defers : a.defers = []
  inv : Inv fo m s.L w
  step : Step w0 (own m0) w (own m)
  lsz : listed.size = l.length
  done : ∀ (j : Nat) (o : Oper) (sj : St) (xj : V) (d : Nat), l[j]? = some o → tr[j]? = some (sj, xj) → o.dst = some d → listed.getD j false = true → RelV w (OO fo m) m (a.tmps.getD d undef) xj
  todo : ∀ t, (∀ (j : Nat) (o : Oper), l[j]? = some o → o.dst = some t → listed.getD j false = false) → RelV w (OO fo m) m (a.tmps.getD t undef) (s.get t)
  rest : ∀ p, p ∈ s.fr → (∀ (j : Nat) (o : Oper), l[j]? = some o → o.dst ≠ some p.1) → RelV w (OO fo m) m (a.tmps.getD p.1 undef) p.2
  closed : ∀ (j : Nat) (o : Oper), l[j]? = some o → listed.getD j false = true → ∀ e ∈ o.after, Region.binds .any e = true → listed.getD e.on false = true

theorem getD_lt {listed : Array Bool} {i : Nat} {b c : Bool} (h : i < listed.size) : listed.getD i b = listed.getD i c := by simp [Array.getD, h]

theorem any_order {l : List Oper} {s s' : St} {tr : List (St × V)} (ht : Trace P l.toArray l s tr s') (hin : indep l = true) (hd : dstsOk n l = true) (hq : Q .normal s') {fo : Nat → Prop} {m m0 : Nat → Option Value} {w0 : World}
    (hfr : ∀ p, p ∈ s.fr → p.1 < n) :
    ∀ (fuel : Nat) (listed : Array Bool) (un : List Nat) (a : Act) (w : World), un.length ≤ fuel → (∀ i, i < l.length → listed.getD i false = false → i ∈ un) →
      Mid fo m m0 w0 n l s tr listed a w → wpAny P .any l.toArray (Post fo n m0 w0 Q) fuel listed a w := by
  have hdl : ∀ (i : Nat) (o : Oper) (d : Nat), l[i]? = some o → o.dst = some d → d < n := by
    intro i o d hi ho
    unfold dstsOk at hd
    rw [List.all_eq_true] at hd
    have := hd o (List.mem_of_getElem? hi)
    rw [ho] at this
    simpa using this
  obtain ⟨hlen, hL⟩ := ht.len
  have htr : ∀ i : Nat, i < l.length → ∃ (si : St) (xi : V), tr[i]? = some (si, xi) := by
    intro i hi
    exact ⟨_, _, List.getElem?_eq_getElem (by omega)⟩
  -- the end
  have fin : ∀ (listed : Array Bool) (a : Act) (w : World), (∀ i, i < l.length → listed.getD i false = true) → Mid fo m m0 w0 n l s tr listed a w → Post fo n m0 w0 Q .normal a w := by
    intro listed a w hall M
    refine ⟨m, .normal, s', hq, ⟨M.size, ?_, by rw [hL]; exact M.inv, M.defers⟩, trivial, M.step⟩
    intro t x hx
    rcases ht.mem (t, x) hx with ⟨j, o, sj, h1, h2, h3⟩ | ⟨h1, h2⟩
    · exact ⟨hdl j o t h1 h2, M.done j o sj x t h1 h3 h2 (hall j (List.getElem?_eq_some_iff.1 h1).1)⟩
    · exact ⟨hfr _ h1, M.rest _ h1 h2⟩
  have ready_nil : ∀ (listed : Array Bool), listed.size = l.length → (∀ (j : Nat) (o : Oper), l[j]? = some o → listed.getD j false = true → ∀ e ∈ o.after, Region.binds .any e = true → listed.getD e.on false = true) →
      Region.ready .any l.toArray listed = [] → ∀ i, i < l.length → listed.getD i false = true := by
    intro listed hsz _ hr i
    induction i using Nat.strongRecOn with
    | _ i ih =>
      intro hi
      cases hb : listed.getD i false with
      | true => rfl
      | false =>
        exfalso
        have hmem : i ∈ Region.ready .any l.toArray listed := by
          refine mem_ready.2 ⟨by rw [getD_lt (c := false) (by omega)]; exact hb, l[i], by simp [hi], fun e he hbd => ?_⟩
          have := (indep_at hin (List.getElem?_eq_getElem hi)).2.1 e he hbd
          exact ih e.on this (by omega)
        rw [hr] at hmem
        cases hmem
  intro fuel
  induction fuel with
  | zero =>
    intro listed un a w hun hall M
    have h0 : ∀ i, i < l.length → listed.getD i false = true := by
      intro i hi
      cases hb : listed.getD i false with
      | true => rfl
      | false => have h9 := hall i hi hb; have h8 : un = [] := List.eq_nil_of_length_eq_zero (by omega); rw [h8] at h9; cases h9
    refine ⟨?_, fin listed a w h0 M⟩
    rw [List.eq_nil_iff_forall_not_mem]
    intro j hj
    obtain ⟨h1, o, h2, _⟩ := mem_ready.1 hj
    have hjl : j < l.length := by have := (Array.getElem?_eq_some_iff.1 h2).1; simpa using this
    rw [getD_lt (c := false) (by have := M.lsz; omega)] at h1
    rw [h0 j hjl] at h1
    cases h1
  | succ fuel ih =>
    intro listed un a w hun hall M
    refine ⟨fun hr => fin listed a w (ready_nil listed M.lsz M.closed hr) M, ?_⟩
    intro i hi
    obtain ⟨h1, o, h2, h3⟩ := mem_ready.1 hi
    have hil : i < l.length := by have := (Array.getElem?_eq_some_iff.1 h2).1; simpa using this
    have hio : l[i]? = some o := by simpa using h2
    rw [getD_lt (c := false) (by have := M.lsz; omega)] at h1
    obtain ⟨si, xi, htri⟩ := htr i hil
    obtain ⟨hsL, o', ho', hy⟩ := ht.at i si xi htri
    rw [hio] at ho'
    obtain rfl := Option.some.inj ho'
    obtain ⟨i1, i2, i3⟩ := indep_at hin hio
    have uniq : ∀ (t : Nat) (j : Nat) (o'' : Oper), l[j]? = some o'' → o''.dst = some t → writes l t = some j := fun t j o'' hj hd => (indep_at hin hj).1 t hd
    have hslots : ∀ t, t ∈ o.looksAt l.toArray → RelV w (OO fo m) m (a.tmps.getD t undef) (si.get t) := by
      intro t htl
      cases hw : writes l t with
      | none =>
        rw [ht.get_old t i si xi htri (fun j o'' _ hj => writes_none hw hj)]
        exact M.todo t (fun j o'' hj hd => (writes_none hw hj hd).elim)
      | some j =>
        obtain ⟨oj, hoj, hdj⟩ := writes_some hw
        obtain ⟨sj, xj, htrj⟩ := htr j (List.getElem?_eq_some_iff.1 hoj).1
        rcases i3 t htl j hw with ⟨hlt, e, he, hb, hon⟩ | ⟨hlt, oj', hoj', e, he, hb, hon⟩
        · rw [ht.get_new t i j si xi sj xj oj htri hlt htrj hoj hdj (fun j' o'' hjj _ hj' hd' => by
            have := uniq t j' o'' hj' hd'
            rw [hw] at this
            have := Option.some.inj this
            omega)]
          exact M.done j oj sj xj t hoj htrj hdj (by rw [← hon]; exact h3 e he hb)
        · rw [ht.get_old t i si xi htri (fun j' o'' hj' ho'' hd' => by
            have := uniq t j' o'' ho'' hd'
            rw [hw] at this
            have := Option.some.inj this
            omega)]
          refine M.todo t (fun j' o'' hj' hd' => ?_)
          have := uniq t j' o'' hj' hd'
          rw [hw] at this
          obtain rfl := Option.some.inj this
          cases hb' : listed.getD j false with
          | false => rfl
          | true =>
            rw [hoj] at hoj'
            obtain rfl := Option.some.inj hoj'
            have := M.closed j oj hoj hb' e he hb
            rw [hon, h1] at this
            cases this
    have hrun := hy fo m a w (by rw [hsL]; exact M.inv) hslots (wpAny P .any l.toArray (Post fo n m0 w0 Q) fuel (listed.setIfInBounds i true)) (Post fo n m0 w0 Q) (fun v w' hr hi' st => by
      rw [hsL] at hi'
      have hkeep : Keep w (OO fo m) w' := ⟨st.size, fun b hb ho => st.block b hb (fun h => ho (.inl h))⟩
      have mono : ∀ {v : Value} {x : V}, RelV w (OO fo m) m v x → RelV w' (OO fo m) m v x := fun h => h.mono hkeep (fun _ _ h => h) (fun _ _ h => h)
      have hne : ∀ t, o.dst ≠ some t → (a.put o.dst v).tmps.getD t undef = a.tmps.getD t undef := by
        intro t hn
        cases hdd : o.dst with
        | none => rfl
        | some d =>
          have : d ≠ t := fun e => hn (by rw [hdd, e])
          simp [Act.put, Array.getElem?_setIfInBounds_ne this]
      have hset : ∀ j, (listed.setIfInBounds i true).getD j false = true ↔ (j = i ∨ listed.getD j false = true) := by
        intro j
        by_cases hj : j = i
        · subst hj
          have hjs : j < listed.size := by have := M.lsz; omega
          simp [Array.getD, hjs]
        · have : ¬ i = j := fun e => hj e.symm
          simp only [Array.getD_eq_getD_getElem?, Array.getElem?_setIfInBounds_ne this, hj, false_or]
      refine ih (listed.setIfInBounds i true) (un.erase i) (a.put o.dst v) w' ?_ ?_ ?_
      · have hmem := hall i hil h1
        rw [List.length_erase_of_mem hmem]; omega
      · intro j hj hb
        have hnj : ¬ ((listed.setIfInBounds i true).getD j false = true) := by rw [hb]; simp
        rw [hset] at hnj
        have hji : j ≠ i := fun e => hnj (.inl e)
        have hb2 : listed.getD j false = false := by
          cases hx : listed.getD j false with
          | false => rfl
          | true => exact (hnj (.inr hx)).elim
        exact (List.mem_erase_of_ne hji).2 (hall j hj hb2)
      · refine ⟨?_, ?_, hi', M.step.trans st, by simpa using M.lsz, ?_, ?_, ?_, ?_⟩
        · cases hdd : o.dst <;> simp [Act.put, M.size]
        · cases hdd : o.dst <;> simp [Act.put, M.defers]
        · intro j oj sj xj d hoj htrj hdj hb
          by_cases hji : j = i
          · subst hji
            rw [hio] at hoj
            obtain rfl := Option.some.inj hoj
            rw [htri] at htrj
            obtain ⟨rfl, rfl⟩ := Prod.mk.inj (Option.some.inj htrj)
            have hdn := hdl j o d hio hdj
            have : (a.put o.dst v).tmps.getD d undef = v := by
              have hsz := M.size
              rw [hdj]
              simp [Act.put, Array.getD, hsz, hdn]
            rw [this]; exact hr
          · have hnd : o.dst ≠ some d := by
              intro e
              have q1 := uniq d i o hio e
              have q2 := uniq d j oj hoj hdj
              rw [q1] at q2
              exact hji (Option.some.inj q2).symm
            rw [hne d hnd]
            exact mono (M.done j oj sj xj d hoj htrj hdj (((hset j).1 hb).resolve_left hji))
        · intro t hall'
          have hnd : o.dst ≠ some t := by
            intro e
            have := hall' i o hio e
            have h4 := (hset i).2 (.inl rfl)
            rw [this] at h4; cases h4
          rw [hne t hnd]
          refine mono (M.todo t (fun j oj hoj hdj => ?_))
          have := hall' j oj hoj hdj
          cases hx : listed.getD j false with
          | false => rfl
          | true => have h4 := (hset j).2 (.inr hx); rw [this] at h4; cases h4
        · intro p hp hnw
          rw [hne p.1 (hnw i o hio)]
          exact mono (M.rest p hp hnw)
        · intro j oj hoj hb e he hbd
          rw [hset]
          rcases (hset j).1 hb with rfl | hb'
          · rw [hio] at hoj
            obtain rfl := Option.some.inj hoj
            exact .inr (h3 e he hbd)
          · exact .inr (M.closed j oj hoj hb' e he hbd))
    unfold wpOp
    rw [h2]
    simp only
    split
    · rename_i hw; rw [if_pos hw] at hrun; exact .inl hrun
    · rename_i hw; rw [if_neg hw] at hrun; exact hrun

/-- A region that draws its order. -/
theorem AWP.regionD {id : Nat} {l : List Oper} {s : St} (us : List V) (hm : P.follows .mixedOrders = true) (hin : indep l = true) (hd : dstsOk n l = true) (h : runD P l.toArray l s us (Q .normal)) : AWP P n (.region id l.toArray true) s Q := by
  intro fo m a w g
  obtain ⟨tr, s', ht, hq⟩ := runD_trace l s us h
  refine wp_region_any hm ?_
  have := any_order (P := P) (n := n) (Q := Q) ht hin hd hq (fo := fo) (m := m) (m0 := m) (w0 := w) (fun p hp => (g.fr p.1 p.2 hp).1) l.toArray.size (Array.replicate l.toArray.size false) (List.range l.length) a { w with drawn := w.drawn + 1 }
    (by simp) (fun i hi _ => by simpa using hi) ?_
  · exact this
  · have st : Step w (own m) { w with drawn := w.drawn + 1 } (own m) := ⟨rfl, rfl, rfl, Nat.le_refl _, fun _ _ _ => rfl, fun _ _ h => h⟩
    have mono : ∀ {v : Value} {x : V}, RelV w (OO fo m) m v x → RelV { w with drawn := w.drawn + 1 } (OO fo m) m v x := fun h => h.mono st.keep (fun _ _ h => h) (fun _ _ h => h)
    refine ⟨g.size, g.defers, g.inv.grown (Nat.le_refl _) (fun _ _ => rfl), st, by simp, ?_, fun t _ => mono (get_rel g t), fun p hp _ => mono (g.fr p.1 p.2 hp).2, ?_⟩
    · intro j o sj xj d _ _ _ hb
      have : (Array.replicate l.toArray.size false).getD j false = false := by simp [Array.getD]
      rw [this] at hb; cases hb
    · intro j o _ hb
      have : (Array.replicate l.toArray.size false).getD j false = false := by simp [Array.getD]
      rw [this] at hb; cases hb

end
end Go.Ab
