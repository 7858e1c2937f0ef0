/-
  The engine, part Wr: a list of operations, stopped within; sums and differences that may wrap.
-/
import Derived.Test.YticchnalleplcaaAbLp
set_option linter.unusedSimpArgs false
set_option linter.unusedVariables false
namespace Go.Ab

section
variable {P : Program} {n : Nat} {s : St} {Q : AX → St → Prop} {ops : Array Oper}

theorem Oper.upon_mono {o : Oper} {a : Act} {next next' : Act → World → Prop} {Q1 Q2 : Exit → Act → World → Prop} (hn : ∀ a w, next a w → next' a w) (he : ∀ e a w, e ≠ .normal → Q1 e a w → Q2 e a w) {r : Result Next} (h : o.upon P a next Q1 r) : o.upon P a next' Q2 r := by
  unfold Oper.upon at h ⊢
  split at h
  · exact hn _ _ h
  · exact hn _ _ h
  · exact hn _ _ h
  · refine h.mono ?_
    rintro e w' hh
    cases e with
    | returned v => exact hn _ _ hh
    | panicked ch => exact he _ _ _ (by simp) hh
    | outgrown =>
      obtain ⟨a0, w0, hq⟩ := hh
      exact ⟨a0, w0, he _ _ _ (by simp) hq⟩
  · exact h.mono fun v w' hh => hn _ _ hh
  · exact he _ _ _ (by simp) h
  · exact h.elim

theorem wpList_app {Q1 Q2 : Exit → Act → World → Prop} {l2 : List Oper} (hn : ∀ a w, Q1 .normal a w → wpList P ops Q2 l2 a w) (he : ∀ e a w, e ≠ .normal → Q1 e a w → Q2 e a w) :
    ∀ (l1 : List Oper) (a : Act) (w : World), wpList P ops Q1 l1 a w → wpList P ops Q2 (l1 ++ l2) a w
  | [], a, w, h => hn a w h
  | o :: l1, a, w, h => by
    rw [List.cons_append]
    unfold wpList at h ⊢
    split
    · rename_i hw
      rw [if_pos hw] at h
      rcases h with h | ⟨h1, a0, w0, h2⟩
      · exact .inl (Oper.upon_mono (fun a w => wpList_app hn he l1 a w) he h)
      · exact .inr ⟨h1, a0, w0, he _ _ _ (by simp) h2⟩
    · rename_i hw
      rw [if_neg hw] at h
      exact wpList_app hn he l1 _ _ h

theorem AOps.app {l1 l2 : List Oper} (h : AOps P n ops l1 s (AX.then (fun s' => AOps P n ops l2 s' Q) Q)) : AOps P n ops (l1 ++ l2) s Q := by
  intro fo m0 w0 m a w st g
  refine wpList_app (fun a1 w1 h1 => ?_) (fun e a1 w1 hne h1 => ?_) l1 a w (h fo m0 w0 m a w st g)
  · obtain ⟨m', x, s', hq, g', hx, st'⟩ := h1
    cases x <;> simp only [Exits] at hx
    exact hq fo m0 w0 m' a1 w1 st' g'
  · obtain ⟨m', x, s', hq, g', hx, st'⟩ := h1
    refine ⟨m', x, s', ?_, g', hx, st'⟩
    cases x with
    | normal => cases e <;> simp only [Exits] at hx; exact (hne rfl).elim
    | _ => exact hq

/-- The first k operations are run; then it is gone on with by hand. -/
theorem AOps.stop {l : List Oper} (k : Nat) (us : List V) (hd : dstsOk n (l.take k) = true) (h : ∀ bs, runC P ops (l.take k) s bs us (KK P n ops (AX.then (fun s' => AOps P n ops (l.drop k) s' Q) Q))) : AOps P n ops l s Q := by
  rw [← List.take_append_drop k l]
  exact AOps.app (runC_sound _ _ us hd h)

theorem AWP.regionS {id : Nat} {l : List Oper} (h : AOps P n l.toArray l s Q) : AWP P n (.region id l.toArray false) s Q :=
  fun fo m a w g => wp_region_toList (by simpa using h fo m w m a w (Step.refl _ _) g)

/-- A difference that may wrap, under a guard that is known. -/
theorem AOps.subG {o : Oper} {rest : List Oper} {g : Bool} {t : TypeId} {xo yo : Operand} {ty : TypeId} {a b : Int} (hop : o.op = .binOp .sub t xo yo ty) (hgd : guardV ops s o = some (some g)) (hd : ∀ d, o.dst = some d → d < n)
    (hx : (s.ev xo).un = .d (.v (.int .i64 a)) ∧ (s.ev yo).un = .d (.v (.int .i64 b))) (hu : g = true → uncs s o.op.operands.toList)
    (k : AOps P n ops rest (s.put o.dst (.gd g (.d (.v (.int .i64 (IntKind.i64.wrap (a - b))))))) Q) : AOps P n ops (o :: rest) s Q := by
  refine AOps.guarded hgd hd (fun hg => ⟨fun z => (s.ev z).un, fun z hz w O m v hr => un_rel hr (uncs_mem (hu hg) z (by simpa using hz)), ?_⟩) k
  intro fo m ρ w hi hr
  have h1 := hr xo (by rw [hop]; simp [Op.operands])
  have h2 := hr yo (by rw [hop]; simp [Op.operands])
  simp only [hx.1] at h1
  simp only [hx.2] at h2
  have e1 := h1.v_inv
  have e2 := h2.v_inv
  refine ⟨.int .i64 (IntKind.i64.wrap (a - b)), ?_, .d _ _ (.v _ rfl)⟩
  simp [execOp, hop, e1, e2, eqGuard, binOp, Op.intArith]
/-- The call that comes next, under a guard. -/
theorem AOps.pureG {o : Oper} {rest : List Oper} {c : Call} {f : FuncId} {args : List V} {x : V} {g : Bool} (hop : o.op = .call c) (h : g = true → Pure P f args x) (hc : callee (fun z => (s.ev z).un) c = some (f, args)) (hgd : guardV ops s o = some (some g)) (hu : g = true → uncs s o.op.operands.toList)
    (hd : ∀ d, o.dst = some d → d < n) (hr : dstsOk n rest = true) (k : ∀ bs, runC P ops rest (s.put o.dst (.gd g x)) bs [] (KK P n ops Q)) : AOps P n ops (o :: rest) s Q :=
  AOps.guardedT hgd hd (fun hg => ⟨fun z => (s.ev z).un, fun z hz w O m v hr => un_rel hr (uncs_mem (hu hg) z (by simpa using hz)), OpT.call hop hc (h hg).en (h hg).on (h hg).rn (h hg).calls⟩) (runC_sound rest _ [] hr k)
theorem AWP.seqK {x y : Code} (h : codeK P n x s (kontK P n (AX.then (fun s' => AWP P n y s' Q) Q) [])) : AWP P n (.seq x y) s Q := AWP.seq (codeK_sound _ _ _ h)
theorem Pure.runA {f : FuncId} {args : List V} {x : V} {fn : Func} {c : Code} (hf : P.funcs[f]? = some fn) (hb : fn.body = some c) (hs : args.length ≤ fn.ntmps ∧ enters P f = true ∧ V.ons [] args = true ∧ x.on [] = true)
    (h : AWP P fn.ntmps c ⟨argFrame 0 args, []⟩ (kontK P fn.ntmps (FPost P fn.results.toList (fun r L' => ∃ y, r = .ret y ∧ y.fz L' = x)) [])) : Pure P f args x :=
  ⟨hs.2.1, hs.2.2.1, hs.2.2.2, (ACalls.data (ACalls.of_AWP hf hb hs.1 h) hs.2.2.2).mono fun _ _ h => h.1⟩
end
end Go.Ab
