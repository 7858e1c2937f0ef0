/-
  The engine, part S: code as a function; calls; regions that draw their order; freezing.
-/
import Derived.Test.YticchnalleplcaaAbR
set_option linter.unusedSimpArgs false
set_option linter.unusedVariables false
namespace Go.Ab

section
variable {P : Program} {w w' : World} {fo : Nat → Prop} {m m' : Nat → Option Value} {L : Heap} {n : Nat} {s : St} {a : Act} {Q : AX → St → Prop}

/-! ### Quiet operations, calls among them -/

/-- In whatever world, the operation yields x and changes nothing that is owned. -/
def OpT (P : Program) (o : Oper) (ρa : Operand → V) (L : Heap) (x : V) : Prop :=
  ∀ fo m (ρ : Operand → Value) w, Inv fo m L w → (∀ z, z ∈ o.op.operands → RelV w (OO fo m) m (ρ z) (ρa z)) →
    (∃ v, (execOp ρ o).run P w = .ok (.value v) w ∧ RelV w (OO fo m) m v x) ∨
    ∃ f args, (execOp ρ o).run P w = .ok (.enter f args) w ∧ Calls P f args w (fun e w' => ∃ v, e = .returned v ∧ RelV w' (OO fo m) m v x ∧ Inv fo m L w' ∧ Step w (own m) w' (own m))

theorem OpT.of_Q {o : Oper} {ρa : Operand → V} {x : V} (h : OpQ P o ρa L x) : OpT P o ρa L x := fun fo m ρ w hi hr => .inl (h fo m ρ w hi hr)

/-- A function that is entered. -/
def enters (P : Program) (f : FuncId) : Bool :=
  match P.funcs[f]? with
  | some fn => fn.name != "runtime.NumGoroutine" && fn.body.isSome
  | none => false

theorem run_callFunc {f : FuncId} (h : enters P f = true) (args : Array Value) (w : World) : (callFunc f args).run P w = .ok (.enter f args) w := by
  unfold enters at h
  split at h
  · rename_i fn hf
    simp only [Bool.and_eq_true, bne_iff_ne, ne_eq] at h
    cases hb : fn.body with
    | none => rw [hb] at h; simp at h
    | some c => simp [callFunc, hf, h.1, hb]
  · cases h

/-- The function and the arguments that a call leads to. -/
def callee (ρ : Operand → V) (c : Call) : Option (FuncId × List V) :=
  match c.callee with
  | .value fo => match ρ fo with
    | .clo (.func f) first caps => some (f, first ++ c.args.toList.map ρ ++ caps)
    | _ => none
  | _ => none

theorem clo_inv {x : Value} {fn : Fn} {cf cc : List V} {O : Nat → Prop} (hr : RelV w O m x (.clo fn cf cc)) : ∃ first caps : Array Value, x = .func fn first caps ∧ first.size = cf.length ∧ caps.size = cc.length ∧
    (∀ (j : Nat) (x : Value) (y : V), first[j]? = some x → cf[j]? = some y → RelV w O m x y) ∧ (∀ (j : Nat) (x : Value) (y : V), caps[j]? = some x → cc[j]? = some y → RelV w O m x y) := by
  cases hr with
  | clo _ first caps _ _ s1 s2 h1 h2 => exact ⟨first, caps, rfl, s1, s2, h1, h2⟩

theorem RelVs.append {O : Nat → Prop} {xs xs' : Array Value} {ys ys' : List V} (h : RelVs w O m xs ys) (h' : RelVs w O m xs' ys') : RelVs w O m (xs ++ xs') (ys ++ ys') := by
  refine ⟨by simp [h.1, h'.1], fun j x y hx hy => ?_⟩
  rw [Array.getElem?_append] at hx
  rw [List.getElem?_append] at hy
  rw [h.1] at hx
  split at hx
  · rename_i hj; rw [if_pos hj] at hy; exact h.2 j x y hx hy
  · rename_i hj; rw [if_neg hj] at hy; exact h'.2 _ x y hx hy

theorem map_rel2 {ρ : Operand → Value} {ρa : Operand → V} {O : Nat → Prop} (l : Array Operand) (h : ∀ z, z ∈ l → RelV w O m (ρ z) (ρa z)) :
    ∀ (j : Nat) (x : Value) (y : V), (l.map ρ)[j]? = some x → (l.toList.map ρa)[j]? = some y → RelV w O m x y := by
  intro j x y hx hy
  rw [Array.getElem?_map] at hx
  rw [List.getElem?_map, Array.getElem?_toList] at hy
  obtain ⟨z, hz, rfl⟩ := Option.map_eq_some_iff.1 hx
  obtain ⟨z', hz', rfl⟩ := Option.map_eq_some_iff.1 hy
  rw [hz] at hz'
  obtain rfl := Option.some.inj hz'
  exact h z (Array.mem_of_getElem? hz)

/-- What a call comes to: the function is entered with arguments that stand as said. -/
theorem call_enters {o : Oper} {c : Call} {ρ : Operand → Value} {ρa : Operand → V} {f : FuncId} {args : List V} {O : Nat → Prop} (hop : o.op = .call c) (hc : callee ρa c = some (f, args)) (he : enters P f = true)
    (hr : ∀ z, z ∈ o.op.operands → RelV w O m (ρ z) (ρa z)) : ∃ xs, (execOp ρ o).run P w = .ok (.enter f xs) w ∧ RelVs w O m xs args := by
  unfold callee at hc
  split at hc
  · rename_i fop hcal
    split at hc
    · rename_i f' first caps hfo
      simp only [Option.some.injEq, Prod.mk.injEq] at hc
      obtain ⟨rfl, rfl⟩ := hc
      have h1 := hr fop (by rw [hop]; simp [Op.operands, Call.operands, hcal])
      rw [hfo] at h1
      obtain ⟨fa, ca, e, s1, s2, g1, g2⟩ := clo_inv h1
      refine ⟨fa ++ c.args.map ρ ++ ca, ?_, ?_⟩
      · have := run_callFunc he (fa ++ c.args.map ρ ++ ca) w
        simp only [execOp, hop, resolve, hcal, e, Deferred.ofValue, Sem.run_bind, Sem.run_pure, Result.andThen_ok, invoke]
        exact this
      · refine (RelVs.append ⟨s1, g1⟩ ?_).append ⟨s2, g2⟩
        refine ⟨by simp, ?_⟩
        exact map_rel2 c.args fun z hz => hr z (by rw [hop]; simp [Op.operands, Call.operands, hz])
    · cases hc
  · cases hc
/-- Old memory as it was: the state stays. -/
theorem Inv.grown (hi : Inv fo m L w) (hs : w.heap.size ≤ w'.heap.size) (hb : ∀ b, b < w.heap.size → w'.heap[b]? = w.heap[b]?) : Inv fo m L w' := by
  refine ⟨hi.nodup, hi.dom, hi.apart, hi.others, fun b hf => Nat.lt_of_lt_of_le (hi.folt b hf) hs, ?_⟩
  intro h r hr
  obtain ⟨x, hx, hh⟩ := hi.holds h r hr
  exact ⟨x, hx, hh.mono (fun b hbx => hb b (hi.lt hx hbx)) ⟨hs, fun b hb' _ => hb b hb'⟩ (fun _ _ e => e) (fun _ _ e => e)⟩

def noneM : Nat → Option Value := fun _ => none

theorem noneM_own (b : Nat) : ¬ own noneM b := by rintro ⟨h, x, hx, _⟩; cases hx

theorem Inv.none_ (hi : Inv fo m L w) {fo1 : Nat → Prop} (hf : ∀ b, fo1 b → OO fo m b) : Inv fo1 noneM [] w :=
  ⟨by simp [keys], (by intro h x hx; cases hx), (by intro h h' x x' b hx; cases hx), (by intro h x b hx; cases hx), (fun b hb => hi.OO_lt (hf b hb)), (by intro h r hr; cases hr)⟩

/-- A call of a function that only makes memory of its own; it is given data alone. -/
theorem OpT.call {o : Oper} {c : Call} {ρa : Operand → V} {f : FuncId} {args : List V} {x : V} (hop : o.op = .call c) (hc : callee ρa c = some (f, args)) (he : enters P f = true) (ho : V.ons [] args = true) (hx : x.on [] = true)
    (h : ACalls P f args [] (fun r _ => r = .ret x)) : OpT P o ρa L x := by
  intro fo m ρ w hi hr
  obtain ⟨xs, h1, h2⟩ := call_enters (P := P) hop hc he hr
  refine .inr ⟨f, xs, h1, ?_⟩
  have hrel : RelVs w (OO (OO fo m) noneM) noneM xs args := by
    refine ⟨h2.1, fun j v y hv hy => ?_⟩
    have := (h2.2 j v y hv hy).on (ks := []) (m' := noneM) (by simp) (ons_mem ho y (List.mem_of_getElem? hy))
    exact this.mono (Keep.refl w _) (fun b _ hb => hb.elim (fun h => (noneM_own b h).elim) id) (fun _ _ e => e)
  refine (h (OO fo m) noneM w xs (hi.none_ fun b hb => hb) hrel).mono ?_
  rintro e w' ⟨m1, r, L', rfl, he', hi', st⟩
  cases e with
  | returned v =>
    simp only [Ends] at he'
    refine ⟨v, rfl, ?_, hi.grown st.size (fun b hb => st.block b hb (noneM_own b)), ⟨st.os, st.tape, st.output, st.size, fun b hb _ => st.block b hb (noneM_own b), fun b hb h => h⟩⟩
    have := he'.on (ks := []) (m' := m) (by simp) hx
    exact this.mono (Keep.refl w' _) (fun b _ hb => .inr hb) (fun _ _ e => e)
  | panicked ch => simp only [Ends] at he'
  | outgrown => simp only [Ends] at he'

theorem AOps.quietT {ops : Array Oper} {o : Oper} {rest : List Oper} {x : V} (hg : o.guard = none) (hd : ∀ d, o.dst = some d → d < n) (h : OpT P o s.ev s.L x) (k : AOps P n ops rest (s.put o.dst x) Q) : AOps P n ops (o :: rest) s Q := by
  intro fo m0 w0 m a w st g
  rcases h fo m a.eval w g.inv (fun z _ => eval_rel g z) with ⟨v, hrun, hr⟩ | ⟨f, args, hrun, hc⟩
  · exact wpList_ok (by simp [Region.wanted, hg]) hrun (.inl rfl) (k fo m0 w0 m _ w st (g.put hd hr))
  · unfold wpList
    rw [if_pos (by simp [Region.wanted, hg])]
    refine .inl ?_
    unfold Oper.wp
    rw [hrun, Oper.upon_enter]
    refine hc.mono ?_
    rintro e w' ⟨v, rfl, hr, hi', st'⟩
    have hkeep : Keep w (OO fo m) w' := ⟨st'.size, fun b hb ho => st'.block b hb (fun h => ho (.inl h))⟩
    have g' : G fo n m s a w' := ⟨g.size, fun t y hy => ⟨(g.fr t y hy).1, (g.fr t y hy).2.mono hkeep (fun _ _ h => h) (fun _ _ h => h)⟩, hi', g.defers⟩
    exact k fo m0 w0 m _ w' (st.trans st') (g'.put hd hr)

theorem AOps.guardedT {ops : Array Oper} {o : Oper} {rest : List Oper} {b : Bool} {x : V} (hgd : guardV ops s o = some (some b)) (hd : ∀ d, o.dst = some d → d < n)
    (h : b = true → ∃ ρa : Operand → V, (∀ z, z ∈ o.op.operands → ∀ w O m v, RelV w O m v (s.ev z) → RelV w O m v (ρa z)) ∧ OpT P o ρa s.L x) (k : AOps P n ops rest (s.put o.dst (.gd b x)) Q) : AOps P n ops (o :: rest) s Q := by
  intro fo m0 w0 m a w st g
  have hw := guard_wanted g hgd
  cases b with
  | true =>
    obtain ⟨ρa, h1, h2⟩ := h rfl
    rcases h2 fo m a.eval w g.inv (fun z hz => h1 z hz _ _ _ _ (eval_rel g z)) with ⟨v, hrun, hr⟩ | ⟨f, args, hrun, hc⟩
    · exact wpList_ok hw hrun (.inl rfl) (k fo m0 w0 m _ w st (g.put hd (.gt _ _ hr)))
    · unfold wpList
      rw [if_pos hw]
      refine .inl ?_
      unfold Oper.wp
      rw [hrun, Oper.upon_enter]
      refine hc.mono ?_
      rintro e w' ⟨v, rfl, hr, hi', st'⟩
      have hkeep : Keep w (OO fo m) w' := ⟨st'.size, fun b hb ho => st'.block b hb (fun h => ho (.inl h))⟩
      have g' : G fo n m s a w' := ⟨g.size, fun t y hy => ⟨(g.fr t y hy).1, (g.fr t y hy).2.mono hkeep (fun _ _ h => h) (fun _ _ h => h)⟩, hi', g.defers⟩
      exact k fo m0 w0 m _ w' (st.trans st') (g'.put hd (.gt _ _ hr))
  | false =>
    unfold wpList
    rw [if_neg (by rw [hw]; simp)]
    exact k fo m0 w0 m _ w st (g.put hd (.gf _))

/-! ### Operations with calls: the results of the calls are told -/

/-- The condition of a call with a result that is told. -/
def OKCall (P : Program) (f : FuncId) (args : List V) (L : Heap) (x : V) : Prop := ∀ (o : Oper) (c : Call) (ρa : Operand → V), o.op = .call c → callee ρa c = some (f, args) → OpT P o ρa L x
def CallA (P : Program) : Option (FuncId × List V) → Heap → V → Prop
  | some (f, args), L, x => OKCall P f args L x
  | none, _, _ => False
def CallC (P : Program) (s : St) (o : Oper) (x : V) : Prop :=
  match o.op with
  | .call c => CallA P (callee s.ev c) s.L x
  | _ => False
def CallG (P : Program) (s : St) (o : Oper) (x : V) : Prop :=
  uncs s o.op.operands.toList ∧ match o.op with
  | .call c => CallA P (callee (fun z => (s.ev z).un) c) s.L x
  | _ => False

theorem CallA.opT {o : Oper} {c : Call} {ρa : Operand → V} {x : V} (hop : o.op = .call c) (h : CallA P (callee ρa c) L x) : OpT P o ρa L x := by
  cases hc : callee ρa c with
  | none => rw [hc] at h; exact h.elim
  | some p =>
    obtain ⟨f, args⟩ := p
    rw [hc] at h
    exact h o c ρa hop hc
theorem CallC.opT {o : Oper} {x : V} (h : CallC P s o x) : OpT P o s.ev s.L x := by
  unfold CallC at h
  split at h
  · rename_i c hc; exact CallA.opT hc h
  · exact h.elim
theorem CallG.opT {o : Oper} {x : V} (h : CallG P s o x) : ∃ ρa : Operand → V, (∀ z, z ∈ o.op.operands → ∀ w O m v, RelV w O m v (s.ev z) → RelV w O m v (ρa z)) ∧ OpT P o ρa s.L x := by
  unfold CallG at h
  refine ⟨fun z => (s.ev z).un, fun z hz w O m v hr => un_rel hr (uncs_mem h.1 z (by simpa using hz)), ?_⟩
  have h2 := h.2
  split at h2
  · rename_i c hc; exact CallA.opT hc h2
  · exact h2.elim

def isCall (o : Oper) : Bool :=
  match o.op with
  | .call { callee := .value _, .. } => true
  | _ => false

def callStep (P : Program) (ops : Array Oper) (s : St) (o : Oper) (us : List V) : Option (St × Prop × List V) :=
  match us with
  | [] => none
  | x :: us => match guardV ops s o with
    | some none => some (s.put o.dst x, CallC P s o x, us)
    | some (some g) => some (s.put o.dst (.gd g x), g = true → CallG P s o x, us)
    | none => none

def runC (P : Program) (ops : Array Oper) : List Oper → St → (Nat → Nat) → List V → (St → List Oper → Prop) → Prop
  | [], s, _, _, K => K s []
  | o :: rest, s, bs, us, K =>
    if isCall o then
      match callStep P ops s o us with
      | some (s', c, us') => c ∧ runC P ops rest s' bs us' K
      | none => K s (o :: rest)
    else
    match stepQ P ops s o with
    | some (s', c) => c ∧ runC P ops rest s' bs us K
    | none =>
      match guardV ops s o with
      | some none => match stepL P (s.fgt o) o (bs 0 + 1) with
        | some (x, s', c) => c ∧ runC P ops rest (s'.put o.dst x) (fun i => bs (i + 1)) us K
        | none => K s (o :: rest)
      | some (some true) => match stepL P (unO s o) o (bs 0 + 1) with
        | some (x, s', c) => (loudM o = true ∧ uncs s o.op.operands.toList ∧ c) ∧ runC P ops rest (St.put ⟨killO (killOf (unO s o) o) s.fr, s'.L⟩ o.dst (.gd true x)) (fun i => bs (i + 1)) us K
        | none => K s (o :: rest)
      | some (some false) => runC P ops rest (s.put o.dst (.gd false .any)) bs us K
      | none => K s (o :: rest)

/-- What is asked behind a list of operations: nothing is left of it; or it is gone on with by hand. -/
def KK (P : Program) (n : Nat) (ops : Array Oper) (Q : AX → St → Prop) (s : St) : List Oper → Prop
  | [] => Q .normal s
  | r => AOps P n ops r s Q

theorem KK_ops {ops : Array Oper} {r : List Oper} (h : KK P n ops Q s r) : AOps P n ops r s Q := by
  cases r with
  | nil => exact AOps.nil h
  | cons o r => exact h

def dstsOk (n : Nat) (l : List Oper) : Bool := l.all fun o => match o.dst with | some d => decide (d < n) | none => true

theorem runC_sound {ops : Array Oper} : ∀ (l : List Oper) (s : St) (us : List V), dstsOk n l = true →
    (∀ bs, runC P ops l s bs us (KK P n ops Q)) → AOps P n ops l s Q
  | [], s, us, _, h => KK_ops (h (fun _ => 0))
  | o :: rest, s, us, hd, h => by
    have hd1 : ∀ d, o.dst = some d → d < n := by
      intro d hd'
      simp only [dstsOk, List.all_cons, Bool.and_eq_true] at hd
      have := hd.1
      rw [hd'] at this
      simpa using this
    have hd2 : dstsOk n rest = true := by
      simp only [dstsOk, List.all_cons, Bool.and_eq_true] at hd; exact hd.2
    have h0 := h (fun _ => 0)
    rw [runC] at h0
    split at h0
    · rename_i hcall
      split at h0
      · rename_i s' c us' hcs
        have hall : ∀ bs, c ∧ runC P ops rest s' bs us' (KK P n ops Q) := by
          intro bs
          have := h bs
          rw [runC, if_pos hcall, hcs] at this
          exact this
        have hrest := runC_sound rest s' us' hd2 (fun bs => (hall bs).2)
        have hc := h0.1
        unfold callStep at hcs
        split at hcs
        · cases hcs
        · split at hcs
          · rename_i hg
            simp only [Option.some.injEq, Prod.mk.injEq] at hcs
            obtain ⟨rfl, rfl, rfl⟩ := hcs
            exact AOps.quietT (guardV_none hg) hd1 (CallC.opT hc) hrest
          · rename_i g hg
            simp only [Option.some.injEq, Prod.mk.injEq] at hcs
            obtain ⟨rfl, rfl, rfl⟩ := hcs
            exact AOps.guardedT hg hd1 (fun hb => CallG.opT (hc hb)) hrest
          · cases hcs
      · exact h0
    · rename_i hcall
      split at h0
      · rename_i s' c hq
        have hall : ∀ bs, c ∧ runC P ops rest s' bs us (KK P n ops Q) := by
          intro bs
          have := h bs
          rw [runC, if_neg hcall, hq] at this
          exact this
        exact stepQ_sound hd1 hq h0.1 (runC_sound rest s' us hd2 (fun bs => (hall bs).2))
      · rename_i hq
        split at h0
        · rename_i hgn
          split at h0
          · rename_i x0 s0 c0 hl
            have hall : ∀ (bs : Nat → Nat) (x : V) (s' : St) (c : Prop), stepL P (s.fgt o) o (bs 0 + 1) = some (x, s', c) → c ∧ runC P ops rest (s'.put o.dst x) (fun i => bs (i + 1)) us (KK P n ops Q) := by
              intro bs x s' c hb
              have := h bs
              rw [runC, if_neg hcall, hq] at this
              simp only [hgn, hb] at this
              exact this
            refine AOps.weaken (Wk.fgt o) (AOps.loud (guardV_none hgn) hd1 (stepL_sound hl h0.1) ?_)
            rintro x s' ⟨b, c, hb⟩
            exact runC_sound rest _ us hd2 (fun bs => (hall (fun i => match i with | 0 => b | i + 1 => bs i) x s' c hb).2)
          · exact h0
        · rename_i hgn
          split at h0
          · rename_i x0 s0 c0 hl
            have hall : ∀ (bs : Nat → Nat) (x : V) (s' : St) (c : Prop), stepL P (unO s o) o (bs 0 + 1) = some (x, s', c) → (loudM o = true ∧ uncs s o.op.operands.toList ∧ c) ∧ runC P ops rest (St.put ⟨killO (killOf (unO s o) o) s.fr, s'.L⟩ o.dst (.gd true x)) (fun i => bs (i + 1)) us (KK P n ops Q) := by
              intro bs x s' c hb
              have := h bs
              rw [runC, if_neg hcall, hq] at this
              simp only [hgn, hb] at this
              exact this
            refine AOps.loudG hgn hd1 (fun _ => ⟨_, x0, s0, c0, hl, h0.1⟩) (fun _ x s' b c hb => ?_) (fun h => by cases h)
            exact runC_sound rest _ us hd2 (fun bs => (hall (fun i => match i with | 0 => b | i + 1 => bs i) x s' c hb).2)
          · exact h0
        · rename_i hgn
          have hall : ∀ bs, runC P ops rest (s.put o.dst (.gd false .any)) bs us (KK P n ops Q) := by
            intro bs
            have := h bs
            rw [runC, if_neg hcall, hq] at this
            simp only [hgn] at this
            exact this
          exact AOps.loudG hgn hd1 (fun h => by cases h) (fun h => by cases h) (fun _ => runC_sound rest _ us hd2 hall)
        · exact h0

/-! ### Code as a function -/

def codeK (P : Program) (n : Nat) : Code → St → (AX → St → Prop) → Prop
  | .skip, s, Q => Q .normal s
  | .seq x y, s, Q => codeK P n x s (AX.then (fun s' => codeK P n y s' Q) Q)
  | .cond c x y, s, Q => match s.ev c with
    | .d (.v (.bool b)) => (b = true → codeK P n x s Q) ∧ (b = false → codeK P n y s Q)
    | _ => False
  | .block id c, s, Q => codeK P n c s (AX.inBlock id Q)
  | .exit id, s, Q => Q (.exit id) s
  | .ret, s, Q => Q .ret s
  | .region id ops draw, s, Q => if draw then AWP P n (.region id ops draw) s Q else dstsOk n ops.toList = true ∧ ∀ bs, runC P ops ops.toList s bs [] (KK P n ops Q)
  | c, s, Q => AWP P n c s Q

theorem AX.then_mono {f g : St → Prop} {Q Q' : AX → St → Prop} (h : ∀ s, f s → g s) (hq : ∀ x s, Q x s → Q' x s) (x : AX) (s : St) (hx : AX.then f Q x s) : AX.then g Q' x s := by
  cases x <;> simp only [AX.then] at hx ⊢ <;> first | exact h _ hx | exact hq _ _ hx

theorem wp_region_toList {id : Nat} {ops : Array Oper} {Q : Exit → Act → World → Prop} {a : Act} {w : World} (h : wpList P ops Q ops.toList a w) : (Code.region id ops false).wp P Q a w := wp_region_list h

theorem codeK_sound : ∀ (c : Code) (s : St) (Q : AX → St → Prop), codeK P n c s Q → AWP P n c s Q
  | .skip, s, Q, h => AWP.skip h
  | .seq x y, s, Q, h => AWP.seq (AWP.mono (codeK_sound x s _ h) (AX.then_mono (fun s' h' => codeK_sound y s' Q h') (fun _ _ h => h)))
  | .cond c x y, s, Q, h => by
    simp only [codeK] at h
    split at h
    · rename_i b hb
      exact AWP.cond hb (fun hb => codeK_sound x s Q (h.1 hb)) (fun hb => codeK_sound y s Q (h.2 hb))
    · exact h.elim
  | .block id c, s, Q, h => AWP.block (codeK_sound c s _ h)
  | .exit id, s, Q, h => AWP.exit h
  | .ret, s, Q, h => AWP.ret h
  | .region id ops draw, s, Q, h => by
    simp only [codeK] at h
    split at h
    · exact h
    · rename_i hd
      have : draw = false := by simpa using hd
      subst this
      intro fo m a w g
      exact wp_region_toList (runC_sound ops.toList s [] h.1 h.2 fo m w m a w (Step.refl w _) g)
  | .loop c, s, Q, h => h
  | .rangeFunc .., s, Q, h => h
  | .scope c, s, Q, h => h
  | .label l, s, Q, h => h
  | .goto l, s, Q, h => h
  | .refuse _, s, Q, h => h

/-- A region, the results of its calls told. -/
theorem AWP.regionC {id : Nat} {ops : Array Oper} (us : List V) (hd : dstsOk n ops.toList = true) (h : ∀ bs, runC P ops ops.toList s bs us (KK P n ops Q)) : AWP P n (.region id ops false) s Q := by
  intro fo m a w g
  exact wp_region_toList (runC_sound ops.toList s us hd h fo m w m a w (Step.refl w _) g)

end
end Go.Ab
