/-
  The engine, part Q: contracts in one form; calls by one line; loops by the slots and resources that a round changes.
-/
import Derived.Test.YticchnalleplcaaAbV
set_option linter.unusedSimpArgs false
set_option linter.unusedVariables false
namespace Go.Ab

section
variable {P : Program} {n : Nat} {s : St} {Q : AX → St → Prop} {L : Heap}

/-- The function, given data, hands back data, and nothing else changes. -/
structure Pure (P : Program) (f : FuncId) (args : List V) (x : V) : Prop where
  en : enters P f = true
  on : V.ons [] args = true
  rn : x.on [] = true
  calls : ACalls P f args [] (fun r _ => r = .ret x)

theorem Pure.run {f : FuncId} {args : List V} {x : V} {fn : Func} {c : Code} (hf : P.funcs[f]? = some fn) (hb : fn.body = some c) (hs : args.length ≤ fn.ntmps ∧ enters P f = true ∧ V.ons [] args = true ∧ x.on [] = true)
    (h : codeK P fn.ntmps c ⟨argFrame 0 args, []⟩ (kontK P fn.ntmps (FPost P fn.results.toList (fun r L' => ∃ y, r = .ret y ∧ y.fz L' = x)) [])) : Pure P f args x :=
  ⟨hs.2.1, hs.2.2.1, hs.2.2.2, (ACalls.data (ACalls.run hf hb hs.1 h) hs.2.2.2).mono fun _ _ h => h.1⟩

theorem Pure.eq {f : FuncId} {args args' : List V} {x x' : V} (h : Pure P f args x) (ha : args = args') (hx : x = x') : Pure P f args' x' := by subst ha; subst hx; exact h

theorem Pure.ok {f : FuncId} {args : List V} {x : V} (h : Pure P f args x) (L : Heap) : OKCall P f args L x := OKCall.pure h.en h.on h.rn h.calls

theorem Pure.lend {f : FuncId} {args args' : List V} {x : V} {L : Heap} (h : Pure P f args' x) (hx : x.scal = true) (ha : V.fzs L args = args') : OKCall P f args L x := by
  subst ha
  exact OKCall.lend h.en h.on hx h.calls

/-- The function is lent boxes, and leaves them as they are. -/
structure Kept (P : Program) (f : FuncId) (args : List V) (L1 : Heap) (x : V) : Prop where
  en : enters P f = true
  on : V.ons (keys L1) args = true
  onL : L1.all (fun p => Res.on (keys L1) p.2 && isBox p.2) = true
  rn : x.scal = true
  calls : ACalls P f args L1 (fun r L' => r = .ret x ∧ L' = L1)

theorem Kept.run {f : FuncId} {args : List V} {L1 : Heap} {x : V} {fn : Func} {c : Code} (hf : P.funcs[f]? = some fn) (hb : fn.body = some c)
    (hs : args.length ≤ fn.ntmps ∧ enters P f = true ∧ V.ons (keys L1) args = true ∧ L1.all (fun p => Res.on (keys L1) p.2 && isBox p.2) = true ∧ x.scal = true)
    (h : codeK P fn.ntmps c ⟨argFrame 0 args, L1⟩ (kontK P fn.ntmps (FPost P fn.results.toList (fun r L' => r = .ret x ∧ L' = L1)) [])) : Kept P f args L1 x :=
  ⟨hs.2.1, hs.2.2.1, hs.2.2.2.1, hs.2.2.2.2, ACalls.run hf hb hs.1 h⟩

theorem Kept.ok {f : FuncId} {args : List V} {L1 : Heap} {x : V} (h : Kept P f args L1 x) (L : Heap) (hL : L.filter (fun p => (keys L1).contains p.1) = L1) : OKCall P f args L x :=
  OKCall.box (keys L1) hL h.en h.on h.onL h.rn h.calls

/-- The call that comes next, of a function of which the contract is known. -/
theorem AOps.pureC {ops : Array Oper} {o : Oper} {rest : List Oper} {c : Call} {f : FuncId} {args : List V} {x : V} (hop : o.op = .call c) (h : Pure P f args x) (hc : callee s.ev c = some (f, args)) (hg : o.guard = none)
    (hd : ∀ d, o.dst = some d → d < n) (hr : dstsOk n rest = true) (k : ∀ bs, runC P ops rest (s.put o.dst x) bs [] (KK P n ops Q)) : AOps P n ops (o :: rest) s Q :=
  AOps.quietT hg hd (OpT.call hop hc h.en h.on h.rn h.calls) (runC_sound rest _ [] hr k)

/-- The same; the arguments that are owned rows of data are lent. -/
theorem AOps.lendC {ops : Array Oper} {o : Oper} {rest : List Oper} {c : Call} {f : FuncId} {args args' : List V} {x : V} (hop : o.op = .call c) (h : Pure P f args' x) (hc : callee s.ev c = some (f, args)) (ha : V.fzs s.L args = args') (hx : x.scal = true) (hg : o.guard = none)
    (hd : ∀ d, o.dst = some d → d < n) (hr : dstsOk n rest = true) (k : ∀ bs, runC P ops rest (s.put o.dst x) bs [] (KK P n ops Q)) : AOps P n ops (o :: rest) s Q := by
  subst ha
  exact AOps.quietT hg hd (OpT.lend hop hc h.en h.on hx h.calls) (runC_sound rest _ [] hr k)

/-- The call that comes next: it is given the resources of these handles. -/
theorem AOps.effC {ops : Array Oper} {o : Oper} {rest : List Oper} {c : Call} {f : FuncId} {args : List V} {L1 : Heap} {R : AE → Heap → Prop} (hs : List Nat) (hop : o.op = .call c) (h : ACalls P f args L1 R) (hc : callee s.ev c = some (f, args)) (hg : o.guard = none)
    (hd : ∀ d, o.dst = some d → d < n) (hr : dstsOk n rest = true) (he : enters P f = true) (hL : s.L.filter (fun p => hs.contains p.1) = L1)
    (ho : V.ons (keys L1) args = true) (hon : L1.all (fun p => Res.on (keys L1) p.2) = true)
    (hfr : s.fr.all (fun p => V.on (keys (s.L.filter fun p => !hs.contains p.1) ++ (L1.filterMap fun p => match p.2 with | .box (_ + 1) _ _ => some p.1 | _ => none)) p.2) = true)
    (hL2 : (s.L.filter fun p => !hs.contains p.1).all (fun p => Res.on (keys (s.L.filter fun p => !hs.contains p.1) ++ (L1.filterMap fun p => match p.2 with | .box (_ + 1) _ _ => some p.1 | _ => none)) p.2) = true)
    (hstay : ∀ r L1', R r L1' → (∃ x, r = .ret x) ∧ (∀ k ∈ keys L1', k ∉ keys (s.L.filter fun p => !hs.contains p.1)) ∧ ∀ k b ty cs, (k, Res.box (b + 1) ty cs) ∈ L1 → ∃ ty' cs', (k, Res.box (b + 1) ty' cs') ∈ L1')
    (k : ∀ x L1', R (.ret x) L1' → ∀ bs, runC P ops rest (St.put { s with L := L1' ++ s.L.filter fun p => !hs.contains p.1 } o.dst x) bs [] (KK P n ops Q)) : AOps P n ops (o :: rest) s Q :=
  AOps.callG (L1 := L1) (L2 := s.L.filter fun p => !hs.contains p.1) hg hd hop hc he ho (by subst hL; exact (List.filter_append_perm _ s.L).symm) hon (fun p hp => List.all_eq_true.1 hfr p hp) (fun p hp => List.all_eq_true.1 hL2 p hp) h hstay
    (fun x L1' hR => runC_sound rest _ [] hr (k x L1' hR))

def boxAt : Res → Option Nat
  | .box b _ _ => some b
  | _ => none
attribute [simp] boxAt
theorem AOps.effD {ops : Array Oper} {o : Oper} {rest : List Oper} {c : Call} {f : FuncId} {args : List V} {L1 L1' : Heap} {x : V} (hs : List Nat) (hop : o.op = .call c) (h : ACalls P f args L1 (fun r L => r = .ret x ∧ L = L1')) (hc : callee s.ev c = some (f, args)) (hg : o.guard = none)
    (hd : ∀ d, o.dst = some d → d < n) (hr : dstsOk n rest = true) (he : enters P f = true) (hL : s.L.filter (fun p => hs.contains p.1) = L1)
    (ho : V.ons (keys L1) args = true ∧ L1.all (fun p => Res.on (keys L1) p.2) = true ∧ L1.all (fun p => !isBox p.2 || L1'.any (fun q => q.1 == p.1 && (isBox q.2 && boxAt q.2 == boxAt p.2))) = true)
    (hfr : s.fr.all (fun p => V.on (keys (s.L.filter fun p => !hs.contains p.1) ++ keys (L1.filter fun p => isBox p.2)) p.2) = true)
    (hL2 : (s.L.filter fun p => !hs.contains p.1).all (fun p => Res.on (keys (s.L.filter fun p => !hs.contains p.1) ++ keys (L1.filter fun p => isBox p.2)) p.2) = true)
    (hk : (keys L1').all (fun k => !(keys (s.L.filter fun p => !hs.contains p.1)).contains k) = true)
    (k : ∀ bs, runC P ops rest (St.put { s with L := L1' ++ s.L.filter fun p => !hs.contains p.1 } o.dst x) bs [] (KK P n ops Q)) : AOps P n ops (o :: rest) s Q := by
  have hbx : (L1.filterMap fun p => match p.2 with | .box (_ + 1) _ _ => some p.1 | _ => none) = keys (L1.filter fun p => isBox p.2) := by
    generalize L1 = l
    induction l with
    | nil => rfl
    | cons p l ih =>
      obtain ⟨a, r⟩ := p
      cases r with
      | box b ty cs =>
        cases b with
        | succ b => simp only [List.filterMap_cons, List.filter_cons, isBox, if_true, keys, List.map_cons, ih]
        | zero =>
          simp only [List.filterMap_cons, List.filter_cons, isBox, ih]
          simp
      | row ty k xs =>
        simp only [List.filterMap_cons, List.filter_cons, isBox, ih]
        simp
  refine AOps.effC hs hop h hc hg hd hr he hL ho.1 ho.2.1 (by rw [hbx]; exact hfr) (by rw [hbx]; exact hL2) ?_ ?_
  · rintro r L1'' ⟨rfl, rfl⟩
    refine ⟨⟨_, rfl⟩, fun k hk' => ?_, fun k b ty cs hm => ?_⟩
    · have := List.all_eq_true.1 hk k hk'
      simpa using this
    · have := List.all_eq_true.1 ho.2.2 _ hm
      simp only [isBox, Bool.not_true, Bool.false_or, List.any_eq_true, Bool.and_eq_true, beq_iff_eq] at this
      obtain ⟨⟨a, r⟩, h1, h2, h3, h4⟩ := this
      simp only at h2
      subst h2
      cases r with
      | box b' ty' cs' =>
        simp only [boxAt, Option.some.injEq] at h4
        subst h4
        exact ⟨ty', cs', h1⟩
      | row _ _ _ => simp at h3
  · rintro x' L1'' ⟨e, rfl⟩
    obtain rfl := AE.ret.inj e
    exact k

/-! ### Loops -/

def upF (fr : List (Nat × V)) (ov : List (Nat × V)) : List (Nat × V) := fr.map fun p => (p.1, (ov.lookup p.1).getD p.2)
def upL (L : Heap) (ov : List (Nat × Res)) : Heap := L.map fun p => (p.1, (ov.lookup p.1).getD p.2)
def St.up (s : St) (F : List (Nat × V)) (R : List (Nat × Res)) : St := ⟨upF s.fr F, upL s.L R⟩

/-- What is asked at the end of round i of a loop. -/
def LoopS (ts hs : List Nat) (S : Nat → St) (N : Nat) (H : Nat → Prop) (i : Nat) (s : St) : Prop := (s.pick ts hs).on (keys (s.pick ts hs).L) = true ∧ i < N ∧ s.pick ts hs = S (i + 1) ∧ H (i + 1)

/-- A loop of at most N rounds: ts are the slots that are kept; F i and R i are the slots and resources that have changed before round i; H i is what else is known there. -/
theorem AWP.loopS {c : Code} {ks : List KI} (ts : List Nat) (N : Nat) (F : Nat → List (Nat × V)) (R : Nat → List (Nat × Res)) (H : Nat → Prop) (ht : ts.all (fun t => decide (t < n)) = true)
    (h0 : (keys s.L).Nodup ∧ (s.pick ts (keys s.L)).on (keys (s.pick ts (keys s.L)).L) = true ∧ s.pick ts (keys s.L) = (s.pick ts (keys s.L)).up (F 0) (R 0) ∧ H 0)
    (round : ∀ i, i ≤ N → H i → codeK P n c ((s.pick ts (keys s.L)).up (F i) (R i)) (kontK P n Q (.inv (LoopS ts (keys s.L) (fun i => (s.pick ts (keys s.L)).up (F i) (R i)) N H i) :: ks))) :
    AWP P n (.loop c) s (kontK P n Q ks) := by
  obtain ⟨h1, h2, h3, h4⟩ := h0
  refine AWP.weaken (Wk.pick ts (keys s.L) ht h1 h2) (AWP.loop (fun k st => ∃ i, k = N - i ∧ i ≤ N ∧ H i ∧ st = (s.pick ts (keys s.L)).up (F i) (R i)) ⟨N, 0, rfl, Nat.zero_le _, h4, h3⟩ ?_)
  rintro k st ⟨i, rfl, hi, hH, rfl⟩
  refine AWP.mono (codeK_sound _ _ _ (round i hi hH)) (fun x s' h => ?_)
  cases x with
  | normal =>
    obtain ⟨a1, a2, a3, a4⟩ := h
    exact ⟨N - (i + 1), by omega, _, Wk.pick ts (keys s.L) ht h1 a1, i + 1, rfl, by omega, a4, a3⟩
  | _ => exact h

/-- The places of these boxes are forgotten. -/
def Res.rlx : Res → Res
  | .box _ ty cs => .box 0 ty cs
  | r => r
def St.rlx (rs : List Nat) (s : St) : St := ⟨s.fr, s.L.map fun p => (p.1, if rs.contains p.1 then p.2.rlx else p.2)⟩
theorem Wk.rlx (rs : List Nat) : Wk n s (s.rlx rs) := by
  intro fo m a w g
  have hi := g.inv
  have hk : keys (St.rlx rs s).L = keys s.L := by simp [keys, St.rlx, Function.comp_def]
  refine ⟨m, ⟨g.size, g.fr, ⟨by rw [hk]; exact hi.nodup, fun h x hx => by rw [hk]; exact hi.dom h x hx, hi.apart, hi.others, hi.folt, ?_⟩, g.defers⟩, Step.refl w _⟩
  intro h r hr
  obtain ⟨p, hp, he⟩ := List.mem_map.1 hr
  simp only [Prod.mk.injEq] at he
  obtain ⟨rfl, rfl⟩ := he
  obtain ⟨x, hx, hh⟩ := hi.holds p.1 p.2 hp
  refine ⟨x, hx, ?_⟩
  split
  · generalize p.2 = q at hh
    cases q with
    | row ty k xs => exact hh
    | box b ty cs =>
      obtain ⟨bb, _, h1⟩ := hh
      exact ⟨bb, .inl rfl, h1⟩
  · exact hh

/-- As 'loopS', but the boxes rs may be other ones in each round. -/
def LoopR (rs ts hs : List Nat) (S : Nat → St) (N : Nat) (H : Nat → Prop) (i : Nat) (s : St) : Prop := (s.pick ts hs).on (keys (s.pick ts hs).L) = true ∧ i < N ∧ (s.pick ts hs).rlx rs = S (i + 1) ∧ H (i + 1)

theorem AWP.loopR {c : Code} {ks : List KI} (ts : List Nat) (rs : List Nat) (N : Nat) (F : Nat → List (Nat × V)) (R : Nat → List (Nat × Res)) (H : Nat → Prop) (ht : ts.all (fun t => decide (t < n)) = true)
    (h0 : (keys s.L).Nodup ∧ (s.pick ts (keys s.L)).on (keys (s.pick ts (keys s.L)).L) = true ∧ (s.pick ts (keys s.L)).rlx rs = ((s.pick ts (keys s.L)).rlx rs).up (F 0) (R 0) ∧ H 0)
    (round : ∀ i, i ≤ N → H i → ∀ bs, codeK P n c ((((s.pick ts (keys s.L)).rlx rs).up (F i) (R i)).opn bs) (kontK P n Q (.inv (LoopR rs ts (keys s.L) (fun i => ((s.pick ts (keys s.L)).rlx rs).up (F i) (R i)) N H i) :: ks))) :
    AWP P n (.loop c) s (kontK P n Q ks) := by
  obtain ⟨h1, h2, h3, h4⟩ := h0
  refine AWP.weaken ((Wk.pick ts (keys s.L) ht h1 h2).trans (Wk.rlx rs)) (AWP.loop (fun k st => ∃ i, k = N - i ∧ i ≤ N ∧ H i ∧ st = ((s.pick ts (keys s.L)).rlx rs).up (F i) (R i)) ⟨N, 0, rfl, Nat.zero_le _, h4, h3⟩ ?_)
  rintro k st ⟨i, rfl, hi, hH, rfl⟩
  intro fo m a w g
  obtain ⟨bs, g2⟩ := g.opn
  refine AWP.mono (codeK_sound _ _ _ (round i hi hH bs)) (fun x s' h => ?_) fo m a w g2
  cases x with
  | normal =>
    obtain ⟨a1, a2, a3, a4⟩ := h
    exact ⟨N - (i + 1), by omega, _, (Wk.pick ts (keys s.L) ht h1 a1).trans (Wk.rlx rs), i + 1, rfl, by omega, a4, a3⟩
  | _ => exact h

attribute [simp] Res.rlx St.rlx LoopR
/-- What is asked at the end of round i of a loop, where the states are said in full. -/
def LoopW (n : Nat) (S : Nat → St) (N : Nat) (H : Nat → Prop) (i : Nat) (s : St) : Prop := i < N ∧ H (i + 1) ∧ Wk n s (S (i + 1))
theorem AWP.loopW {c : Code} {ks : List KI} (N : Nat) (S : Nat → St) (H : Nat → Prop) (h0 : H 0 ∧ Wk n s (S 0))
    (round : ∀ i, i ≤ N → H i → codeK P n c (S i) (kontK P n Q (.inv (LoopW n S N H i) :: ks))) : AWP P n (.loop c) s (kontK P n Q ks) := by
  refine AWP.weaken h0.2 (AWP.loop (fun k st => ∃ i, k = N - i ∧ i ≤ N ∧ H i ∧ st = S i) ⟨N, 0, rfl, Nat.zero_le _, h0.1, rfl⟩ ?_)
  rintro k st ⟨i, rfl, hi, hH, rfl⟩
  refine AWP.mono (codeK_sound _ _ _ (round i hi hH)) (fun x s' h => ?_)
  cases x with
  | normal =>
    obtain ⟨a1, a2, a3⟩ := h
    exact ⟨N - (i + 1), by omega, _, a3, i + 1, rfl, by omega, a2, rfl⟩
  | _ => exact h

attribute [simp] upF upL St.up LoopS LoopW
@[simp] theorem dd_getElem (ys : List (List D)) (i : Nat) (h : i < (dd ys).length) : (dd ys)[i]'h = (ys[i]'(by simpa using h)).map V.d := by simp [dd]
@[simp] theorem encB_getElem (l : List Bool) (i : Nat) (h : i < (encB l).length) : (encB l)[i]'h = [.v (.bool (l[i]'(by simpa using h)))] := by simp [encB]
@[simp] theorem encS_getElem (l : List ByteArray) (i : Nat) (h : i < (encS l).length) : (encS l)[i]'h = [.v (.string (l[i]'(by simpa using h)))] := by simp [encS]
@[simp] theorem encI_getElem (l : List Int) (i : Nat) (h : i < (encI l).length) : (encI l)[i]'h = [.v (.int .i64 (l[i]'(by simpa using h)))] := by simp [encI]
end
end Go.Ab
