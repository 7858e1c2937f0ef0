/-
  The texts Q Lp Wr Fam Gfew Gbound Gref Gexpr Gwrite Gwexpr Gwlog Gwx Gex Glook Glaw1 Gsfew Gsfew2 Gst Gst2 Gst3 Gst4 Gst5 Gst6 Gst7, one behind the other.
-/
import Derived.Test.YticchnalleplcaaMg3
/-
  The engine, part Q: contracts in one form; calls by one line; loops by the slots and resources that a round changes.
-/
set_option linter.unusedSimpArgs false
set_option linter.unusedVariables false
namespace Go.Ab

section
variable {P : Program} {n : Nat} {s : St} {Q : AX → St → Prop} {L : Heap}

/-- The function, given data, hands back data, and nothing else changes. -/
structure Pure (P : Program) (f : FuncId) (args : List V) (x : V) : Prop where
  en : enters P f = true
  on : V.ons [] args = true
  rn : x.on [] = true
  calls : ACalls P f args [] (fun r _ => r = .ret x)

theorem Pure.run {f : FuncId} {args : List V} {x : V} {fn : Func} {c : Code} (hf : P.funcs[f]? = some fn) (hb : fn.body = some c) (hs : args.length ≤ fn.ntmps ∧ enters P f = true ∧ V.ons [] args = true ∧ x.on [] = true)
    (h : codeK P fn.ntmps c ⟨argFrame 0 args, []⟩ (kontK P fn.ntmps (FPost P fn.results.toList (fun r L' => ∃ y, r = .ret y ∧ y.fz L' = x)) [])) : Pure P f args x :=
  ⟨hs.2.1, hs.2.2.1, hs.2.2.2, (ACalls.data (ACalls.run hf hb hs.1 h) hs.2.2.2).mono fun _ _ h => h.1⟩

theorem Pure.eq {f : FuncId} {args args' : List V} {x x' : V} (h : Pure P f args x) (ha : args = args') (hx : x = x') : Pure P f args' x' := by subst ha; subst hx; exact h

theorem Pure.ok {f : FuncId} {args : List V} {x : V} (h : Pure P f args x) (L : Heap) : OKCall P f args L x := OKCall.pure h.en h.on h.rn h.calls

theorem Pure.lend {f : FuncId} {args args' : List V} {x : V} {L : Heap} (h : Pure P f args' x) (hx : x.scal = true) (ha : V.fzs L args = args') : OKCall P f args L x := by
  subst ha
  exact OKCall.lend h.en h.on hx h.calls

/-- The function is lent boxes, and leaves them as they are. -/
structure Kept (P : Program) (f : FuncId) (args : List V) (L1 : Heap) (x : V) : Prop where
  en : enters P f = true
  on : V.ons (keys L1) args = true
  onL : L1.all (fun p => Res.on (keys L1) p.2 && isBox p.2) = true
  rn : x.scal = true
  calls : ACalls P f args L1 (fun r L' => r = .ret x ∧ L' = L1)

theorem Kept.run {f : FuncId} {args : List V} {L1 : Heap} {x : V} {fn : Func} {c : Code} (hf : P.funcs[f]? = some fn) (hb : fn.body = some c)
    (hs : args.length ≤ fn.ntmps ∧ enters P f = true ∧ V.ons (keys L1) args = true ∧ L1.all (fun p => Res.on (keys L1) p.2 && isBox p.2) = true ∧ x.scal = true)
    (h : codeK P fn.ntmps c ⟨argFrame 0 args, L1⟩ (kontK P fn.ntmps (FPost P fn.results.toList (fun r L' => r = .ret x ∧ L' = L1)) [])) : Kept P f args L1 x :=
  ⟨hs.2.1, hs.2.2.1, hs.2.2.2.1, hs.2.2.2.2, ACalls.run hf hb hs.1 h⟩

theorem Kept.ok {f : FuncId} {args : List V} {L1 : Heap} {x : V} (h : Kept P f args L1 x) (L : Heap) (hL : L.filter (fun p => (keys L1).contains p.1) = L1) : OKCall P f args L x :=
  OKCall.box (keys L1) hL h.en h.on h.onL h.rn h.calls

/-- The call that comes next, of a function of which the contract is known. -/
theorem AOps.pureC {ops : Array Oper} {o : Oper} {rest : List Oper} {c : Call} {f : FuncId} {args : List V} {x : V} (hop : o.op = .call c) (h : Pure P f args x) (hc : callee s.ev c = some (f, args)) (hg : o.guard = none)
    (hd : ∀ d, o.dst = some d → d < n) (hr : dstsOk n rest = true) (k : ∀ bs, runC P ops rest (s.put o.dst x) bs [] (KK P n ops Q)) : AOps P n ops (o :: rest) s Q :=
  AOps.quietT hg hd (OpT.call hop hc h.en h.on h.rn h.calls) (runC_sound rest _ [] hr k)

/-- The same; the arguments that are owned rows of data are lent. -/
theorem AOps.lendC {ops : Array Oper} {o : Oper} {rest : List Oper} {c : Call} {f : FuncId} {args args' : List V} {x : V} (hop : o.op = .call c) (h : Pure P f args' x) (hc : callee s.ev c = some (f, args)) (ha : V.fzs s.L args = args') (hx : x.scal = true) (hg : o.guard = none)
    (hd : ∀ d, o.dst = some d → d < n) (hr : dstsOk n rest = true) (k : ∀ bs, runC P ops rest (s.put o.dst x) bs [] (KK P n ops Q)) : AOps P n ops (o :: rest) s Q := by
  subst ha
  exact AOps.quietT hg hd (OpT.lend hop hc h.en h.on hx h.calls) (runC_sound rest _ [] hr k)

/-- The call that comes next: it is given the resources of these handles. -/
theorem AOps.effC {ops : Array Oper} {o : Oper} {rest : List Oper} {c : Call} {f : FuncId} {args : List V} {L1 : Heap} {R : AE → Heap → Prop} (hs : List Nat) (hop : o.op = .call c) (h : ACalls P f args L1 R) (hc : callee s.ev c = some (f, args)) (hg : o.guard = none)
    (hd : ∀ d, o.dst = some d → d < n) (hr : dstsOk n rest = true) (he : enters P f = true) (hL : s.L.filter (fun p => hs.contains p.1) = L1)
    (ho : V.ons (keys L1) args = true) (hon : L1.all (fun p => Res.on (keys L1) p.2) = true)
    (hfr : s.fr.all (fun p => V.on (keys (s.L.filter fun p => !hs.contains p.1) ++ (L1.filterMap fun p => match p.2 with | .box (_ + 1) _ _ => some p.1 | _ => none)) p.2) = true)
    (hL2 : (s.L.filter fun p => !hs.contains p.1).all (fun p => Res.on (keys (s.L.filter fun p => !hs.contains p.1) ++ (L1.filterMap fun p => match p.2 with | .box (_ + 1) _ _ => some p.1 | _ => none)) p.2) = true)
    (hstay : ∀ r L1', R r L1' → (∃ x, r = .ret x) ∧ (∀ k ∈ keys L1', k ∉ keys (s.L.filter fun p => !hs.contains p.1)) ∧ ∀ k b ty cs, (k, Res.box (b + 1) ty cs) ∈ L1 → ∃ ty' cs', (k, Res.box (b + 1) ty' cs') ∈ L1')
    (k : ∀ x L1', R (.ret x) L1' → ∀ bs, runC P ops rest (St.put { s with L := L1' ++ s.L.filter fun p => !hs.contains p.1 } o.dst x) bs [] (KK P n ops Q)) : AOps P n ops (o :: rest) s Q :=
  AOps.callG (L1 := L1) (L2 := s.L.filter fun p => !hs.contains p.1) hg hd hop hc he ho (by subst hL; exact (List.filter_append_perm _ s.L).symm) hon (fun p hp => List.all_eq_true.1 hfr p hp) (fun p hp => List.all_eq_true.1 hL2 p hp) h hstay
    (fun x L1' hR => runC_sound rest _ [] hr (k x L1' hR))

def boxAt : Res → Option Nat
  | .box b _ _ => some b
  | _ => none
attribute [simp] boxAt
theorem AOps.effD {ops : Array Oper} {o : Oper} {rest : List Oper} {c : Call} {f : FuncId} {args : List V} {L1 L1' : Heap} {x : V} (hs : List Nat) (hop : o.op = .call c) (h : ACalls P f args L1 (fun r L => r = .ret x ∧ L = L1')) (hc : callee s.ev c = some (f, args)) (hg : o.guard = none)
    (hd : ∀ d, o.dst = some d → d < n) (hr : dstsOk n rest = true) (he : enters P f = true) (hL : s.L.filter (fun p => hs.contains p.1) = L1)
    (ho : V.ons (keys L1) args = true ∧ L1.all (fun p => Res.on (keys L1) p.2) = true ∧ L1.all (fun p => !isBox p.2 || L1'.any (fun q => q.1 == p.1 && (isBox q.2 && boxAt q.2 == boxAt p.2))) = true)
    (hfr : s.fr.all (fun p => V.on (keys (s.L.filter fun p => !hs.contains p.1) ++ keys (L1.filter fun p => isBox p.2)) p.2) = true)
    (hL2 : (s.L.filter fun p => !hs.contains p.1).all (fun p => Res.on (keys (s.L.filter fun p => !hs.contains p.1) ++ keys (L1.filter fun p => isBox p.2)) p.2) = true)
    (hk : (keys L1').all (fun k => !(keys (s.L.filter fun p => !hs.contains p.1)).contains k) = true)
    (k : ∀ bs, runC P ops rest (St.put { s with L := L1' ++ s.L.filter fun p => !hs.contains p.1 } o.dst x) bs [] (KK P n ops Q)) : AOps P n ops (o :: rest) s Q := by
  have hbx : (L1.filterMap fun p => match p.2 with | .box (_ + 1) _ _ => some p.1 | _ => none) = keys (L1.filter fun p => isBox p.2) := by
    generalize L1 = l
    induction l with
    | nil => rfl
    | cons p l ih =>
      obtain ⟨a, r⟩ := p
      cases r with
      | box b ty cs =>
        cases b with
        | succ b => simp only [List.filterMap_cons, List.filter_cons, isBox, if_true, keys, List.map_cons, ih]
        | zero =>
          simp only [List.filterMap_cons, List.filter_cons, isBox, ih]
          simp
      | row ty k xs =>
        simp only [List.filterMap_cons, List.filter_cons, isBox, ih]
        simp
  refine AOps.effC hs hop h hc hg hd hr he hL ho.1 ho.2.1 (by rw [hbx]; exact hfr) (by rw [hbx]; exact hL2) ?_ ?_
  · rintro r L1'' ⟨rfl, rfl⟩
    refine ⟨⟨_, rfl⟩, fun k hk' => ?_, fun k b ty cs hm => ?_⟩
    · have := List.all_eq_true.1 hk k hk'
      simpa using this
    · have := List.all_eq_true.1 ho.2.2 _ hm
      simp only [isBox, Bool.not_true, Bool.false_or, List.any_eq_true, Bool.and_eq_true, beq_iff_eq] at this
      obtain ⟨⟨a, r⟩, h1, h2, h3, h4⟩ := this
      simp only at h2
      subst h2
      cases r with
      | box b' ty' cs' =>
        simp only [boxAt, Option.some.injEq] at h4
        subst h4
        exact ⟨ty', cs', h1⟩
      | row _ _ _ => simp at h3
  · rintro x' L1'' ⟨e, rfl⟩
    obtain rfl := AE.ret.inj e
    exact k

/-! ### Loops -/

def upF (fr : List (Nat × V)) (ov : List (Nat × V)) : List (Nat × V) := fr.map fun p => (p.1, (ov.lookup p.1).getD p.2)
def upL (L : Heap) (ov : List (Nat × Res)) : Heap := L.map fun p => (p.1, (ov.lookup p.1).getD p.2)
def St.up (s : St) (F : List (Nat × V)) (R : List (Nat × Res)) : St := ⟨upF s.fr F, upL s.L R⟩

/-- What is asked at the end of round i of a loop. -/
def LoopS (ts hs : List Nat) (S : Nat → St) (N : Nat) (H : Nat → Prop) (i : Nat) (s : St) : Prop := (s.pick ts hs).on (keys (s.pick ts hs).L) = true ∧ i < N ∧ s.pick ts hs = S (i + 1) ∧ H (i + 1)

/-- A loop of at most N rounds: ts are the slots that are kept; F i and R i are the slots and resources that have changed before round i; H i is what else is known there. -/
theorem AWP.loopS {c : Code} {ks : List KI} (ts : List Nat) (N : Nat) (F : Nat → List (Nat × V)) (R : Nat → List (Nat × Res)) (H : Nat → Prop) (ht : ts.all (fun t => decide (t < n)) = true)
    (h0 : (keys s.L).Nodup ∧ (s.pick ts (keys s.L)).on (keys (s.pick ts (keys s.L)).L) = true ∧ s.pick ts (keys s.L) = (s.pick ts (keys s.L)).up (F 0) (R 0) ∧ H 0)
    (round : ∀ i, i ≤ N → H i → codeK P n c ((s.pick ts (keys s.L)).up (F i) (R i)) (kontK P n Q (.inv (LoopS ts (keys s.L) (fun i => (s.pick ts (keys s.L)).up (F i) (R i)) N H i) :: ks))) :
    AWP P n (.loop c) s (kontK P n Q ks) := by
  obtain ⟨h1, h2, h3, h4⟩ := h0
  refine AWP.weaken (Wk.pick ts (keys s.L) ht h1 h2) (AWP.loop (fun k st => ∃ i, k = N - i ∧ i ≤ N ∧ H i ∧ st = (s.pick ts (keys s.L)).up (F i) (R i)) ⟨N, 0, rfl, Nat.zero_le _, h4, h3⟩ ?_)
  rintro k st ⟨i, rfl, hi, hH, rfl⟩
  refine AWP.mono (codeK_sound _ _ _ (round i hi hH)) (fun x s' h => ?_)
  cases x with
  | normal =>
    obtain ⟨a1, a2, a3, a4⟩ := h
    exact ⟨N - (i + 1), by omega, _, Wk.pick ts (keys s.L) ht h1 a1, i + 1, rfl, by omega, a4, a3⟩
  | _ => exact h

/-- The places of these boxes are forgotten. -/
def Res.rlx : Res → Res
  | .box _ ty cs => .box 0 ty cs
  | r => r
def St.rlx (rs : List Nat) (s : St) : St := ⟨s.fr, s.L.map fun p => (p.1, if rs.contains p.1 then p.2.rlx else p.2)⟩
theorem Wk.rlx (rs : List Nat) : Wk n s (s.rlx rs) := by
  intro fo m a w g
  have hi := g.inv
  have hk : keys (St.rlx rs s).L = keys s.L := by simp [keys, St.rlx, Function.comp_def]
  refine ⟨m, ⟨g.size, g.fr, ⟨by rw [hk]; exact hi.nodup, fun h x hx => by rw [hk]; exact hi.dom h x hx, hi.apart, hi.others, hi.folt, ?_⟩, g.defers⟩, Step.refl w _⟩
  intro h r hr
  obtain ⟨p, hp, he⟩ := List.mem_map.1 hr
  simp only [Prod.mk.injEq] at he
  obtain ⟨rfl, rfl⟩ := he
  obtain ⟨x, hx, hh⟩ := hi.holds p.1 p.2 hp
  refine ⟨x, hx, ?_⟩
  split
  · generalize p.2 = q at hh
    cases q with
    | row ty k xs => exact hh
    | box b ty cs =>
      obtain ⟨bb, _, h1⟩ := hh
      exact ⟨bb, .inl rfl, h1⟩
  · exact hh

/-- As 'loopS', but the boxes rs may be other ones in each round. -/
def LoopR (rs ts hs : List Nat) (S : Nat → St) (N : Nat) (H : Nat → Prop) (i : Nat) (s : St) : Prop := (s.pick ts hs).on (keys (s.pick ts hs).L) = true ∧ i < N ∧ (s.pick ts hs).rlx rs = S (i + 1) ∧ H (i + 1)

theorem AWP.loopR {c : Code} {ks : List KI} (ts : List Nat) (rs : List Nat) (N : Nat) (F : Nat → List (Nat × V)) (R : Nat → List (Nat × Res)) (H : Nat → Prop) (ht : ts.all (fun t => decide (t < n)) = true)
    (h0 : (keys s.L).Nodup ∧ (s.pick ts (keys s.L)).on (keys (s.pick ts (keys s.L)).L) = true ∧ (s.pick ts (keys s.L)).rlx rs = ((s.pick ts (keys s.L)).rlx rs).up (F 0) (R 0) ∧ H 0)
    (round : ∀ i, i ≤ N → H i → ∀ bs, codeK P n c ((((s.pick ts (keys s.L)).rlx rs).up (F i) (R i)).opn bs) (kontK P n Q (.inv (LoopR rs ts (keys s.L) (fun i => ((s.pick ts (keys s.L)).rlx rs).up (F i) (R i)) N H i) :: ks))) :
    AWP P n (.loop c) s (kontK P n Q ks) := by
  obtain ⟨h1, h2, h3, h4⟩ := h0
  refine AWP.weaken ((Wk.pick ts (keys s.L) ht h1 h2).trans (Wk.rlx rs)) (AWP.loop (fun k st => ∃ i, k = N - i ∧ i ≤ N ∧ H i ∧ st = ((s.pick ts (keys s.L)).rlx rs).up (F i) (R i)) ⟨N, 0, rfl, Nat.zero_le _, h4, h3⟩ ?_)
  rintro k st ⟨i, rfl, hi, hH, rfl⟩
  intro fo m a w g
  obtain ⟨bs, g2⟩ := g.opn
  refine AWP.mono (codeK_sound _ _ _ (round i hi hH bs)) (fun x s' h => ?_) fo m a w g2
  cases x with
  | normal =>
    obtain ⟨a1, a2, a3, a4⟩ := h
    exact ⟨N - (i + 1), by omega, _, (Wk.pick ts (keys s.L) ht h1 a1).trans (Wk.rlx rs), i + 1, rfl, by omega, a4, a3⟩
  | _ => exact h

attribute [simp] Res.rlx St.rlx LoopR
/-- What is asked at the end of round i of a loop, where the states are said in full. -/
def LoopW (n : Nat) (S : Nat → St) (N : Nat) (H : Nat → Prop) (i : Nat) (s : St) : Prop := i < N ∧ H (i + 1) ∧ Wk n s (S (i + 1))
theorem AWP.loopW {c : Code} {ks : List KI} (N : Nat) (S : Nat → St) (H : Nat → Prop) (h0 : H 0 ∧ Wk n s (S 0))
    (round : ∀ i, i ≤ N → H i → codeK P n c (S i) (kontK P n Q (.inv (LoopW n S N H i) :: ks))) : AWP P n (.loop c) s (kontK P n Q ks) := by
  refine AWP.weaken h0.2 (AWP.loop (fun k st => ∃ i, k = N - i ∧ i ≤ N ∧ H i ∧ st = S i) ⟨N, 0, rfl, Nat.zero_le _, h0.1, rfl⟩ ?_)
  rintro k st ⟨i, rfl, hi, hH, rfl⟩
  refine AWP.mono (codeK_sound _ _ _ (round i hi hH)) (fun x s' h => ?_)
  cases x with
  | normal =>
    obtain ⟨a1, a2, a3⟩ := h
    exact ⟨N - (i + 1), by omega, _, a3, i + 1, rfl, by omega, a2, rfl⟩
  | _ => exact h

attribute [simp] upF upL St.up LoopS LoopW
@[simp] theorem dd_getElem (ys : List (List D)) (i : Nat) (h : i < (dd ys).length) : (dd ys)[i]'h = (ys[i]'(by simpa using h)).map V.d := by simp [dd]
@[simp] theorem encB_getElem (l : List Bool) (i : Nat) (h : i < (encB l).length) : (encB l)[i]'h = [.v (.bool (l[i]'(by simpa using h)))] := by simp [encB]
@[simp] theorem encS_getElem (l : List ByteArray) (i : Nat) (h : i < (encS l).length) : (encS l)[i]'h = [.v (.string (l[i]'(by simpa using h)))] := by simp [encS]
@[simp] theorem encI_getElem (l : List Int) (i : Nat) (h : i < (encI l).length) : (encI l)[i]'h = [.v (.int .i64 (l[i]'(by simpa using h)))] := by simp [encI]
end
end Go.Ab

/-
  The engine, part Lp: a loop that goes through a list.
-/
set_option linter.unusedSimpArgs false
set_option linter.unusedVariables false
namespace Go.Ab

section
variable {P : Program} {n : Nat} {s : St} {Q : AX → St → Prop} {L : Heap}

/-- What is asked at the end of the round of x, behind those of pre. -/
def LoopL {α : Type} (ts hs : List Nat) (S : List α → St) (H : List α → Prop) (pre : List α) (x : α) (s : St) : Prop := (s.pick ts hs).on (keys (s.pick ts hs).L) = true ∧ s.pick ts hs = S (pre ++ [x]) ∧ H (pre ++ [x])

/-- A loop with a round for each of l: ts are the slots that are kept; F pre and R pre are the slots and resources that have changed behind the rounds of pre; H pre is what else is known there. -/
theorem AWP.loopL {α : Type} {c : Code} {ks : List KI} (ts : List Nat) (l : List α) (F : List α → List (Nat × V)) (R : List α → List (Nat × Res)) (H : List α → Prop) (ht : ts.all (fun t => decide (t < n)) = true) (hl : l.length ≤ 1000000000000000)
    (h0 : (keys s.L).Nodup ∧ (s.pick ts (keys s.L)).on (keys (s.pick ts (keys s.L)).L) = true ∧ s.pick ts (keys s.L) = (s.pick ts (keys s.L)).up (F []) (R []) ∧ H [])
    (round : ∀ pre x post, l = pre ++ x :: post → H pre → (hlt : pre.length < l.length) → l[pre.length] = x → inR .i64 ((pre.length : Int) + 1) →
      codeK P n c ((s.pick ts (keys s.L)).up (F pre) (R pre)) (kontK P n Q (.inv (LoopL ts (keys s.L) (fun l => (s.pick ts (keys s.L)).up (F l) (R l)) H pre x) :: ks)))
    (last : H l → codeK P n c ((s.pick ts (keys s.L)).up (F l) (R l)) (kontK P n Q (.inv (fun _ => False) :: ks))) :
    AWP P n (.loop c) s (kontK P n Q ks) := by
  obtain ⟨h1, h2, h3, h4⟩ := h0
  refine AWP.weaken (Wk.pick ts (keys s.L) ht h1 h2) (AWP.loop (fun k st => ∃ pre post, l = pre ++ post ∧ k = post.length ∧ H pre ∧ st = (s.pick ts (keys s.L)).up (F pre) (R pre)) ⟨l.length, [], l, rfl, rfl, h4, h3⟩ ?_)
  rintro k st ⟨pre, post, hsp, rfl, hH, rfl⟩
  match post, hsp with
  | x :: post, hsp =>
    refine AWP.mono (codeK_sound _ _ _ (round pre x post hsp hH (by rw [hsp]; simp) (by simp [hsp]) (by rw [inR_i64]; rw [hsp] at hl; simp at hl; omega))) (fun y s' h => ?_)
    cases y with
    | normal =>
      obtain ⟨a1, a2, a3⟩ := h
      exact ⟨post.length, by simp, _, Wk.pick ts (keys s.L) ht h1 a1, pre ++ [x], post, by simp [hsp], rfl, a3, a2⟩
    | _ => exact h
  | [], hsp =>
    rw [List.append_nil] at hsp
    subst hsp
    refine AWP.mono (codeK_sound _ _ _ (last hH)) (fun y s' h => ?_)
    cases y with
    | normal => exact h.elim
    | _ => exact h

end
attribute [simp] LoopL
end Go.Ab

/-
  The engine, part Wr: a list of operations, stopped within; sums and differences that may wrap.
-/
set_option linter.unusedSimpArgs false
set_option linter.unusedVariables false
namespace Go.Ab

section
variable {P : Program} {n : Nat} {s : St} {Q : AX → St → Prop} {ops : Array Oper}

theorem Oper.upon_mono {o : Oper} {a : Act} {next next' : Act → World → Prop} {Q1 Q2 : Exit → Act → World → Prop} (hn : ∀ a w, next a w → next' a w) (he : ∀ e a w, e ≠ .normal → Q1 e a w → Q2 e a w) {r : Result Next} (h : o.upon P a next Q1 r) : o.upon P a next' Q2 r := by
  unfold Oper.upon at h ⊢
  split at h
  · exact hn _ _ h
  · exact hn _ _ h
  · exact hn _ _ h
  · refine h.mono ?_
    rintro e w' hh
    cases e with
    | returned v => exact hn _ _ hh
    | panicked ch => exact he _ _ _ (by simp) hh
    | outgrown =>
      obtain ⟨a0, w0, hq⟩ := hh
      exact ⟨a0, w0, he _ _ _ (by simp) hq⟩
  · exact h.mono fun v w' hh => hn _ _ hh
  · exact he _ _ _ (by simp) h
  · exact h.elim

theorem wpList_app {Q1 Q2 : Exit → Act → World → Prop} {l2 : List Oper} (hn : ∀ a w, Q1 .normal a w → wpList P ops Q2 l2 a w) (he : ∀ e a w, e ≠ .normal → Q1 e a w → Q2 e a w) :
    ∀ (l1 : List Oper) (a : Act) (w : World), wpList P ops Q1 l1 a w → wpList P ops Q2 (l1 ++ l2) a w
  | [], a, w, h => hn a w h
  | o :: l1, a, w, h => by
    rw [List.cons_append]
    unfold wpList at h ⊢
    split
    · rename_i hw
      rw [if_pos hw] at h
      rcases h with h | ⟨h1, a0, w0, h2⟩
      · exact .inl (Oper.upon_mono (fun a w => wpList_app hn he l1 a w) he h)
      · exact .inr ⟨h1, a0, w0, he _ _ _ (by simp) h2⟩
    · rename_i hw
      rw [if_neg hw] at h
      exact wpList_app hn he l1 _ _ h

theorem AOps.app {l1 l2 : List Oper} (h : AOps P n ops l1 s (AX.then (fun s' => AOps P n ops l2 s' Q) Q)) : AOps P n ops (l1 ++ l2) s Q := by
  intro fo m0 w0 m a w st g
  refine wpList_app (fun a1 w1 h1 => ?_) (fun e a1 w1 hne h1 => ?_) l1 a w (h fo m0 w0 m a w st g)
  · obtain ⟨m', x, s', hq, g', hx, st'⟩ := h1
    cases x <;> simp only [Exits] at hx
    exact hq fo m0 w0 m' a1 w1 st' g'
  · obtain ⟨m', x, s', hq, g', hx, st'⟩ := h1
    refine ⟨m', x, s', ?_, g', hx, st'⟩
    cases x with
    | normal => cases e <;> simp only [Exits] at hx; exact (hne rfl).elim
    | _ => exact hq

/-- The first k operations are run; then it is gone on with by hand. -/
theorem AOps.stop {l : List Oper} (k : Nat) (us : List V) (hd : dstsOk n (l.take k) = true) (h : ∀ bs, runC P ops (l.take k) s bs us (KK P n ops (AX.then (fun s' => AOps P n ops (l.drop k) s' Q) Q))) : AOps P n ops l s Q := by
  rw [← List.take_append_drop k l]
  exact AOps.app (runC_sound _ _ us hd h)

theorem AWP.regionS {id : Nat} {l : List Oper} (h : AOps P n l.toArray l s Q) : AWP P n (.region id l.toArray false) s Q :=
  fun fo m a w g => wp_region_toList (by simpa using h fo m w m a w (Step.refl _ _) g)

/-- A difference that may wrap, under a guard that is known. -/
theorem AOps.subG {o : Oper} {rest : List Oper} {g : Bool} {t : TypeId} {xo yo : Operand} {ty : TypeId} {a b : Int} (hop : o.op = .binOp .sub t xo yo ty) (hgd : guardV ops s o = some (some g)) (hd : ∀ d, o.dst = some d → d < n)
    (hx : (s.ev xo).un = .d (.v (.int .i64 a)) ∧ (s.ev yo).un = .d (.v (.int .i64 b))) (hu : g = true → uncs s o.op.operands.toList)
    (k : AOps P n ops rest (s.put o.dst (.gd g (.d (.v (.int .i64 (IntKind.i64.wrap (a - b))))))) Q) : AOps P n ops (o :: rest) s Q := by
  refine AOps.guarded hgd hd (fun hg => ⟨fun z => (s.ev z).un, fun z hz w O m v hr => un_rel hr (uncs_mem (hu hg) z (by simpa using hz)), ?_⟩) k
  intro fo m ρ w hi hr
  have h1 := hr xo (by rw [hop]; simp [Op.operands])
  have h2 := hr yo (by rw [hop]; simp [Op.operands])
  simp only [hx.1] at h1
  simp only [hx.2] at h2
  have e1 := h1.v_inv
  have e2 := h2.v_inv
  refine ⟨.int .i64 (IntKind.i64.wrap (a - b)), ?_, .d _ _ (.v _ rfl)⟩
  simp [execOp, hop, e1, e2, eqGuard, binOp, Op.intArith]
/-- The call that comes next, under a guard. -/
theorem AOps.pureG {o : Oper} {rest : List Oper} {c : Call} {f : FuncId} {args : List V} {x : V} {g : Bool} (hop : o.op = .call c) (h : g = true → Pure P f args x) (hc : callee (fun z => (s.ev z).un) c = some (f, args)) (hgd : guardV ops s o = some (some g)) (hu : g = true → uncs s o.op.operands.toList)
    (hd : ∀ d, o.dst = some d → d < n) (hr : dstsOk n rest = true) (k : ∀ bs, runC P ops rest (s.put o.dst (.gd g x)) bs [] (KK P n ops Q)) : AOps P n ops (o :: rest) s Q :=
  AOps.guardedT hgd hd (fun hg => ⟨fun z => (s.ev z).un, fun z hz w O m v hr => un_rel hr (uncs_mem (hu hg) z (by simpa using hz)), OpT.call hop hc (h hg).en (h hg).on (h hg).rn (h hg).calls⟩) (runC_sound rest _ [] hr k)
theorem AWP.seqK {x y : Code} (h : codeK P n x s (kontK P n (AX.then (fun s' => AWP P n y s' Q) Q) [])) : AWP P n (.seq x y) s Q := AWP.seq (codeK_sound _ _ _ h)
theorem Pure.runA {f : FuncId} {args : List V} {x : V} {fn : Func} {c : Code} (hf : P.funcs[f]? = some fn) (hb : fn.body = some c) (hs : args.length ≤ fn.ntmps ∧ enters P f = true ∧ V.ons [] args = true ∧ x.on [] = true)
    (h : AWP P fn.ntmps c ⟨argFrame 0 args, []⟩ (kontK P fn.ntmps (FPost P fn.results.toList (fun r L' => ∃ y, r = .ret y ∧ y.fz L' = x)) [])) : Pure P f args x :=
  ⟨hs.2.1, hs.2.2.1, hs.2.2.2, (ACalls.data (ACalls.of_AWP hf hb hs.1 h) hs.2.2.2).mono fun _ _ h => h.1⟩
end
end Go.Ab

/-
  The engine, part Fam: a row of slices, each of which is owned: the handles b, b + 1, ..
-/
set_option linter.unusedSimpArgs false
set_option linter.unusedVariables false
namespace Go.Ab

/-- n rows of data, under the handles b, b + 1, .. -/
def famd (b n : Nat) (ty : TypeId) (k : Nat) (A : Nat → List (List D)) : Heap := (List.range n).map fun i => (i + b, .row ty k (dd (A i)))
/-- the row of these handles -/
def hrow (b n : Nat) : List (List V) := (List.range n).map fun i => [.rv (i + b)]
def famKeys (b n : Nat) : List Nat := (List.range n).map fun i => i + b

section
variable {P : Program} {n : Nat} {s : St} {Q : AX → St → Prop} {L : Heap} {b N : Nat} {ty : TypeId} {k : Nat} {A : Nat → List (List D)}

theorem famd_lookup_none {h : Nat} : ∀ (l : List Nat), (∀ i ∈ l, i + b ≠ h) → List.lookup h (l.map fun i => (i + b, Res.row ty k (dd (A i)))) = none
  | [], _ => rfl
  | i :: l, hn => by
    have h1 : (h == i + b) = false := by simpa using fun e => hn i List.mem_cons_self e.symm
    simp only [List.map_cons, List.lookup, h1]
    exact famd_lookup_none l fun j hj => hn j (List.mem_cons_of_mem _ hj)
theorem famd_lookup_some {i : Nat} : ∀ (l : List Nat), i ∈ l → List.lookup (i + b) (l.map fun i => (i + b, Res.row ty k (dd (A i)))) = some (.row ty k (dd (A i)))
  | [], h => by cases h
  | j :: l, h => by
    by_cases e : j = i
    · subst e; simp [List.lookup]
    · have h1 : (i + b == j + b) = false := by simp; omega
      simp only [List.map_cons, List.lookup, h1]
      exact famd_lookup_some l ((List.mem_cons.1 h).resolve_left fun e' => e e'.symm)

@[simp] theorem famd_get (i : Nat) : List.lookup (i + b) (famd b N ty k A) = if i < N then some (.row ty k (dd (A i))) else none := by
  unfold famd
  split
  · exact famd_lookup_some _ (by simpa using ‹i < N›)
  · exact famd_lookup_none _ (by intro j hj; simp at hj; omega)
theorem famd_other {h : Nat} (hh : h < b) : List.lookup h (famd b N ty k A) = none := by
  unfold famd
  exact famd_lookup_none _ (by intro j hj; omega)
@[simp] theorem famd_keys : keys (famd b N ty k A) = famKeys b N := by simp [keys, famd, famKeys, Function.comp_def]
@[simp] theorem famd_keys' : List.map (·.1) (famd b N ty k A) = famKeys b N := by simp [famd, famKeys, Function.comp_def]
@[simp] theorem famKeys_mem (x : Nat) : x ∈ famKeys b N ↔ b ≤ x ∧ x < N + b := by
  unfold famKeys
  simp only [List.mem_map, List.mem_range]
  constructor
  · rintro ⟨i, h, rfl⟩; omega
  · rintro ⟨h1, h2⟩; exact ⟨x - b, by omega, by omega⟩
@[simp] theorem famKeys_contains (x : Nat) : (famKeys b N).contains x = (decide (b ≤ x) && decide (x < N + b)) := by
  rw [Bool.eq_iff_iff]; simp
theorem famKeys_nodup : (famKeys b N).Nodup := by
  unfold famKeys
  refine List.Pairwise.map _ (fun a b' h e => h ?_) List.nodup_range
  omega
@[simp] theorem famd_kill (h : Nat) : (famd b N ty k A).map (fun p => (p.1, p.2.kill h)) = famd b N ty k A := by
  unfold famd
  rw [List.map_map]
  apply List.map_congr_left
  intro i _
  simp [Res.kill, kill_dd]
@[simp] theorem famd_on (ks : List Nat) : (famd b N ty k A).all (fun p => Res.on ks p.2) = true := by
  simp [famd, List.all_map, Function.comp_def, Res.on, on_dd]
theorem famd_upd (i : Nat) (ys : List (List D)) : Heap.upd (famd b N ty k A) (i + b) (.row ty k (dd ys)) = famd b N ty k (fun j => if j = i then ys else A j) := by
  unfold famd Heap.upd
  rw [List.map_map]
  apply List.map_congr_left
  intro j _
  by_cases e : j = i
  · subst e; simp
  · have : ¬ j + b = i + b := by omega
    simp [this, e]
theorem famd_upd_other (h : Nat) (r : Res) (hh : h < b) : Heap.upd (famd b N ty k A) h r = famd b N ty k A := by
  unfold famd Heap.upd
  rw [List.map_map]
  apply List.map_congr_left
  intro j _
  have : ¬ j + b = h := by omega
  simp [this]
@[simp] theorem hrow_length : (hrow b N).length = N := by simp [hrow]
@[simp] theorem hrow_get (i : Nat) : (hrow b N)[i]? = if i < N then some [.rv (i + b)] else none := by
  unfold hrow
  rw [List.getElem?_map]
  split
  · rename_i h; simp [h]
  · rename_i h; rw [List.getElem?_eq_none (by simpa using h)]; rfl
theorem hrow_set_kill (i : Nat) : ((hrow b N).map (V.kills (i + b))).set i [.rv (i + b)] = hrow b N := by
  apply List.ext_getElem?
  intro j
  rw [List.getElem?_set]
  split
  · rename_i h
    subst h
    simp only [List.length_map, hrow_length]
    split
    · rename_i h; rw [hrow_get, if_pos h]
    · rename_i h; rw [hrow_get, if_neg h]
  · rename_i h
    rw [List.getElem?_map, hrow_get]
    split
    · have : ¬ j + b = i + b := by omega
      simp only [Option.map_some, V.kills, V.kill, if_neg this]
    · rfl
theorem hrow_on (ks : List Nat) (h : ∀ i, i < N → i + b ∈ ks) : (hrow b N).all (V.ons ks) = true := by
  simp only [hrow, List.all_map, List.all_eq_true, List.mem_range, Function.comp_def, V.ons, V.on, Bool.and_true]
  intro i hi
  simpa using h i hi

/-- Slices that are all nil, in an owned row: each is owned. -/
theorem Wk.famOwn (h b : Nat) {ty e : TypeId} {k kk N : Nat} {L1 : Heap} (hL : s.L = (h, .row ty k (List.replicate N [.d (.v (.slice none 0 0))])) :: L1) (hb : ∀ x ∈ keys s.L, x < b) :
    Wk n s ⟨s.fr, (h, .row ty k (hrow b N)) :: L1 ++ famd b N e kk (fun _ => [])⟩ := by
  intro fo m a w g
  obtain ⟨fr, L⟩ := s
  simp only at hL
  subst hL
  have hi := g.inv
  let m' : Nat → Option Value := fun i => if b ≤ i ∧ i < N + b then some (.slice none 0 0) else m i
  have hno : ∀ i, b ≤ i → m i = none := fun i hi' => not_key hi (fun hk => by have := hb i hk; omega)
  have hsub : ∀ i x, m i = some x → m' i = some x := by
    intro i x hx
    have : ¬ (b ≤ i ∧ i < N + b) := fun e => by rw [hno i e.1] at hx; cases hx
    simp only [m', if_neg this]; exact hx
  have hinv : ∀ i x bb, m' i = some x → blk x = some bb → m i = some x := by
    intro i x bb hx hbb
    by_cases e : b ≤ i ∧ i < N + b
    · simp only [m', if_pos e, Option.some.injEq] at hx; subst hx; simp [blk] at hbb
    · simpa only [m', if_neg e] using hx
  have hown : ∀ bb, Go.Ab.own m' bb ↔ Go.Ab.own m bb := by
    intro bb
    constructor
    · rintro ⟨i, x, hx, hbb⟩; exact ⟨i, x, hinv i x bb hx hbb, hbb⟩
    · rintro ⟨i, x, hx, hbb⟩; exact ⟨i, x, hsub i x hx, hbb⟩
  have hOO : ∀ bb, OO fo m' bb → OO fo m bb := fun bb hh => hh.imp (hown bb).1 id
  have mono : ∀ {v x}, RelV w (OO fo m) m v x → RelV w (OO fo m') m' v x := fun hr => hr.mono (Keep.refl w _) (fun bb _ hh => hOO bb hh) hsub
  refine ⟨m', ⟨g.size, fun t x hx => ⟨(g.fr t x hx).1, mono (g.fr t x hx).2⟩, ?_, g.defers⟩, Step.refl w _ |>.trans ⟨rfl, rfl, rfl, Nat.le_refl _, fun _ _ _ => rfl, fun bb _ hh => (hown bb).1 hh⟩⟩
  have hkey : keys ((h, Res.row ty k (hrow b N)) :: L1 ++ famd b N e kk (fun _ => [])) = (h :: keys L1) ++ famKeys b N := by
    have := famd_keys (b := b) (N := N) (ty := e) (k := kk) (A := fun _ => [])
    simp only [keys, List.map_append, List.map_cons] at this ⊢
    rw [this]
  refine ⟨?_, ?_, ?_, ?_, hi.folt, ?_⟩
  · rw [hkey, List.nodup_append]
    refine ⟨hi.nodup, famKeys_nodup, fun x hx y hy e => ?_⟩
    subst e
    have := hb x hx
    simp at hy
    omega
  · intro i x hx
    rw [hkey]
    by_cases e : b ≤ i ∧ i < N + b
    · exact List.mem_append_right _ (by simpa using e)
    · have : m i = some x := by simpa only [m', if_neg e] using hx
      exact List.mem_append_left _ (hi.dom i x this)
  · intro i j x y bb hx hy h1 h2
    exact hi.apart i j x y bb (hinv i x bb hx h1) (hinv j y bb hy h2) h1 h2
  · intro i x bb hx h1
    exact hi.others i x bb (hinv i x bb hx h1) h1
  · intro i r hr
    rcases List.mem_append.1 hr with hr | hr
    · rcases List.mem_cons.1 hr with hr | hr
      · simp only [Prod.mk.injEq] at hr
        obtain ⟨rfl, rfl⟩ := hr
        obtain ⟨x, hx, hh⟩ := hi.holds i _ List.mem_cons_self
        refine ⟨x, hsub i x hx, ?_⟩
        rcases hh with ⟨rfl, h2⟩ | ⟨bb, off, cap, cur, rfl, h2, h3, h4, h5, h6, h7, h8⟩
        · exact .inl ⟨rfl, by
            have : N = 0 := by simpa using congrArg List.length h2
            subst this; rfl⟩
        · refine .inr ⟨bb, off, cap, cur, by simp [hrow], h2, by simpa [hrow] using h3, h4, h5, ?_, h7, ?_⟩
          · intro j y hy
            have hj := h6 j
            rw [hrow_get] at hy
            split at hy
            · rename_i hlt
              simp only [Option.some.injEq] at hy
              subst hy
              have := hj _ (List.getElem?_replicate_of_lt hlt)
              simpa using this
            · cases hy
          · intro j l y z v hy hz hv
            rw [hrow_get] at hy
            split at hy
            · rename_i hlt
              simp only [Option.some.injEq] at hy
              subst hy
              cases l with
              | zero =>
                simp only [List.getElem?_cons_zero, Option.some.injEq] at hz
                subst hz
                have := h8 j 0 _ _ v (List.getElem?_replicate_of_lt hlt) rfl hv
                rw [this.bool_inv]
                refine .rv _ _ ?_ rfl
                simp only [m']
                rw [if_pos (by omega)]
              | succ l => simp at hz
            · cases hy
      · obtain ⟨x, hx, hh⟩ := hi.holds i r (List.mem_cons_of_mem _ hr)
        exact ⟨x, hsub i x hx, hh.mono (fun _ _ => rfl) (Keep.refl w _) (fun bb _ hh => hOO bb hh) hsub⟩
    · simp only [famd, List.mem_map, List.mem_range, Prod.mk.injEq] at hr
      obtain ⟨j, hj, rfl, rfl⟩ := hr
      refine ⟨.slice none 0 0, ?_, .inl ⟨rfl, rfl⟩⟩
      simp only [m']
      rw [if_pos (by omega)]

/-- A cell of a box that holds a nil slice: its row, empty, is owned. -/
theorem Wk.ownBox (c i h : Nat) {e k : Nat} {bk : Nat} {bt : TypeId} {cs : List V} (hl : s.L.lookup c = some (.box bk bt cs)) (hi : cs[i]? = some (.d (.v (.slice none 0 0)))) (hn : h ∉ keys s.L) :
    Wk n s ⟨s.fr, (h, .row e k []) :: Heap.upd s.L c (.box bk bt (cs.set i (.rv h)))⟩ := by
  intro fo m a w g
  obtain ⟨g', st⟩ := g.new (Grows.refl w) hn (x := .slice none 0 0) (r := .row e k []) (by intro b hb; simp [blk] at hb) (.inl ⟨rfl, rfl⟩)
  refine ⟨_, ⟨g'.size, g'.fr, ?_, g'.defers⟩, st⟩
  have hi' := g'.inv
  have hkey : keys ((h, Res.row e k []) :: Heap.upd s.L c (.box bk bt (cs.set i (.rv h)))) = keys ((h, Res.row e k []) :: s.L) := by
    have := keys_upd s.L c (.box bk bt (cs.set i (.rv h)))
    simp only [keys, List.map_cons] at this ⊢
    rw [this]
  have hmem := lookup_mem hl
  refine ⟨by rw [hkey]; exact hi'.nodup, fun j x hx => by rw [hkey]; exact hi'.dom j x hx, hi'.apart, hi'.others, hi'.folt, ?_⟩
  intro j r hr
  rcases List.mem_cons.1 hr with hr | hr
  · exact hi'.holds j r (by rw [hr]; exact List.mem_cons_self)
  · unfold Heap.upd at hr
    obtain ⟨p, hp, he⟩ := List.mem_map.1 hr
    split at he
    · rename_i hpc
      simp only [Prod.mk.injEq] at he
      obtain ⟨rfl, rfl⟩ := he
      obtain ⟨x, hx, hh⟩ := hi'.holds c _ (List.mem_cons_of_mem _ hmem)
      refine ⟨x, hx, ?_⟩
      obtain ⟨bb, hbb, cur, e1, e2, e3, e4, e5⟩ := hh
      refine ⟨bb, hbb, cur, e1, e2, by simpa using e3, e4, fun l v y hv hy => ?_⟩
      rw [List.getElem?_set] at hy
      split at hy
      · rename_i hil
        subst hil
        split at hy
        · simp only [Option.some.injEq] at hy
          subst hy
          have := e5 i v _ hv hi
          rw [this.bool_inv]
          exact .rv h _ (mset_same _ _) rfl
        · cases hy
      · exact e5 l v y hv hy
    · rw [he] at hp
      exact hi'.holds j r (List.mem_cons_of_mem _ hp)
@[simp] theorem encI_replicate (N : Nat) (v : Int) : List.replicate N [V.d (.v (.int .i64 v))] = dd (encI (List.replicate N v)) := by simp [dd, encI]

@[simp] theorem famd_mem (a : Nat) (r : Res) : (a, r) ∈ famd b N ty k A ↔ ∃ i, i < N ∧ i + b = a ∧ .row ty k (dd (A i)) = r := by
  simp [famd]
@[simp] theorem hrow_mem (x : List V) : x ∈ hrow b N ↔ ∃ i, i < N ∧ [.rv (i + b)] = x := by simp [hrow]
@[simp] theorem famd_map_upd (h : Nat) (r : Res) (hh : h < b) : List.map (fun p => if p.1 = h then (h, r) else p) (famd b N ty k A) = famd b N ty k A := famd_upd_other h r hh
@[simp] theorem famd_map_upd' (i : Nat) (ys : List (List D)) : List.map (fun p => if p.1 = i + b then (i + b, .row ty k (dd ys)) else p) (famd b N ty k A) = famd b N ty k (fun j => if j = i then ys else A j) := famd_upd i ys
@[simp] theorem hrow_getElem (i : Nat) (h : i < (hrow b N).length) : (hrow b N)[i]'h = [.rv (i + b)] := by simp [hrow]
theorem hrow_set_kill' (i : Nat) : ((hrow b N).map (V.kills (i + b))).set i [.rv (i + b)] = hrow b N := hrow_set_kill i
theorem famd_map {β : Type} (f : Nat × Res → β) : List.map f (famd b N ty k A) = (List.range N).map fun i => f (i + b, .row ty k (dd (A i))) := by
  simp [famd]
theorem famd_filter_no (f : Nat × Res → Bool) (h : ∀ i, f (i + b, .row ty k (dd (A i))) = false) : (famd b N ty k A).filter f = [] := by
  rw [List.filter_eq_nil_iff]
  rintro ⟨a, r⟩ hm
  obtain ⟨i, _, rfl, rfl⟩ := (famd_mem a r).1 hm
  simp [h i]
theorem famd_filter_all (f : Nat × Res → Bool) (h : ∀ i, f (i + b, .row ty k (dd (A i))) = true) : (famd b N ty k A).filter f = famd b N ty k A := by
  rw [List.filter_eq_self]
  rintro ⟨a, r⟩ hm
  obtain ⟨i, _, rfl, rfl⟩ := (famd_mem a r).1 hm
  exact h i
@[simp] theorem hrow_kill_other (h : Nat) (hh : h < b) : (hrow b N).map (V.kills h) = hrow b N := by
  unfold hrow
  rw [List.map_map]
  apply List.map_congr_left
  intro i _
  have : ¬ i + b = h := by omega
  simp [V.kills, V.kill, this]
theorem famd_eq : famd b N ty k A = (List.range N).map fun i => (i + b, .row ty k (dd (A i))) := rfl
@[simp] theorem famd_opn (bs : Nat → Nat) : (famd b N ty k A).map (fun p => (p.1, opnR bs p.1 p.2)) = famd b N ty k A := by
  simp [famd, Function.comp_def]
@[simp] theorem famd_rem (h : Nat) (hh : h < b) : remL h (famd b N ty k A) = famd b N ty k A := by
  rw [remL_eq, famd_filter_all _ (by intro i; simp; omega), famd_kill]
@[simp] theorem hrow_cellAt (i : Nat) (z : List V) (h : i < N) : cellAt (hrow b N) i 0 z = .rv (i + b) := by
  unfold cellAt
  rw [hrow_get, if_pos h]
  rfl

/-! ### A handle's new name -/
mutual
def V.ren (h g : Nat) : V → V
  | .bp i o => if i = h then .bp g o else .bp i o
  | .rv i => if i = h then .rv g else .rv i
  | .ep i k x y => if i = h then .ep g k x y else .ep i k x y
  | .clo fn f c => .clo fn (V.rens h g f) (V.rens h g c)
  | .agg cs => .agg (V.rens h g cs)
  | .tup cs => .tup (V.rens h g cs)
  | .gd b x => .gd b (V.ren h g x)
  | .d x => .d x
  | .rp cs => .rp cs
  | .any => .any
def V.rens (h g : Nat) : List V → List V
  | [] => []
  | x :: l => V.ren h g x :: V.rens h g l
end
theorem rens_eq (h g : Nat) : ∀ l : List V, V.rens h g l = l.map (V.ren h g)
  | [] => by simp [V.rens]
  | x :: l => by simp [V.rens, rens_eq h g l]
theorem rens_d (h g : Nat) (l : List D) : V.rens h g (l.map V.d) = l.map V.d := by
  rw [rens_eq, List.map_map]
  apply List.map_congr_left
  intro x _
  simp [V.ren]
def Res.ren (h g : Nat) : Res → Res
  | .box b ty cs => .box b ty (V.rens h g cs)
  | .row ty k xs => .row ty k (xs.map (V.rens h g))
theorem ren_dd (h g : Nat) (ys : List (List D)) : (dd ys).map (V.rens h g) = dd ys := by
  unfold dd
  rw [List.map_map]
  apply List.map_congr_left
  intro x _
  simp [rens_d]
def St.ren (h g : Nat) (s : St) : St := ⟨s.fr.map fun p => (p.1, p.2.ren h g), s.L.map fun p => (if p.1 = h then g else p.1, p.2.ren h g)⟩

theorem RelV.ren {w : World} {O : Nat → Prop} {m m' : Nat → Option Value} {h g : Nat} (hm : ∀ i x, i ≠ h → m i = some x → m' i = some x) (hg : ∀ x, m h = some x → m' g = some x) {x : Value} {y : V} (hr : RelV w O m x y) : RelV w O m' x (y.ren h g) := by
  induction hr with
  | d x y hd => simpa [V.ren] using RelV.d x y hd
  | bp i off b e =>
    simp only [V.ren]
    split
    · rename_i he; subst he; exact .bp g off b (hg _ e)
    · rename_i hne; exact .bp i off b (hm _ _ hne e)
  | rv i x e e1 =>
    simp only [V.ren]
    split
    · rename_i he; subst he; exact .rv g x (hg _ e) e1
    · rename_i hne; exact .rv i x (hm _ _ hne e) e1
  | ep i k p q b o n c e =>
    simp only [V.ren]
    split
    · rename_i he; subst he; exact .ep g k p q b o n c (hg _ e)
    · rename_i hne; exact .ep i k p q b o n c (hm _ _ hne e)
  | rp b off cs f hb hlt hc hr => simpa [V.ren] using RelV.rp b off cs f hb hlt hc hr
  | clo fn first caps cf cc s1 s2 h1 h2 ih1 ih2 =>
    simp only [V.ren, rens_eq]
    refine .clo fn first caps _ _ (by simpa using s1) (by simpa using s2) ?_ ?_
    · intro j x y hx hy
      rw [List.getElem?_map] at hy
      obtain ⟨z, hz, rfl⟩ := Option.map_eq_some_iff.1 hy
      exact ih1 j x z hx hz
    · intro j x y hx hy
      rw [List.getElem?_map] at hy
      obtain ⟨z, hz, rfl⟩ := Option.map_eq_some_iff.1 hy
      exact ih2 j x z hx hz
  | agg vs cs hs h1 h2 ih =>
    simp only [V.ren, rens_eq]
    refine .agg vs _ (by simpa using hs) h1 ?_
    intro j x y hx hy
    rw [List.getElem?_map] at hy
    obtain ⟨z, hz, rfl⟩ := Option.map_eq_some_iff.1 hy
    exact ih j x z hx hz
  | tup vs cs hs h2 ih =>
    simp only [V.ren, rens_eq]
    refine .tup vs _ (by simpa using hs) ?_
    intro j x y hx hy
    rw [List.getElem?_map] at hy
    obtain ⟨z, hz, rfl⟩ := Option.map_eq_some_iff.1 hy
    exact ih j x z hx hz
  | gt x y hr ih => simpa [V.ren] using RelV.gt x _ ih
  | gf y => simpa [V.ren] using RelV.gf (y.ren h g)
  | any x => simpa [V.ren] using RelV.any x

theorem Res.Holds.ren {w : World} {O : Nat → Prop} {m m' : Nat → Option Value} {h g : Nat} (hm : ∀ i x, i ≠ h → m i = some x → m' i = some x) (hg : ∀ x, m h = some x → m' g = some x) {x : Value} {r : Res} (hh : r.Holds w O m x) : (r.ren h g).Holds w O m' x := by
  cases r with
  | box b ty cs =>
    obtain ⟨bb, hbb, cur, rfl, h1, h2, h3, h4⟩ := hh
    simp only [Res.ren, rens_eq]
    refine ⟨bb, hbb, cur, rfl, h1, by simpa using h2, h3, fun j v c hv hc => ?_⟩
    rw [List.getElem?_map] at hc
    obtain ⟨z, hz, rfl⟩ := Option.map_eq_some_iff.1 hc
    exact (h4 j v z hv hz).ren hm hg
  | row ty k xs =>
    simp only [Res.ren]
    rcases hh with ⟨rfl, rfl⟩ | ⟨b, off, cap, cur, rfl, h1, h2, h3, h4, h5, h6, h7⟩
    · exact .inl ⟨rfl, rfl⟩
    · refine .inr ⟨b, off, cap, cur, by simp, h1, by simpa using h2, h3, h4, fun i x hx => ?_, h6, fun i j x y v hx hy hv => ?_⟩
      · rw [List.getElem?_map] at hx
        obtain ⟨z, hz, rfl⟩ := Option.map_eq_some_iff.1 hx
        rw [rens_eq, List.length_map]
        exact h5 i z hz
      · rw [List.getElem?_map] at hx
        obtain ⟨z, hz, rfl⟩ := Option.map_eq_some_iff.1 hx
        rw [rens_eq, List.getElem?_map] at hy
        obtain ⟨y', hy', rfl⟩ := Option.map_eq_some_iff.1 hy
        exact (h7 i j z y' v hz hy' hv).ren hm hg

/-- A handle is named anew. -/
theorem Wk.ren (h g : Nat) (hg : g ∉ keys s.L) : Wk n s (s.ren h g) := by
  classical
  intro fo m a w gg
  let m' : Nat → Option Value := fun i => if i = g then m h else if i = h then none else m i
  have hi := gg.inv
  have hgn : ∀ x, m g ≠ some x := fun x hx => hg (hi.dom g x hx)
  have hm : ∀ i x, i ≠ h → m i = some x → m' i = some x := by
    intro i x hne hx
    have : i ≠ g := fun e => hgn x (e ▸ hx)
    simp only [m', if_neg this, if_neg hne]; exact hx
  have hmg : ∀ x, m h = some x → m' g = some x := fun x hx => by simp only [m', if_pos]; exact hx
  have hm' : ∀ i x, m' i = some x → ∃ j, m j = some x ∧ i = (if j = h then g else j) := by
    intro i x hx
    by_cases e : i = g
    · simp only [m', if_pos e] at hx; exact ⟨h, hx, by simp [e]⟩
    · simp only [m', if_neg e] at hx
      by_cases e2 : i = h
      · simp only [if_pos e2] at hx; cases hx
      · simp only [if_neg e2] at hx; exact ⟨i, hx, by rw [if_neg e2]⟩
  have hown : ∀ b, Ab.own m' b ↔ Ab.own m b := by
    intro b
    constructor
    · rintro ⟨i, x, hx, hb⟩
      obtain ⟨j, hj, _⟩ := hm' i x hx
      exact ⟨j, x, hj, hb⟩
    · rintro ⟨i, x, hx, hb⟩
      by_cases e : i = h
      · subst e; exact ⟨g, x, hmg x hx, hb⟩
      · exact ⟨i, x, hm i x e hx, hb⟩
  have hO : ∀ b, b < w.heap.size → OO fo m' b → OO fo m b := fun b _ ho => ho.imp (hown b).1 id
  have hkey : ∀ i, i ∈ keys s.L → (if i = h then g else i) ∈ keys (s.ren h g).L := by
    intro i hi'
    obtain ⟨p, hp, rfl⟩ := List.mem_map.1 hi'
    exact List.mem_map.2 ⟨_, List.mem_map.2 ⟨p, hp, rfl⟩, rfl⟩
  refine ⟨m', ⟨gg.size, ?_, ?_, gg.defers⟩, ⟨rfl, rfl, rfl, Nat.le_refl _, fun _ _ _ => rfl, fun b _ ho => (hown b).1 ho⟩⟩
  · intro t x hx
    obtain ⟨p, hp, he⟩ := List.mem_map.1 hx
    simp only [Prod.mk.injEq] at he
    obtain ⟨rfl, rfl⟩ := he
    obtain ⟨h1, h2⟩ := gg.fr p.1 p.2 hp
    exact ⟨h1, (h2.ren hm hmg).mono (Keep.refl w _) hO (fun _ _ e => e)⟩
  · refine ⟨?_, ?_, ?_, ?_, hi.folt, ?_⟩
    · have : keys (s.ren h g).L = (keys s.L).map fun i => if i = h then g else i := by
        simp [keys, St.ren, Function.comp_def]
      rw [this]
      have hnd := hi.nodup
      unfold List.Nodup at hnd ⊢
      rw [List.pairwise_map]
      refine List.Pairwise.imp_of_mem (fun {a b} ha hb hab => ?_) hnd
      have h1 : a ≠ g := fun e => hg (e ▸ ha)
      have h2 : b ≠ g := fun e => hg (e ▸ hb)
      split <;> split
      · rename_i e1 e2; exact (hab (e1.trans e2.symm)).elim
      · exact fun e => h2 e.symm
      · exact h1
      · exact hab
    · intro i x hx
      obtain ⟨j, hj, rfl⟩ := hm' i x hx
      exact hkey j (hi.dom j x hj)
    · intro i j x y b hx hy hb hb'
      obtain ⟨i', hi1, rfl⟩ := hm' i x hx
      obtain ⟨j', hj1, rfl⟩ := hm' j y hy
      rw [hi.apart i' j' x y b hi1 hj1 hb hb']
    · intro i x b hx hb
      obtain ⟨j, hj, _⟩ := hm' i x hx
      exact hi.others j x b hj hb
    · intro i r hr
      obtain ⟨p, hp, he⟩ := List.mem_map.1 hr
      simp only [Prod.mk.injEq] at he
      obtain ⟨rfl, rfl⟩ := he
      obtain ⟨x, hx, hh⟩ := hi.holds p.1 p.2 hp
      refine ⟨x, ?_, (hh.ren hm hmg).mono (fun _ _ => rfl) (Keep.refl w _) hO (fun _ _ e => e)⟩
      split
      · rename_i e; rw [e] at hx; exact hmg x hx
      · rename_i e; exact hm _ x e hx
attribute [simp] V.ren V.rens Res.ren St.ren rens_d ren_dd

/-! ### Functions that are lent resources, and make others on their way -/
def EPost (P : Program) (rs : List ResultVar) (R : AE → Heap → Prop) (hs : List Nat) (x : AX) (s : St) : Prop :=
  match x with
  | .normal | .ret => (s.pick [] hs).on (keys (s.pick [] hs).L) = true ∧ FPost P rs R .ret (s.pick [] hs)
  | _ => False
theorem AWP.epost {P : Program} {c : Code} {rs : List ResultVar} {R : AE → Heap → Prop} (hs : List Nat) (hh : hs.Nodup) (h : AWP P n c s (EPost P rs R hs)) : AWP P n c s (FPost P rs R) := by
  intro fo m a w g
  refine Code.wp_mono (fun e a1 w1 hp => ?_) (h fo m a w g)
  obtain ⟨m', x, s', hq, g', he, st⟩ := hp
  have key : ∀ y, (s'.pick [] hs).on (keys (s'.pick [] hs).L) = true ∧ FPost P rs R .ret (s'.pick [] hs) → (∀ m2, Exits w1 (OO fo m2) m2 e y) → FPost P rs R .ret (s'.pick [] hs) = FPost P rs R y (s'.pick [] hs) → Post fo n m w (FPost P rs R) e a1 w1 := by
    intro y h1 h2 h3
    obtain ⟨m2, g2, st2⟩ := Wk.pick [] hs (by simp) hh h1.1 fo m' a1 w1 g'
    exact ⟨m2, y, s'.pick [] hs, h3 ▸ h1.2, g2, h2 m2, st.trans st2⟩
  cases x with
  | normal =>
    refine key .normal hq (fun m2 => ?_) rfl
    cases e <;> simp [Exits] at he ⊢
  | ret =>
    refine key .ret hq (fun m2 => ?_) rfl
    cases e <;> simp [Exits] at he ⊢
  | _ => exact hq.elim
theorem ACalls.runP {P : Program} (hs : List Nat) (hh : hs.Nodup) {f : FuncId} {args : List V} {R : AE → Heap → Prop} {fn : Func} {c : Code} (hf : P.funcs[f]? = some fn) (hb : fn.body = some c) (hn : args.length ≤ fn.ntmps)
    (h : codeK P fn.ntmps c ⟨argFrame 0 args, L⟩ (kontK P fn.ntmps (EPost P fn.results.toList R hs) [])) : ACalls P f args L R :=
  ACalls.of_AWP hf hb hn (AWP.epost hs hh (codeK_sound _ _ _ h))
attribute [simp] EPost
end
end Go.Ab

set_option linter.unusedSimpArgs false
set_option linter.unusedVariables false
namespace Go.Ab
open Go.Proofs

theorem Try.mixed : Try.prog.follows .mixedOrders = true := by kernel_rfl
@[simp] theorem GExpr.Args_mk (a b c : Int) (d : ByteArray) (l : List GExpr) : (GExpr.mk a b c d l).Args = l := rfl
@[simp] theorem GExpr.Kind_mk (a b c : Int) (d : ByteArray) (l : List GExpr) : (GExpr.mk a b c d l).Kind = a := rfl
@[simp] theorem GExpr.Op_mk (a b c : Int) (d : ByteArray) (l : List GExpr) : (GExpr.mk a b c d l).Op = b := rfl
@[simp] theorem GExpr.Num_mk (a b c : Int) (d : ByteArray) (l : List GExpr) : (GExpr.mk a b c d l).Num = c := rfl
@[simp] theorem GExpr.Name_mk (a b c : Int) (d : ByteArray) (l : List GExpr) : (GExpr.mk a b c d l).Name = d := rfl
theorem GExpr.eta (e : GExpr) : e = .mk e.Kind e.Op e.Num e.Name e.Args := by cases e; rfl
theorem GExpr.lt_of_mem {e x : GExpr} (h : x ∈ e.Args) : SizeOf.sizeOf x < SizeOf.sizeOf e := by
  cases e with
  | mk a b c d l =>
    have := List.sizeOf_lt_of_mem (show x ∈ l from h)
    simp only [GExpr.mk.sizeOf_spec]
    omega

/-! ### Few -/
mutual
def fewM : GExpr → Int → Int
  | .mk _ _ _ _ l, m => fewsM l (m - 1)
def fewsM : List GExpr → Int → Int
  | [], m => m
  | x :: l, m => if m < 0 then m else fewsM l (fewM x m)
end
theorem fewM_eq (e : GExpr) (m : Int) : fewM e m = fewsM e.Args (m - 1) := by cases e; rw [fewM]; rfl
theorem fewsM_neg (l : List GExpr) (m : Int) (h : m < 0) : fewsM l m = m := by
  cases l with
  | nil => rw [fewsM]
  | cons x l => rw [fewsM, if_pos h]
theorem fews_le : ∀ (n : Nat) (l : List GExpr), SizeOf.sizeOf l < n → ∀ m : Int, fewsM l m ≤ m ∧ (-1 ≤ m → -1 ≤ fewsM l m) := by
  intro n
  induction n with
  | zero => intro l h; omega
  | succ n ih =>
    intro l h m
    cases l with
    | nil => rw [fewsM]; omega
    | cons x l =>
      rw [fewsM]
      split
      · omega
      · rw [fewM_eq]
        have h1 := ih x.Args (by cases x; simp only [GExpr.Args_mk]; simp only [List.cons.sizeOf_spec, GExpr.mk.sizeOf_spec] at h; omega) (m - 1)
        have h2 := ih l (by simp only [List.cons.sizeOf_spec] at h; omega) (fewsM x.Args (m - 1))
        omega
theorem fewsM_le (l : List GExpr) (m : Int) : fewsM l m ≤ m := (fews_le _ l (Nat.lt_succ_self _) m).1
theorem fewsM_ge (l : List GExpr) (m : Int) (h : -1 ≤ m) : -1 ≤ fewsM l m := (fews_le _ l (Nat.lt_succ_self _) m).2 h
theorem fewM_ge (e : GExpr) (m : Int) (h : 0 ≤ m) : -1 ≤ fewM e m := by rw [fewM_eq]; exact fewsM_ge _ _ (by omega)
theorem fewM_le (e : GExpr) (m : Int) : fewM e m ≤ m - 1 := by rw [fewM_eq]; exact fewsM_le _ _
theorem fewsM_snoc (l : List GExpr) (x : GExpr) (m : Int) : fewsM (l ++ [x]) m = if fewsM l m < 0 then fewsM l m else fewM x (fewsM l m) := by
  induction l generalizing m with
  | nil => simp only [List.nil_append, fewsM]; rfl
  | cons y l ih =>
    simp only [List.cons_append, fewsM]
    split
    · rfl
    · rw [ih]
theorem fewsM_app (l r : List GExpr) (m : Int) : fewsM (l ++ r) m = fewsM r (fewsM l m) := by
  induction l generalizing m with
  | nil => simp only [List.nil_append, fewsM]
  | cons y l ih =>
    simp only [List.cons_append, fewsM]
    split
    · rw [fewsM_neg _ _ ‹_›]
    · rw [ih]

theorem refFew_ok (e : GExpr) (he : e.wf) (m : Int) (hm : 0 ≤ m ∧ m ≤ 1000000000000) : Pure Try.prog 26 [.agg (e.enc.map .d), .d (.v (.int .i64 m))] (.d (.v (.int .i64 (fewM e m)))) := by
  obtain ⟨n, hn⟩ : ∃ n, SizeOf.sizeOf e < n := ⟨_, Nat.lt_succ_self _⟩
  induction n generalizing e m with
  | zero => omega
  | succ n ih =>
    have hw := (GExpr.wf_iff e).1 he
    have hlen : e.Args.length ≤ 2199023255488 := by omega
    have hsub : ∀ (i : Nat) (h : i < e.Args.length) m, 0 ≤ m ∧ m ≤ 1000000000000 → Pure Try.prog 26 [.agg ((e.Args[i]).enc.map .d), .d (.v (.int .i64 m))] (.d (.v (.int .i64 (fewM (e.Args[i]) m)))) := fun i h m hm =>
      ih _ (hw.2.2.2.2.2 _ (List.getElem_mem h)) m hm (by have := GExpr.lt_of_mem (List.getElem_mem h); omega)
    rw [fewM_eq]
    refine Pure.run Try.func26 rfl (by simp [Try.f26]) ?_; simp [Try.f26]
    generalize e.Args = l at *
    intro bs
    refine ⟨by rw [inR_i64]; omega, ?_⟩
    refine AWP.loopS [1, 10, 11, 12] l.length (fun i => [(1, .d (.v (.int .i64 (fewsM (l.take i) (m - 1))))), (12, .d (.v (.int .i64 i)))]) (fun _ => []) (fun _ => True) (by rfl) (by simp [fewsM]) ?_
    intro i hi _
    rcases Nat.lt_or_eq_of_le hi with hlt | rfl
    · have hge : l[i]? = some l[i] := List.getElem?_eq_getElem hlt
      have htk : List.take (i + 1) l = List.take i l ++ [l[i]] := by rw [List.take_add_one, hge]; rfl
      have hS := hsub i hlt
      generalize hE : l[i] = x at *
      have hle := fewsM_le (l.take i) (m - 1)
      generalize hM : fewsM (l.take i) (m - 1) = k at *
      simp [hlt, hge, hE]
      intro bs2
      refine ⟨fun h => ?_, fun h => ?_⟩
      · rw [← List.take_append_drop i l, fewsM_app, hM, fewsM_neg _ _ h]
      · refine AOps.pureC rfl (hS k ⟨h, by omega⟩) (by simp) rfl (by simp) rfl ?_
        simp
        refine ⟨by rw [inR_i64]; omega, hlt, ?_⟩
        rw [htk, fewsM_snoc, hM, if_neg (by omega)]
    · simp
end Go.Ab

set_option linter.unusedSimpArgs false
set_option linter.unusedVariables false
namespace Go.Ab
open Go.Proofs

/-! ### Depth -/
mutual
def deepM : GExpr → Int → Int
  | .mk _ _ _ _ l, m => (if 1 < m then deepsM l (m - 1) 0 else 0) + 1
def deepsM : List GExpr → Int → Int → Int
  | [], _, n => n
  | x :: l, m, n => deepsM l m (if n < deepM x m then deepM x m else n)
end
theorem deepM_eq (e : GExpr) (m : Int) : deepM e m = (if 1 < m then deepsM e.Args (m - 1) 0 else 0) + 1 := by cases e; rw [deepM]; rfl
theorem deepsM_snoc (l : List GExpr) (x : GExpr) (m n : Int) : deepsM (l ++ [x]) m n = if deepsM l m n < deepM x m then deepM x m else deepsM l m n := by
  induction l generalizing n with
  | nil => simp only [List.nil_append, deepsM]; rfl
  | cons y l ih => simp only [List.cons_append, deepsM]; exact ih _
theorem deepM_le (e : GExpr) (m : Int) (hm : 1 ≤ m) : 1 ≤ deepM e m ∧ deepM e m ≤ m := by
  obtain ⟨n, hn⟩ : ∃ n, SizeOf.sizeOf e < n := ⟨_, Nat.lt_succ_self _⟩
  induction n generalizing e m with
  | zero => omega
  | succ n ih =>
    rw [deepM_eq]
    split
    · have : ∀ (l : List GExpr) (k : Int), (∀ x ∈ l, x ∈ e.Args) → 0 ≤ k → k ≤ m - 1 → 0 ≤ deepsM l (m - 1) k ∧ deepsM l (m - 1) k ≤ m - 1 := by
        intro l
        induction l with
        | nil => intro k _ h1 h2; rw [deepsM]; omega
        | cons x l ih' =>
          intro k hx h1 h2
          rw [deepsM]
          have := ih x (m - 1) (by omega) (by have := GExpr.lt_of_mem (hx x (by simp)); omega)
          apply ih' _ (fun y hy => hx y (by simp [hy]))
          · split <;> omega
          · split <;> omega
      have := this e.Args 0 (fun _ h => h) (by omega) (by omega)
      omega
    · omega
theorem deepsM_le (l : List GExpr) (m k : Int) (hm : 1 ≤ m) (h1 : 0 ≤ k) (h2 : k ≤ m) : 0 ≤ deepsM l m k ∧ deepsM l m k ≤ m := by
  induction l generalizing k with
  | nil => rw [deepsM]; omega
  | cons x l ih =>
    rw [deepsM]
    have := deepM_le x m hm
    apply ih
    · split <;> omega
    · split <;> omega

theorem deep_ok (e : GExpr) (he : e.wf) (m : Int) (hm : 1 ≤ m ∧ m ≤ 1000000000000) : Pure Try.prog 88 [.agg (e.enc.map .d), .d (.v (.int .i64 m))] (.d (.v (.int .i64 (deepM e m)))) := by
  obtain ⟨n, hn⟩ : ∃ n, SizeOf.sizeOf e < n := ⟨_, Nat.lt_succ_self _⟩
  induction n generalizing e m with
  | zero => omega
  | succ n ih =>
    have hw := (GExpr.wf_iff e).1 he
    have hlen : e.Args.length ≤ 2199023255488 := by omega
    have hsub : ∀ (i : Nat) (h : i < e.Args.length) m, 1 ≤ m ∧ m ≤ 1000000000000 → Pure Try.prog 88 [.agg ((e.Args[i]).enc.map .d), .d (.v (.int .i64 m))] (.d (.v (.int .i64 (deepM (e.Args[i]) m)))) := fun i h m hm =>
      ih _ (hw.2.2.2.2.2 _ (List.getElem_mem h)) m hm (by have := GExpr.lt_of_mem (List.getElem_mem h); omega)
    rw [deepM_eq]
    refine Pure.run Try.func88 rfl (by simp [Try.f88]) ?_; simp [Try.f88]
    generalize e.Args = l at *
    intro bs
    refine ⟨fun h1 => ?_, fun h1 => ?_⟩
    · refine AWP.loopS [1, 5, 12, 13, 14] l.length (fun i => [(5, .d (.v (.int .i64 (deepsM (l.take i) (m - 1) 0)))), (14, .d (.v (.int .i64 i)))]) (fun _ => []) (fun _ => True) (by rfl) (by simp [deepsM]) ?_
      intro i hi _
      rcases Nat.lt_or_eq_of_le hi with hlt | rfl
      · have hge : l[i]? = some l[i] := List.getElem?_eq_getElem hlt
        have htk : List.take (i + 1) l = List.take i l ++ [l[i]] := by rw [List.take_add_one, hge]; rfl
        have hS := hsub i hlt
        generalize hE : l[i] = x at *
        have a1 : inR .i64 (m - 1) := by rw [inR_i64]; omega
        have a2 : inR .i64 ((i : Int) + 1) := by rw [inR_i64]; omega
        have hsn := deepsM_snoc (l.take i) x (m - 1) 0
        rw [← htk] at hsn
        generalize hM : deepsM (l.take i) (m - 1) 0 = k at *
        simp [hlt, hge, hE]
        intro bs2
        refine ⟨a1, ?_⟩
        refine AOps.pureC rfl (hS (m - 1) ⟨by omega, by omega⟩) (by simp) rfl (by simp) rfl ?_
        simp [a2, hlt]
        refine ⟨fun h => ?_, fun h => ?_⟩
        · rw [hsn, if_pos h]
        · rw [hsn, if_neg (by omega)]
      · have := deepsM_le l (m - 1) 0 (by omega) (by omega) (by omega)
        simp [h1]
        rw [inR_i64]; omega
    · rw [if_neg (by omega)]; exact ⟨by rw [inR_i64]; omega, rfl⟩
theorem depth_ok (e : GExpr) (he : e.wf) : Pure Try.prog 57 [.agg (e.enc.map .d)] (.d (.v (.int .i64 (deepM e 65)))) := by
  refine Pure.run Try.func57 rfl (by simp [Try.f57]) ?_; simp [Try.f57]
  intro bs
  refine AOps.pureC rfl (deep_ok e he 65 (by omega)) (by simp) rfl (by simp) rfl ?_
  simp

/-! ### bound -/
def bareM (e : GExpr) (n : Int) (op num named : Bool) : Bool := decide ((e.Args.length : Int) = n) && (op || decide (e.Op = 0)) && (num || decide (e.Num = 0)) && (named || e.Name.toList.isEmpty)
theorem bare_ok (e : GExpr) (n : Int) (op num named : Bool) : Pure Try.prog 89 [.agg (e.enc.map .d), .d (.v (.int .i64 n)), .d (.v (.bool op)), .d (.v (.bool num)), .d (.v (.bool named))] (.d (.v (.bool (bareM e n op num named)))) := by
  refine Pure.run Try.func89 rfl (by simp [Try.f89]) ?_; simp [Try.f89]
  refine ⟨?_, ?_, ?_, rfl⟩ <;> simp +contextual
def amongM (n lo hi : Int) : Bool := decide (lo ≤ n) && decide (n ≤ hi)
theorem among_ok (n lo hi : Int) : Pure Try.prog 91 [.d (.v (.int .i64 n)), .d (.v (.int .i64 lo)), .d (.v (.int .i64 hi))] (.d (.v (.bool (amongM n lo hi)))) := by
  refine Pure.run Try.func91 rfl (by simp [Try.f91]) ?_; simp [Try.f91]
  rfl
def isM (n : Int) : Bool := decide (-32768 ≤ n) && decide (n ≤ 32767)
theorem is_ok (n : Int) : Pure Try.prog 90 [.d (.v (.int .i64 n))] (.d (.v (.bool (isM n)))) := by
  refine Pure.run Try.func90 rfl (by simp [Try.f90]) ?_; simp [Try.f90]
  rfl
def paramsM (t : GTables) (f : Int) : Int := if amongM f 0 (t.Funcs.length - 1) && amongM (t.Funcs[f.toNat]?.getD 0) 0 (t.Params.length - 1) then t.Params[(t.Funcs[f.toNat]?.getD 0).toNat]?.getD 0 else -1
theorem params_ok (t : GTables) (ht : t.wf) (f : Int) : Pure Try.prog 92 [.agg (t.enc.map .d), .d (.v (.int .i64 f))] (.d (.v (.int .i64 (paramsM t f)))) := by
  refine Pure.run Try.func92 rfl (by simp [Try.f92]) ?_; simp [Try.f92]
  intro bs
  refine AWP.regionD [.d (.v (.bool (amongM f 0 (t.Funcs.length - 1)))), .d (.v (.bool (amongM (t.Funcs[f.toNat]?.getD 0) 0 (t.Params.length - 1))))] Try.mixed (by kernel_rfl) (by rfl) ?_
  have hA := fun a b c L => (among_ok a b c).ok L
  have hl1 := GTables.wl_Funcs ht
  have hl2 := GTables.wl_Params ht
  have a1 : inR .i64 ((t.Funcs.length : Int) - 1) := by rw [inR_i64]; omega
  have a2 : inR .i64 ((t.Params.length : Int) - 1) := by rw [inR_i64]; omega
  have hk : amongM f 0 (t.Funcs.length - 1) = true → 0 ≤ f ∧ f.toNat < t.Funcs.length := by simp [amongM]; omega
  have hk2 : amongM (t.Funcs[f.toNat]?.getD 0) 0 (t.Params.length - 1) = true → 0 ≤ t.Funcs[f.toNat]?.getD 0 ∧ (t.Funcs[f.toNat]?.getD 0).toNat < t.Params.length := by simp [amongM]; omega
  unfold paramsM
  simp [hA, a1, a2]
  refine ⟨fun h => ⟨hk h, h⟩, fun h h1 h2 => ?_, fun h1 h2 => ?_⟩
  · simp [h1, h2] at h
  · refine AWP.regionD [] Try.mixed (by kernel_rfl) (by rfl) ?_
    simp [h1, h2]
    exact ⟨hk h1, hk2 h2⟩
/-! ### bound -/
def boundK (t : GTables) (e : GExpr) (locals : Int) (said : Bool) : Bool :=
  if e.Kind = 1 then bareM e 0 false true false && isM e.Num
  else if e.Kind = 14 then bareM e 0 false true false && amongM e.Num 0 (t.Globals.length - 1)
  else if e.Kind = 15 then bareM e 0 false true false && decide (0 ≤ e.Num) && decide (e.Num < locals)
  else if e.Kind = 19 then said && bareM e 0 false true false && amongM e.Num 0 (t.Texts.length - 1)
  else if e.Kind = 4 ∨ e.Kind = 5 ∨ e.Kind = 11 then bareM e 1 false false false
  else if e.Kind = 13 then said && bareM e 1 false false false
  else if e.Kind = 6 then bareM e 2 true false false && amongM e.Op 1 14
  else if e.Kind = 16 then bareM e 1 false true false && decide (0 ≤ e.Num) && decide (e.Num < t.Flags)
  else if e.Kind = 17 then bareM e 1 false true false && amongM e.Num 0 (t.Props.length - 1)
  else if e.Kind = 18 then bareM e e.Args.length false true false && decide (paramsM t e.Num = e.Args.length)
  else if e.Kind = 10 then bareM e 1 true false false && amongM e.Op 1 3
  else if e.Kind = 12 then bareM e 0 true false false && amongM e.Op 1 6
  else false
mutual
def boundM (t : GTables) (locals : Int) : GExpr → Bool → Bool
  | .mk k o n s l, said => boundK t (.mk k o n s l) locals said && boundsM t locals l
def boundsM (t : GTables) (locals : Int) : List GExpr → Bool
  | [] => true
  | x :: l => boundM t locals x false && boundsM t locals l
end
theorem boundM_eq (t : GTables) (locals : Int) (e : GExpr) (said : Bool) : boundM t locals e said = (boundK t e locals said && boundsM t locals e.Args) := by cases e; rw [boundM]; rfl
theorem boundsM_all (t : GTables) (locals : Int) (l : List GExpr) : boundsM t locals l = l.all fun x => boundM t locals x false := by
  induction l with
  | nil => rw [boundsM]; rfl
  | cons x l ih => rw [boundsM, ih]; rfl

set_option maxRecDepth 20000 in
set_option maxHeartbeats 4000000 in
theorem boundX_ok (t : GTables) (ht : t.wf) (locals : Int) (e : GExpr) (he : e.wf) (said : Bool) : Pure Try.prog 58 [.agg (t.enc.map .d), .agg (e.enc.map .d), .d (.v (.int .i64 locals)), .d (.v (.bool said))] (.d (.v (.bool (boundM t locals e said)))) := by
  obtain ⟨n, hn⟩ : ∃ n, SizeOf.sizeOf e < n := ⟨_, Nat.lt_succ_self _⟩
  induction n generalizing e said with
  | zero => omega
  | succ n ih =>
    have hw := (GExpr.wf_iff e).1 he
    have hlen : e.Args.length ≤ 2199023255488 := by omega
    have hsub : ∀ (i : Nat) (h : i < e.Args.length) said, Pure Try.prog 58 [.agg (t.enc.map .d), .agg ((e.Args[i]).enc.map .d), .d (.v (.int .i64 locals)), .d (.v (.bool said))] (.d (.v (.bool (boundM t locals (e.Args[i]) said)))) := fun i h said =>
      ih _ (hw.2.2.2.2.2 _ (List.getElem_mem h)) said (by have := GExpr.lt_of_mem (List.getElem_mem h); omega)
    rw [boundM_eq]
    have hA := fun a b c L => (among_ok a b c).ok L
    have hI := fun a L => (is_ok a).ok L
    have hB := fun n a b c L => (bare_ok e n a b c).ok L
    have hP := fun f L => (params_ok t ht f).ok L
    have b1 := GTables.wl_Globals ht
    have b2 := GTables.wl_Texts ht
    have b3 := GTables.wl_Props ht
    have a1 : inR .i64 ((t.Globals.length : Int) - 1) := by rw [inR_i64]; omega
    have a2 : inR .i64 ((t.Texts.length : Int) - 1) := by rw [inR_i64]; omega
    have a3 : inR .i64 ((t.Props.length : Int) - 1) := by rw [inR_i64]; omega
    by_cases hk1 : e.Kind = 1
    · have hk := hk1; clear hk1
      have hK : boundK t e locals said = boundK t e locals said := rfl
      conv at hK => rhs; unfold boundK
      simp [hk] at hK
      refine Pure.run Try.func58 rfl (by simp [Try.f58]) ?_; simp [Try.f58, hk]
      intro bs
      refine runC_sound _ _ [.d (.v (.bool (bareM e 0 false true false))), .d (.v (.bool (isM e.Num)))] (by rfl) ?_
      simp [hA, hB, hI, hP, a1, a2, a3]
      refine AWP.loopS [2, 4, 9, 154, 155, 156] e.Args.length (fun i => [(9, .d (.v (.bool (boundK t e locals said && boundsM t locals (e.Args.take i))))), (156, .d (.v (.int .i64 i)))]) (fun _ => []) (fun _ => True) (by rfl) (by simp [hK, boundsM]) ?_
      clear hK hA hI hB hP a1 a2 a3 b1 b2 b3
      generalize boundK t e locals said = b
      intro i hi _
      rcases Nat.lt_or_eq_of_le hi with hlt | rfl
      · have hge : e.Args[i]? = some e.Args[i] := List.getElem?_eq_getElem hlt
        have htk : boundsM t locals (e.Args.take (i + 1)) = (boundsM t locals (e.Args.take i) && boundM t locals e.Args[i] false) := by
          rw [List.take_add_one, hge, boundsM_all, boundsM_all, List.all_append]; simp
        have hS := fun L => (hsub i hlt false).ok L
        have a2 : inR .i64 ((i : Int) + 1) := by rw [inR_i64]; omega
        generalize hE : e.Args[i] = x at *
        simp [hlt, hge, hE]
        intro bs2
        refine runC_sound _ _ [.d (.v (.bool (boundM t locals x false)))] (by rfl) ?_
        simp [hS, a2, hlt, hE, htk, Bool.and_assoc] <;> (intro h1 h2; first | exact ⟨h1, h2⟩ | exact ⟨⟨h1, h2⟩, hS _⟩)
      · simp
    by_cases hk14 : e.Kind = 14
    · have hk := hk14; clear hk1 hk14
      have hK : boundK t e locals said = boundK t e locals said := rfl
      conv at hK => rhs; unfold boundK
      simp [hk] at hK
      refine Pure.run Try.func58 rfl (by simp [Try.f58]) ?_; simp [Try.f58, hk]
      intro bs
      refine runC_sound _ _ [.d (.v (.bool (bareM e 0 false true false))), .d (.v (.bool (amongM e.Num 0 (t.Globals.length - 1))))] (by rfl) ?_
      simp [hA, hB, hI, hP, a1, a2, a3]
      refine AWP.loopS [2, 4, 9, 154, 155, 156] e.Args.length (fun i => [(9, .d (.v (.bool (boundK t e locals said && boundsM t locals (e.Args.take i))))), (156, .d (.v (.int .i64 i)))]) (fun _ => []) (fun _ => True) (by rfl) (by simp [hK, boundsM]) ?_
      clear hK hA hI hB hP a1 a2 a3 b1 b2 b3
      generalize boundK t e locals said = b
      intro i hi _
      rcases Nat.lt_or_eq_of_le hi with hlt | rfl
      · have hge : e.Args[i]? = some e.Args[i] := List.getElem?_eq_getElem hlt
        have htk : boundsM t locals (e.Args.take (i + 1)) = (boundsM t locals (e.Args.take i) && boundM t locals e.Args[i] false) := by
          rw [List.take_add_one, hge, boundsM_all, boundsM_all, List.all_append]; simp
        have hS := fun L => (hsub i hlt false).ok L
        have a2 : inR .i64 ((i : Int) + 1) := by rw [inR_i64]; omega
        generalize hE : e.Args[i] = x at *
        simp [hlt, hge, hE]
        intro bs2
        refine runC_sound _ _ [.d (.v (.bool (boundM t locals x false)))] (by rfl) ?_
        simp [hS, a2, hlt, hE, htk, Bool.and_assoc] <;> (intro h1 h2; first | exact ⟨h1, h2⟩ | exact ⟨⟨h1, h2⟩, hS _⟩)
      · simp
    by_cases hk15 : e.Kind = 15
    · have hk := hk15; clear hk1 hk14 hk15
      have hK : boundK t e locals said = boundK t e locals said := rfl
      conv at hK => rhs; unfold boundK
      simp [hk] at hK
      refine Pure.run Try.func58 rfl (by simp [Try.f58]) ?_; simp [Try.f58, hk]
      intro bs
      refine runC_sound _ _ [.d (.v (.bool (bareM e 0 false true false)))] (by rfl) ?_
      simp [hA, hB, hI, hP, a1, a2, a3]
      refine AWP.loopS [2, 4, 9, 154, 155, 156] e.Args.length (fun i => [(9, .d (.v (.bool (boundK t e locals said && boundsM t locals (e.Args.take i))))), (156, .d (.v (.int .i64 i)))]) (fun _ => []) (fun _ => True) (by rfl) (by simp [hK, boundsM]) ?_
      clear hK hA hI hB hP a1 a2 a3 b1 b2 b3
      generalize boundK t e locals said = b
      intro i hi _
      rcases Nat.lt_or_eq_of_le hi with hlt | rfl
      · have hge : e.Args[i]? = some e.Args[i] := List.getElem?_eq_getElem hlt
        have htk : boundsM t locals (e.Args.take (i + 1)) = (boundsM t locals (e.Args.take i) && boundM t locals e.Args[i] false) := by
          rw [List.take_add_one, hge, boundsM_all, boundsM_all, List.all_append]; simp
        have hS := fun L => (hsub i hlt false).ok L
        have a2 : inR .i64 ((i : Int) + 1) := by rw [inR_i64]; omega
        generalize hE : e.Args[i] = x at *
        simp [hlt, hge, hE]
        intro bs2
        refine runC_sound _ _ [.d (.v (.bool (boundM t locals x false)))] (by rfl) ?_
        simp [hS, a2, hlt, hE, htk, Bool.and_assoc] <;> (intro h1 h2; first | exact ⟨h1, h2⟩ | exact ⟨⟨h1, h2⟩, hS _⟩)
      · simp
    by_cases hk19 : e.Kind = 19
    · have hk := hk19; clear hk1 hk14 hk15 hk19
      have hK : boundK t e locals said = boundK t e locals said := rfl
      conv at hK => rhs; unfold boundK
      simp [hk] at hK
      refine Pure.run Try.func58 rfl (by simp [Try.f58]) ?_; simp [Try.f58, hk]
      intro bs
      refine runC_sound _ _ [.d (.v (.bool (bareM e 0 false true false))), .d (.v (.bool (amongM e.Num 0 (t.Texts.length - 1))))] (by rfl) ?_
      simp [hA, hB, hI, hP, a1, a2, a3]
      refine AWP.loopS [2, 4, 9, 154, 155, 156] e.Args.length (fun i => [(9, .d (.v (.bool (boundK t e locals said && boundsM t locals (e.Args.take i))))), (156, .d (.v (.int .i64 i)))]) (fun _ => []) (fun _ => True) (by rfl) (by simp [hK, boundsM]) ?_
      clear hK hA hI hB hP a1 a2 a3 b1 b2 b3
      generalize boundK t e locals said = b
      intro i hi _
      rcases Nat.lt_or_eq_of_le hi with hlt | rfl
      · have hge : e.Args[i]? = some e.Args[i] := List.getElem?_eq_getElem hlt
        have htk : boundsM t locals (e.Args.take (i + 1)) = (boundsM t locals (e.Args.take i) && boundM t locals e.Args[i] false) := by
          rw [List.take_add_one, hge, boundsM_all, boundsM_all, List.all_append]; simp
        have hS := fun L => (hsub i hlt false).ok L
        have a2 : inR .i64 ((i : Int) + 1) := by rw [inR_i64]; omega
        generalize hE : e.Args[i] = x at *
        simp [hlt, hge, hE]
        intro bs2
        refine runC_sound _ _ [.d (.v (.bool (boundM t locals x false)))] (by rfl) ?_
        simp [hS, a2, hlt, hE, htk, Bool.and_assoc] <;> (intro h1 h2; first | exact ⟨h1, h2⟩ | exact ⟨⟨h1, h2⟩, hS _⟩)
      · simp
    by_cases hk4 : e.Kind = 4
    · have hk := hk4; clear hk1 hk14 hk15 hk19 hk4
      have hK : boundK t e locals said = boundK t e locals said := rfl
      conv at hK => rhs; unfold boundK
      simp [hk] at hK
      refine Pure.run Try.func58 rfl (by simp [Try.f58]) ?_; simp [Try.f58, hk]
      intro bs
      refine runC_sound _ _ [.d (.v (.bool (bareM e 1 false false false)))] (by rfl) ?_
      simp [hA, hB, hI, hP, a1, a2, a3]
      refine AWP.loopS [2, 4, 9, 154, 155, 156] e.Args.length (fun i => [(9, .d (.v (.bool (boundK t e locals said && boundsM t locals (e.Args.take i))))), (156, .d (.v (.int .i64 i)))]) (fun _ => []) (fun _ => True) (by rfl) (by simp [hK, boundsM]) ?_
      clear hK hA hI hB hP a1 a2 a3 b1 b2 b3
      generalize boundK t e locals said = b
      intro i hi _
      rcases Nat.lt_or_eq_of_le hi with hlt | rfl
      · have hge : e.Args[i]? = some e.Args[i] := List.getElem?_eq_getElem hlt
        have htk : boundsM t locals (e.Args.take (i + 1)) = (boundsM t locals (e.Args.take i) && boundM t locals e.Args[i] false) := by
          rw [List.take_add_one, hge, boundsM_all, boundsM_all, List.all_append]; simp
        have hS := fun L => (hsub i hlt false).ok L
        have a2 : inR .i64 ((i : Int) + 1) := by rw [inR_i64]; omega
        generalize hE : e.Args[i] = x at *
        simp [hlt, hge, hE]
        intro bs2
        refine runC_sound _ _ [.d (.v (.bool (boundM t locals x false)))] (by rfl) ?_
        simp [hS, a2, hlt, hE, htk, Bool.and_assoc] <;> (intro h1 h2; first | exact ⟨h1, h2⟩ | exact ⟨⟨h1, h2⟩, hS _⟩)
      · simp
    by_cases hk5 : e.Kind = 5
    · have hk := hk5; clear hk1 hk14 hk15 hk19 hk4 hk5
      have hK : boundK t e locals said = boundK t e locals said := rfl
      conv at hK => rhs; unfold boundK
      simp [hk] at hK
      refine Pure.run Try.func58 rfl (by simp [Try.f58]) ?_; simp [Try.f58, hk]
      intro bs
      refine runC_sound _ _ [.d (.v (.bool (bareM e 1 false false false)))] (by rfl) ?_
      simp [hA, hB, hI, hP, a1, a2, a3]
      refine AWP.loopS [2, 4, 9, 154, 155, 156] e.Args.length (fun i => [(9, .d (.v (.bool (boundK t e locals said && boundsM t locals (e.Args.take i))))), (156, .d (.v (.int .i64 i)))]) (fun _ => []) (fun _ => True) (by rfl) (by simp [hK, boundsM]) ?_
      clear hK hA hI hB hP a1 a2 a3 b1 b2 b3
      generalize boundK t e locals said = b
      intro i hi _
      rcases Nat.lt_or_eq_of_le hi with hlt | rfl
      · have hge : e.Args[i]? = some e.Args[i] := List.getElem?_eq_getElem hlt
        have htk : boundsM t locals (e.Args.take (i + 1)) = (boundsM t locals (e.Args.take i) && boundM t locals e.Args[i] false) := by
          rw [List.take_add_one, hge, boundsM_all, boundsM_all, List.all_append]; simp
        have hS := fun L => (hsub i hlt false).ok L
        have a2 : inR .i64 ((i : Int) + 1) := by rw [inR_i64]; omega
        generalize hE : e.Args[i] = x at *
        simp [hlt, hge, hE]
        intro bs2
        refine runC_sound _ _ [.d (.v (.bool (boundM t locals x false)))] (by rfl) ?_
        simp [hS, a2, hlt, hE, htk, Bool.and_assoc] <;> (intro h1 h2; first | exact ⟨h1, h2⟩ | exact ⟨⟨h1, h2⟩, hS _⟩)
      · simp
    by_cases hk11 : e.Kind = 11
    · have hk := hk11; clear hk1 hk14 hk15 hk19 hk4 hk5 hk11
      have hK : boundK t e locals said = boundK t e locals said := rfl
      conv at hK => rhs; unfold boundK
      simp [hk] at hK
      refine Pure.run Try.func58 rfl (by simp [Try.f58]) ?_; simp [Try.f58, hk]
      intro bs
      refine runC_sound _ _ [.d (.v (.bool (bareM e 1 false false false)))] (by rfl) ?_
      simp [hA, hB, hI, hP, a1, a2, a3]
      refine AWP.loopS [2, 4, 9, 154, 155, 156] e.Args.length (fun i => [(9, .d (.v (.bool (boundK t e locals said && boundsM t locals (e.Args.take i))))), (156, .d (.v (.int .i64 i)))]) (fun _ => []) (fun _ => True) (by rfl) (by simp [hK, boundsM]) ?_
      clear hK hA hI hB hP a1 a2 a3 b1 b2 b3
      generalize boundK t e locals said = b
      intro i hi _
      rcases Nat.lt_or_eq_of_le hi with hlt | rfl
      · have hge : e.Args[i]? = some e.Args[i] := List.getElem?_eq_getElem hlt
        have htk : boundsM t locals (e.Args.take (i + 1)) = (boundsM t locals (e.Args.take i) && boundM t locals e.Args[i] false) := by
          rw [List.take_add_one, hge, boundsM_all, boundsM_all, List.all_append]; simp
        have hS := fun L => (hsub i hlt false).ok L
        have a2 : inR .i64 ((i : Int) + 1) := by rw [inR_i64]; omega
        generalize hE : e.Args[i] = x at *
        simp [hlt, hge, hE]
        intro bs2
        refine runC_sound _ _ [.d (.v (.bool (boundM t locals x false)))] (by rfl) ?_
        simp [hS, a2, hlt, hE, htk, Bool.and_assoc] <;> (intro h1 h2; first | exact ⟨h1, h2⟩ | exact ⟨⟨h1, h2⟩, hS _⟩)
      · simp
    by_cases hk13 : e.Kind = 13
    · have hk := hk13; clear hk1 hk14 hk15 hk19 hk4 hk5 hk11 hk13
      have hK : boundK t e locals said = boundK t e locals said := rfl
      conv at hK => rhs; unfold boundK
      simp [hk] at hK
      refine Pure.run Try.func58 rfl (by simp [Try.f58]) ?_; simp [Try.f58, hk]
      intro bs
      refine runC_sound _ _ [.d (.v (.bool (bareM e 1 false false false)))] (by rfl) ?_
      simp [hA, hB, hI, hP, a1, a2, a3]
      refine AWP.loopS [2, 4, 9, 154, 155, 156] e.Args.length (fun i => [(9, .d (.v (.bool (boundK t e locals said && boundsM t locals (e.Args.take i))))), (156, .d (.v (.int .i64 i)))]) (fun _ => []) (fun _ => True) (by rfl) (by simp [hK, boundsM]) ?_
      clear hK hA hI hB hP a1 a2 a3 b1 b2 b3
      generalize boundK t e locals said = b
      intro i hi _
      rcases Nat.lt_or_eq_of_le hi with hlt | rfl
      · have hge : e.Args[i]? = some e.Args[i] := List.getElem?_eq_getElem hlt
        have htk : boundsM t locals (e.Args.take (i + 1)) = (boundsM t locals (e.Args.take i) && boundM t locals e.Args[i] false) := by
          rw [List.take_add_one, hge, boundsM_all, boundsM_all, List.all_append]; simp
        have hS := fun L => (hsub i hlt false).ok L
        have a2 : inR .i64 ((i : Int) + 1) := by rw [inR_i64]; omega
        generalize hE : e.Args[i] = x at *
        simp [hlt, hge, hE]
        intro bs2
        refine runC_sound _ _ [.d (.v (.bool (boundM t locals x false)))] (by rfl) ?_
        simp [hS, a2, hlt, hE, htk, Bool.and_assoc] <;> (intro h1 h2; first | exact ⟨h1, h2⟩ | exact ⟨⟨h1, h2⟩, hS _⟩)
      · simp
    by_cases hk6 : e.Kind = 6
    · have hk := hk6; clear hk1 hk14 hk15 hk19 hk4 hk5 hk11 hk13 hk6
      have hK : boundK t e locals said = boundK t e locals said := rfl
      conv at hK => rhs; unfold boundK
      simp [hk] at hK
      refine Pure.run Try.func58 rfl (by simp [Try.f58]) ?_; simp [Try.f58, hk]
      intro bs
      refine runC_sound _ _ [.d (.v (.bool (bareM e 2 true false false))), .d (.v (.bool (amongM e.Op 1 14)))] (by rfl) ?_
      simp [hA, hB, hI, hP, a1, a2, a3]
      refine AWP.loopS [2, 4, 9, 154, 155, 156] e.Args.length (fun i => [(9, .d (.v (.bool (boundK t e locals said && boundsM t locals (e.Args.take i))))), (156, .d (.v (.int .i64 i)))]) (fun _ => []) (fun _ => True) (by rfl) (by simp [hK, boundsM]) ?_
      clear hK hA hI hB hP a1 a2 a3 b1 b2 b3
      generalize boundK t e locals said = b
      intro i hi _
      rcases Nat.lt_or_eq_of_le hi with hlt | rfl
      · have hge : e.Args[i]? = some e.Args[i] := List.getElem?_eq_getElem hlt
        have htk : boundsM t locals (e.Args.take (i + 1)) = (boundsM t locals (e.Args.take i) && boundM t locals e.Args[i] false) := by
          rw [List.take_add_one, hge, boundsM_all, boundsM_all, List.all_append]; simp
        have hS := fun L => (hsub i hlt false).ok L
        have a2 : inR .i64 ((i : Int) + 1) := by rw [inR_i64]; omega
        generalize hE : e.Args[i] = x at *
        simp [hlt, hge, hE]
        intro bs2
        refine runC_sound _ _ [.d (.v (.bool (boundM t locals x false)))] (by rfl) ?_
        simp [hS, a2, hlt, hE, htk, Bool.and_assoc] <;> (intro h1 h2; first | exact ⟨h1, h2⟩ | exact ⟨⟨h1, h2⟩, hS _⟩)
      · simp
    by_cases hk16 : e.Kind = 16
    · have hk := hk16; clear hk1 hk14 hk15 hk19 hk4 hk5 hk11 hk13 hk6 hk16
      have hK : boundK t e locals said = boundK t e locals said := rfl
      conv at hK => rhs; unfold boundK
      simp [hk] at hK
      refine Pure.run Try.func58 rfl (by simp [Try.f58]) ?_; simp [Try.f58, hk]
      intro bs
      refine runC_sound _ _ [.d (.v (.bool (bareM e 1 false true false)))] (by rfl) ?_
      simp [hA, hB, hI, hP, a1, a2, a3]
      refine AWP.loopS [2, 4, 9, 154, 155, 156] e.Args.length (fun i => [(9, .d (.v (.bool (boundK t e locals said && boundsM t locals (e.Args.take i))))), (156, .d (.v (.int .i64 i)))]) (fun _ => []) (fun _ => True) (by rfl) (by simp [hK, boundsM]) ?_
      clear hK hA hI hB hP a1 a2 a3 b1 b2 b3
      generalize boundK t e locals said = b
      intro i hi _
      rcases Nat.lt_or_eq_of_le hi with hlt | rfl
      · have hge : e.Args[i]? = some e.Args[i] := List.getElem?_eq_getElem hlt
        have htk : boundsM t locals (e.Args.take (i + 1)) = (boundsM t locals (e.Args.take i) && boundM t locals e.Args[i] false) := by
          rw [List.take_add_one, hge, boundsM_all, boundsM_all, List.all_append]; simp
        have hS := fun L => (hsub i hlt false).ok L
        have a2 : inR .i64 ((i : Int) + 1) := by rw [inR_i64]; omega
        generalize hE : e.Args[i] = x at *
        simp [hlt, hge, hE]
        intro bs2
        refine runC_sound _ _ [.d (.v (.bool (boundM t locals x false)))] (by rfl) ?_
        simp [hS, a2, hlt, hE, htk, Bool.and_assoc] <;> (intro h1 h2; first | exact ⟨h1, h2⟩ | exact ⟨⟨h1, h2⟩, hS _⟩)
      · simp
    by_cases hk17 : e.Kind = 17
    · have hk := hk17; clear hk1 hk14 hk15 hk19 hk4 hk5 hk11 hk13 hk6 hk16 hk17
      have hK : boundK t e locals said = boundK t e locals said := rfl
      conv at hK => rhs; unfold boundK
      simp [hk] at hK
      refine Pure.run Try.func58 rfl (by simp [Try.f58]) ?_; simp [Try.f58, hk]
      intro bs
      refine runC_sound _ _ [.d (.v (.bool (bareM e 1 false true false))), .d (.v (.bool (amongM e.Num 0 (t.Props.length - 1))))] (by rfl) ?_
      simp [hA, hB, hI, hP, a1, a2, a3]
      refine AWP.loopS [2, 4, 9, 154, 155, 156] e.Args.length (fun i => [(9, .d (.v (.bool (boundK t e locals said && boundsM t locals (e.Args.take i))))), (156, .d (.v (.int .i64 i)))]) (fun _ => []) (fun _ => True) (by rfl) (by simp [hK, boundsM]) ?_
      clear hK hA hI hB hP a1 a2 a3 b1 b2 b3
      generalize boundK t e locals said = b
      intro i hi _
      rcases Nat.lt_or_eq_of_le hi with hlt | rfl
      · have hge : e.Args[i]? = some e.Args[i] := List.getElem?_eq_getElem hlt
        have htk : boundsM t locals (e.Args.take (i + 1)) = (boundsM t locals (e.Args.take i) && boundM t locals e.Args[i] false) := by
          rw [List.take_add_one, hge, boundsM_all, boundsM_all, List.all_append]; simp
        have hS := fun L => (hsub i hlt false).ok L
        have a2 : inR .i64 ((i : Int) + 1) := by rw [inR_i64]; omega
        generalize hE : e.Args[i] = x at *
        simp [hlt, hge, hE]
        intro bs2
        refine runC_sound _ _ [.d (.v (.bool (boundM t locals x false)))] (by rfl) ?_
        simp [hS, a2, hlt, hE, htk, Bool.and_assoc] <;> (intro h1 h2; first | exact ⟨h1, h2⟩ | exact ⟨⟨h1, h2⟩, hS _⟩)
      · simp
    by_cases hk18 : e.Kind = 18
    · have hk := hk18; clear hk1 hk14 hk15 hk19 hk4 hk5 hk11 hk13 hk6 hk16 hk17 hk18
      have hK : boundK t e locals said = boundK t e locals said := rfl
      conv at hK => rhs; unfold boundK
      simp [hk] at hK
      refine Pure.run Try.func58 rfl (by simp [Try.f58]) ?_; simp [Try.f58, hk]
      intro bs
      refine AWP.regionD [.d (.v (.bool (bareM e e.Args.length false true false))), .d (.v (.int .i64 (paramsM t e.Num)))] Try.mixed (by kernel_rfl) (by rfl) ?_
      simp [hA, hB, hI, hP, a1, a2, a3]
      refine AWP.loopS [2, 4, 9, 154, 155, 156] e.Args.length (fun i => [(9, .d (.v (.bool (boundK t e locals said && boundsM t locals (e.Args.take i))))), (156, .d (.v (.int .i64 i)))]) (fun _ => []) (fun _ => True) (by rfl) (by simp [hK, boundsM]; rfl) ?_
      clear hK hA hI hB hP a1 a2 a3 b1 b2 b3
      generalize boundK t e locals said = b
      intro i hi _
      rcases Nat.lt_or_eq_of_le hi with hlt | rfl
      · have hge : e.Args[i]? = some e.Args[i] := List.getElem?_eq_getElem hlt
        have htk : boundsM t locals (e.Args.take (i + 1)) = (boundsM t locals (e.Args.take i) && boundM t locals e.Args[i] false) := by
          rw [List.take_add_one, hge, boundsM_all, boundsM_all, List.all_append]; simp
        have hS := fun L => (hsub i hlt false).ok L
        have a2 : inR .i64 ((i : Int) + 1) := by rw [inR_i64]; omega
        generalize hE : e.Args[i] = x at *
        simp [hlt, hge, hE]
        intro bs2
        refine runC_sound _ _ [.d (.v (.bool (boundM t locals x false)))] (by rfl) ?_
        simp [hS, a2, hlt, hE, htk, Bool.and_assoc] <;> (intro h1 h2; first | exact ⟨h1, h2⟩ | exact ⟨⟨h1, h2⟩, hS _⟩)
      · simp
    by_cases hk10 : e.Kind = 10
    · have hk := hk10; clear hk1 hk14 hk15 hk19 hk4 hk5 hk11 hk13 hk6 hk16 hk17 hk18 hk10
      have hK : boundK t e locals said = boundK t e locals said := rfl
      conv at hK => rhs; unfold boundK
      simp [hk] at hK
      refine Pure.run Try.func58 rfl (by simp [Try.f58]) ?_; simp [Try.f58, hk]
      intro bs
      refine runC_sound _ _ [.d (.v (.bool (bareM e 1 true false false))), .d (.v (.bool (amongM e.Op 1 3)))] (by rfl) ?_
      simp [hA, hB, hI, hP, a1, a2, a3]
      refine AWP.loopS [2, 4, 9, 154, 155, 156] e.Args.length (fun i => [(9, .d (.v (.bool (boundK t e locals said && boundsM t locals (e.Args.take i))))), (156, .d (.v (.int .i64 i)))]) (fun _ => []) (fun _ => True) (by rfl) (by simp [hK, boundsM]) ?_
      clear hK hA hI hB hP a1 a2 a3 b1 b2 b3
      generalize boundK t e locals said = b
      intro i hi _
      rcases Nat.lt_or_eq_of_le hi with hlt | rfl
      · have hge : e.Args[i]? = some e.Args[i] := List.getElem?_eq_getElem hlt
        have htk : boundsM t locals (e.Args.take (i + 1)) = (boundsM t locals (e.Args.take i) && boundM t locals e.Args[i] false) := by
          rw [List.take_add_one, hge, boundsM_all, boundsM_all, List.all_append]; simp
        have hS := fun L => (hsub i hlt false).ok L
        have a2 : inR .i64 ((i : Int) + 1) := by rw [inR_i64]; omega
        generalize hE : e.Args[i] = x at *
        simp [hlt, hge, hE]
        intro bs2
        refine runC_sound _ _ [.d (.v (.bool (boundM t locals x false)))] (by rfl) ?_
        simp [hS, a2, hlt, hE, htk, Bool.and_assoc] <;> (intro h1 h2; first | exact ⟨h1, h2⟩ | exact ⟨⟨h1, h2⟩, hS _⟩)
      · simp
    by_cases hk12 : e.Kind = 12
    · have hk := hk12; clear hk1 hk14 hk15 hk19 hk4 hk5 hk11 hk13 hk6 hk16 hk17 hk18 hk10 hk12
      have hK : boundK t e locals said = boundK t e locals said := rfl
      conv at hK => rhs; unfold boundK
      simp [hk] at hK
      refine Pure.run Try.func58 rfl (by simp [Try.f58]) ?_; simp [Try.f58, hk]
      intro bs
      refine runC_sound _ _ [.d (.v (.bool (bareM e 0 true false false))), .d (.v (.bool (amongM e.Op 1 6)))] (by rfl) ?_
      simp [hA, hB, hI, hP, a1, a2, a3]
      refine AWP.loopS [2, 4, 9, 154, 155, 156] e.Args.length (fun i => [(9, .d (.v (.bool (boundK t e locals said && boundsM t locals (e.Args.take i))))), (156, .d (.v (.int .i64 i)))]) (fun _ => []) (fun _ => True) (by rfl) (by simp [hK, boundsM]) ?_
      clear hK hA hI hB hP a1 a2 a3 b1 b2 b3
      generalize boundK t e locals said = b
      intro i hi _
      rcases Nat.lt_or_eq_of_le hi with hlt | rfl
      · have hge : e.Args[i]? = some e.Args[i] := List.getElem?_eq_getElem hlt
        have htk : boundsM t locals (e.Args.take (i + 1)) = (boundsM t locals (e.Args.take i) && boundM t locals e.Args[i] false) := by
          rw [List.take_add_one, hge, boundsM_all, boundsM_all, List.all_append]; simp
        have hS := fun L => (hsub i hlt false).ok L
        have a2 : inR .i64 ((i : Int) + 1) := by rw [inR_i64]; omega
        generalize hE : e.Args[i] = x at *
        simp [hlt, hge, hE]
        intro bs2
        refine runC_sound _ _ [.d (.v (.bool (boundM t locals x false)))] (by rfl) ?_
        simp [hS, a2, hlt, hE, htk, Bool.and_assoc] <;> (intro h1 h2; first | exact ⟨h1, h2⟩ | exact ⟨⟨h1, h2⟩, hS _⟩)
      · simp
    have hK : boundK t e locals said = false := by simp [boundK, hk1, hk14, hk15, hk19, hk4, hk5, hk11, hk13, hk6, hk16, hk17, hk18, hk10, hk12]
    refine Pure.run Try.func58 rfl (by simp [Try.f58]) ?_; simp [Try.f58, hk1, hk14, hk15, hk19, hk4, hk5, hk11, hk13, hk6, hk16, hk17, hk18, hk10, hk12]
    intro bs
    refine AWP.loopS [2, 4, 9, 154, 155, 156] e.Args.length (fun i => [(9, .d (.v (.bool (boundK t e locals said && boundsM t locals (e.Args.take i))))), (156, .d (.v (.int .i64 i)))]) (fun _ => []) (fun _ => True) (by rfl) (by simp [hK, boundsM]) ?_
    clear hK hA hI hB hP a1 a2 a3 b1 b2 b3
    generalize boundK t e locals said = b
    intro i hi _
    rcases Nat.lt_or_eq_of_le hi with hlt | rfl
    · have hge : e.Args[i]? = some e.Args[i] := List.getElem?_eq_getElem hlt
      have htk : boundsM t locals (e.Args.take (i + 1)) = (boundsM t locals (e.Args.take i) && boundM t locals e.Args[i] false) := by
        rw [List.take_add_one, hge, boundsM_all, boundsM_all, List.all_append]; simp
      have hS := fun L => (hsub i hlt false).ok L
      have a2 : inR .i64 ((i : Int) + 1) := by rw [inR_i64]; omega
      generalize hE : e.Args[i] = x at *
      simp [hlt, hge, hE]
      intro bs2
      refine runC_sound _ _ [.d (.v (.bool (boundM t locals x false)))] (by rfl) ?_
      simp [hS, a2, hlt, hE, htk, Bool.and_assoc] <;> (intro h1 h2; first | exact ⟨h1, h2⟩ | exact ⟨⟨h1, h2⟩, hS _⟩)
    · simp
end Go.Ab

set_option linter.unusedSimpArgs false
set_option linter.unusedVariables false
namespace Go.Ab
open Go.Proofs

theorem refBound_ok (t : GTables) (ht : t.wf) (e : GExpr) (he : e.wf) (locals : Int) : Pure Try.prog 27 [.agg (t.enc.map .d), .agg (e.enc.map .d), .d (.v (.int .i64 locals))] (.d (.v (.bool (decide (deepM e 65 ≤ 32) && boundM t locals e true)))) := by
  refine Pure.run Try.func27 rfl (by simp [Try.f27]) ?_; simp [Try.f27]
  intro bs
  have h1 := (depth_ok e he).ok
  have h2 := (boundX_ok t ht locals e he true).ok
  refine runC_sound _ _ [.d (.v (.int .i64 (deepM e 65))), .d (.v (.bool (boundM t locals e true)))] (by rfl) ?_
  simp [h1, h2]

/-! ### the parts of the reference -/
theorem code_ok (a b : Int) : Pure Try.prog 67 [.d (.v (.int .i64 a)), .d (.v (.int .i64 b))] (.agg ((GIns.mk a b).enc.map .d)) := by
  refine Pure.run Try.func67 rfl (by simp [Try.f67]) ?_; simp [Try.f67]
  rfl
theorem label_ok (b : Int) : Pure Try.prog 97 [.d (.v (.int .i64 b))] (.agg ((GIns.mk 38 b).enc.map .d)) := by
  refine Pure.run Try.func97 rfl (by simp [Try.f97]) ?_; simp [Try.f97]
  intro bs
  refine AOps.pureC rfl (code_ok 38 b) (by simp) rfl (by simp) rfl ?_
  simp
theorem jump_ok (b : Int) : Pure Try.prog 96 [.d (.v (.int .i64 b))] (.agg ((GIns.mk 24 b).enc.map .d)) := by
  refine Pure.run Try.func96 rfl (by simp [Try.f96]) ?_; simp [Try.f96]
  intro bs
  refine AOps.pureC rfl (code_ok 24 b) (by simp) rfl (by simp) rfl ?_
  simp
theorem zero_ok (b : Int) : Pure Try.prog 95 [.d (.v (.int .i64 b))] (.agg ((GIns.mk 25 b).enc.map .d)) := by
  refine Pure.run Try.func95 rfl (by simp [Try.f95]) ?_; simp [Try.f95]
  intro bs
  refine AOps.pureC rfl (code_ok 25 b) (by simp) rfl (by simp) rfl ?_
  simp
def ownM (e : GExpr) : GIns :=
  if e.Kind = 1 then ⟨1, e.Num⟩ else if e.Kind = 14 then ⟨3, e.Num⟩ else if e.Kind = 15 then ⟨5, e.Num⟩ else if e.Kind = 12 then ⟨7, e.Op⟩
  else if e.Kind = 4 then ⟨9, 0⟩ else if e.Kind = 5 then ⟨10, 0⟩ else if e.Kind = 11 then ⟨20, 0⟩ else if e.Kind = 6 then ⟨8, e.Op⟩
  else if e.Kind = 16 then ⟨12, e.Num⟩ else if e.Kind = 17 then ⟨13, e.Num⟩ else if e.Kind = 18 then ⟨26, e.Num⟩ else ⟨19, e.Op⟩
set_option maxRecDepth 20000 in
set_option maxHeartbeats 4000000 in
theorem own_ok (e : GExpr) : Pure Try.prog 99 [.agg (e.enc.map .d)] (.agg ((ownM e).enc.map .d)) := by
  have hc := fun a b L => (code_ok a b).ok L
  by_cases hk1 : e.Kind = 1
  · have hO : ownM e = ⟨1, (e.Num)⟩ := by simp [ownM, hk1]
    rw [hO]
    refine Pure.run Try.func99 rfl (by simp [Try.f99]) ?_; simp [Try.f99, hk1]
    intro bs
    refine AOps.pureC rfl (code_ok 1 (e.Num)) (by simp) rfl (by simp) rfl ?_
    simp
  by_cases hk14 : e.Kind = 14
  · have hO : ownM e = ⟨3, (e.Num)⟩ := by simp [ownM, hk14]
    rw [hO]
    refine Pure.run Try.func99 rfl (by simp [Try.f99]) ?_; simp [Try.f99, hk14]
    intro bs
    refine AOps.pureC rfl (code_ok 3 (e.Num)) (by simp) rfl (by simp) rfl ?_
    simp
  by_cases hk15 : e.Kind = 15
  · have hO : ownM e = ⟨5, (e.Num)⟩ := by simp [ownM, hk15]
    rw [hO]
    refine Pure.run Try.func99 rfl (by simp [Try.f99]) ?_; simp [Try.f99, hk15]
    intro bs
    refine AOps.pureC rfl (code_ok 5 (e.Num)) (by simp) rfl (by simp) rfl ?_
    simp
  by_cases hk12 : e.Kind = 12
  · have hO : ownM e = ⟨7, (e.Op)⟩ := by simp [ownM, hk12]
    rw [hO]
    refine Pure.run Try.func99 rfl (by simp [Try.f99]) ?_; simp [Try.f99, hk12]
    intro bs
    refine AOps.pureC rfl (code_ok 7 (e.Op)) (by simp) rfl (by simp) rfl ?_
    simp
  by_cases hk4 : e.Kind = 4
  · have hO : ownM e = ⟨9, (0)⟩ := by simp [ownM, hk4]
    rw [hO]
    refine Pure.run Try.func99 rfl (by simp [Try.f99]) ?_; simp [Try.f99, hk4]
    intro bs
    refine AOps.pureC rfl (code_ok 9 (0)) (by simp) rfl (by simp) rfl ?_
    simp
  by_cases hk5 : e.Kind = 5
  · have hO : ownM e = ⟨10, (0)⟩ := by simp [ownM, hk5]
    rw [hO]
    refine Pure.run Try.func99 rfl (by simp [Try.f99]) ?_; simp [Try.f99, hk5]
    intro bs
    refine AOps.pureC rfl (code_ok 10 (0)) (by simp) rfl (by simp) rfl ?_
    simp
  by_cases hk11 : e.Kind = 11
  · have hO : ownM e = ⟨20, (0)⟩ := by simp [ownM, hk11]
    rw [hO]
    refine Pure.run Try.func99 rfl (by simp [Try.f99]) ?_; simp [Try.f99, hk11]
    intro bs
    refine AOps.pureC rfl (code_ok 20 (0)) (by simp) rfl (by simp) rfl ?_
    simp
  by_cases hk6 : e.Kind = 6
  · have hO : ownM e = ⟨8, (e.Op)⟩ := by simp [ownM, hk6]
    rw [hO]
    refine Pure.run Try.func99 rfl (by simp [Try.f99]) ?_; simp [Try.f99, hk6]
    intro bs
    refine AOps.pureC rfl (code_ok 8 (e.Op)) (by simp) rfl (by simp) rfl ?_
    simp
  by_cases hk16 : e.Kind = 16
  · have hO : ownM e = ⟨12, (e.Num)⟩ := by simp [ownM, hk16]
    rw [hO]
    refine Pure.run Try.func99 rfl (by simp [Try.f99]) ?_; simp [Try.f99, hk16]
    intro bs
    refine AOps.pureC rfl (code_ok 12 (e.Num)) (by simp) rfl (by simp) rfl ?_
    simp
  by_cases hk17 : e.Kind = 17
  · have hO : ownM e = ⟨13, (e.Num)⟩ := by simp [ownM, hk17]
    rw [hO]
    refine Pure.run Try.func99 rfl (by simp [Try.f99]) ?_; simp [Try.f99, hk17]
    intro bs
    refine AOps.pureC rfl (code_ok 13 (e.Num)) (by simp) rfl (by simp) rfl ?_
    simp
  by_cases hk18 : e.Kind = 18
  · have hO : ownM e = ⟨26, (e.Num)⟩ := by simp [ownM, hk18]
    rw [hO]
    refine Pure.run Try.func99 rfl (by simp [Try.f99]) ?_; simp [Try.f99, hk18]
    intro bs
    refine AOps.pureC rfl (code_ok 26 (e.Num)) (by simp) rfl (by simp) rfl ?_
    simp
  have hO : ownM e = ⟨19, e.Op⟩ := by simp [ownM, hk1, hk14, hk15, hk12, hk4, hk5, hk11, hk6, hk16, hk17, hk18]
  rw [hO]
  refine Pure.run Try.func99 rfl (by simp [Try.f99]) ?_; simp [Try.f99, hk1, hk14, hk15, hk12, hk4, hk5, hk11, hk6, hk16, hk17, hk18]
  intro bs
  refine AOps.pureC rfl (code_ok 19 e.Op) (by simp) rfl (by simp) rfl ?_
  simp
theorem join_ok (a b : List GIns) (ha : a.length ≤ 1000000000000) (hb : b.length ≤ 1000000000000) : Pure Try.prog 66 [.d (.sl (a.map GIns.enc)), .d (.sl (b.map GIns.enc))] (.d (.sl ((a ++ b).map GIns.enc))) := by
  refine Pure.run Try.func66 rfl (by simp [Try.f66]) ?_; simp [Try.f66]
  omega

/-! ### Sizes -/
mutual
def szE : GExpr → Nat
  | .mk _ _ _ _ l => 1 + szEs l
def szEs : List GExpr → Nat
  | [] => 0
  | x :: l => szE x + szEs l
end
theorem szE_eq (e : GExpr) : szE e = 1 + szEs e.Args := by cases e; rw [szE]; rfl
theorem szEs_app (l r : List GExpr) : szEs (l ++ r) = szEs l + szEs r := by
  induction l with
  | nil => simp [szEs]
  | cons x l ih => simp only [List.cons_append, szEs, ih]; omega
theorem szE_pos (e : GExpr) : 1 ≤ szE e := by rw [szE_eq]; omega
theorem szE_mem {l : List GExpr} {x : GExpr} (h : x ∈ l) : szE x ≤ szEs l := by
  induction l with
  | nil => cases h
  | cons y l ih =>
    rw [szEs]
    rcases List.mem_cons.1 h with rfl | h
    · omega
    · have := ih h; omega
theorem few_sz : ∀ (n : Nat) (l : List GExpr), SizeOf.sizeOf l < n → ∀ m : Int, 0 ≤ fewsM l m → fewsM l m = m - szEs l := by
  intro n
  induction n with
  | zero => intro l h; omega
  | succ n ih =>
    intro l h m
    cases l with
    | nil => rw [fewsM, szEs]; omega
    | cons x l =>
      rw [fewsM, szEs]
      split
      · intro h'; omega
      · intro h'
        have h2 := ih l (by simp only [List.cons.sizeOf_spec] at h; omega) _ h'
        have h3 := fewsM_le l (fewM x m)
        rw [fewM_eq] at h2 h3 h' ⊢
        have h1 := ih x.Args (by cases x; simp only [GExpr.Args_mk]; simp only [List.cons.sizeOf_spec, GExpr.mk.sizeOf_spec] at h; omega) (m - 1) (by omega)
        rw [szE_eq]
        omega
theorem fewM_sz (e : GExpr) (m : Int) (h : 0 ≤ fewM e m) : (szE e : Int) ≤ m := by
  have h0 := fewM_le e m
  rw [fewM_eq] at h h0
  have := few_sz _ e.Args (Nat.lt_succ_self _) (m - 1) h
  rw [szE_eq]; omega

/-! ### What is generated -/
mutual
def genE : GExpr → Int → List GIns × Int
  | .mk k o n s l, m =>
    if k = 6 ∧ (o = 1 ∨ o = 2) then
      match l with
      | a :: b :: _ => ((genE a (m + 2)).1 ++ [⟨25, m⟩] ++ (if o = 1 then [⟨1, 1⟩, ⟨24, m + 1⟩, ⟨38, m⟩] ++ (genE b (genE a (m + 2)).2).1 ++ [⟨11, 0⟩, ⟨38, m + 1⟩]
          else (genE b (genE a (m + 2)).2).1 ++ [⟨11, 0⟩, ⟨24, m + 1⟩, ⟨38, m⟩, ⟨1, 0⟩, ⟨38, m + 1⟩]), (genE b (genE a (m + 2)).2).2)
      | _ => ([], m)
    else ((genEs l m).1 ++ [ownM (.mk k o n s l)], (genEs l m).2)
def genEs : List GExpr → Int → List GIns × Int
  | [], m => ([], m)
  | x :: l, m => ((genE x m).1 ++ (genEs l (genE x m).2).1, (genEs l (genE x m).2).2)
end
def logicE (e : GExpr) : Prop := e.Kind = 6 ∧ (e.Op = 1 ∨ e.Op = 2)
theorem genE_plain (e : GExpr) (m : Int) (h : ¬ logicE e) : genE e m = ((genEs e.Args m).1 ++ [ownM e], (genEs e.Args m).2) := by
  cases e with
  | mk k o n s l =>
    rw [genE.eq_def]
    have h' : ¬ (k = 6 ∧ (o = 1 ∨ o = 2)) := h
    simp only
    rw [if_neg h']
    rfl
theorem genE_or (e a b : GExpr) (r : List GExpr) (m : Int) (hk : e.Kind = 6) (ho : e.Op = 1) (ha : e.Args = a :: b :: r) : genE e m = ((genE a (m + 2)).1 ++ [⟨25, m⟩] ++ ([⟨1, 1⟩, ⟨24, m + 1⟩, ⟨38, m⟩] ++ (genE b (genE a (m + 2)).2).1 ++ [⟨11, 0⟩, ⟨38, m + 1⟩]), (genE b (genE a (m + 2)).2).2) := by
  cases e with
  | mk k o n s l =>
    cases hk; cases ho; cases ha
    rw [genE]
    simp
theorem genE_and (e a b : GExpr) (r : List GExpr) (m : Int) (hk : e.Kind = 6) (ho : e.Op = 2) (ha : e.Args = a :: b :: r) : genE e m = ((genE a (m + 2)).1 ++ [⟨25, m⟩] ++ ((genE b (genE a (m + 2)).2).1 ++ [⟨11, 0⟩, ⟨24, m + 1⟩, ⟨38, m⟩, ⟨1, 0⟩, ⟨38, m + 1⟩]), (genE b (genE a (m + 2)).2).2) := by
  cases e with
  | mk k o n s l =>
    cases hk; cases ho; cases ha
    rw [genE]
    simp
theorem genEs_snoc (l : List GExpr) (x : GExpr) (m : Int) : genEs (l ++ [x]) m = ((genEs l m).1 ++ (genE x (genEs l m).2).1, (genE x (genEs l m).2).2) := by
  induction l generalizing m with
  | nil => simp [genEs]
  | cons y l ih => simp [genEs, ih]
theorem genEs_bd (l : List GExpr) (hl : ∀ x ∈ l, ∀ m, m ≤ (genE x m).2 ∧ (genE x m).2 ≤ m + 2 * szE x ∧ (genE x m).1.length ≤ 6 * szE x) (m : Int) : m ≤ (genEs l m).2 ∧ (genEs l m).2 ≤ m + 2 * szEs l ∧ (genEs l m).1.length ≤ 6 * szEs l := by
  induction l generalizing m with
  | nil => simp [genEs, szEs]
  | cons x l ih =>
    have h1 := hl x (by simp) m
    have h2 := ih (fun y hy => hl y (by simp [hy])) (genE x m).2
    rw [genEs, szEs, List.length_append]
    omega
theorem genE_bd (e : GExpr) (m : Int) : m ≤ (genE e m).2 ∧ (genE e m).2 ≤ m + 2 * szE e ∧ (genE e m).1.length ≤ 6 * szE e := by
  obtain ⟨n, hn⟩ : ∃ n, SizeOf.sizeOf e < n := ⟨_, Nat.lt_succ_self _⟩
  induction n generalizing e m with
  | zero => omega
  | succ n ih =>
    have hs : ∀ x ∈ e.Args, ∀ m, m ≤ (genE x m).2 ∧ (genE x m).2 ≤ m + 2 * szE x ∧ (genE x m).1.length ≤ 6 * szE x := fun x hx m => ih x m (by have := GExpr.lt_of_mem hx; omega)
    by_cases hL : logicE e
    · obtain ⟨hk, ho⟩ := hL
      by_cases hA : ∃ a b r, e.Args = a :: b :: r
      · obtain ⟨a, b, r, hA⟩ := hA
        have h1 := hs a (by simp [hA]) (m + 2)
        have h2 := hs b (by simp [hA]) (genE a (m + 2)).2
        rw [szE_eq, hA]
        simp only [szEs]
        rcases ho with ho | ho
        · rw [genE_or e a b r m hk ho hA]
          simp only [List.length_append, List.length_cons, List.length_nil]
          omega
        · rw [genE_and e a b r m hk ho hA]
          simp only [List.length_append, List.length_cons, List.length_nil]
          omega
      · have : genE e m = ([], m) := by
          cases e with
          | mk k o n s l =>
            cases l with
            | nil => rw [genE.eq_def]; simp [show k = 6 from hk, show o = 1 ∨ o = 2 from ho]
            | cons a l =>
              cases l with
              | nil => rw [genE.eq_def]; simp [show k = 6 from hk, show o = 1 ∨ o = 2 from ho]
              | cons b r => exact absurd ⟨a, b, r, rfl⟩ hA
        rw [this]
        simp
        omega
    · rw [genE_plain e m hL, szE_eq]
      have := genEs_bd e.Args hs m
      simp only [List.length_append, List.length_cons, List.length_nil]
      omega
end Go.Ab

set_option linter.unusedSimpArgs false
set_option linter.unusedVariables false
namespace Go.Ab
open Go.Proofs

/-! ### the reference: expressions -/
theorem bound_logic {t : GTables} {locals : Int} {e : GExpr} (h : boundM t locals e false = true) (hk : e.Kind = 6) : ∃ a b, e.Args = [a, b] := by
  rw [boundM_eq, Bool.and_eq_true] at h
  have h1 := h.1
  simp [boundK, hk, bareM] at h1
  have hl : e.Args.length = 2 := by omega
  generalize e.Args = l at hl
  match l, hl with
  | [a, b], _ => exact ⟨a, b, rfl⟩
theorem bound_mem {t : GTables} {locals : Int} {e x : GExpr} {said : Bool} (h : boundM t locals e said = true) (hx : x ∈ e.Args) : boundM t locals x false = true := by
  rw [boundM_eq, Bool.and_eq_true, boundsM_all, List.all_eq_true] at h
  exact h.2 x hx

def genT (r : List GIns × Int) : V := .tup [.d (.sl (r.1.map GIns.enc)), .d (.v (.int .i64 r.2))]

/-- exprs, its elements' contract given. -/
theorem refExprs_of (l : List GExpr) (hl : l.length ≤ 2199023255488) (n : Int) (hn : 0 ≤ n ∧ n + 2 * szEs l ≤ 1000000000)
    (ih : ∀ (i : Nat) (h : i < l.length) (m : Int), 0 ≤ m ∧ m + 2 * szE l[i] ≤ 1000000000 → Pure Try.prog 60 [.agg (l[i].enc.map .d), .d (.v (.int .i64 m))] (genT (genE l[i] m))) :
    Pure Try.prog 98 [.d (.sl (l.map GExpr.enc)), .d (.v (.int .i64 n))] (genT (genEs l n)) := by
  have hbd := fun i => genEs_bd (l.take i) (fun x _ m => genE_bd x m) n
  have hszs : ∀ i, szEs (l.take i) ≤ szEs l := fun i => by
    have := szEs_app (l.take i) (l.drop i); rw [List.take_append_drop] at this; omega
  unfold genT
  refine Pure.run Try.func98 rfl (by simp [Try.f98]) ?_; simp [Try.f98]
  refine AWP.weaken (Wk.nil' (t := 6) rfl) ?_
  refine AWP.loopS [0, 1, 6, 7] l.length (fun i => [(1, .d (.v (.int .i64 (genEs (l.take i) n).2))), (6, .d (.sl ((genEs (l.take i) n).1.map GIns.enc))), (7, .d (.v (.int .i64 i)))]) (fun _ => []) (fun _ => True) (by rfl) (by simp [genEs]) ?_
  intro i hi _
  rcases Nat.lt_or_eq_of_le hi with hlt | rfl
  · have hge : l[i]? = some l[i] := List.getElem?_eq_getElem hlt
    have htk : List.take (i + 1) l = List.take i l ++ [l[i]] := by rw [List.take_add_one, hge]; rfl
    have hS := ih i hlt
    have hsn := genEs_snoc (l.take i) l[i] n
    have hsz := szEs_app (l.take i) [l[i]]
    rw [← htk] at hsn hsz
    simp only [szEs] at hsz
    have h0 := hszs (i + 1)
    have h1 := hbd i
    have h2 := genE_bd l[i] (genEs (l.take i) n).2
    generalize hE : l[i] = x at *
    generalize hM : genEs (l.take i) n = k at *
    generalize hM' : genEs (l.take (i + 1)) n = k' at *
    obtain ⟨k1, k2⟩ := k
    simp only at hsn h1 h2
    have a4 : inR .i64 ((i : Int) + 1) := by rw [inR_i64]; omega
    simp [hlt, hge, hE]
    have hC := hS k2 ⟨by omega, by omega⟩
    generalize genE x k2 = q at *
    obtain ⟨q1, q2⟩ := q
    unfold genT at hC
    simp only at h2 hsn hC
    refine AOps.pureC rfl (hC) (by simp) rfl (by simp) rfl ?_
    simp
    refine AOps.pureC rfl (join_ok k1 q1 (by omega) (by omega)) (by simp) rfl (by simp) rfl ?_
    simp [hM', hsn, a4, hlt]
  · simp

theorem refExpr_ok (t : GTables) (locals : Int) (e : GExpr) (he : e.wf) (hb : boundM t locals e false = true) (n : Int) (hn : 0 ≤ n ∧ n + 2 * szE e ≤ 1000000000) :
    Pure Try.prog 60 [.agg (e.enc.map .d), .d (.v (.int .i64 n))] (genT (genE e n)) := by
  obtain ⟨N, hN⟩ : ∃ N, SizeOf.sizeOf e < N := ⟨_, Nat.lt_succ_self _⟩
  induction N generalizing e n with
  | zero => omega
  | succ N ih =>
    have hw := (GExpr.wf_iff e).1 he
    have hlen : e.Args.length ≤ 2199023255488 := by omega
    have hsub : ∀ x ∈ e.Args, ∀ m : Int, 0 ≤ m ∧ m + 2 * szE x ≤ 1000000000 → Pure Try.prog 60 [.agg (x.enc.map .d), .d (.v (.int .i64 m))] (genT (genE x m)) := fun x hx m hm =>
      ih x (hw.2.2.2.2.2 _ hx) (bound_mem hb hx) m hm (by have := GExpr.lt_of_mem hx; omega)
    have hz := szE_eq e
    by_cases hk : e.Kind = 6
    · obtain ⟨a, b, hA⟩ := bound_logic hb hk
      have hSa := hsub a (by simp [hA])
      have hSb := hsub b (by simp [hA])
      rw [hA] at hz
      simp only [szEs] at hz
      have ba := genE_bd a (n + 2)
      have bb := genE_bd b (genE a (n + 2)).2
      have a1 : inR .i64 (n + 2) := by rw [inR_i64]; omega
      have a2 : inR .i64 (n + 1) := by rw [inR_i64]; omega
      have hz' := fun L => (zero_ok n).ok L
      have hl1 := fun m L => (label_ok m).ok L
      have hl2 := fun m L => (jump_ok m).ok L
      have hl3 := fun a b L => (code_ok a b).ok L
      have ca := hSa (n + 2) ⟨by omega, by omega⟩
      by_cases ho : e.Op = 1
      · rw [genE_or e a b [] n hk ho hA]
        generalize genE a (n + 2) = p at *
        obtain ⟨p1, p2⟩ := p
        have cb := hSb p2 ⟨by omega, by omega⟩
        generalize genE b p2 = q at *
        obtain ⟨q1, q2⟩ := q
        unfold genT at ca cb ⊢
        simp only at ba bb ca cb ⊢
        refine Pure.run Try.func60 rfl (by simp [Try.f60]) ?_; simp [Try.f60, hk, ho]
        intro bs
        simp [hA, a1]
        refine AOps.pureC rfl (ca) (by simp) rfl (by simp) rfl ?_
        simp [hA, a1, a2, ho]
        refine AOps.pureC rfl (cb) (by simp) rfl (by simp) rfl ?_
        simp [hA, a1, a2, ho]
        refine AOps.pureC rfl (zero_ok n) (by simp) rfl (by simp) rfl ?_
        simp [hA, a1, a2, ho]
        refine AOps.weaken (Wk.freeze 48 (ys := ([GIns.mk 25 n]).map _) rfl) ?_
        simp
        refine AOps.pureC rfl (join_ok (p1) [GIns.mk 25 n] (by first | omega | (simp <;> omega)) (by simp)) (by simp) rfl (by simp) rfl ?_
        simp [hA, a1, a2, ho]
        refine AOps.pureC rfl (code_ok 1 1) (by simp) rfl (by simp) rfl ?_
        simp [hA, a1, a2, ho]
        refine AOps.pureC rfl (jump_ok (n+1)) (by simp) rfl (by simp) rfl ?_
        simp [hA, a1, a2, ho]
        refine AOps.pureC rfl (label_ok n) (by simp) rfl (by simp) rfl ?_
        simp [hA, a1, a2, ho]
        refine AOps.weaken (Wk.freeze 60 (ys := ([GIns.mk 1 1, GIns.mk 24 (n+1), GIns.mk 38 n]).map _) rfl) ?_
        simp
        refine AOps.pureC rfl (join_ok (p1 ++ [GIns.mk 25 n]) [GIns.mk 1 1, GIns.mk 24 (n+1), GIns.mk 38 n] (by first | omega | (simp <;> omega)) (by simp)) (by simp) rfl (by simp) rfl ?_
        simp [hA, a1, a2, ho]
        refine AOps.pureC rfl (join_ok (p1 ++ [GIns.mk 25 n] ++ [GIns.mk 1 1, GIns.mk 24 (n+1), GIns.mk 38 n]) q1 (by first | omega | (simp <;> omega)) (by omega)) (by simp) rfl (by simp) rfl ?_
        simp [hA, a1, a2, ho]
        refine AOps.pureC rfl (code_ok 11 0) (by simp) rfl (by simp) rfl ?_
        simp [hA, a1, a2, ho]
        refine AOps.pureC rfl (label_ok (n+1)) (by simp) rfl (by simp) rfl ?_
        simp [hA, a1, a2, ho]
        refine AOps.weaken (Wk.freeze 69 (ys := ([GIns.mk 11 0, GIns.mk 38 (n+1)]).map _) rfl) ?_
        simp
        refine AOps.pureC rfl (join_ok (p1 ++ [GIns.mk 25 n] ++ [GIns.mk 1 1, GIns.mk 24 (n+1), GIns.mk 38 n] ++ q1) [GIns.mk 11 0, GIns.mk 38 (n+1)] (by first | omega | (simp <;> omega)) (by simp)) (by simp) rfl (by simp) rfl ?_
        simp [hA, a1, a2, ho]
      · by_cases ho' : e.Op = 2
        · rw [genE_and e a b [] n hk ho' hA]
          generalize genE a (n + 2) = p at *
          obtain ⟨p1, p2⟩ := p
          have cb := hSb p2 ⟨by omega, by omega⟩
          generalize genE b p2 = q at *
          obtain ⟨q1, q2⟩ := q
          unfold genT at ca cb ⊢
          simp only at ba bb ca cb ⊢
          refine Pure.run Try.func60 rfl (by simp [Try.f60]) ?_; simp [Try.f60, hk, ho']
          intro bs
          simp [hA, a1]
          refine AOps.pureC rfl (ca) (by simp) rfl (by simp) rfl ?_
          simp [hA, a1, a2, ho']
          refine AOps.pureC rfl (cb) (by simp) rfl (by simp) rfl ?_
          simp [hA, a1, a2, ho']
          refine AOps.pureC rfl (zero_ok n) (by simp) rfl (by simp) rfl ?_
          simp [hA, a1, a2, ho']
          refine AOps.weaken (Wk.freeze 48 (ys := ([GIns.mk 25 n]).map _) rfl) ?_
          simp
          refine AOps.pureC rfl (join_ok (p1) [GIns.mk 25 n] (by first | omega | (simp <;> omega)) (by simp)) (by simp) rfl (by simp) rfl ?_
          simp [hA, a1, a2, ho']
          refine AOps.pureC rfl (join_ok (p1 ++ [GIns.mk 25 n]) q1 (by first | omega | (simp <;> omega)) (by omega)) (by simp) rfl (by simp) rfl ?_
          simp [hA, a1, a2, ho']
          refine AOps.pureC rfl (code_ok 11 0) (by simp) rfl (by simp) rfl ?_
          simp [hA, a1, a2, ho']
          refine AOps.pureC rfl (jump_ok (n+1)) (by simp) rfl (by simp) rfl ?_
          simp [hA, a1, a2, ho']
          refine AOps.pureC rfl (label_ok n) (by simp) rfl (by simp) rfl ?_
          simp [hA, a1, a2, ho']
          refine AOps.pureC rfl (code_ok 1 0) (by simp) rfl (by simp) rfl ?_
          simp [hA, a1, a2, ho']
          refine AOps.pureC rfl (label_ok (n+1)) (by simp) rfl (by simp) rfl ?_
          simp [hA, a1, a2, ho']
          refine AOps.weaken (Wk.freeze 85 (ys := ([GIns.mk 11 0, GIns.mk 24 (n+1), GIns.mk 38 n, GIns.mk 1 0, GIns.mk 38 (n+1)]).map _) rfl) ?_
          simp
          refine AOps.pureC rfl (join_ok (p1 ++ [GIns.mk 25 n] ++ q1) [GIns.mk 11 0, GIns.mk 24 (n+1), GIns.mk 38 n, GIns.mk 1 0, GIns.mk 38 (n+1)] (by first | omega | (simp <;> omega)) (by simp)) (by simp) rfl (by simp) rfl ?_
          simp [hA, a1, a2, ho']
        · have hL : ¬ logicE e := by simp [logicE, hk, ho, ho']
          rw [genE_plain e n hL]
          have hz := szE_eq e
          have bd := genEs_bd e.Args (fun x _ m => genE_bd x m) n
          have hc := refExprs_of e.Args hlen n ⟨by omega, by omega⟩ (fun i h m hm => hsub _ (List.getElem_mem h) m hm)
          generalize genEs e.Args n = p at *
          obtain ⟨p1, p2⟩ := p
          unfold genT at hc ⊢
          simp only at bd hc ⊢
          refine Pure.run Try.func60 rfl (by simp [Try.f60]) ?_; simp [Try.f60, hk, ho, ho']
          intro bs
          refine AOps.pureC rfl (hc) (by simp) rfl (by simp) rfl ?_
          simp
          refine AOps.pureC rfl (own_ok e) (by simp) rfl (by simp) rfl ?_
          simp
          refine AOps.weaken (Wk.freeze 98 (ys := ([ownM e]).map _) rfl) ?_
          simp
          refine AOps.pureC rfl (join_ok p1 [ownM e] (by omega) (by simp)) (by simp) rfl (by simp) rfl ?_
          simp
    · have hL : ¬ logicE e := by simp [logicE, hk]
      rw [genE_plain e n hL]
      have hz := szE_eq e
      have bd := genEs_bd e.Args (fun x _ m => genE_bd x m) n
      have hc := refExprs_of e.Args hlen n ⟨by omega, by omega⟩ (fun i h m hm => hsub _ (List.getElem_mem h) m hm)
      generalize genEs e.Args n = p at *
      obtain ⟨p1, p2⟩ := p
      unfold genT at hc ⊢
      simp only at bd hc ⊢
      refine Pure.run Try.func60 rfl (by simp [Try.f60]) ?_; simp [Try.f60, hk]
      intro bs
      refine AOps.pureC rfl (hc) (by simp) rfl (by simp) rfl ?_
      simp
      refine AOps.pureC rfl (own_ok e) (by simp) rfl (by simp) rfl ?_
      simp
      refine AOps.weaken (Wk.freeze 98 (ys := ([ownM e]).map _) rfl) ?_
      simp
      refine AOps.pureC rfl (join_ok p1 [ownM e] (by omega) (by simp)) (by simp) rfl (by simp) rfl ?_
      simp
end Go.Ab

set_option linter.unusedSimpArgs false
set_option linter.unusedVariables false
namespace Go.Ab
open Go.Proofs

/-- The writer's resources: its box, and the row of its instructions. -/
def wb (b : Nat) (l : List GIns) (n : Int) : Heap := [(5001, .box (b + 1) 97 [.rv 5002, .d (.v (.int .i64 n))]), (5002, .row 64 2 (dd (l.map GIns.enc)))]
def WCalls (f : FuncId) (args : List V) (b : Nat) (l : List GIns) (n : Int) (x : V) (l' : List GIns) (n' : Int) : Prop := ACalls Try.prog f (.bp 5001 0 :: args) (wb b l n) (fun r L => r = .ret x ∧ L = wb b l' n')

theorem wlabel_ok (b : Nat) (l : List GIns) (n : Int) (hn : 0 ≤ n ∧ n ≤ 1000000000000) : WCalls 123 [] b l n (.d (.v (.int .i64 n))) l (n + 1) := by
  unfold WCalls wb
  refine ACalls.run Try.func123 rfl (by simp [Try.f123]) ?_; simp [Try.f123]
  rw [inR_i64, inR_i64]; omega
theorem lay0_ok (b : Nat) (l : List GIns) (n : Int) (op : Int) (hl : l.length ≤ 1000000000000) : WCalls 64 [.d (.v (.int .i64 op)), .d (.v (.slice none 0 0))] b l n (.tup []) (l ++ [⟨op, 0⟩]) n := by
  unfold WCalls wb
  refine ACalls.runP [5001, 5002] (by simp) Try.func64 rfl (by simp [Try.f64]) ?_; simp [Try.f64]
  intro bs
  refine AWP.loopS [0, 6, 11, 12, 13] 0 (fun i => []) (fun _ => []) (fun _ => True) (by rfl) (by simp) ?_
  intro i hi _
  obtain rfl : i = 0 := by omega
  simp
  refine AWP.regionM0 [some (0, 2), some (0, 1), some (0, 1), some (0, 1), some (0, 1), some (0, 0), none, none, some (2, 2), some (2, 2), none] [] Try.mixed (by kernel_rfl) ?_
  simp
  exact ⟨by omega, by simp [dd, GIns.enc]⟩
theorem lay1_ok (b : Nat) (l : List GIns) (n : Int) (op x : Int) (hl : l.length ≤ 1000000000000) : WCalls 64 [.d (.v (.int .i64 op)), .d (.sl (encI [x]))] b l n (.tup []) (l ++ [⟨op, x⟩]) n := by
  unfold WCalls wb
  refine ACalls.runP [5001, 5002] (by simp) Try.func64 rfl (by simp [Try.f64]) ?_; simp [Try.f64]
  intro bs
  refine AWP.loopS [0, 6, 11, 12, 13] 1 (fun i => [(13, .d (.v (.int .i64 i)))]) (fun i => [(6, .box (bs 0 + 1) 64 [.d (.v (.int .i64 op)), .d (.v (.int .i64 (if i = 0 then 0 else x)))])]) (fun _ => True) (by rfl) (by simp) ?_
  intro i hi _
  rcases Nat.lt_or_eq_of_le hi with hlt | rfl
  · obtain rfl : i = 0 := by omega
    simp
    rw [inR_i64]; omega
  · simp
    refine AWP.regionM0 [some (0, 2), some (0, 1), some (0, 1), some (0, 1), some (0, 1), some (0, 0), none, none, some (2, 2), some (2, 2), none] [] Try.mixed (by kernel_rfl) ?_
    simp
    exact ⟨by omega, by simp [dd, GIns.enc]⟩
theorem two_ok (b : Nat) (l : List GIns) (n : Int) (hn : 0 ≤ n ∧ n ≤ 999999999999) : WCalls 107 [] b l n (.tup [.d (.v (.int .i64 n)), .d (.v (.int .i64 (n + 1)))]) l (n + 2) := by
  have h2 := wlabel_ok b l (n + 1) (by omega)
  rw [show n + 1 + 1 = n + 2 by omega] at h2
  unfold WCalls wb
  refine ACalls.run Try.func107 rfl (by simp [Try.f107]) ?_; simp [Try.f107]
  refine AOps.effD [5001, 5002] rfl (wlabel_ok b l n (by omega)) (by simp [wb]) rfl (by simp) rfl (by kernel_rfl) (by simp [wb]) (by simp [wb]) (by simp [wb]) (by simp [wb]) (by simp [wb]) ?_
  simp
  refine AOps.effD [5001, 5002] rfl (h2) (by simp [wb]) rfl (by simp) rfl (by kernel_rfl) (by simp [wb]) (by simp [wb]) (by simp [wb]) (by simp [wb]) (by simp [wb]) ?_
  simp [wb]
end Go.Ab

set_option linter.unusedSimpArgs false
set_option linter.unusedVariables false
namespace Go.Ab
open Go.Proofs

def WExpr (x : GExpr) : Prop := ∀ (b : Nat) (l : List GIns) (n : Int), 0 ≤ n ∧ n + 2 * szE x ≤ 1000000000 ∧ l.length + 6 * szE x ≤ 100000000000 →
  WCalls 59 [.agg (x.enc.map .d)] b l n (.tup []) (l ++ (genE x n).1) (genE x n).2

theorem wexprs_of (es : List GExpr) (hes : es.length ≤ 2199023255488) (b : Nat) (l : List GIns) (n : Int) (hn : 0 ≤ n ∧ n + 2 * szEs es ≤ 1000000000 ∧ l.length + 6 * szEs es ≤ 100000000000) (ih : ∀ x ∈ es, WExpr x) :
    WCalls 94 [.d (.sl (es.map GExpr.enc))] b l n (.tup []) (l ++ (genEs es n).1) (genEs es n).2 := by
  have hbd := fun i => genEs_bd (es.take i) (fun x _ m => genE_bd x m) n
  have hszs : ∀ i, szEs (es.take i) ≤ szEs es := fun i => by
    have := szEs_app (es.take i) (es.drop i); rw [List.take_append_drop] at this; omega
  unfold WCalls wb
  refine ACalls.runP [5001, 5002] (by simp) Try.func94 rfl (by simp [Try.f94]) ?_; simp [Try.f94]
  refine AWP.loopS [0, 6, 7, 8] es.length (fun i => [(8, .d (.v (.int .i64 i)))]) (fun i => [(5001, .box (b + 1) 97 [.rv 5002, .d (.v (.int .i64 (genEs (es.take i) n).2))]), (5002, .row 64 2 (dd ((l ++ (genEs (es.take i) n).1).map GIns.enc)))]) (fun _ => True) (by rfl) (by simp [genEs]) ?_
  intro i hi _
  rcases Nat.lt_or_eq_of_le hi with hlt | rfl
  · have hge : es[i]? = some es[i] := List.getElem?_eq_getElem hlt
    have htk : List.take (i + 1) es = List.take i es ++ [es[i]] := by rw [List.take_add_one, hge]; rfl
    have hS := ih es[i] (List.getElem_mem hlt)
    have hsn := genEs_snoc (es.take i) es[i] n
    have hsz := szEs_app (es.take i) [es[i]]
    rw [← htk] at hsn hsz
    simp only [szEs] at hsz
    have h0 := hszs (i + 1)
    have h1 := hbd i
    generalize hE : es[i] = x at *
    generalize hM : genEs (es.take i) n = k at *
    generalize hM' : genEs (es.take (i + 1)) n = k' at *
    obtain ⟨k1, k2⟩ := k
    simp only at hsn h1
    have a4 : inR .i64 ((i : Int) + 1) := by rw [inR_i64]; omega
    have hC := hS b (l ++ k1) k2 ⟨by omega, by omega, by rw [List.length_append]; omega⟩
    generalize genE x k2 = q at *
    obtain ⟨q1, q2⟩ := q
    simp [hlt, hge, hE]
    intro bs
    refine AOps.effD [5001, 5002] rfl (hC) (by simp [wb]) rfl (by simp) rfl (by kernel_rfl) (by simp [wb]) (by simp [wb]) (by simp [wb]) (by simp [wb]) (by simp [wb]) ?_
    simp [hM', hsn, a4, hlt, wb]
  · simp
end Go.Ab

set_option linter.unusedSimpArgs false
set_option linter.unusedVariables false
namespace Go.Ab
open Go.Proofs

def lb (b2 b3 : Nat) (e : GExpr) : Heap := [(3, .box (b3 + 1) 53 (e.enc.map .d)), (2, .box (b2 + 1) 95 [.bp 5001 0])]
theorem right_of (b2 b3 : Nat) (e x y : GExpr) (hA : e.Args = [x, y]) (b : Nat) (l : List GIns) (n : Int) (hn : 0 ≤ n ∧ n + 2 * szE y ≤ 1000000000 ∧ l.length + 6 * szE y ≤ 100000000000) (hy : WExpr y) :
    ACalls Try.prog 108 [.bp 2 0, .bp 3 0] (wb b l n ++ lb b2 b3 e) (fun r L => r = .ret (.tup []) ∧ L = wb b (l ++ (genE y n).1 ++ [⟨11, 0⟩]) (genE y n).2 ++ lb b2 b3 e) := by
  have hC := hy b l n hn
  have hbd := genE_bd y n
  generalize genE y n = q at *
  obtain ⟨q1, q2⟩ := q
  simp only at hC hbd ⊢
  unfold lb wb
  refine ACalls.runP [5001, 5002, 3, 2] (by simp) Try.func108 rfl (by simp [Try.f108]) ?_; simp [Try.f108]
  refine AWP.regionM0 [some (0, 0), some (0, 0), some (0, 0), some (0, 0), some (0, 0), none] [] Try.mixed (by kernel_rfl) ?_
  simp [hA]
  refine EffM.intro (fun _ => LOp.call 5002 [5001, 5002] rfl (hC) (by simp [wb]) rfl (by kernel_rfl) (by simp [wb]) (by simp [wb]) (by simp +contextual [wb]) (by simp [wb]) (by simp [wb])) ?_
  simp [wb]
  refine AOps.effD [5001, 5002] rfl (lay0_ok b (l ++ q1) q2 11 (by rw [List.length_append] <;> omega)) (by simp [wb]) rfl (by simp) rfl (by kernel_rfl) (by simp [wb]) (by simp [wb]) (by simp [wb]) (by simp [wb]) (by simp [wb]) ?_
  simp [wb]

theorem wlogic_of (e x y : GExpr) (hk : e.Kind = 6) (ho : e.Op = 1 ∨ e.Op = 2) (hA : e.Args = [x, y]) (hx : WExpr x) (hy : WExpr y) (b : Nat) (l : List GIns) (n : Int) (hn : 0 ≤ n ∧ n + 2 * szE e ≤ 1000000000 ∧ l.length + 6 * szE e ≤ 100000000000) :
    WCalls 93 [.agg (e.enc.map .d)] b l n (.tup []) (l ++ (genE e n).1) (genE e n).2 := by
  have hz := szE_eq e
  rw [hA] at hz
  simp only [szEs] at hz
  have ba := genE_bd x (n + 2)
  have bb := genE_bd y (genE x (n + 2)).2
  have ca := hx b l (n + 2) ⟨by omega, by omega, by omega⟩
  have a1 : inR .i64 (n + 1) := by rw [inR_i64]; omega
  rcases ho with ho | ho
  · rw [genE_or e x y [] n hk ho hA]
    generalize genE x (n + 2) = p at *
    obtain ⟨p1, p2⟩ := p
    simp only at ba bb ca ⊢
    have hR := fun b2 b3 l h => right_of b2 b3 e x y hA b l p2 h hy
    generalize genE y p2 = q at *
    obtain ⟨q1, q2⟩ := q
    simp only at bb hR ⊢
    unfold WCalls wb
    refine ACalls.runP [5001, 5002] (by simp) Try.func93 rfl (by simp [Try.f93]) ?_; simp [Try.f93]
    intro bs
    refine AOps.effD [5001, 5002] rfl (two_ok b l n (by omega)) (by simp [wb]) rfl (by simp) rfl (by kernel_rfl) (by simp [wb]) (by simp [wb]) (by simp [wb]) (by simp [wb]) (by simp [wb]) ?_
    simp [wb]
    refine AWP.regionM0 [some (0, 0), some (0, 0), some (0, 0), some (0, 0), some (0, 0), none] [] Try.mixed (by kernel_rfl) ?_
    simp [hA]
    refine EffM.intro (fun _ => LOp.call 5002 [5001, 5002] rfl (ca) (by simp [wb]) rfl (by kernel_rfl) (by simp [wb]) (by simp [wb]) (by simp +contextual [wb]) (by simp [wb]) (by simp [wb])) ?_
    simp [wb]
    refine AOps.weaken (Wk.freeze 20 (ys := encI [n]) rfl) ?_
    simp
    refine AOps.effD [5001, 5002] rfl (lay1_ok b (l ++ p1) p2 25 (n) (by simp <;> omega)) (by simp [wb]) rfl (by simp) rfl (by kernel_rfl) (by simp [wb]) (by simp [wb]) (by simp [wb]) (by simp [wb]) (by simp [wb]) ?_
    simp [wb, ho, a1]
    refine AOps.weaken (Wk.freeze 27 (ys := encI [1]) rfl) ?_
    simp
    refine AOps.effD [5001, 5002] rfl (lay1_ok b (l ++ p1 ++ [GIns.mk 25 n]) p2 1 (1) (by simp <;> omega)) (by simp [wb]) rfl (by simp) rfl (by kernel_rfl) (by simp [wb]) (by simp [wb]) (by simp [wb]) (by simp [wb]) (by simp [wb]) ?_
    simp [wb, ho, a1]
    refine AOps.weaken (Wk.freeze 33 (ys := encI [(n+1)]) rfl) ?_
    simp
    refine AOps.effD [5001, 5002] rfl (lay1_ok b (l ++ p1 ++ [GIns.mk 25 n] ++ [GIns.mk 1 1]) p2 24 ((n+1)) (by simp <;> omega)) (by simp [wb]) rfl (by simp) rfl (by kernel_rfl) (by simp [wb]) (by simp [wb]) (by simp [wb]) (by simp [wb]) (by simp [wb]) ?_
    simp [wb, ho, a1]
    refine AOps.weaken (Wk.freeze 37 (ys := encI [n]) rfl) ?_
    simp
    refine AOps.effD [5001, 5002] rfl (lay1_ok b (l ++ p1 ++ [GIns.mk 25 n] ++ [GIns.mk 1 1] ++ [GIns.mk 24 (n+1)]) p2 38 (n) (by simp <;> omega)) (by simp [wb]) rfl (by simp) rfl (by kernel_rfl) (by simp [wb]) (by simp [wb]) (by simp [wb]) (by simp [wb]) (by simp [wb]) ?_
    simp [wb, ho, a1]
    refine AOps.effD [5001, 5002, 3, 2] rfl (hR (bs 0) (bs 1) (l ++ p1 ++ [GIns.mk 25 n] ++ [GIns.mk 1 1] ++ [GIns.mk 24 (n+1)] ++ [GIns.mk 38 n]) ⟨by omega, by omega, by simp <;> omega⟩) (by simp [wb]) rfl (by simp) rfl (by kernel_rfl) (by simp [wb, lb]) (by simp [wb, lb]) (by simp [wb, lb]) (by simp [wb, lb]) (by simp [wb, lb]) ?_
    simp [wb, lb, ho, a1]
    refine AOps.weaken (Wk.freeze 48 (ys := encI [(n+1)]) rfl) ?_
    simp
    refine AOps.effD [5001, 5002] rfl (lay1_ok b (l ++ p1 ++ [GIns.mk 25 n] ++ [GIns.mk 1 1] ++ [GIns.mk 24 (n+1)] ++ [GIns.mk 38 n] ++ q1 ++ [GIns.mk 11 0]) q2 38 ((n+1)) (by simp <;> omega)) (by simp [wb]) rfl (by simp) rfl (by kernel_rfl) (by simp [wb]) (by simp [wb]) (by simp [wb]) (by simp [wb]) (by simp [wb]) ?_
    simp [wb, ho, a1]
  · rw [genE_and e x y [] n hk ho hA]
    generalize genE x (n + 2) = p at *
    obtain ⟨p1, p2⟩ := p
    simp only at ba bb ca ⊢
    have hR := fun b2 b3 l h => right_of b2 b3 e x y hA b l p2 h hy
    generalize genE y p2 = q at *
    obtain ⟨q1, q2⟩ := q
    simp only at bb hR ⊢
    unfold WCalls wb
    refine ACalls.runP [5001, 5002] (by simp) Try.func93 rfl (by simp [Try.f93]) ?_; simp [Try.f93]
    intro bs
    refine AOps.effD [5001, 5002] rfl (two_ok b l n (by omega)) (by simp [wb]) rfl (by simp) rfl (by kernel_rfl) (by simp [wb]) (by simp [wb]) (by simp [wb]) (by simp [wb]) (by simp [wb]) ?_
    simp [wb]
    refine AWP.regionM0 [some (0, 0), some (0, 0), some (0, 0), some (0, 0), some (0, 0), none] [] Try.mixed (by kernel_rfl) ?_
    simp [hA]
    refine EffM.intro (fun _ => LOp.call 5002 [5001, 5002] rfl (ca) (by simp [wb]) rfl (by kernel_rfl) (by simp [wb]) (by simp [wb]) (by simp +contextual [wb]) (by simp [wb]) (by simp [wb])) ?_
    simp [wb]
    refine AOps.weaken (Wk.freeze 20 (ys := encI [n]) rfl) ?_
    simp
    refine AOps.effD [5001, 5002] rfl (lay1_ok b (l ++ p1) p2 25 (n) (by simp <;> omega)) (by simp [wb]) rfl (by simp) rfl (by kernel_rfl) (by simp [wb]) (by simp [wb]) (by simp [wb]) (by simp [wb]) (by simp [wb]) ?_
    simp [wb, ho, a1]
    refine AOps.effD [5001, 5002, 3, 2] rfl (hR (bs 0) (bs 1) (l ++ p1 ++ [GIns.mk 25 n]) ⟨by omega, by omega, by simp <;> omega⟩) (by simp [wb]) rfl (by simp) rfl (by kernel_rfl) (by simp [wb, lb]) (by simp [wb, lb]) (by simp [wb, lb]) (by simp [wb, lb]) (by simp [wb, lb]) ?_
    simp [wb, lb, ho, a1]
    refine AOps.weaken (Wk.freeze 33 (ys := encI [(n+1)]) rfl) ?_
    simp
    refine AOps.effD [5001, 5002] rfl (lay1_ok b (l ++ p1 ++ [GIns.mk 25 n] ++ q1 ++ [GIns.mk 11 0]) q2 24 ((n+1)) (by simp <;> omega)) (by simp [wb]) rfl (by simp) rfl (by kernel_rfl) (by simp [wb]) (by simp [wb]) (by simp [wb]) (by simp [wb]) (by simp [wb]) ?_
    simp [wb, ho, a1]
    refine AOps.weaken (Wk.freeze 37 (ys := encI [n]) rfl) ?_
    simp
    refine AOps.effD [5001, 5002] rfl (lay1_ok b (l ++ p1 ++ [GIns.mk 25 n] ++ q1 ++ [GIns.mk 11 0] ++ [GIns.mk 24 (n+1)]) q2 38 (n) (by simp <;> omega)) (by simp [wb]) rfl (by simp) rfl (by kernel_rfl) (by simp [wb]) (by simp [wb]) (by simp [wb]) (by simp [wb]) (by simp [wb]) ?_
    simp [wb, ho, a1]
    refine AOps.effD [5001, 5002] rfl (lay0_ok b (l ++ p1 ++ [GIns.mk 25 n] ++ q1 ++ [GIns.mk 11 0] ++ [GIns.mk 24 (n+1)] ++ [GIns.mk 38 n]) q2 1 (by simp <;> omega)) (by simp [wb]) rfl (by simp) rfl (by kernel_rfl) (by simp [wb]) (by simp [wb]) (by simp [wb]) (by simp [wb]) (by simp [wb]) ?_
    simp [wb, ho, a1]
    refine AOps.weaken (Wk.freeze 48 (ys := encI [(n+1)]) rfl) ?_
    simp
    refine AOps.effD [5001, 5002] rfl (lay1_ok b (l ++ p1 ++ [GIns.mk 25 n] ++ q1 ++ [GIns.mk 11 0] ++ [GIns.mk 24 (n+1)] ++ [GIns.mk 38 n] ++ [GIns.mk 1 0]) q2 38 ((n+1)) (by simp <;> omega)) (by simp [wb]) rfl (by simp) rfl (by kernel_rfl) (by simp [wb]) (by simp [wb]) (by simp [wb]) (by simp [wb]) (by simp [wb]) ?_
    simp [wb, ho, a1]
end Go.Ab

set_option linter.unusedSimpArgs false
set_option linter.unusedVariables false
namespace Go.Ab
open Go.Proofs

theorem bound_kind {t : GTables} {locals : Int} {e : GExpr} (h : boundM t locals e false = true) : e.Kind = 1 ∨ e.Kind = 14 ∨ e.Kind = 15 ∨ e.Kind = 12 ∨ e.Kind = 4 ∨ e.Kind = 5 ∨ e.Kind = 11 ∨ e.Kind = 6 ∨ e.Kind = 16 ∨ e.Kind = 17 ∨ e.Kind = 18 ∨ e.Kind = 10 := by
  rw [boundM_eq, Bool.and_eq_true] at h
  have h1 := h.1
  refine Decidable.byContradiction fun hn => ?_
  simp only [not_or] at hn
  obtain ⟨n0, n1, n2, n3, n4, n5, n6, n7, n8, n9, n10, n11⟩ := hn
  simp [boundK, n0, n1, n2, n3, n4, n5, n6, n7, n8, n9, n10, n11] at h1

set_option maxRecDepth 20000 in
set_option maxHeartbeats 4000000 in
theorem wplain_of (t : GTables) (locals : Int) (e : GExpr) (he : e.wf) (hb : boundM t locals e false = true) (hL : ¬ logicE e) (hs : ∀ x ∈ e.Args, WExpr x) : WExpr e := by
  intro b l n hn
  have hz := szE_eq e
  have hw := (GExpr.wf_iff e).1 he
  have hlen : e.Args.length ≤ 2199023255488 := by omega
  have bd := genEs_bd e.Args (fun x _ m => genE_bd x m) n
  have hc := wexprs_of e.Args hlen b l n ⟨by omega, by omega, by omega⟩ hs
  have hkd := bound_kind hb
  rw [genE_plain e n hL]
  generalize genEs e.Args n = p at *
  obtain ⟨p1, p2⟩ := p
  simp only at bd hc ⊢
  rcases hkd with hk | hk | hk | hk | hk | hk | hk | hk | hk | hk | hk | hk
  · have hO : ownM e = ⟨1, e.Num⟩ := by simp [ownM, hk]
    rw [hO]
    unfold WCalls wb
    refine ACalls.runP [5001, 5002] (by simp) Try.func59 rfl (by simp [Try.f59]) ?_; simp [Try.f59, hk]
    intro bs
    refine AOps.effD [5001, 5002] rfl (hc) (by simp [wb]) rfl (by simp) rfl (by kernel_rfl) (by simp [wb]) (by simp [wb]) (by simp [wb]) (by simp [wb]) (by simp [wb]) ?_
    simp [wb, hk]
    refine AOps.weaken (Wk.freeze 31 (ys := encI [e.Num]) rfl) ?_
    simp
    refine AOps.effD [5001, 5002] rfl (lay1_ok b (l ++ p1) p2 1 e.Num (by simp <;> omega)) (by simp [wb]) rfl (by simp) rfl (by kernel_rfl) (by simp [wb]) (by simp [wb]) (by simp [wb]) (by simp [wb]) (by simp [wb]) ?_
    simp [wb]
  · have hO : ownM e = ⟨3, e.Num⟩ := by simp [ownM, hk]
    rw [hO]
    unfold WCalls wb
    refine ACalls.runP [5001, 5002] (by simp) Try.func59 rfl (by simp [Try.f59]) ?_; simp [Try.f59, hk]
    intro bs
    refine AOps.effD [5001, 5002] rfl (hc) (by simp [wb]) rfl (by simp) rfl (by kernel_rfl) (by simp [wb]) (by simp [wb]) (by simp [wb]) (by simp [wb]) (by simp [wb]) ?_
    simp [wb, hk]
    refine AOps.weaken (Wk.freeze 38 (ys := encI [e.Num]) rfl) ?_
    simp
    refine AOps.effD [5001, 5002] rfl (lay1_ok b (l ++ p1) p2 3 e.Num (by simp <;> omega)) (by simp [wb]) rfl (by simp) rfl (by kernel_rfl) (by simp [wb]) (by simp [wb]) (by simp [wb]) (by simp [wb]) (by simp [wb]) ?_
    simp [wb]
  · have hO : ownM e = ⟨5, e.Num⟩ := by simp [ownM, hk]
    rw [hO]
    unfold WCalls wb
    refine ACalls.runP [5001, 5002] (by simp) Try.func59 rfl (by simp [Try.f59]) ?_; simp [Try.f59, hk]
    intro bs
    refine AOps.effD [5001, 5002] rfl (hc) (by simp [wb]) rfl (by simp) rfl (by kernel_rfl) (by simp [wb]) (by simp [wb]) (by simp [wb]) (by simp [wb]) (by simp [wb]) ?_
    simp [wb, hk]
    refine AOps.weaken (Wk.freeze 45 (ys := encI [e.Num]) rfl) ?_
    simp
    refine AOps.effD [5001, 5002] rfl (lay1_ok b (l ++ p1) p2 5 e.Num (by simp <;> omega)) (by simp [wb]) rfl (by simp) rfl (by kernel_rfl) (by simp [wb]) (by simp [wb]) (by simp [wb]) (by simp [wb]) (by simp [wb]) ?_
    simp [wb]
  · have hO : ownM e = ⟨7, e.Op⟩ := by simp [ownM, hk]
    rw [hO]
    unfold WCalls wb
    refine ACalls.runP [5001, 5002] (by simp) Try.func59 rfl (by simp [Try.f59]) ?_; simp [Try.f59, hk]
    intro bs
    refine AOps.effD [5001, 5002] rfl (hc) (by simp [wb]) rfl (by simp) rfl (by kernel_rfl) (by simp [wb]) (by simp [wb]) (by simp [wb]) (by simp [wb]) (by simp [wb]) ?_
    simp [wb, hk]
    refine AOps.weaken (Wk.freeze 52 (ys := encI [e.Op]) rfl) ?_
    simp
    refine AOps.effD [5001, 5002] rfl (lay1_ok b (l ++ p1) p2 7 e.Op (by simp <;> omega)) (by simp [wb]) rfl (by simp) rfl (by kernel_rfl) (by simp [wb]) (by simp [wb]) (by simp [wb]) (by simp [wb]) (by simp [wb]) ?_
    simp [wb]
  · have hO : ownM e = ⟨9, 0⟩ := by simp [ownM, hk]
    rw [hO]
    unfold WCalls wb
    refine ACalls.runP [5001, 5002] (by simp) Try.func59 rfl (by simp [Try.f59]) ?_; simp [Try.f59, hk]
    intro bs
    refine AOps.effD [5001, 5002] rfl (hc) (by simp [wb]) rfl (by simp) rfl (by kernel_rfl) (by simp [wb]) (by simp [wb]) (by simp [wb]) (by simp [wb]) (by simp [wb]) ?_
    simp [wb, hk]
    refine AOps.effD [5001, 5002] rfl (lay0_ok b (l ++ p1) p2 9 (by simp <;> omega)) (by simp [wb]) rfl (by simp) rfl (by kernel_rfl) (by simp [wb]) (by simp [wb]) (by simp [wb]) (by simp [wb]) (by simp [wb]) ?_
    simp [wb]
  · have hO : ownM e = ⟨10, 0⟩ := by simp [ownM, hk]
    rw [hO]
    unfold WCalls wb
    refine ACalls.runP [5001, 5002] (by simp) Try.func59 rfl (by simp [Try.f59]) ?_; simp [Try.f59, hk]
    intro bs
    refine AOps.effD [5001, 5002] rfl (hc) (by simp [wb]) rfl (by simp) rfl (by kernel_rfl) (by simp [wb]) (by simp [wb]) (by simp [wb]) (by simp [wb]) (by simp [wb]) ?_
    simp [wb, hk]
    refine AOps.effD [5001, 5002] rfl (lay0_ok b (l ++ p1) p2 10 (by simp <;> omega)) (by simp [wb]) rfl (by simp) rfl (by kernel_rfl) (by simp [wb]) (by simp [wb]) (by simp [wb]) (by simp [wb]) (by simp [wb]) ?_
    simp [wb]
  · have hO : ownM e = ⟨20, 0⟩ := by simp [ownM, hk]
    rw [hO]
    unfold WCalls wb
    refine ACalls.runP [5001, 5002] (by simp) Try.func59 rfl (by simp [Try.f59]) ?_; simp [Try.f59, hk]
    intro bs
    refine AOps.effD [5001, 5002] rfl (hc) (by simp [wb]) rfl (by simp) rfl (by kernel_rfl) (by simp [wb]) (by simp [wb]) (by simp [wb]) (by simp [wb]) (by simp [wb]) ?_
    simp [wb, hk]
    refine AOps.effD [5001, 5002] rfl (lay0_ok b (l ++ p1) p2 20 (by simp <;> omega)) (by simp [wb]) rfl (by simp) rfl (by kernel_rfl) (by simp [wb]) (by simp [wb]) (by simp [wb]) (by simp [wb]) (by simp [wb]) ?_
    simp [wb]
  · have hO : ownM e = ⟨8, e.Op⟩ := by simp [ownM, hk]
    rw [hO]
    have h1 : ¬ e.Op = 1 := fun h => hL ⟨hk, .inl h⟩
    have h2 : ¬ e.Op = 2 := fun h => hL ⟨hk, .inr h⟩
    unfold WCalls wb
    refine ACalls.runP [5001, 5002] (by simp) Try.func59 rfl (by simp [Try.f59]) ?_; simp [Try.f59, hk, h1, h2]
    intro bs
    refine AOps.effD [5001, 5002] rfl (hc) (by simp [wb]) rfl (by simp) rfl (by kernel_rfl) (by simp [wb]) (by simp [wb]) (by simp [wb]) (by simp [wb]) (by simp [wb]) ?_
    simp [wb, hk, h1, h2]
    refine AOps.weaken (Wk.freeze 71 (ys := encI [e.Op]) rfl) ?_
    simp
    refine AOps.effD [5001, 5002] rfl (lay1_ok b (l ++ p1) p2 8 e.Op (by simp <;> omega)) (by simp [wb]) rfl (by simp) rfl (by kernel_rfl) (by simp [wb]) (by simp [wb]) (by simp [wb]) (by simp [wb]) (by simp [wb]) ?_
    simp [wb]
  · have hO : ownM e = ⟨12, e.Num⟩ := by simp [ownM, hk]
    rw [hO]
    unfold WCalls wb
    refine ACalls.runP [5001, 5002] (by simp) Try.func59 rfl (by simp [Try.f59]) ?_; simp [Try.f59, hk]
    intro bs
    refine AOps.effD [5001, 5002] rfl (hc) (by simp [wb]) rfl (by simp) rfl (by kernel_rfl) (by simp [wb]) (by simp [wb]) (by simp [wb]) (by simp [wb]) (by simp [wb]) ?_
    simp [wb, hk]
    refine AOps.weaken (Wk.freeze 78 (ys := encI [e.Num]) rfl) ?_
    simp
    refine AOps.effD [5001, 5002] rfl (lay1_ok b (l ++ p1) p2 12 e.Num (by simp <;> omega)) (by simp [wb]) rfl (by simp) rfl (by kernel_rfl) (by simp [wb]) (by simp [wb]) (by simp [wb]) (by simp [wb]) (by simp [wb]) ?_
    simp [wb]
  · have hO : ownM e = ⟨13, e.Num⟩ := by simp [ownM, hk]
    rw [hO]
    unfold WCalls wb
    refine ACalls.runP [5001, 5002] (by simp) Try.func59 rfl (by simp [Try.f59]) ?_; simp [Try.f59, hk]
    intro bs
    refine AOps.effD [5001, 5002] rfl (hc) (by simp [wb]) rfl (by simp) rfl (by kernel_rfl) (by simp [wb]) (by simp [wb]) (by simp [wb]) (by simp [wb]) (by simp [wb]) ?_
    simp [wb, hk]
    refine AOps.weaken (Wk.freeze 85 (ys := encI [e.Num]) rfl) ?_
    simp
    refine AOps.effD [5001, 5002] rfl (lay1_ok b (l ++ p1) p2 13 e.Num (by simp <;> omega)) (by simp [wb]) rfl (by simp) rfl (by kernel_rfl) (by simp [wb]) (by simp [wb]) (by simp [wb]) (by simp [wb]) (by simp [wb]) ?_
    simp [wb]
  · have hO : ownM e = ⟨26, e.Num⟩ := by simp [ownM, hk]
    rw [hO]
    unfold WCalls wb
    refine ACalls.runP [5001, 5002] (by simp) Try.func59 rfl (by simp [Try.f59]) ?_; simp [Try.f59, hk]
    intro bs
    refine AOps.effD [5001, 5002] rfl (hc) (by simp [wb]) rfl (by simp) rfl (by kernel_rfl) (by simp [wb]) (by simp [wb]) (by simp [wb]) (by simp [wb]) (by simp [wb]) ?_
    simp [wb, hk]
    refine AOps.weaken (Wk.freeze 92 (ys := encI [e.Num]) rfl) ?_
    simp
    refine AOps.effD [5001, 5002] rfl (lay1_ok b (l ++ p1) p2 26 e.Num (by simp <;> omega)) (by simp [wb]) rfl (by simp) rfl (by kernel_rfl) (by simp [wb]) (by simp [wb]) (by simp [wb]) (by simp [wb]) (by simp [wb]) ?_
    simp [wb]
  · have hO : ownM e = ⟨19, e.Op⟩ := by simp [ownM, hk]
    rw [hO]
    unfold WCalls wb
    refine ACalls.runP [5001, 5002] (by simp) Try.func59 rfl (by simp [Try.f59]) ?_; simp [Try.f59, hk]
    intro bs
    refine AOps.effD [5001, 5002] rfl (hc) (by simp [wb]) rfl (by simp) rfl (by kernel_rfl) (by simp [wb]) (by simp [wb]) (by simp [wb]) (by simp [wb]) (by simp [wb]) ?_
    simp [wb, hk]
    refine AOps.weaken (Wk.freeze 99 (ys := encI [e.Op]) rfl) ?_
    simp
    refine AOps.effD [5001, 5002] rfl (lay1_ok b (l ++ p1) p2 19 e.Op (by simp <;> omega)) (by simp [wb]) rfl (by simp) rfl (by kernel_rfl) (by simp [wb]) (by simp [wb]) (by simp [wb]) (by simp [wb]) (by simp [wb]) ?_
    simp [wb]

theorem wexpr_ok (t : GTables) (locals : Int) (e : GExpr) (he : e.wf) (hb : boundM t locals e false = true) : WExpr e := by
  obtain ⟨N, hN⟩ : ∃ N, SizeOf.sizeOf e < N := ⟨_, Nat.lt_succ_self _⟩
  induction N generalizing e with
  | zero => omega
  | succ N ih =>
    have hw := (GExpr.wf_iff e).1 he
    have hs : ∀ x ∈ e.Args, WExpr x := fun x hx => ih x (hw.2.2.2.2.2 _ hx) (bound_mem hb hx) (by have := GExpr.lt_of_mem hx; omega)
    by_cases hL : logicE e
    · obtain ⟨x, y, hA⟩ := bound_logic hb hL.1
      have hx := hs x (by simp [hA])
      have hy := hs y (by simp [hA])
      obtain ⟨hk, ho⟩ := hL
      intro b l n hn
      have hc := wlogic_of e x y hk ho hA hx hy b l n hn
      generalize genE e n = q at *
      obtain ⟨q1, q2⟩ := q
      simp only at hc ⊢
      unfold WCalls wb
      rcases ho with ho | ho <;>
      · refine ACalls.runP [5001, 5002] (by simp) Try.func59 rfl (by simp [Try.f59]) ?_; simp [Try.f59, hk, ho]
        intro bs
        refine AOps.effD [5001, 5002] rfl (hc) (by simp [wb]) rfl (by simp) rfl (by kernel_rfl) (by simp [wb]) (by simp [wb]) (by simp [wb]) (by simp [wb]) (by simp [wb]) ?_
        simp [wb]
    · exact wplain_of t locals e he hb hL hs
end Go.Ab

set_option linter.unusedSimpArgs false
set_option linter.unusedVariables false
namespace Go.Ab
open Go.Proofs

theorem genExpr_ok (t : GTables) (locals : Int) (e : GExpr) (he : e.wf) (hb : boundM t locals e false = true) (hn : szE e ≤ 40000) : Pure Try.prog 30 [.agg (e.enc.map .d)] (.d (.sl ((genE e 0).1.map GIns.enc))) := by
  have hc := fun b => wexpr_ok t locals e he hb b [] 0 ⟨by omega, by omega, by simp <;> omega⟩
  generalize genE e 0 = q at *
  obtain ⟨q1, q2⟩ := q
  simp only [List.nil_append] at hc ⊢
  refine Pure.run Try.func30 rfl (by simp [Try.f30]) ?_; simp [Try.f30]
  intro bs bs1
  refine AOps.weaken ((Wk.ren 5 5001 (by simp)).trans (Wk.ownBox 5001 0 5002 (e := 64) (k := 2) rfl rfl (by simp))) ?_
  simp [Heap.upd]
  refine AOps.weaken (Wk.pick [7, 6, 3, 2] [5001, 5002] (by rfl) (by simp) (by simp)) ?_
  simp
  refine AOps.effD [5001, 5002] rfl (hc (bs1 0)) (by simp [wb]) rfl (by simp) rfl (by kernel_rfl) (by simp [wb]) (by simp [wb]) (by simp [wb]) (by simp [wb]) (by simp [wb]) ?_
  simp [wb]
theorem refExprTop_ok (t : GTables) (locals : Int) (e : GExpr) (he : e.wf) (hb : boundM t locals e false = true) (hn : szE e ≤ 40000) : Pure Try.prog 31 [.agg (e.enc.map .d)] (.d (.sl ((genE e 0).1.map GIns.enc))) := by
  have hc := refExpr_ok t locals e he hb 0 ⟨by omega, by omega⟩
  unfold genT at hc
  generalize genE e 0 = q at *
  obtain ⟨q1, q2⟩ := q
  simp only at hc ⊢
  refine Pure.run Try.func31 rfl (by simp [Try.f31]) ?_; simp [Try.f31]
  intro bs
  refine AOps.pureC rfl (hc) (by simp) rfl (by simp) rfl ?_
  simp
theorem same_ok (a b : List GIns) (ha : a.length ≤ 1000000000000) : Pure Try.prog 29 [.d (.sl (a.map GIns.enc)), .d (.sl (b.map GIns.enc))] (.d (.v (.bool (decide (a = b))))) := by
  refine Pure.run Try.func29 rfl (by simp [Try.f29]) ?_; simp [Try.f29]
  refine ⟨fun h e => h (by rw [e]), fun hl => ?_⟩
  refine AWP.loopS [0, 1, 5] a.length (fun i => [(5, .d (.v (.int .i64 i)))]) (fun _ => []) (fun i => ∀ j, j < i → a[j]? = b[j]?) (by rfl) (by simp) ?_
  intro i hi hj
  rcases Nat.lt_or_eq_of_le hi with hlt | rfl
  · have hia : a[i]? = some a[i] := List.getElem?_eq_getElem hlt
    have hib : b[i]? = some (b[i]'(by omega)) := List.getElem?_eq_getElem (by omega)
    generalize hA : a[i] = u at hia
    generalize hB : b[i]'(by omega) = v at hib
    have a4 : inR .i64 ((i : Int) + 1) := by rw [inR_i64]; omega
    simp [hlt]
    refine AWP.regionD [] Try.mixed (by kernel_rfl) (by rfl) ?_
    simp [hia, hib, hA, hB, hlt, a4, ← hl]
    refine ⟨by omega, fun h e => h (by subst e; rw [hia] at hib; exact Option.some.inj hib), fun h j hj' => ?_⟩
    rcases Nat.lt_or_ge j i with h' | h'
    · exact hj j h'
    · obtain rfl : j = i := by omega
      rw [hia, hib, h]
  · simp
    apply List.ext_getElem?
    intro j
    rcases Nat.lt_or_ge j a.length with h' | h'
    · exact hj j h'
    · rw [List.getElem?_eq_none (by omega), List.getElem?_eq_none (by omega)]

end Go.Ab

set_option linter.unusedSimpArgs false
set_option linter.unusedVariables false
namespace Go.Ab
open Go.Proofs

theorem bareLook_ok : Pure Try.prog 124 [.d (.v (.int .i64 21))] (.d (.v (.int .i64 35))) := by
  refine Pure.run Try.func124 rfl (by simp [Try.f124]) ?_; simp [Try.f124]
set_option maxRecDepth 20000 in
theorem plainLook_ok (s : GStmt) (hk : s.Kind = 21) (hA : s.Args = []) (b : Nat) (l : List GIns) (n : Int) (hl : l.length ≤ 1000) (hn : 0 ≤ n ∧ n ≤ 1000) : WCalls 111 [.agg (s.enc.map .d)] b l n (.tup []) (l ++ [⟨37, 0⟩, ⟨35, 0⟩]) n := by
  have hx := wexprs_of [] (by simp) b (l ++ [⟨37, 0⟩]) n ⟨by omega, by simp [szEs] <;> omega, by simp [szEs] <;> omega⟩ (by simp)
  simp only [genEs, List.append_nil, List.map_nil] at hx
  unfold WCalls wb
  refine ACalls.runP [5001, 5002] (by simp) Try.func111 rfl (by simp [Try.f111]) ?_; simp [Try.f111, hk, hA]
  intro bs
  refine AOps.effD [5001, 5002] rfl (lay0_ok b l n 37 (by omega)) (by simp [wb]) rfl (by simp) rfl (by kernel_rfl) (by simp [wb]) (by simp [wb]) (by simp [wb]) (by simp [wb]) (by simp [wb]) ?_
  simp [wb, hk, hA]
  refine AOps.effD [5001, 5002] rfl (hx) (by simp [wb]) rfl (by simp) rfl (by kernel_rfl) (by simp [wb]) (by simp [wb]) (by simp [wb]) (by simp [wb]) (by simp [wb]) ?_
  simp [wb, hk, hA]
  refine AOps.pureC rfl (bareLook_ok) (by simp) rfl (by simp) rfl ?_
  simp
  refine AOps.effD [5001, 5002] rfl (lay0_ok b (l ++ [⟨37, 0⟩]) n 35 (by simp <;> omega)) (by simp [wb]) rfl (by simp) rfl (by kernel_rfl) (by simp [wb]) (by simp [wb]) (by simp [wb]) (by simp [wb]) (by simp [wb]) ?_
  simp [wb]
theorem stmtLook_ok (s : GStmt) (hk : s.Kind = 21) (hA : s.Args = []) (b : Nat) (l : List GIns) (n : Int) (hl : l.length ≤ 1000) (hn : 0 ≤ n ∧ n ≤ 1000) : WCalls 103 [.agg (s.enc.map .d)] b l n (.tup []) (l ++ [⟨37, 0⟩, ⟨35, 0⟩]) n := by
  have hc := plainLook_ok s hk hA b l n hl hn
  unfold WCalls wb
  refine ACalls.runP [5001, 5002] (by simp) Try.func103 rfl (by simp [Try.f103]) ?_; simp [Try.f103, hk, hA]
  intro bs
  refine AOps.effD [5001, 5002] rfl (hc) (by simp [wb]) rfl (by simp) rfl (by kernel_rfl) (by simp [wb]) (by simp [wb]) (by simp [wb]) (by simp [wb]) (by simp [wb]) ?_
  simp [wb]
theorem blockLook_ok (s : GStmt) (hk : s.Kind = 21) (hA : s.Args = []) (b : Nat) : WCalls 63 [.d (.sl ([s].map GStmt.enc))] b [] 0 (.tup []) [⟨37, 0⟩, ⟨35, 0⟩] 0 := by
  have hc := stmtLook_ok s hk hA b [] 0 (by simp) (by omega)
  unfold WCalls wb
  refine ACalls.runP [5001, 5002] (by simp) Try.func63 rfl (by simp [Try.f63]) ?_; simp [Try.f63]
  refine AWP.loopS [0, 6, 7, 8] 1 (fun i => [(8, .d (.v (.int .i64 i)))]) (fun i => [(5001, .box (b + 1) 97 [.rv 5002, .d (.v (.int .i64 0))]), (5002, .row 64 2 (dd ((if i = 0 then ([] : List GIns) else [⟨37, 0⟩, ⟨35, 0⟩]).map GIns.enc)))]) (fun _ => True) (by rfl) (by simp) ?_
  intro i hi _
  rcases Nat.lt_or_eq_of_le hi with hlt | rfl
  · obtain rfl : i = 0 := by omega
    simp
    intro bs
    refine AOps.effD [5001, 5002] rfl (hc) (by simp [wb]) rfl (by simp) rfl (by kernel_rfl) (by simp [wb]) (by simp [wb]) (by simp [wb]) (by simp [wb]) (by simp [wb]) ?_
    simp [wb]
    rw [inR_i64]; omega
  · simp
theorem routineLook_ok (s : GStmt) (hk : s.Kind = 21) (hA : s.Args = []) : Pure Try.prog 34 [.d (.sl ([s].map GStmt.enc))] (.d (.sl ([(⟨37, 0⟩ : GIns), ⟨35, 0⟩, ⟨1, 0⟩, ⟨27, 0⟩].map GIns.enc))) := by
  refine Pure.run Try.func34 rfl (by simp [Try.f34]) ?_; simp [Try.f34]
  intro bs
  refine AOps.weaken ((Wk.ren 5 5001 (by simp)).trans (Wk.ownBox 5001 0 5002 (e := 64) (k := 2) rfl rfl (by simp))) ?_
  simp [Heap.upd]
  refine AOps.weaken (Wk.pick [7, 6, 3, 2] [5001, 5002] (by rfl) (by simp) (by simp)) ?_
  simp
  refine AOps.effD [5001, 5002] rfl (blockLook_ok s hk hA (bs 0)) (by simp [wb]) rfl (by simp) rfl (by kernel_rfl) (by simp [wb]) (by simp [wb]) (by simp [wb]) (by simp [wb]) (by simp [wb]) ?_
  simp [wb]
  refine AOps.effD [5001, 5002] rfl (lay0_ok (bs 0) [⟨37, 0⟩, ⟨35, 0⟩] 0 1 (by simp)) (by simp [wb]) rfl (by simp) rfl (by kernel_rfl) (by simp [wb]) (by simp [wb]) (by simp [wb]) (by simp [wb]) (by simp [wb]) ?_
  simp [wb]
  refine AOps.effD [5001, 5002] rfl (lay0_ok (bs 0) [⟨37, 0⟩, ⟨35, 0⟩, ⟨1, 0⟩] 0 27 (by simp)) (by simp [wb]) rfl (by simp) rfl (by kernel_rfl) (by simp [wb]) (by simp [wb]) (by simp [wb]) (by simp [wb]) (by simp [wb]) ?_
  simp [wb]

def gNum (n : Int) : GExpr := .mk 1 0 n ⟨#[]⟩ []
def gOr : GExpr := .mk 6 1 0 ⟨#[]⟩ [gNum 1, gNum 2]
def gLook : GStmt := .mk 21 0 ⟨#[]⟩ [] [] []
def tab0 : GTables := ⟨0, 0, 0, 0, [], 0, [], [], [], [], [], [], [], [], []⟩
def want1 : List GIns := [⟨1, 1⟩, ⟨25, 0⟩, ⟨1, 1⟩, ⟨24, 1⟩, ⟨38, 0⟩, ⟨1, 2⟩, ⟨11, 0⟩, ⟨38, 1⟩]
def want2 : List GIns := [⟨37, 0⟩, ⟨35, 0⟩, ⟨1, 0⟩, ⟨27, 0⟩]
theorem genOr : (genE gOr 0).1 = want1 := by
  simp [gOr, gNum, genE, genEs, want1, ownM]
theorem gOr_wf : gOr.wf := by
  simp [gOr, gNum, GExpr.wf, GExpr.wfs, inR_i64]
  decide
def numC (n : Int) : List D := [.v (.int .i64 1), .v (.int .i64 0), .v (.int .i64 n), .v (.string ⟨#[]⟩), .v (.slice none 0 0)]
def lookC : List D := [.v (.int .i64 21), .v (.int .i64 0), .v (.string ⟨#[]⟩), .v (.slice none 0 0), .v (.slice none 0 0), .v (.slice none 0 0)]
theorem awake_ok : Pure Try.prog 28 [] (.d (.v (.bool true))) := by
  have hG := (genExpr_ok tab0 0 gOr gOr_wf (by simp [gOr, gNum, boundM, boundsM, boundK, bareM, isM, amongM]) (by simp [gOr, gNum, szE, szEs]))
  rw [genOr] at hG
  have hR := routineLook_ok gLook rfl rfl
  have s1 := same_ok want1 want1 (by decide)
  have s2 := fun args L => (same_ok want2 want2 (by decide)).lend (args := args) (L := L) rfl
  rw [show decide (want1 = want1) = true by simp] at s1
  rw [show decide (want2 = want2) = true by simp] at s2
  refine Pure.run Try.func28 rfl (by simp [Try.f28]) ?_; simp [Try.f28]
  intro bs
  refine AOps.weaken (Wk.freezeN 10 (ys := [numC 1, numC 2]) rfl) ?_
  simp [numC]
  refine AOps.pureC rfl hG (by simp [gOr, gNum, GExpr.enc, GExpr.encs]) rfl (by simp) rfl ?_
  simp
  refine AOps.weaken (Wk.freezeN 23 (ys := [lookC]) rfl) ?_
  simp [lookC]
  refine AOps.pureC rfl hR (by simp [gLook, GStmt.enc, GStmt.encs, GExpr.enc, GExpr.encs]) rfl (by simp) rfl ?_
  simp
  refine AOps.weaken (Wk.freeze 21 (ys := want1.map GIns.enc) rfl) ?_
  simp
  refine AOps.pureC rfl s1 (by simp) rfl (by simp) rfl ?_
  simp
  refine runC_sound _ _ [.d (.v (.bool true))] (by rfl) ?_
  simp
  exact s2 _ _ rfl
end Go.Ab

set_option linter.unusedSimpArgs false
set_option linter.unusedVariables false
namespace Go.Ab
open Go.Proofs

theorem bound_said {t : GTables} {locals : Int} {e : GExpr} (h : boundM t locals e true = true) (h1 : e.Kind ≠ 19) (h2 : e.Kind ≠ 13) : boundM t locals e false = true := by
  rw [boundM_eq] at h ⊢
  simpa [boundK, h1, h2] using h
theorem genExprs_ok (t : GTables) (ht : t.wf) (e : GExpr) (he : e.wf) (locals : Int) : Pure Try.prog 7 [.agg (t.enc.map .d), .agg (e.enc.map .d), .d (.v (.int .i64 locals))] (.d (.v (.bool true))) := by
  have hA := awake_ok.ok
  have hF := (refFew_ok e he 400 (by omega)).ok
  have hB := (refBound_ok t ht e he locals).ok
  have key : 0 ≤ fewM e 400 → boundM t locals e true = true → e.Kind ≠ 19 → e.Kind ≠ 13 → boundM t locals e false = true ∧ szE e ≤ 40000 := fun h1 h2 h3 h4 => ⟨bound_said h2 h3 h4, by have := fewM_sz e 400 h1; omega⟩
  refine Pure.run Try.func7 rfl (by simp [Try.f7]) ?_; simp [Try.f7]
  intro bs
  refine runC_sound _ _ [.d (.v (.int .i64 (fewM e 400))), .d (.v (.bool (decide (deepM e 65 ≤ 32) && boundM t locals e true)))] (by rfl) ?_
  simp [hF, hB]
  refine ⟨fun _ => ?_, fun h1 _ h2 h3 h4 => ?_⟩
  · refine AOps.pureC rfl (awake_ok) (by simp) rfl (by simp) rfl ?_
    simp
  · obtain ⟨hb, hz⟩ := key h1 h2 h3 h4
    have c1 := (genExpr_ok t locals e he hb hz).ok
    have c2 := (refExprTop_ok t locals e he hb hz).ok
    have bd := genE_bd e 0
    generalize (genE e 0).1 = g at *
    have c3 := (same_ok g g (by omega)).ok
    rw [show decide (g = g) = true by simp] at c3
    refine AWP.regionD [.d (.sl (g.map GIns.enc)), .d (.sl (g.map GIns.enc)), .d (.v (.bool true)), .d (.v (.bool true))] Try.mixed (by kernel_rfl) (by rfl) ?_
    simp [c1, c2, c3, hA]
end Go.Ab

set_option linter.unusedSimpArgs false
set_option linter.unusedVariables false
namespace Go.Ab
open Go.Proofs

/-! ### Statements: FewBlock -/
@[simp] theorem GStmt.Kind_mk (k n : Int) (s : ByteArray) (a : List GExpr) (b c : List GStmt) : (GStmt.mk k n s a b c).Kind = k := rfl
@[simp] theorem GStmt.Num_mk (k n : Int) (s : ByteArray) (a : List GExpr) (b c : List GStmt) : (GStmt.mk k n s a b c).Num = n := rfl
@[simp] theorem GStmt.Name_mk (k n : Int) (s : ByteArray) (a : List GExpr) (b c : List GStmt) : (GStmt.mk k n s a b c).Name = s := rfl
@[simp] theorem GStmt.Args_mk (k n : Int) (s : ByteArray) (a : List GExpr) (b c : List GStmt) : (GStmt.mk k n s a b c).Args = a := rfl
@[simp] theorem GStmt.Body_mk (k n : Int) (s : ByteArray) (a : List GExpr) (b c : List GStmt) : (GStmt.mk k n s a b c).Body = b := rfl
@[simp] theorem GStmt.Else_mk (k n : Int) (s : ByteArray) (a : List GExpr) (b c : List GStmt) : (GStmt.mk k n s a b c).Else = c := rfl
theorem GStmt.lt_body (s : GStmt) : SizeOf.sizeOf s.Body < SizeOf.sizeOf s := by
  cases s; simp only [GStmt.Body_mk, GStmt.mk.sizeOf_spec]; omega
theorem GStmt.lt_else (s : GStmt) : SizeOf.sizeOf s.Else < SizeOf.sizeOf s := by
  cases s; simp only [GStmt.Else_mk, GStmt.mk.sizeOf_spec]; omega
-- FewBlock: below 0 it is not looked at again before the next statement (so it may fall further: by at most 3 for each level, and there are at most so many levels as 'most')
def fewB : List GStmt → Int → Int
  | [], m => m
  | .mk _ _ _ a b c :: l, m => if fewsM a (m - 1) < 0 then fewsM a (m - 1) else fewB l (fewB c (fewB b (fewsM a (m - 1))))
mutual
def szS : GStmt → Nat
  | .mk _ _ _ a b c => 1 + szEs a + szB b + szB c
def szB : List GStmt → Nat
  | [] => 0
  | s :: l => szS s + szB l
end
theorem fewB_cons (s : GStmt) (l : List GStmt) (m : Int) : fewB (s :: l) m = if fewsM s.Args (m - 1) < 0 then fewsM s.Args (m - 1) else fewB l (fewB s.Else (fewB s.Body (fewsM s.Args (m - 1)))) := by
  cases s; rw [fewB]; rfl
theorem szS_eq (s : GStmt) : szS s = 1 + szEs s.Args + szB s.Body + szB s.Else := by cases s; rw [szS]; rfl
theorem fewB_neg (l : List GStmt) (m : Int) (h : m < 0) : m - 1 ≤ fewB l m ∧ fewB l m ≤ m := by
  cases l with
  | nil => rw [fewB]; omega
  | cons s l => rw [fewB_cons, fewsM_neg _ _ (by omega), if_pos (by omega)]; omega
theorem fewB_bd : ∀ (n : Nat) (l : List GStmt), SizeOf.sizeOf l < n → ∀ m : Int, 0 ≤ m → -3 * m - 4 ≤ fewB l m ∧ fewB l m ≤ m ∧ (0 ≤ fewB l m → fewB l m = m - szB l) := by
  intro n
  induction n with
  | zero => intro l h; omega
  | succ n ih =>
    intro l h m hm
    cases l with
    | nil => rw [fewB, szB]; omega
    | cons s l =>
      have hl : SizeOf.sizeOf l < n := by simp only [List.cons.sizeOf_spec] at h; omega
      have hs : SizeOf.sizeOf s < n := by simp only [List.cons.sizeOf_spec] at h; omega
      have hb := GStmt.lt_body s
      have he := GStmt.lt_else s
      rw [fewB_cons, szB, szS_eq]
      have h1 := fewsM_le s.Args (m - 1)
      have h1' := fewsM_ge s.Args (m - 1) (by omega)
      have h1'' := few_sz _ s.Args (Nat.lt_succ_self _) (m - 1)
      generalize fewsM s.Args (m - 1) = m1 at *
      split
      · omega
      · have h2 := ih s.Body (by omega) m1 (by omega)
        generalize fewB s.Body m1 = m2 at *
        have h3 := fewB_neg s.Else m2
        have h3' := ih s.Else (by omega) m2
        generalize fewB s.Else m2 = m3 at *
        have h4 := fewB_neg l m3
        have h4' := ih l hl m3
        generalize fewB l m3 = m4 at *
        by_cases c2 : 0 ≤ m2
        · have h3'' := h3' c2
          by_cases c3 : 0 ≤ m3
          · have h4'' := h4' c3
            refine ⟨by omega, by omega, fun h => ?_⟩
            have := h4''.2.2 h; have := h3''.2.2 c3; have := h2.2.2 c2; have := h1'' (by omega); omega
          · have := h4 (by omega); omega
        · have := h3 (by omega)
          have := h4 (by omega)
          omega
end Go.Ab

set_option linter.unusedSimpArgs false
set_option linter.unusedVariables false
namespace Go.Ab
open Go.Proofs

def vB : List GStmt → Int → Int
  | [], m => m
  | s :: l, m => vB l (fewB s.Else (fewB s.Body (fewsM s.Args (m - 1))))
theorem vB_snoc (l : List GStmt) (s : GStmt) (m : Int) : vB (l ++ [s]) m = fewB s.Else (fewB s.Body (fewsM s.Args (vB l m - 1))) := by
  induction l generalizing m with
  | nil => simp [vB]
  | cons x l ih => simp only [List.cons_append, vB]; exact ih _

theorem refFewB_ok (l : List GStmt) (hl : ∀ s ∈ l, s.wf) (hlen : l.length * 104 ≤ 140737488351232) (m : Int) (hm : -4000000000000 ≤ m ∧ m ≤ 1000000000000) : Pure Try.prog 32 [.d (.sl (l.map GStmt.enc)), .d (.v (.int .i64 m))] (.d (.v (.int .i64 (fewB l m)))) := by
  obtain ⟨n, hn⟩ : ∃ n, SizeOf.sizeOf l < n := ⟨_, Nat.lt_succ_self _⟩
  induction n generalizing l m with
  | zero => omega
  | succ n ih =>
    have hsub : ∀ s ∈ l, (∀ m, -4000000000000 ≤ m ∧ m ≤ 1000000000000 → Pure Try.prog 32 [.d (.sl (s.Body.map GStmt.enc)), .d (.v (.int .i64 m))] (.d (.v (.int .i64 (fewB s.Body m))))) ∧
        (∀ m, -4000000000000 ≤ m ∧ m ≤ 1000000000000 → Pure Try.prog 32 [.d (.sl (s.Else.map GStmt.enc)), .d (.v (.int .i64 m))] (.d (.v (.int .i64 (fewB s.Else m))))) := by
      intro s hs
      have hw := hl s hs
      have h1 := List.sizeOf_lt_of_mem hs
      have h2 := GStmt.lt_body s
      have h3 := GStmt.lt_else s
      exact ⟨fun m hm => ih s.Body (GStmt.wf_Body hw) (GStmt.wl_Body hw) m hm (by omega), fun m hm => ih s.Else (GStmt.wf_Else hw) (GStmt.wl_Else hw) m hm (by omega)⟩
    refine Pure.run Try.func32 rfl (by simp [Try.f32]) ?_; simp [Try.f32]
    refine AWP.loopL [1, 9, 10, 11] l (fun pre => [(1, .d (.v (.int .i64 (vB pre m)))), (11, .d (.v (.int .i64 pre.length)))]) (fun _ => []) (fun pre => (∃ post, l = pre ++ post ∧ fewB l m = fewB post (vB pre m)) ∧ -4000000000000 ≤ vB pre m ∧ vB pre m ≤ 1000000000000) (by rfl) (by omega) (by simp [vB, hm]) ?_ ?_
    · rintro pre s post hsp ⟨⟨post', hsp', hv⟩, hv1, hv2⟩ hlt hge a4
      obtain rfl : post' = s :: post := List.append_cancel_left (hsp'.symm.trans hsp)
      have hS := hsub s (by rw [hsp]; simp)
      have hws := hl s (by rw [hsp]; simp)
      have hsn := vB_snoc pre s m
      rw [fewB_cons] at hv
      generalize hM : vB pre m = v at *
      have a1 : inR .i64 (v - 1) := by rw [inR_i64]; omega
      have hwa := GStmt.wl_Args hws
      simp [hlt, hge]
      intro bs
      refine ⟨a1, ?_⟩
      refine AWP.loopL [1, 6, 9, 10, 11, 18, 19, 20] s.Args (fun pre => [(1, .d (.v (.int .i64 (fewsM pre (v - 1))))), (20, .d (.v (.int .i64 pre.length)))]) (fun _ => []) (fun _ => True) (by rfl) (by omega) (by simp [fewsM]) ?_ ?_
      · rintro pre' e post' hsp2 - hlt2 hge2 b4
        have hap := fewsM_app pre' (e :: post') (v - 1)
        have hsn2 := fewsM_snoc pre' e (v - 1)
        have hle := fewsM_le pre' (v - 1)
        rw [← hsp2] at hap
        generalize hM2 : fewsM pre' (v - 1) = k at *
        simp [hlt2, hge2]
        intro bs2
        refine ⟨fun h => ?_, fun h => ?_⟩
        · rw [fewsM_neg _ _ h] at hap
          rw [hv, hap, if_pos h]
        · have hwe := GStmt.wf_Args hws e (by rw [hsp2]; simp)
          refine AOps.pureC rfl (refFew_ok e hwe k ⟨h, by omega⟩) (by simp) rfl (by simp) rfl ?_
          simp
          refine ⟨b4, ?_⟩
          rw [hsn2, if_neg (by omega)]
      · intro _
        have h1 := fewsM_le s.Args (v - 1)
        generalize fewsM s.Args (v - 1) = k at *
        simp
        refine ⟨fun h => ?_, fun h => ?_⟩
        · rw [hv, if_pos h]
        · rw [if_neg (by omega)] at hv
          have b1 := fewB_bd _ s.Body (Nat.lt_succ_self _) k h
          have c1 := (hS.1 k ⟨by omega, by omega⟩).ok
          generalize fewB s.Body k = k2 at *
          have b2 : -4000000000000 ≤ fewB s.Else k2 ∧ fewB s.Else k2 ≤ 1000000000000 := by
            rcases Int.lt_or_le k2 0 with hk | hk
            · have := fewB_neg s.Else k2 hk; omega
            · have := fewB_bd _ s.Else (Nat.lt_succ_self _) k2 hk; omega
          have c2 := (hS.2 k2 ⟨by omega, by omega⟩).ok
          generalize fewB s.Else k2 = k3 at *
          refine AWP.regionD [.d (.v (.int .i64 k2)), .d (.v (.int .i64 k3))] Try.mixed (by kernel_rfl) (by rfl) ?_
          simp [c1, c2, a4, hsn, hv, b2]
          exact ⟨post, hsp, rfl⟩
    · rintro ⟨⟨post', hsp', hv⟩, _⟩
      obtain rfl : post' = [] := by simpa using hsp'
      simp [hv, fewB]
end Go.Ab

set_option linter.unusedSimpArgs false
set_option linter.unusedVariables false
namespace Go.Ab
open Go.Proofs
set_option maxRecDepth 40000
set_option maxHeartbeats 4000000

/-! ### Statements: what may be (boundBlock) -/
def hasM (s : GStmt) (named : Bool) (args : Int) (body other : Bool) : Bool :=
  decide ((s.Args.length : Int) = args) && (body || decide (s.Body.length = 0)) && (other || decide (s.Else.length = 0)) && (named || (s.Name.toList.isEmpty && decide (s.Num = 0)))
def shapeM (s : GStmt) : Bool × Bool :=
  if s.Kind = 1 then (hasM s false s.Args.length false false && amongM s.Args.length 1 8, false)
  else if s.Kind = 2 ∨ s.Kind = 3 ∨ s.Kind = 5 ∨ s.Kind = 6 ∨ s.Kind = 17 ∨ s.Kind = 23 then (hasM s true 1 false false, true)
  else if s.Kind = 4 then (hasM s true 2 false false, true)
  else if s.Kind = 7 then (hasM s false 2 false false, false)
  else if s.Kind = 8 ∨ s.Kind = 12 ∨ s.Kind = 16 ∨ s.Kind = 20 ∨ s.Kind = 22 ∨ s.Kind = 19 then (hasM s false 1 false false, false)
  else if s.Kind = 9 then (hasM s false 1 true true, false)
  else if s.Kind = 10 then (hasM s false 1 true false, false)
  else if s.Kind = 11 then (hasM s true 1 true false, true)
  else if s.Kind = 18 then (hasM s true 0 false false, true)
  else if s.Kind = 13 ∨ s.Kind = 14 ∨ s.Kind = 15 ∨ s.Kind = 21 then (hasM s false 0 false false, false)
  else (false, false)
def thereM (t : GTables) (s : GStmt) (locals : Int) : Bool :=
  if s.Name.toList.isEmpty then
    if s.Kind = 2 ∨ s.Kind = 3 then decide (0 ≤ s.Num) && decide (s.Num < locals)
    else if s.Kind = 11 then decide (0 ≤ s.Num) && decide (s.Num < locals - 1) && decide (1 < locals)
    else if s.Kind = 23 then amongM s.Num 0 (t.Globals.length - 1)
    else if s.Kind = 4 then amongM s.Num 0 (t.Props.length - 1)
    else if s.Kind = 5 ∨ s.Kind = 6 then decide (0 ≤ s.Num) && decide (s.Num < t.Flags)
    else if s.Kind = 17 ∨ s.Kind = 18 then amongM s.Num 0 (t.Daemons.length - 1)
    else true
  else false
theorem has_ok (s : GStmt) (named : Bool) (args : Int) (body other : Bool) : Pure Try.prog 110 [.agg (s.enc.map .d), .d (.v (.bool named)), .d (.v (.int .i64 args)), .d (.v (.bool body)), .d (.v (.bool other))] (.d (.v (.bool (hasM s named args body other)))) := by
  refine Pure.run Try.func110 rfl (by simp [Try.f110]) ?_; simp [Try.f110]
  refine ⟨?_, ?_, ?_, ?_, ?_⟩
  any_goals (simp +contextual; done)
  have e : s.Name.toList.isEmpty = decide (s.Name.toList = []) := by cases s.Name.toList <;> simp
  rw [hasM, e, show decide (s.Num = 0) = (s.Num == 0) from rfl]; simp
theorem shape_ok (s : GStmt) : Pure Try.prog 101 [.agg (s.enc.map .d)] (.tup [.d (.v (.bool (shapeM s).1)), .d (.v (.bool (shapeM s).2))]) := by
  refine Pure.run Try.func101 rfl (by simp [Try.f101]) ?_; simp [-condC_bool, Try.f101]
  repeat' (first
    | (with_reducible refine And.intro ?_ ?_)
    | (refine condC_split (fun h => ?_) (fun h => ?_) <;> (try simp at h) <;> (try simp [-condC_bool, *]))
    | (refine AOps.pureC rfl (has_ok s _ _ _ _) rfl rfl (by simp) rfl ?_ <;> (try simp [-condC_bool, *]))
    | (refine AOps.pureC rfl (among_ok _ _ _) rfl rfl (by simp) rfl ?_ <;> (try simp [-condC_bool, *]))
    | (refine AOps.pureG rfl (fun h => has_ok s _ _ _ _) rfl rfl (by simp) (by simp) rfl ?_ <;> (try simp [-condC_bool, *]))
    | (refine AOps.pureG rfl (fun h => among_ok _ _ _) rfl rfl (by simp) (by simp) rfl ?_ <;> (try simp [-condC_bool, *]))
    | (with_reducible intro _))
  all_goals first | (simp [shapeM, *]; done) | trace_state
theorem there_min (t : GTables) (s : GStmt) (hk : s.Kind = 11) (hn : s.Name.toList = []) : Pure Try.prog 102 [.agg (t.enc.map .d), .agg (s.enc.map .d), .d (.v (.int .i64 (-9223372036854775808)))] (.d (.v (.bool false))) := by
  refine Pure.runA Try.func102 rfl (by simp [Try.f102]) ?_
  refine AWP.seqK ?_
  simp [Try.f102]
  intro bs
  refine AWP.seqK ?_
  simp [hn]
  refine AWP.seq (AWP.seqK ?_)
  simp [hk]
  refine AWP.block (AWP.seqK ?_)
  simp
  refine AWP.cond rfl (fun h => by simp at h) (fun _ => ?_)
  refine AWP.seqK ?_
  simp
  refine AWP.cond rfl (fun _ => ?_) (fun h => by simp at h)
  refine AWP.seq (AWP.regionS (AOps.stop 7 [] (by rfl) ?_))
  simp
  refine AOps.subG (a := -9223372036854775808) (b := 1) rfl (by rfl) (by simp) (by simp) (by simp) ?_
  refine runC_sound _ _ [] (by rfl) ?_
  simp
  refine AWP.ret ?_
  simp
theorem there_ok (t : GTables) (ht : t.wf) (s : GStmt) (locals : Int) (hl : inR .i64 locals) : Pure Try.prog 102 [.agg (t.enc.map .d), .agg (s.enc.map .d), .d (.v (.int .i64 locals))] (.d (.v (.bool (thereM t s locals)))) := by
  have b1 := GTables.wl_Globals ht
  have b2 := GTables.wl_Props ht
  have b3 := GTables.wl_Daemons ht
  by_cases hm : (s.Kind = 11 ∧ s.Name.toList = []) ∧ locals = -9223372036854775808
  · obtain ⟨⟨hk, hn⟩, rfl⟩ := hm
    exact (there_min t s hk hn).eq rfl (by simp [thereM, hk, hn])
  have hlo : s.Kind = 11 → s.Name.toList = [] → inR .i64 (locals - 1) := fun h1 h2 => by
    rw [inR_i64] at hl ⊢
    have : ¬ locals = -9223372036854775808 := fun h => hm ⟨⟨h1, h2⟩, h⟩
    omega
  clear hm
  refine Pure.run Try.func102 rfl (by simp [Try.f102]) ?_; simp [-condC_bool, Try.f102]
  repeat' (first
    | (with_reducible refine And.intro ?_ ?_)
    | (refine condC_split (fun h => ?_) (fun h => ?_) <;> (try simp at h) <;> (try simp [-condC_bool, *]))
    | (refine AOps.pureC rfl (among_ok _ _ _) rfl rfl (by simp) rfl ?_ <;> (try simp [-condC_bool, *]))
    | (refine AOps.pureG rfl (fun h => among_ok _ _ _) rfl rfl (by simp) (by simp) rfl ?_ <;> (try simp [-condC_bool, *]))
    | (with_reducible intro _))
  all_goals first | assumption | (exact hlo (by assumption) (by assumption)) | (rw [inR_i64]; omega) | (simp [thereM, *]; done) | trace_state
end Go.Ab

set_option linter.unusedSimpArgs false
set_option linter.unusedVariables false
namespace Go.Ab
open Go.Proofs
set_option maxRecDepth 40000
set_option maxHeartbeats 4000000

/-! ### How deep statements are -/
def greaterM (a b : Int) : Int := if b < a then a else b
theorem greater_ok (a b : Int) : Pure Try.prog 109 [.d (.v (.int .i64 a)), .d (.v (.int .i64 b))] (.d (.v (.int .i64 (greaterM a b)))) := by
  refine Pure.run Try.func109 rfl (by simp [Try.f109]) ?_; simp [-condC_bool, Try.f109]
  repeat' (first
    | (with_reducible refine And.intro ?_ ?_)
    | (refine condC_split (fun h => ?_) (fun h => ?_) <;> (try simp at h) <;> (try simp [-condC_bool, *]))
    | (with_reducible intro _))
  all_goals simp [greaterM, *] <;> omega
mutual
def deepS : GStmt → Int → Int → Int
  | .mk _ _ _ a b c, m, n => greaterM (deepsM a m n) (greaterM (if b.isEmpty then 0 else (if 1 < m then deepSs b (m - 1) 0 else 0) + 1) (if c.isEmpty then 0 else (if 1 < m then deepSs c (m - 1) 0 else 0) + 1))
def deepSs : List GStmt → Int → Int → Int
  | [], _, n => n
  | s :: l, m, n => deepSs l m (deepS s m n)
end
def deepB (l : List GStmt) (m : Int) : Int := if l.isEmpty then 0 else (if 1 < m then deepSs l (m - 1) 0 else 0) + 1
theorem deepS_eq (s : GStmt) (m n : Int) : deepS s m n = greaterM (deepsM s.Args m n) (greaterM (deepB s.Body m) (deepB s.Else m)) := by cases s; rw [deepS]; rfl
theorem deepSs_snoc (l : List GStmt) (s : GStmt) (m n : Int) : deepSs (l ++ [s]) m n = deepS s m (deepSs l m n) := by
  induction l generalizing n with
  | nil => simp only [List.nil_append, deepSs]
  | cons x l ih => simp only [List.cons_append, deepSs]; exact ih _
theorem deepSs_bd : ∀ (N : Nat) (l : List GStmt), SizeOf.sizeOf l < N → ∀ m n : Int, 1 ≤ m → 0 ≤ n → n ≤ m → 0 ≤ deepSs l m n ∧ deepSs l m n ≤ m := by
  intro N
  induction N with
  | zero => intro l h; omega
  | succ N ih =>
    intro l h m n h1 h2 h3
    cases l with
    | nil => rw [deepSs]; omega
    | cons s l =>
      rw [deepSs]
      have hs : SizeOf.sizeOf s < N := by simp only [List.cons.sizeOf_spec] at h; omega
      have hb := GStmt.lt_body s
      have he := GStmt.lt_else s
      have hB : ∀ l' : List GStmt, SizeOf.sizeOf l' < N → 0 ≤ deepB l' m ∧ deepB l' m ≤ m := fun l' hl => by
        unfold deepB
        split
        · omega
        · split
          · have := ih l' hl (m - 1) 0 (by omega) (by omega) (by omega); omega
          · omega
      have b1 := hB s.Body (by omega)
      have b2 := hB s.Else (by omega)
      have b3 := deepsM_le s.Args m n h1 h2 h3
      refine ih l (by simp only [List.cons.sizeOf_spec] at h; omega) m _ h1 ?_ ?_
      · rw [deepS_eq]; unfold greaterM; repeat' split
        all_goals omega
      · rw [deepS_eq]; unfold greaterM; repeat' split
        all_goals omega
theorem deepB_bd (l : List GStmt) (m : Int) (h : 1 ≤ m) : 0 ≤ deepB l m ∧ deepB l m ≤ m := by
  unfold deepB
  split
  · omega
  · split
    · have := deepSs_bd _ l (Nat.lt_succ_self _) (m - 1) 0 (by omega) (by omega) (by omega); omega
    · omega
theorem deepsM_max (l : List GExpr) (x : GExpr) (m n : Int) : deepsM (l ++ [x]) m n = greaterM (deepsM l m n) (deepM x m) := by
  rw [deepsM_snoc]; unfold greaterM; split <;> split <;> omega
theorem deepB_ok (l : List GStmt) (hl : ∀ s ∈ l, s.wf) (hlen : l.length * 104 ≤ 140737488351232) (m : Int) (hm : 1 ≤ m ∧ m ≤ 1000000000000) : Pure Try.prog 100 [.d (.sl (l.map GStmt.enc)), .d (.v (.int .i64 m))] (.d (.v (.int .i64 (deepB l m)))) := by
  obtain ⟨n, hn⟩ : ∃ n, SizeOf.sizeOf l < n := ⟨_, Nat.lt_succ_self _⟩
  induction n generalizing l m with
  | zero => omega
  | succ n ih =>
    have hsub : ∀ s ∈ l, (∀ m, 1 ≤ m ∧ m ≤ 1000000000000 → Pure Try.prog 100 [.d (.sl (s.Body.map GStmt.enc)), .d (.v (.int .i64 m))] (.d (.v (.int .i64 (deepB s.Body m))))) ∧
        (∀ m, 1 ≤ m ∧ m ≤ 1000000000000 → Pure Try.prog 100 [.d (.sl (s.Else.map GStmt.enc)), .d (.v (.int .i64 m))] (.d (.v (.int .i64 (deepB s.Else m))))) := by
      intro s hs
      have hw := hl s hs
      have h1 := List.sizeOf_lt_of_mem hs
      have h2 := GStmt.lt_body s
      have h3 := GStmt.lt_else s
      exact ⟨fun m hm => ih s.Body (GStmt.wf_Body hw) (GStmt.wl_Body hw) m hm (by omega), fun m hm => ih s.Else (GStmt.wf_Else hw) (GStmt.wl_Else hw) m hm (by omega)⟩
    by_cases hE : l = []
    · subst hE
      refine Pure.run Try.func100 rfl (by simp [Try.f100]) ?_; simp [Try.f100]
      rfl
    have hD : deepB l m = (if 1 < m then deepSs l (m - 1) 0 else 0) + 1 := by unfold deepB; simp [hE]
    rw [hD]
    have hG := fun a b L => (greater_ok a b).ok L
    have hBd := fun pre => deepSs_bd _ pre (Nat.lt_succ_self _) (m - 1) 0
    refine Pure.run Try.func100 rfl (by simp [Try.f100]) ?_; simp [Try.f100]
    simp [hE]
    refine ⟨fun h1 => ?_, fun h1 => ?_⟩
    · refine AWP.loopL [1, 5, 15, 16, 17] l (fun pre => [(5, .d (.v (.int .i64 (deepSs pre (m - 1) 0)))), (17, .d (.v (.int .i64 pre.length)))]) (fun _ => []) (fun _ => True) (by rfl) (by omega) (by simp [deepSs]) ?_ ?_
      · rintro pre s post hsp - hlt hge a4
        have hS := hsub s (by rw [hsp]; simp)
        have hws := hl s (by rw [hsp]; simp)
        have hwa := GStmt.wl_Args hws
        have hsn := deepSs_snoc pre s (m - 1) 0
        rw [deepS_eq] at hsn
        have hb := hBd pre (by omega) (by omega) (by omega)
        generalize deepSs pre (m - 1) 0 = v at *
        simp [hlt, hge]
        intro bs
        refine AWP.loopL [1, 5, 7, 15, 16, 17, 22, 23, 24] s.Args (fun pre => [(5, .d (.v (.int .i64 (deepsM pre (m - 1) v)))), (24, .d (.v (.int .i64 pre.length)))]) (fun _ => []) (fun _ => True) (by rfl) (by omega) (by simp [deepsM]) ?_ ?_
        · rintro pre' e post' hsp2 - hlt2 hge2 b4
          have hsn2 := deepsM_max pre' e (m - 1) v
          have a1 : inR .i64 (m - 1) := by rw [inR_i64]; omega
          have hwe := GStmt.wf_Args hws e (by rw [hsp2]; simp)
          simp [hlt2, hge2, a1]
          intro bs2
          refine AOps.pureC rfl (deep_ok e hwe (m - 1) ⟨by omega, by omega⟩) (by simp) rfl (by simp) rfl ?_
          simp
          refine AOps.pureC rfl (greater_ok _ _) rfl rfl (by simp) rfl ?_
          simp [b4, hsn2]
        · intro _
          have c1 := (hS.1 (m - 1) ⟨by omega, by omega⟩).ok
          have c2 := (hS.2 (m - 1) ⟨by omega, by omega⟩).ok
          have a1 : inR .i64 (m - 1) := by rw [inR_i64]; omega
          simp
          refine AWP.regionD [.d (.v (.int .i64 (deepB s.Body (m - 1)))), .d (.v (.int .i64 (deepB s.Else (m - 1)))), .d (.v (.int .i64 (greaterM (deepB s.Body (m - 1)) (deepB s.Else (m - 1))))), .d (.v (.int .i64 (greaterM (deepsM s.Args (m - 1) v) (greaterM (deepB s.Body (m - 1)) (deepB s.Else (m - 1))))))] Try.mixed (by kernel_rfl) (by rfl) ?_
          simp [c1, c2, a1, a4, hG, hsn]
      · intro _
        have hb := hBd l (by omega) (by omega) (by omega)
        simp [h1]
        rw [inR_i64]; omega
    · rw [if_neg (by omega)]; exact ⟨by rw [inR_i64]; omega, rfl⟩
theorem depthB_ok (l : List GStmt) (hl : ∀ s ∈ l, s.wf) (hlen : l.length * 104 ≤ 140737488351232) : Pure Try.prog 61 [.d (.sl (l.map GStmt.enc))] (.d (.v (.int .i64 (deepB l 65)))) := by
  refine Pure.run Try.func61 rfl (by simp [Try.f61]) ?_; simp [Try.f61]
  refine AOps.pureC rfl (deepB_ok l hl hlen 65 (by omega)) (by simp) rfl (by simp) rfl ?_
  simp
end Go.Ab

set_option linter.unusedSimpArgs false
set_option linter.unusedVariables false
namespace Go.Ab
open Go.Proofs
set_option maxRecDepth 40000
set_option maxHeartbeats 4000000

/-! ### What may be -/
def callM (s : GStmt) : Bool := decide ((s.Args[0]?.getD GExpr.zero).Kind = 18)
mutual
def boundS (t : GTables) (locals : Int) : GStmt → Bool
  | .mk k n nm a b c => (shapeM (.mk k n nm a b c)).1 && thereM t (.mk k n nm a b c) locals && (decide (k ≠ 19) || callM (.mk k n nm a b c)) && (a.all fun x => boundM t locals x (decide (k = 1))) && (boundSs t locals b && decide (b.length ≤ 256)) && (boundSs t locals c && decide (c.length ≤ 256))
def boundSs (t : GTables) (locals : Int) : List GStmt → Bool
  | [] => true
  | s :: l => boundS t locals s && boundSs t locals l
end
def boundB (t : GTables) (locals : Int) (l : List GStmt) : Bool := boundSs t locals l && decide (l.length ≤ 256)
theorem boundS_eq (t : GTables) (locals : Int) (s : GStmt) : boundS t locals s = ((shapeM s).1 && thereM t s locals && (decide (s.Kind ≠ 19) || callM s) && (s.Args.all fun x => boundM t locals x (decide (s.Kind = 1))) && boundB t locals s.Body && boundB t locals s.Else) := by cases s; rw [boundS]; rfl
theorem boundSs_all (t : GTables) (locals : Int) (l : List GStmt) : boundSs t locals l = l.all fun s => boundS t locals s := by
  induction l with
  | nil => rw [boundSs]; rfl
  | cons s l ih => rw [boundSs, ih]; rfl
theorem shape_call {s : GStmt} (h : (shapeM s).1 = true) (hk : s.Kind = 19) : ∃ x, s.Args = [x] := by
  simp [shapeM, hk, hasM] at h
  have hl : s.Args.length = 1 := by omega
  generalize s.Args = l at hl
  match l, hl with
  | [x], _ => exact ⟨x, rfl⟩

theorem boundB_ok (t : GTables) (ht : t.wf) (locals : Int) (hlo : inR .i64 locals) (l : List GStmt) (hl : ∀ s ∈ l, s.wf) (hlen : l.length * 104 ≤ 140737488351232) : Pure Try.prog 62 [.agg (t.enc.map .d), .d (.sl (l.map GStmt.enc)), .d (.v (.int .i64 locals))] (.d (.v (.bool (boundB t locals l)))) := by
  obtain ⟨n, hn⟩ : ∃ n, SizeOf.sizeOf l < n := ⟨_, Nat.lt_succ_self _⟩
  induction n generalizing l with
  | zero => omega
  | succ n ih =>
    have hsub : ∀ s ∈ l, Pure Try.prog 62 [.agg (t.enc.map .d), .d (.sl (s.Body.map GStmt.enc)), .d (.v (.int .i64 locals))] (.d (.v (.bool (boundB t locals s.Body)))) ∧
        Pure Try.prog 62 [.agg (t.enc.map .d), .d (.sl (s.Else.map GStmt.enc)), .d (.v (.int .i64 locals))] (.d (.v (.bool (boundB t locals s.Else)))) := by
      intro s hs
      have hw := hl s hs
      have h1 := List.sizeOf_lt_of_mem hs
      have h2 := GStmt.lt_body s
      have h3 := GStmt.lt_else s
      exact ⟨ih s.Body (GStmt.wf_Body hw) (GStmt.wl_Body hw) (by omega), ih s.Else (GStmt.wf_Else hw) (GStmt.wl_Else hw) (by omega)⟩
    refine Pure.run Try.func62 rfl (by simp [Try.f62]) ?_; simp [Try.f62]
    intro bs0
    refine AWP.loopL [1, 2, 3, 13, 14, 15] l (fun pre => [(15, .d (.v (.int .i64 pre.length)))]) (fun _ => []) (fun pre => boundSs t locals pre = true) (by rfl) (by omega) (by simp [boundSs]) ?_ ?_
    · rintro pre s post hsp hpre hlt hge a4
      have hno : boundS t locals s = false → boundB t locals l = false := fun h => by
        unfold boundB; rw [boundSs_all, hsp]; simp [h]
      have hyes : boundS t locals s = true → boundSs t locals (pre ++ [s]) = true := fun h => by
        rw [boundSs_all] at hpre ⊢; rw [List.all_append, hpre]; simp [h]
      have hS := hsub s (by rw [hsp]; simp)
      have hws := hl s (by rw [hsp]; simp)
      have hwa := GStmt.wl_Args hws
      rw [boundS_eq] at hno hyes
      have hcall : (shapeM s).1 = true → s.Kind = 19 → 0 < s.Args.length := fun h1 h2 => by obtain ⟨x, hx⟩ := shape_call h1 h2; simp [hx]
      have hsp' := hsp.symm
      clear ih hsub hlen hn hsp
      simp [-condC_bool, hlt, hge]
      intro bs
      refine AOps.pureC rfl (shape_ok s) rfl rfl (by simp) rfl ?_
      simp [-condC_bool]
      repeat' (first
        | (with_reducible refine And.intro ?_ ?_)
        | (refine condC_split (fun h => ?_) (fun h => ?_) <;> (try simp at h) <;> (try simp [-condC_bool, *]))
        | (refine AOps.pureC rfl (there_ok t ht s locals hlo) rfl rfl (by simp) rfl ?_ <;> (try simp [-condC_bool, *]))
        | (refine AOps.pureG rfl (fun h => there_ok t ht s locals hlo) rfl rfl (by simp) (by simp) rfl ?_ <;> (try simp [-condC_bool, *]))
        | (with_reducible intro _))
      all_goals first | assumption | (exact hcall (by assumption) (by assumption)) | (apply hno; rcases h with (h | h) | ⟨h1, h2⟩ <;> simp [callM, *]; done) | skip
      have hS1 := hS.1.ok
      have hS2 := hS.2.ok
      refine AWP.loopL [1, 2, 3, 8, 13, 14, 15, 47, 48, 49] s.Args (fun pre => [(49, .d (.v (.int .i64 pre.length)))]) (fun _ => []) (fun pre => (pre.all fun x => boundM t locals x (decide (s.Kind = 1))) = true) (by rfl) (by omega) (by simp) ?_ ?_
      · rintro pre' e post' hsp2 hpre2 hlt2 hge2 b4
        have hwe := GStmt.wf_Args hws e (by rw [hsp2]; simp)
        have hnoE : boundM t locals e (decide (s.Kind = 1)) = false → boundB t locals l = false := fun h => by
          apply hno; rw [hsp2]; simp [h]
        clear hsp2 hno hyes hsp' h
        simp [-condC_bool, hlt2, hge2]
        intro bs2
        refine AOps.pureC rfl (boundX_ok t ht locals e hwe _) rfl rfl (by simp) rfl ?_
        simp [-condC_bool]
        repeat' (first
          | (with_reducible refine And.intro ?_ ?_)
          | (refine condC_split (fun h => ?_) (fun h => ?_) <;> (try simp at h) <;> (try simp [-condC_bool, *]))
          | (refine AOps.pureC rfl (boundX_ok t ht locals e hwe _) rfl rfl (by simp) rfl ?_ <;> (try simp [-condC_bool, *]))
          | (refine AOps.pureG rfl (fun h => boundX_ok t ht locals e hwe _) rfl rfl (by simp) (by simp) rfl ?_ <;> (try simp [-condC_bool, *]))
          | (with_reducible intro _))
        · exact hnoE h
        · rename_i y hy
          rcases hy with hy | rfl
          · exact List.all_eq_true.1 hpre2 y hy
          · exact h
      · intro hall
        clear hsp'
        simp [-condC_bool]
        repeat' (first
          | (with_reducible refine And.intro ?_ ?_)
          | (refine condC_split (fun h => ?_) (fun h => ?_) <;> (try simp at h) <;> (try simp [-condC_bool, *]))
          | (refine AOps.pureC rfl (hS.1) rfl rfl (by simp) rfl ?_ <;> (try simp [-condC_bool, *]))
          | (refine AOps.pureC rfl (hS.2) rfl rfl (by simp) rfl ?_ <;> (try simp [-condC_bool, *]))
          | (refine AOps.pureG rfl (fun h => hS.1) rfl rfl (by simp) (by simp) rfl ?_ <;> (try simp [-condC_bool, *]))
          | (refine AOps.pureG rfl (fun h => hS.2) rfl rfl (by simp) (by simp) rfl ?_ <;> (try simp [-condC_bool, *]))
          | (with_reducible intro _))
        · apply hno; rcases h with h | h <;> simp [h]
        · rename_i h'
          apply hyes
          obtain ⟨⟨h1, h2⟩, h3⟩ := h'
          have h4 : (decide (s.Kind ≠ 19) || callM s) = true := by
            by_cases hk : s.Kind = 19
            · simp [callM, h3 hk]
            · simp [hk]
          rw [h1, h2, h4, hall, h.1, h.2]
          rfl
    · intro hpre
      simp [boundB, hpre]
      omega

theorem refBoundB_ok (t : GTables) (ht : t.wf) (locals : Int) (hlo : inR .i64 locals) (l : List GStmt) (hl : ∀ s ∈ l, s.wf) (hlen : l.length * 104 ≤ 140737488351232) : Pure Try.prog 33 [.agg (t.enc.map .d), .d (.sl (l.map GStmt.enc)), .d (.v (.int .i64 locals))] (.d (.v (.bool (decide (deepB l 65 ≤ 32) && boundB t locals l)))) := by
  refine Pure.run Try.func33 rfl (by simp [Try.f33]) ?_; simp [-condC_bool, Try.f33]
  intro bs
  repeat' (first
    | (with_reducible refine And.intro ?_ ?_)
    | (refine condC_split (fun h => ?_) (fun h => ?_) <;> (try simp at h) <;> (try simp [-condC_bool, *]))
    | (refine AOps.pureC rfl (depthB_ok l hl hlen) rfl rfl (by simp) rfl ?_ <;> (try simp [-condC_bool, *]))
    | (refine AOps.pureC rfl (boundB_ok t ht locals hlo l hl hlen) rfl rfl (by simp) rfl ?_ <;> (try simp [-condC_bool, *]))
    | (refine AOps.pureG rfl (fun h => depthB_ok l hl hlen) rfl rfl (by simp) (by simp) rfl ?_ <;> (try simp [-condC_bool, *]))
    | (refine AOps.pureG rfl (fun h => boundB_ok t ht locals hlo l hl hlen) rfl rfl (by simp) (by simp) rfl ?_ <;> (try simp [-condC_bool, *]))
    | (with_reducible intro _))
end Go.Ab

set_option linter.unusedSimpArgs false
set_option linter.unusedVariables false
namespace Go.Ab
open Go.Proofs
set_option maxRecDepth 40000
set_option maxHeartbeats 4000000

/-! ### What is generated of statements -/
def sayI (x : GExpr) (n : Int) : List GIns × Int :=
  if x.Kind = 19 then ([⟨21, x.Num⟩], n) else if x.Kind = 13 then ((genEs x.Args n).1 ++ [⟨23, 0⟩], (genEs x.Args n).2) else ((genE x n).1 ++ [⟨22, 0⟩], (genE x n).2)
def genSay : List GExpr → Int → List GIns × Int
  | [], n => ([], n)
  | x :: l, n => ((sayI x n).1 ++ (genSay l (sayI x n).2).1, (genSay l (sayI x n).2).2)
def deedM (k num : Int) : GIns :=
  if k = 2 ∨ k = 3 then ⟨6, num⟩ else if k = 23 then ⟨4, num⟩ else if k = 4 then ⟨14, num⟩ else if k = 5 then ⟨15, num⟩ else if k = 6 then ⟨16, num⟩ else if k = 17 then ⟨32, num⟩ else if k = 18 then ⟨33, num⟩
  else if k = 7 then ⟨17, 0⟩ else if k = 8 then ⟨18, 0⟩ else if k = 12 then ⟨27, 0⟩ else if k = 13 then ⟨28, 0⟩ else if k = 14 then ⟨29, 0⟩ else if k = 15 then ⟨30, 0⟩ else if k = 16 then ⟨31, 0⟩
  else if k = 20 then ⟨34, 0⟩ else if k = 21 then ⟨35, 0⟩ else if k = 22 then ⟨36, 0⟩ else ⟨2, 0⟩
def tick : GIns := ⟨37, 0⟩
mutual
def genS : GStmt → Int → List GIns × Int
  | .mk k num _ a b c, n =>
    if k = 9 then
      (if c.isEmpty then ([tick] ++ (genEs a (n + 1)).1 ++ [⟨25, n⟩] ++ (genB b (genEs a (n + 1)).2).1 ++ [⟨38, n⟩], (genB b (genEs a (n + 1)).2).2)
       else ([tick] ++ (genEs a (n + 2)).1 ++ [⟨25, n⟩] ++ (genB b (genEs a (n + 2)).2).1 ++ [⟨24, n + 1⟩, ⟨38, n⟩] ++ (genB c (genB b (genEs a (n + 2)).2).2).1 ++ [⟨38, n + 1⟩], (genB c (genB b (genEs a (n + 2)).2).2).2))
    else if k = 10 then ([⟨38, n⟩, tick] ++ (genEs a (n + 2)).1 ++ [⟨25, n + 1⟩] ++ (genB b (genEs a (n + 2)).2).1 ++ [⟨24, n⟩, ⟨38, n + 1⟩], (genB b (genEs a (n + 2)).2).2)
    else if k = 11 then ([tick] ++ (genEs a (n + 2)).1 ++ [⟨19, 2⟩, ⟨6, num⟩, ⟨38, n⟩, ⟨5, num⟩, ⟨25, n + 1⟩, tick] ++ [⟨5, num⟩, ⟨19, 3⟩, ⟨6, num + 1⟩] ++ (genB b (genEs a (n + 2)).2).1 ++ [⟨5, num + 1⟩, ⟨6, num⟩, ⟨24, n⟩, ⟨38, n + 1⟩], (genB b (genEs a (n + 2)).2).2)
    else if k = 1 then ([tick] ++ (genSay a n).1, (genSay a n).2)
    else ([tick] ++ (genEs a n).1 ++ [deedM k num], (genEs a n).2)
def genB : List GStmt → Int → List GIns × Int
  | [], n => ([], n)
  | s :: l, n => ((genS s n).1 ++ (genB l (genS s n).2).1, (genB l (genS s n).2).2)
end
theorem genS_if0 (s : GStmt) (n : Int) (hk : s.Kind = 9) (he : s.Else = []) : genS s n = ([tick] ++ (genEs s.Args (n + 1)).1 ++ [⟨25, n⟩] ++ (genB s.Body (genEs s.Args (n + 1)).2).1 ++ [⟨38, n⟩], (genB s.Body (genEs s.Args (n + 1)).2).2) := by
  cases s; cases hk; cases he; rw [genS]; rfl
theorem genS_if1 (s : GStmt) (n : Int) (hk : s.Kind = 9) (he : s.Else ≠ []) : genS s n = ([tick] ++ (genEs s.Args (n + 2)).1 ++ [⟨25, n⟩] ++ (genB s.Body (genEs s.Args (n + 2)).2).1 ++ [⟨24, n + 1⟩, ⟨38, n⟩] ++ (genB s.Else (genB s.Body (genEs s.Args (n + 2)).2).2).1 ++ [⟨38, n + 1⟩], (genB s.Else (genB s.Body (genEs s.Args (n + 2)).2).2).2) := by
  cases s with
  | mk k num nm a b c =>
    cases hk
    rw [genS]
    have : c.isEmpty = false := by cases c with | nil => exact (he rfl).elim | cons x l => rfl
    simp [this]
theorem genS_while (s : GStmt) (n : Int) (hk : s.Kind = 10) : genS s n = ([⟨38, n⟩, tick] ++ (genEs s.Args (n + 2)).1 ++ [⟨25, n + 1⟩] ++ (genB s.Body (genEs s.Args (n + 2)).2).1 ++ [⟨24, n⟩, ⟨38, n + 1⟩], (genB s.Body (genEs s.Args (n + 2)).2).2) := by
  cases s; cases hk; rw [genS]; rfl
theorem genS_each (s : GStmt) (n : Int) (hk : s.Kind = 11) : genS s n = ([tick] ++ (genEs s.Args (n + 2)).1 ++ [⟨19, 2⟩, ⟨6, s.Num⟩, ⟨38, n⟩, ⟨5, s.Num⟩, ⟨25, n + 1⟩, tick] ++ [⟨5, s.Num⟩, ⟨19, 3⟩, ⟨6, s.Num + 1⟩] ++ (genB s.Body (genEs s.Args (n + 2)).2).1 ++ [⟨5, s.Num + 1⟩, ⟨6, s.Num⟩, ⟨24, n⟩, ⟨38, n + 1⟩], (genB s.Body (genEs s.Args (n + 2)).2).2) := by
  cases s; cases hk; rw [genS]; rfl
theorem genS_say (s : GStmt) (n : Int) (hk : s.Kind = 1) : genS s n = ([tick] ++ (genSay s.Args n).1, (genSay s.Args n).2) := by
  cases s; cases hk; rw [genS]; rfl
theorem genS_plain (s : GStmt) (n : Int) (h1 : s.Kind ≠ 9) (h2 : s.Kind ≠ 10) (h3 : s.Kind ≠ 11) (h4 : s.Kind ≠ 1) : genS s n = ([tick] ++ (genEs s.Args n).1 ++ [deedM s.Kind s.Num], (genEs s.Args n).2) := by
  cases s with
  | mk k num nm a b c =>
    rw [genS.eq_def]
    simp only [GStmt.Kind_mk] at h1 h2 h3 h4
    simp [h1, h2, h3, h4]
theorem genB_snoc (l : List GStmt) (x : GStmt) (m : Int) : genB (l ++ [x]) m = ((genB l m).1 ++ (genS x (genB l m).2).1, (genS x (genB l m).2).2) := by
  induction l generalizing m with
  | nil => simp [genB]
  | cons y l ih => simp [genB, ih]
theorem genSay_snoc (l : List GExpr) (x : GExpr) (m : Int) : genSay (l ++ [x]) m = ((genSay l m).1 ++ (sayI x (genSay l m).2).1, (sayI x (genSay l m).2).2) := by
  induction l generalizing m with
  | nil => simp [genSay]
  | cons y l ih => simp [genSay, ih]

/-! bounds -/
theorem szB_app (l r : List GStmt) : szB (l ++ r) = szB l + szB r := by
  induction l with
  | nil => simp [szB]
  | cons x l ih => simp only [List.cons_append, szB, ih]; omega
theorem genEs_bd' (l : List GExpr) (m : Int) : m ≤ (genEs l m).2 ∧ (genEs l m).2 ≤ m + 2 * szEs l ∧ (genEs l m).1.length ≤ 6 * szEs l := genEs_bd l (fun x _ m => genE_bd x m) m
theorem sayI_bd (x : GExpr) (m : Int) : m ≤ (sayI x m).2 ∧ (sayI x m).2 ≤ m + 2 * szE x ∧ (sayI x m).1.length ≤ 7 * szE x := by
  have h1 := genEs_bd' x.Args m
  have h2 := genE_bd x m
  have h3 := szE_eq x
  unfold sayI
  split
  · simp only [List.length_cons, List.length_nil]; omega
  · split
    · simp only [List.length_append, List.length_cons, List.length_nil]; omega
    · simp only [List.length_append, List.length_cons, List.length_nil]; omega
theorem genSay_bd (l : List GExpr) (m : Int) : m ≤ (genSay l m).2 ∧ (genSay l m).2 ≤ m + 2 * szEs l ∧ (genSay l m).1.length ≤ 7 * szEs l := by
  induction l generalizing m with
  | nil => simp [genSay, szEs]
  | cons x l ih =>
    have h1 := sayI_bd x m
    have h2 := ih (sayI x m).2
    rw [genSay, szEs, List.length_append]
    omega
theorem genB_bd : ∀ (N : Nat) (l : List GStmt), SizeOf.sizeOf l < N → ∀ m : Int, m ≤ (genB l m).2 ∧ (genB l m).2 ≤ m + 2 * szB l ∧ (genB l m).1.length ≤ 16 * szB l := by
  intro N
  induction N with
  | zero => intro l h; omega
  | succ N ih =>
    intro l h m
    cases l with
    | nil => simp [genB, szB]
    | cons s l =>
      have hl : SizeOf.sizeOf l < N := by simp only [List.cons.sizeOf_spec] at h; omega
      have hs : SizeOf.sizeOf s < N := by simp only [List.cons.sizeOf_spec] at h; omega
      have hb := GStmt.lt_body s
      have he := GStmt.lt_else s
      rw [genB, szB, szS_eq, List.length_append]
      have h2 := ih l hl (genS s m).2
      have key : m ≤ (genS s m).2 ∧ (genS s m).2 ≤ m + 2 * (1 + szEs s.Args + szB s.Body + szB s.Else) ∧ (genS s m).1.length ≤ 16 * (1 + szEs s.Args + szB s.Body + szB s.Else) := by
        by_cases k9 : s.Kind = 9
        · by_cases he0 : s.Else = []
          · rw [genS_if0 s m k9 he0]
            have a1 := genEs_bd' s.Args (m + 1)
            have a2 := ih s.Body (by omega) (genEs s.Args (m + 1)).2
            simp only [List.length_append, List.length_cons, List.length_nil]
            omega
          · rw [genS_if1 s m k9 he0]
            have a1 := genEs_bd' s.Args (m + 2)
            have a2 := ih s.Body (by omega) (genEs s.Args (m + 2)).2
            have a3 := ih s.Else (by omega) (genB s.Body (genEs s.Args (m + 2)).2).2
            simp only [List.length_append, List.length_cons, List.length_nil]
            omega
        by_cases k10 : s.Kind = 10
        · rw [genS_while s m k10]
          have a1 := genEs_bd' s.Args (m + 2)
          have a2 := ih s.Body (by omega) (genEs s.Args (m + 2)).2
          simp only [List.length_append, List.length_cons, List.length_nil]
          omega
        by_cases k11 : s.Kind = 11
        · rw [genS_each s m k11]
          have a1 := genEs_bd' s.Args (m + 2)
          have a2 := ih s.Body (by omega) (genEs s.Args (m + 2)).2
          simp only [List.length_append, List.length_cons, List.length_nil]
          omega
        by_cases k1 : s.Kind = 1
        · rw [genS_say s m k1]
          have a1 := genSay_bd s.Args m
          simp only [List.length_append, List.length_cons, List.length_nil]
          omega
        · rw [genS_plain s m k9 k10 k11 k1]
          have a1 := genEs_bd' s.Args m
          simp only [List.length_append, List.length_cons, List.length_nil]
          omega
      omega
theorem genB_bd' (l : List GStmt) (m : Int) : m ≤ (genB l m).2 ∧ (genB l m).2 ≤ m + 2 * szB l ∧ (genB l m).1.length ≤ 16 * szB l := genB_bd _ l (Nat.lt_succ_self _) m
theorem genS_bd (s : GStmt) (m : Int) : m ≤ (genS s m).2 ∧ (genS s m).2 ≤ m + 2 * szS s ∧ (genS s m).1.length ≤ 16 * szS s := by
  have := genB_bd' [s] m
  simpa [genB, szB] using this
end Go.Ab

set_option linter.unusedSimpArgs false
set_option linter.unusedVariables false
namespace Go.Ab
open Go.Proofs
set_option maxRecDepth 40000
set_option maxHeartbeats 4000000

theorem deed_ok (s : GStmt) : Pure Try.prog 118 [.agg (s.enc.map .d)] (.agg ((deedM s.Kind s.Num).enc.map .d)) := by
  refine Pure.run Try.func118 rfl (by simp [Try.f118]) ?_; simp [-condC_bool, Try.f118]
  intro bs
  repeat' (first
    | (with_reducible refine And.intro ?_ ?_)
    | (refine condC_split (fun h => ?_) (fun h => ?_) <;> (try simp at h) <;> (try simp [-condC_bool, *]))
    | (refine AOps.pureC rfl (code_ok _ _) rfl rfl (by simp) rfl ?_ <;> (try simp [-condC_bool, *]))
    | (refine AOps.pureG rfl (fun h => code_ok _ _) rfl rfl (by simp) (by simp) rfl ?_ <;> (try simp [-condC_bool, *]))
    | (with_reducible intro _))
  all_goals simp [deedM, *]
/-- join, of which what is handed back is owned -/
theorem join_own (a b : List GIns) (ha : a.length ≤ 1000000000000) (hb : b.length ≤ 1000000000000) : ACalls Try.prog 66 [.d (.sl (a.map GIns.enc)), .d (.sl (b.map GIns.enc))] [] (fun r L => r = .ret (.rv 5) ∧ L = [(5, .row 64 2 (dd ((a ++ b).map GIns.enc)))]) := by
  refine ACalls.run Try.func66 rfl (by simp [Try.f66]) ?_; simp [Try.f66]
  omega

theorem genE_one (x : GExpr) (m : Int) : genEs [x] m = genE x m := by
  simp [genEs]
theorem bound_title {t : GTables} {locals : Int} {e : GExpr} (h : boundM t locals e true = true) (hk : e.Kind = 13) : ∃ a, e.Args = [a] := by
  rw [boundM_eq, Bool.and_eq_true] at h
  have h1 := h.1
  simp [boundK, hk, bareM] at h1
  have hl : e.Args.length = 1 := by omega
  generalize e.Args = l at hl
  match l, hl with
  | [a], _ => exact ⟨a, rfl⟩

theorem refSay_ok (t : GTables) (locals : Int) (l : List GExpr) (hl : ∀ x ∈ l, x.wf) (hb : ∀ x ∈ l, boundM t locals x true = true) (hlen : l.length ≤ 1000000000000000) (n : Int) (hn : 0 ≤ n ∧ n + 2 * szEs l ≤ 1000000000) :
    Pure Try.prog 117 [.d (.sl (l.map GExpr.enc)), .d (.v (.int .i64 n))] (genT (genSay l n)) := by
  unfold genT
  refine Pure.run Try.func117 rfl (by simp [Try.f117]) ?_; simp [-condC_bool, Try.f117]
  refine AWP.weaken (Wk.own' (t := 6) (h := 5) (k := 2) (ty := 64) rfl (by simp)) ?_
  refine AWP.loopL [0, 1, 6, 7] l (fun pre => [(1, .d (.v (.int .i64 (genSay pre n).2))), (7, .d (.v (.int .i64 pre.length)))]) (fun pre => [(5, .row 64 2 (dd ((genSay pre n).1.map GIns.enc)))]) (fun _ => True) (by rfl) (by omega) (by simp [genSay]) ?_ ?_
  · rintro pre x post hsp - hlt hge a4
    have hw := hl x (by rw [hsp]; simp)
    have hbx := hb x (by rw [hsp]; simp)
    have hsn := genSay_snoc pre x n
    have hsz : szEs pre + szE x ≤ szEs l := by rw [hsp, szEs_app]; simp only [szEs]; omega
    have b1 := genSay_bd pre n
    have b2 := sayI_bd x (genSay pre n).2
    clear hsp
    generalize genSay pre n = k at *
    obtain ⟨k1, k2⟩ := k
    simp only at hsn b1 b2 ⊢
    have hz := szE_eq x
    by_cases h19 : x.Kind = 19
    · have hI : sayI x k2 = ([⟨21, x.Num⟩], k2) := by simp [sayI, h19]
      rw [hI] at hsn
      simp [hlt, hge, h19]
      refine AOps.pureC rfl (code_ok _ _) rfl rfl (by simp) rfl ?_
      simp [hge, hsn, a4]
      omega
    · have hE : ∃ y, (∀ m, sayI x m = ((genE y m).1 ++ [⟨if x.Kind = 13 then 23 else 22, 0⟩], (genE y m).2)) ∧ boundM t locals y false = true ∧ y.wf ∧ szE y ≤ szE x ∧ (if x.Kind = 13 then x.Args = [y] else y = x) := by
        by_cases h13 : x.Kind = 13
        · obtain ⟨y, hy⟩ := bound_title hbx h13
          refine ⟨y, fun m => by simp [sayI, h13, hy, genE_one], bound_mem hbx (by simp [hy]), GExpr.wf_Args hw y (by simp [hy]), ?_, by simp [h13, hy]⟩
          rw [hz, hy]; simp only [szEs]; omega
        · exact ⟨x, fun m => by simp [sayI, h19, h13], bound_said hbx h19 h13, hw, by omega, by simp [h13]⟩
      obtain ⟨y, h1, h2, h3, h4, h5⟩ := hE
      have hC := refExpr_ok t locals y h3 h2 k2 ⟨by omega, by omega⟩
      have b3 := genE_bd y k2
      rw [h1] at hsn
      generalize genE y k2 = q at *
      obtain ⟨q1, q2⟩ := q
      unfold genT at hC
      simp only at hsn hC b3
      by_cases h13 : x.Kind = 13
      · rw [if_pos h13] at h5 hsn
        simp [hlt, hge, h19, h13, h5]
        intro bs
        refine AOps.pureC rfl (hC) rfl rfl (by simp) rfl ?_
        simp
        refine AOps.weaken (Wk.freeze 5 (ys := k1.map GIns.enc) rfl) ?_
        simp
        refine AOps.pureC rfl (join_ok k1 q1 (by omega) (by omega)) (by simp) rfl (by simp) rfl ?_
        simp
        refine AOps.pureC rfl (code_ok _ _) rfl rfl (by simp) rfl ?_
        simp
        refine AOps.weaken (Wk.freeze 55 (ys := ([GIns.mk 23 0]).map _) rfl) ?_
        simp
        refine AOps.effD [] rfl (join_own (k1 ++ q1) [GIns.mk 23 0] (by simp <;> omega) (by simp)) (by simp) rfl (by simp) rfl (by kernel_rfl) (by simp) (by simp) (by simp) (by simp) (by simp) ?_
        simp [hsn, a4]
      · rw [if_neg h13] at h5 hsn
        subst h5
        simp [hlt, hge, h19, h13]
        intro bs
        refine AOps.pureC rfl (hC) rfl rfl (by simp) rfl ?_
        simp
        refine AOps.weaken (Wk.freeze 5 (ys := k1.map GIns.enc) rfl) ?_
        simp
        refine AOps.pureC rfl (join_ok k1 q1 (by omega) (by omega)) (by simp) rfl (by simp) rfl ?_
        simp
        refine AOps.pureC rfl (code_ok _ _) rfl rfl (by simp) rfl ?_
        simp
        refine AOps.weaken (Wk.freeze 55 (ys := ([GIns.mk 22 0]).map _) rfl) ?_
        simp
        refine AOps.effD [] rfl (join_own (k1 ++ q1) [GIns.mk 22 0] (by simp <;> omega) (by simp)) (by simp) rfl (by simp) rfl (by kernel_rfl) (by simp) (by simp) (by simp) (by simp) (by simp) ?_
        simp [hsn, a4]
  · intro _
    simp
end Go.Ab

set_option linter.unusedSimpArgs false
set_option linter.unusedVariables false
namespace Go.Ab
open Go.Proofs
set_option maxRecDepth 40000
set_option maxHeartbeats 4000000
/-! join, of which an argument is a row of the caller's -/
theorem join_r2 (h : Nat) (hh : h ≠ 5) (a b : List GIns) (ha : a.length ≤ 1000000000000) (hb : b.length ≤ 1000000000000) : ACalls Try.prog 66 [.d (.sl (a.map GIns.enc)), .rv h] [(h, .row 64 2 (dd (b.map GIns.enc)))] (fun r L => r = .ret (.d (.sl ((a ++ b).map GIns.enc))) ∧ L = [(h, .row 64 2 (dd (b.map GIns.enc)))]) := by
  have h5 : (h == 5) = false := by simp [hh]
  refine ACalls.of_AWP Try.func66 rfl (by simp [Try.f66]) ?_
  refine AWP.seqK ?_
  simp [Try.f66]
  refine AWP.seqK ?_
  simp [hh, hh.symm, h5]
  refine ⟨by omega, by omega, ?_⟩
  refine AWP.weaken (Wk.freeze 5 (k := 2) (ty := 64) (ys := a.map GIns.enc ++ b.map GIns.enc) rfl) (AWP.ret ?_)
  simp [hh, hh.symm, h5]
theorem join_r1 (h : Nat) (hh : h ≠ 5) (a b : List GIns) (ha : a.length ≤ 1000000000000) (hb : b.length ≤ 1000000000000) : ACalls Try.prog 66 [.rv h, .d (.sl (b.map GIns.enc))] [(h, .row 64 2 (dd (a.map GIns.enc)))] (fun r L => r = .ret (.d (.sl ((a ++ b).map GIns.enc))) ∧ L = [(h, .row 64 2 (dd (a.map GIns.enc)))]) := by
  have h5 : (h == 5) = false := by simp [hh]
  refine ACalls.of_AWP Try.func66 rfl (by simp [Try.f66]) ?_
  refine AWP.seqK ?_
  simp [Try.f66]
  refine AWP.seqK ?_
  simp [hh, hh.symm, h5]
  refine ⟨by omega, by omega, ?_⟩
  refine AWP.weaken (Wk.freeze 5 (k := 2) (ty := 64) (ys := a.map GIns.enc ++ b.map GIns.enc) rfl) (AWP.ret ?_)
  simp [hh, hh.symm, h5]

/-! ### what is known of a statement that may be -/
theorem boundS_parts {t : GTables} {locals : Int} {s : GStmt} (h : boundS t locals s = true) : (shapeM s).1 = true ∧ thereM t s locals = true ∧ (∀ x ∈ s.Args, boundM t locals x (decide (s.Kind = 1)) = true) ∧ (∀ x ∈ s.Body, boundS t locals x = true) ∧ (∀ x ∈ s.Else, boundS t locals x = true) := by
  rw [boundS_eq] at h
  simp only [Bool.and_eq_true, boundB, boundSs_all, List.all_eq_true] at h
  obtain ⟨⟨⟨⟨⟨h1, h2⟩, h3⟩, h4⟩, h5⟩, h6⟩ := h
  exact ⟨h1, h2, h4, h5.1, h6.1⟩
theorem shape_one {s : GStmt} (h : (shapeM s).1 = true) (hk : s.Kind = 9 ∨ s.Kind = 10 ∨ s.Kind = 11) : ∃ x, s.Args = [x] := by
  have hl : s.Args.length = 1 := by
    rcases hk with hk | hk | hk <;> · simp [shapeM, hk, hasM] at h; omega
  generalize s.Args = l at hl
  match l, hl with
  | [x], _ => exact ⟨x, rfl⟩

def RStmt (s : GStmt) : Prop := ∀ n : Int, 0 ≤ n ∧ n + 2 * szS s ≤ 1000000000 → Pure Try.prog 104 [.agg (s.enc.map .d), .d (.v (.int .i64 n))] (genT (genS s n))
theorem refBlock_of (l : List GStmt) (hlen : l.length ≤ 1000000000000000) (ih : ∀ s ∈ l, RStmt s) (n : Int) (hn : 0 ≤ n ∧ n + 2 * szB l ≤ 1000000000) : Pure Try.prog 65 [.d (.sl (l.map GStmt.enc)), .d (.v (.int .i64 n))] (genT (genB l n)) := by
  unfold genT
  refine Pure.run Try.func65 rfl (by simp [Try.f65]) ?_; simp [Try.f65]
  refine AWP.weaken (Wk.nil' (t := 6) rfl) ?_
  refine AWP.loopL [0, 1, 6, 7] l (fun pre => [(1, .d (.v (.int .i64 (genB pre n).2))), (6, .d (.sl ((genB pre n).1.map GIns.enc))), (7, .d (.v (.int .i64 pre.length)))]) (fun _ => []) (fun _ => True) (by rfl) (by omega) (by simp [genB]) ?_ ?_
  · rintro pre s post hsp - hlt hge a4
    have hS := ih s (by rw [hsp]; simp)
    have hsn := genB_snoc pre s n
    have hsz : szB pre + szS s ≤ szB l := by rw [hsp, szB_app]; simp only [szB]; omega
    have b1 := genB_bd' pre n
    clear hsp
    generalize genB pre n = k at *
    obtain ⟨k1, k2⟩ := k
    simp only at hsn b1
    have b2 := genS_bd s k2
    have hC := hS k2 ⟨by omega, by omega⟩
    generalize genS s k2 = q at *
    obtain ⟨q1, q2⟩ := q
    unfold genT at hC
    simp only at hsn hC b2
    simp [hlt, hge]
    refine AOps.pureC rfl (hC) rfl rfl (by simp) rfl ?_
    simp
    refine AOps.pureC rfl (join_ok k1 q1 (by omega) (by omega)) (by simp) rfl (by simp) rfl ?_
    simp [hsn, a4]
  · intro _
    simp

theorem refEach_of (s : GStmt) (x : GExpr) (hA : s.Args = [x]) (n : Int) (hn : 0 ≤ n ∧ n + 2 * szS s ≤ 1000000000) (hnum : inR .i64 (s.Num + 1)) (hw : s.wf)
    (hx : ∀ m : Int, 0 ≤ m ∧ m + 2 * szE x ≤ 1000000000 → Pure Try.prog 60 [.agg (x.enc.map .d), .d (.v (.int .i64 m))] (genT (genE x m)))
    (hb : ∀ m : Int, 0 ≤ m ∧ m + 2 * szB s.Body ≤ 1000000000 → Pure Try.prog 65 [.d (.sl (s.Body.map GStmt.enc)), .d (.v (.int .i64 m))] (genT (genB s.Body m))) (hk : s.Kind = 11) :
    Pure Try.prog 116 [.agg (s.enc.map .d), .d (.v (.int .i64 n))] (genT (genS s n)) := by
  rw [genS_each s n hk, hA, genE_one]
  have hz := szS_eq s
  rw [hA] at hz
  simp only [szEs] at hz
  have b1 := genE_bd x (n + 2)
  have b2 := genB_bd' s.Body (genE x (n + 2)).2
  have hC := hx (n + 2) ⟨by omega, by omega⟩
  generalize genE x (n + 2) = p at *
  obtain ⟨p1, p2⟩ := p
  simp only at b1 b2 hC ⊢
  have hD := hb p2 ⟨by omega, by omega⟩
  generalize genB s.Body p2 = q at *
  obtain ⟨q1, q2⟩ := q
  unfold genT at hC hD ⊢
  simp only at b2 hC hD ⊢
  have a1 : inR .i64 (n + 2) := by rw [inR_i64]; omega
  have a2 : inR .i64 (n + 1) := by rw [inR_i64]; omega
  have c1 := fun a b L => (code_ok a b).ok L
  have c2 := fun m L => (label_ok m).ok L
  have c3 := fun m L => (jump_ok m).ok L
  have c4 := fun m L => (zero_ok m).ok L
  refine Pure.run Try.func116 rfl (by simp [Try.f116]) ?_; simp [Try.f116]
  intro bs
  simp [hA, a1]
  refine AOps.pureC rfl (hC) rfl rfl (by simp) rfl ?_
  simp
  refine AOps.pureC rfl (hD) rfl rfl (by simp) rfl ?_
  simp
  refine AOps.pureC rfl (code_ok 37 0) rfl rfl (by simp) rfl ?_
  simp
  refine AOps.weaken (Wk.freeze 29 (ys := ([GIns.mk 37 0]).map _) rfl) ?_
  simp
  refine AOps.pureC rfl (join_ok [GIns.mk 37 0] p1 (by simp) (by omega)) (by simp) rfl (by simp) rfl ?_
  simp
  refine AWP.regionM0 [some (0, 1), some (0, 0), some (0, 0), some (0, 0), some (0, 0), some (0, 0), some (0, 0), some (0, 0), some (0, 0), some (0, 0), some (0, 0), some (0, 0), some (0, 0), some (0, 0), none, none, some (2, 2)] [.agg ((GIns.mk 19 2).enc.map .d), .agg ((GIns.mk 6 s.Num).enc.map .d), .agg ((GIns.mk 38 n).enc.map .d), .agg ((GIns.mk 5 s.Num).enc.map .d), .agg ((GIns.mk 25 (n + 1)).enc.map .d), .agg ((GIns.mk 37 0).enc.map .d)] Try.mixed (by kernel_rfl) ?_
  simp [c1, c2, c3, c4, a1, a2]
  refine EffM.intro (fun _ => LOp.call 46 [46] rfl (join_r2 46 (by decide) ([GIns.mk 37 0] ++ p1) [GIns.mk 19 2, GIns.mk 6 s.Num, GIns.mk 38 n, GIns.mk 5 s.Num, GIns.mk 25 (n + 1), GIns.mk 37 0] (by simp <;> omega) (by simp)) (by simp) rfl (by kernel_rfl) (by simp [dd]) (by simp) (by simp +contextual) (by simp) (by simp)) ?_
  simp
  refine AWP.regionM0 [some (0, 1), some (0, 0), some (0, 0), some (0, 0), some (0, 0), some (0, 0), some (0, 0), some (0, 0), some (0, 0), none, none, some (2, 2)] [.agg ((GIns.mk 5 s.Num).enc.map .d), .agg ((GIns.mk 19 3).enc.map .d), .agg ((GIns.mk 6 (s.Num + 1)).enc.map .d)] Try.mixed (by kernel_rfl) ?_
  simp [c1, c2, c3, c4, a1, a2, hnum]
  refine EffM.intro (fun _ => LOp.call 57 [57] rfl (join_r2 57 (by decide) (([GIns.mk 37 0] ++ p1) ++ [GIns.mk 19 2, GIns.mk 6 s.Num, GIns.mk 38 n, GIns.mk 5 s.Num, GIns.mk 25 (n + 1), GIns.mk 37 0]) [GIns.mk 5 s.Num, GIns.mk 19 3, GIns.mk 6 (s.Num + 1)] (by simp <;> omega) (by simp)) (by simp) rfl (by kernel_rfl) (by simp [dd]) (by simp) (by simp +contextual) (by simp) (by simp)) ?_
  simp
  have c5 := fun L => (join_ok ((([GIns.mk 37 0] ++ p1) ++ [GIns.mk 19 2, GIns.mk 6 s.Num, GIns.mk 38 n, GIns.mk 5 s.Num, GIns.mk 25 (n + 1), GIns.mk 37 0]) ++ [GIns.mk 5 s.Num, GIns.mk 19 3, GIns.mk 6 (s.Num + 1)]) q1 (by simp <;> omega) (by omega)).ok L
  simp at c5
  refine AWP.regionM0 [some (0, 0), some (0, 0), some (0, 0), some (0, 0), some (0, 0), some (0, 0), some (0, 0), some (0, 0), some (0, 0), some (0, 0), some (0, 0), some (0, 0), some (0, 0), some (0, 0), some (0, 0), none, none, some (0, 2), some (2, 2), some (2, 2)] [.d (.sl ((((([GIns.mk 37 0] ++ p1) ++ [GIns.mk 19 2, GIns.mk 6 s.Num, GIns.mk 38 n, GIns.mk 5 s.Num, GIns.mk 25 (n + 1), GIns.mk 37 0]) ++ [GIns.mk 5 s.Num, GIns.mk 19 3, GIns.mk 6 (s.Num + 1)]) ++ q1).map GIns.enc)), .agg ((GIns.mk 5 (s.Num + 1)).enc.map .d), .agg ((GIns.mk 6 s.Num).enc.map .d), .agg ((GIns.mk 24 n).enc.map .d), .agg ((GIns.mk 38 (n + 1)).enc.map .d)] Try.mixed (by kernel_rfl) ?_
  simp [c1, c2, c3, c4, c5, a1, a2, hnum]
  refine EffM.intro (fun _ => LOp.call 74 [74] rfl (join_r2 74 (by decide) (((([GIns.mk 37 0] ++ p1) ++ [GIns.mk 19 2, GIns.mk 6 s.Num, GIns.mk 38 n, GIns.mk 5 s.Num, GIns.mk 25 (n + 1), GIns.mk 37 0]) ++ [GIns.mk 5 s.Num, GIns.mk 19 3, GIns.mk 6 (s.Num + 1)]) ++ q1) [GIns.mk 5 (s.Num + 1), GIns.mk 6 s.Num, GIns.mk 24 n, GIns.mk 38 (n + 1)] (by simp <;> omega) (by simp)) (by simp) rfl (by kernel_rfl) (by simp [dd]) (by simp) (by simp +contextual) (by simp) (by simp)) ?_
  simp [tick]
end Go.Ab

set_option linter.unusedSimpArgs false
set_option linter.unusedVariables false
namespace Go.Ab
open Go.Proofs
set_option maxRecDepth 40000
set_option maxHeartbeats 4000000

def RExpr (x : GExpr) : Prop := ∀ m : Int, 0 ≤ m ∧ m + 2 * szE x ≤ 1000000000 → Pure Try.prog 60 [.agg (x.enc.map .d), .d (.v (.int .i64 m))] (genT (genE x m))
def RBlock (l : List GStmt) : Prop := ∀ m : Int, 0 ≤ m ∧ m + 2 * szB l ≤ 1000000000 → Pure Try.prog 65 [.d (.sl (l.map GStmt.enc)), .d (.v (.int .i64 m))] (genT (genB l m))

theorem refIf0_of (s : GStmt) (x : GExpr) (hA : s.Args = [x]) (n : Int) (hn : 0 ≤ n ∧ n + 2 * szS s ≤ 1000000000) (hx : RExpr x) (hb : RBlock s.Body) (hk : s.Kind = 9) (he : s.Else = []) :
    Pure Try.prog 104 [.agg (s.enc.map .d), .d (.v (.int .i64 n))] (genT (genS s n)) := by
  rw [genS_if0 s n hk he, hA, genE_one]
  have hz := szS_eq s
  rw [hA] at hz
  simp only [szEs] at hz
  have b1 := genE_bd x (n + 1)
  have b2 := genB_bd' s.Body (genE x (n + 1)).2
  have hC := hx (n + 1) ⟨by omega, by omega⟩
  generalize genE x (n + 1) = p at *
  obtain ⟨p1, p2⟩ := p
  simp only at b1 b2 hC ⊢
  have hD := hb p2 ⟨by omega, by omega⟩
  generalize genB s.Body p2 = q at *
  obtain ⟨q1, q2⟩ := q
  unfold genT at hC hD ⊢
  simp only at b2 hC hD ⊢
  have a1 : inR .i64 (n + 2) := by rw [inR_i64]; omega
  have a2 : inR .i64 (n + 1) := by rw [inR_i64]; omega
  have hlen : s.Else.length = 0 := by
    simp [he]
  have e0 : ((s.Else.length : Int) == 0) = true := by simp [he]
  refine Pure.run Try.func104 rfl (by simp [Try.f104]) ?_; simp [-condC_bool, Try.f104, hk]
  intro bs
  refine AOps.pureC rfl (code_ok 37 0) rfl rfl (by simp) rfl ?_
  simp [-condC_bool, hk, a1, a2, hlen, hA, he]
  refine AOps.weaken (Wk.freeze 25 (ys := ([GIns.mk 37 0]).map _) rfl) ?_
  simp [-condC_bool]
  refine AOps.pureC rfl (hC) rfl rfl (by simp) rfl ?_
  simp [-condC_bool]
  refine AOps.pureC rfl (hD) rfl rfl (by simp) rfl ?_
  simp [-condC_bool]
  refine AOps.pureC rfl (join_ok [GIns.mk 37 0] p1 (by simp) (by omega)) (by simp) rfl (by simp) rfl ?_
  simp [-condC_bool]
  refine AOps.pureC rfl (zero_ok n) rfl rfl (by simp) rfl ?_
  simp [-condC_bool]
  refine AOps.weaken (Wk.freeze 59 (ys := ([GIns.mk 25 n]).map _) rfl) ?_
  simp [-condC_bool]
  refine AOps.pureC rfl (join_ok ([GIns.mk 37 0] ++ p1) [GIns.mk 25 n] (by simp <;> omega) (by simp)) (by simp) rfl (by simp) rfl ?_
  simp [-condC_bool]
  refine AOps.pureC rfl (join_ok ([GIns.mk 37 0] ++ p1 ++ [GIns.mk 25 n]) q1 (by simp <;> omega) (by omega)) (by simp) rfl (by simp) rfl ?_
  simp [-condC_bool, hlen, he, e0]
  refine AOps.pureC rfl (label_ok n) rfl rfl (by simp) rfl ?_
  simp [-condC_bool]
  refine AOps.weaken (Wk.freeze 70 (ys := ([GIns.mk 38 n]).map _) rfl) ?_
  simp [-condC_bool]
  refine AOps.pureC rfl (join_ok ([GIns.mk 37 0] ++ p1 ++ [GIns.mk 25 n] ++ q1) [GIns.mk 38 n] (by simp <;> omega) (by simp)) (by simp) rfl (by simp) rfl ?_
  simp [tick]

theorem refIf1_of (s : GStmt) (x : GExpr) (hA : s.Args = [x]) (n : Int) (hn : 0 ≤ n ∧ n + 2 * szS s ≤ 1000000000) (hx : RExpr x) (hb : RBlock s.Body) (hc : RBlock s.Else) (hk : s.Kind = 9) (he : s.Else ≠ []) :
    Pure Try.prog 104 [.agg (s.enc.map .d), .d (.v (.int .i64 n))] (genT (genS s n)) := by
  rw [genS_if1 s n hk he, hA, genE_one]
  have hz := szS_eq s
  rw [hA] at hz
  simp only [szEs] at hz
  have b1 := genE_bd x (n + 2)
  have b2 := genB_bd' s.Body (genE x (n + 2)).2
  have hC := hx (n + 2) ⟨by omega, by omega⟩
  generalize genE x (n + 2) = p at *
  obtain ⟨p1, p2⟩ := p
  simp only at b1 b2 hC ⊢
  have hD := hb p2 ⟨by omega, by omega⟩
  have b3 := genB_bd' s.Else (genB s.Body p2).2
  generalize genB s.Body p2 = q at *
  obtain ⟨q1, q2⟩ := q
  simp only at b2 b3 hD ⊢
  have hF := hc q2 ⟨by omega, by omega⟩
  generalize genB s.Else q2 = r at *
  obtain ⟨r1, r2⟩ := r
  unfold genT at hC hD hF ⊢
  simp only at b2 hC hD b3 hF ⊢
  have a1 : inR .i64 (n + 2) := by rw [inR_i64]; omega
  have a2 : inR .i64 (n + 1) := by rw [inR_i64]; omega
  have hlen : 0 < s.Else.length := by
    cases h : s.Else with | nil => exact (he h).elim | cons a l => simp
  have e0 : ((s.Else.length : Int) == 0) = false := by simp [he]
  refine Pure.run Try.func104 rfl (by simp [Try.f104]) ?_; simp [-condC_bool, Try.f104, hk]
  intro bs
  refine AOps.pureC rfl (code_ok 37 0) rfl rfl (by simp) rfl ?_
  simp [-condC_bool, hk, a1, a2, hlen, hA, he]
  refine AOps.weaken (Wk.freeze 25 (ys := ([GIns.mk 37 0]).map _) rfl) ?_
  simp [-condC_bool]
  refine AOps.pureC rfl (hC) rfl rfl (by simp) rfl ?_
  simp [-condC_bool]
  refine AOps.pureC rfl (hD) rfl rfl (by simp) rfl ?_
  simp [-condC_bool]
  refine AOps.pureC rfl (join_ok [GIns.mk 37 0] p1 (by simp) (by omega)) (by simp) rfl (by simp) rfl ?_
  simp [-condC_bool]
  refine AOps.pureC rfl (zero_ok n) rfl rfl (by simp) rfl ?_
  simp [-condC_bool]
  refine AOps.weaken (Wk.freeze 59 (ys := ([GIns.mk 25 n]).map _) rfl) ?_
  simp [-condC_bool]
  refine AOps.pureC rfl (join_ok ([GIns.mk 37 0] ++ p1) [GIns.mk 25 n] (by simp <;> omega) (by simp)) (by simp) rfl (by simp) rfl ?_
  simp [-condC_bool]
  refine AOps.pureC rfl (join_ok ([GIns.mk 37 0] ++ p1 ++ [GIns.mk 25 n]) q1 (by simp <;> omega) (by omega)) (by simp) rfl (by simp) rfl ?_
  simp [-condC_bool, hlen, he, e0]
  refine AOps.pureC rfl (hF) rfl rfl (by simp) rfl ?_
  simp [-condC_bool, a2]
  refine AOps.pureC rfl (jump_ok (n + 1)) rfl rfl (by simp) rfl ?_
  simp [-condC_bool]
  refine AOps.pureC rfl (label_ok n) rfl rfl (by simp) rfl ?_
  simp [-condC_bool]
  refine AOps.weaken (Wk.freeze 86 (ys := ([GIns.mk 24 (n + 1), GIns.mk 38 n]).map _) rfl) ?_
  simp [-condC_bool]
  refine AOps.pureC rfl (join_ok ([GIns.mk 37 0] ++ p1 ++ [GIns.mk 25 n] ++ q1) [GIns.mk 24 (n + 1), GIns.mk 38 n] (by simp <;> omega) (by simp)) (by simp) rfl (by simp) rfl ?_
  simp [-condC_bool]
  refine AOps.pureC rfl (join_ok (([GIns.mk 37 0] ++ p1 ++ [GIns.mk 25 n] ++ q1) ++ [GIns.mk 24 (n + 1), GIns.mk 38 n]) r1 (by simp <;> omega) (by omega)) (by simp) rfl (by simp) rfl ?_
  simp [-condC_bool, a2]
  refine AOps.pureC rfl (label_ok (n + 1)) rfl rfl (by simp) rfl ?_
  simp [-condC_bool]
  refine AOps.weaken (Wk.freeze 93 (ys := ([GIns.mk 38 (n + 1)]).map _) rfl) ?_
  simp [-condC_bool]
  refine AOps.pureC rfl (join_ok (([GIns.mk 37 0] ++ p1 ++ [GIns.mk 25 n] ++ q1) ++ [GIns.mk 24 (n + 1), GIns.mk 38 n] ++ r1) [GIns.mk 38 (n + 1)] (by simp <;> omega) (by simp)) (by simp) rfl (by simp) rfl ?_
  simp [tick]

theorem refWhile_of (s : GStmt) (x : GExpr) (hA : s.Args = [x]) (n : Int) (hn : 0 ≤ n ∧ n + 2 * szS s ≤ 1000000000) (hx : RExpr x) (hb : RBlock s.Body) (hk : s.Kind = 10) :
    Pure Try.prog 104 [.agg (s.enc.map .d), .d (.v (.int .i64 n))] (genT (genS s n)) := by
  rw [genS_while s n hk, hA, genE_one]
  have hz := szS_eq s
  rw [hA] at hz
  simp only [szEs] at hz
  have b1 := genE_bd x (n + 2)
  have b2 := genB_bd' s.Body (genE x (n + 2)).2
  have hC := hx (n + 2) ⟨by omega, by omega⟩
  generalize genE x (n + 2) = p at *
  obtain ⟨p1, p2⟩ := p
  simp only at b1 b2 hC ⊢
  have hD := hb p2 ⟨by omega, by omega⟩
  generalize genB s.Body p2 = q at *
  obtain ⟨q1, q2⟩ := q
  unfold genT at hC hD ⊢
  simp only at b2 hC hD ⊢
  have a1 : inR .i64 (n + 2) := by rw [inR_i64]; omega
  have a2 : inR .i64 (n + 1) := by rw [inR_i64]; omega
  have c2 := fun m L => (label_ok m).ok L
  have c4 := fun m L => (zero_ok m).ok L
  refine Pure.run Try.func104 rfl (by simp [Try.f104]) ?_; simp [-condC_bool, Try.f104, hk]
  intro bs
  refine AOps.pureC rfl (code_ok 37 0) rfl rfl (by simp) rfl ?_
  simp [-condC_bool, hk, hA, a1]
  refine AOps.weaken (Wk.freeze 25 (ys := ([GIns.mk 37 0]).map _) rfl) ?_
  simp [-condC_bool]
  refine AOps.pureC rfl (hC) rfl rfl (by simp) rfl ?_
  simp [-condC_bool]
  refine AOps.pureC rfl (hD) rfl rfl (by simp) rfl ?_
  simp [-condC_bool]
  refine AWP.regionM0 [some (0, 0), some (0, 0), some (0, 0), some (0, 0), some (0, 0), none, some (0, 1), none, some (0, 2), some (0, 2), some (2, 2), none, none, some (4, 4)] [.agg ((GIns.mk 38 n).enc.map .d), .agg ((GIns.mk 25 (n + 1)).enc.map .d)] Try.mixed (by kernel_rfl) ?_
  simp [c2, c4, a2]
  refine EffM.intro (fun _ => LOp.call 120 [120] rfl (join_r1 120 (by decide) [GIns.mk 38 n, GIns.mk 37 0] p1 (by simp) (by omega)) (by simp) rfl (by kernel_rfl) (by simp [dd]) (by simp) (by simp +contextual) (by simp) (by simp)) ?_
  simp [c2, c4, a2]
  refine EffM.intro (fun _ => LOp.call 126 [126] rfl (join_r2 126 (by decide) ([GIns.mk 38 n, GIns.mk 37 0] ++ p1) [GIns.mk 25 (n + 1)] (by simp <;> omega) (by simp)) (by simp) rfl (by kernel_rfl) (by simp [dd]) (by simp) (by simp +contextual) (by simp) (by simp)) ?_
  simp [c2, c4, a2]
  refine AOps.pureC rfl (join_ok (([GIns.mk 38 n, GIns.mk 37 0] ++ p1) ++ [GIns.mk 25 (n + 1)]) q1 (by simp <;> omega) (by omega)) (by simp) rfl (by simp) rfl ?_
  simp
  refine AOps.pureC rfl (jump_ok n) rfl rfl (by simp) rfl ?_
  simp [a2]
  refine AOps.pureC rfl (label_ok (n + 1)) rfl rfl (by simp) rfl ?_
  simp
  refine AOps.weaken (Wk.freeze 136 (ys := ([GIns.mk 24 n, GIns.mk 38 (n + 1)]).map _) rfl) ?_
  simp
  refine AOps.pureC rfl (join_ok ((([GIns.mk 38 n, GIns.mk 37 0] ++ p1) ++ [GIns.mk 25 (n + 1)]) ++ q1) [GIns.mk 24 n, GIns.mk 38 (n + 1)] (by simp <;> omega) (by simp)) (by simp) rfl (by simp) rfl ?_
  simp [tick]

theorem refSayS_of (s : GStmt) (n : Int) (hn : 0 ≤ n ∧ n + 2 * szS s ≤ 1000000000) (hk : s.Kind = 1) (hS : Pure Try.prog 117 [.d (.sl (s.Args.map GExpr.enc)), .d (.v (.int .i64 n))] (genT (genSay s.Args n))) :
    Pure Try.prog 104 [.agg (s.enc.map .d), .d (.v (.int .i64 n))] (genT (genS s n)) := by
  rw [genS_say s n hk]
  have hz := szS_eq s
  have b1 := genSay_bd s.Args n
  generalize genSay s.Args n = p at *
  obtain ⟨p1, p2⟩ := p
  unfold genT at hS ⊢
  simp only at hS b1 ⊢
  refine Pure.run Try.func104 rfl (by simp [Try.f104]) ?_; simp [-condC_bool, Try.f104, hk]
  intro bs
  refine AOps.pureC rfl (code_ok 37 0) rfl rfl (by simp) rfl ?_
  simp [-condC_bool, hk]
  refine AOps.weaken (Wk.freeze 25 (ys := ([GIns.mk 37 0]).map _) rfl) ?_
  simp [-condC_bool, hk]
  refine AOps.pureC rfl (hS) rfl rfl (by simp) rfl ?_
  simp [-condC_bool]
  refine AOps.pureC rfl (join_ok [GIns.mk 37 0] p1 (by simp) (by omega)) (by simp) rfl (by simp) rfl ?_
  simp [tick]
theorem refEachS_of (s : GStmt) (n : Int) (hk : s.Kind = 11) (hS : Pure Try.prog 116 [.agg (s.enc.map .d), .d (.v (.int .i64 n))] (genT (genS s n))) :
    Pure Try.prog 104 [.agg (s.enc.map .d), .d (.v (.int .i64 n))] (genT (genS s n)) := by
  generalize genS s n = p at *
  obtain ⟨p1, p2⟩ := p
  unfold genT at hS ⊢
  simp only at hS ⊢
  refine Pure.run Try.func104 rfl (by simp [Try.f104]) ?_; simp [-condC_bool, Try.f104, hk]
  intro bs
  refine AOps.pureC rfl (code_ok 37 0) rfl rfl (by simp) rfl ?_
  simp [-condC_bool, hk]
  refine AOps.pureC rfl (hS) rfl rfl (by simp) rfl ?_
  simp
theorem refPlain_of (s : GStmt) (n : Int) (hn : 0 ≤ n ∧ n + 2 * szS s ≤ 1000000000) (h1 : s.Kind ≠ 9) (h2 : s.Kind ≠ 10) (h3 : s.Kind ≠ 11) (h4 : s.Kind ≠ 1) (hS : Pure Try.prog 98 [.d (.sl (s.Args.map GExpr.enc)), .d (.v (.int .i64 n))] (genT (genEs s.Args n))) :
    Pure Try.prog 104 [.agg (s.enc.map .d), .d (.v (.int .i64 n))] (genT (genS s n)) := by
  rw [genS_plain s n h1 h2 h3 h4]
  have hz := szS_eq s
  have b1 := genEs_bd' s.Args n
  generalize genEs s.Args n = p at *
  obtain ⟨p1, p2⟩ := p
  unfold genT at hS ⊢
  simp only at hS b1 ⊢
  have e1 : (s.Kind == 9) = false := by simp [h1]
  have e2 : (s.Kind == 10) = false := by simp [h2]
  have e3 : (s.Kind == 11) = false := by simp [h3]
  have e4 : (s.Kind == 1) = false := by simp [h4]
  have c1 := (deed_ok s).ok
  have c2 := fun L => (join_ok [GIns.mk 37 0] p1 (by simp) (by omega)).ok L
  simp at c2
  refine Pure.run Try.func104 rfl (by simp [Try.f104]) ?_; simp [-condC_bool, Try.f104]
  intro bs
  refine AOps.pureC rfl (code_ok 37 0) rfl rfl (by simp) rfl ?_
  simp [-condC_bool, e1, e2, e3, e4]
  refine AOps.weaken (Wk.freeze 25 (ys := ([GIns.mk 37 0]).map _) rfl) ?_
  simp [-condC_bool]
  refine AOps.pureC rfl (hS) rfl rfl (by simp) rfl ?_
  simp [-condC_bool]
  refine AWP.regionM0 [some (0, 0), some (0, 0), some (0, 0), some (0, 0), some (0, 0), none, none, some (0, 2), some (2, 2), some (2, 2)] [.d (.sl (([GIns.mk 37 0] ++ p1).map GIns.enc)), .agg ((deedM s.Kind s.Num).enc.map .d)] Try.mixed (by kernel_rfl) ?_
  simp [c1, c2]
  refine EffM.intro (fun _ => LOp.call 171 [171] rfl (join_r2 171 (by decide) ([GIns.mk 37 0] ++ p1) [deedM s.Kind s.Num] (by simp <;> omega) (by simp)) (by simp) rfl (by kernel_rfl) (by simp [dd]) (by simp) (by simp +contextual) (by simp) (by simp)) ?_
  simp [tick]
theorem refStmt_ok (t : GTables) (locals : Int) (hlo : inR .i64 locals) (s : GStmt) (hw : s.wf) (hb : boundS t locals s = true) : RStmt s := by
  obtain ⟨N, hN⟩ : ∃ N, SizeOf.sizeOf s < N := ⟨_, Nat.lt_succ_self _⟩
  induction N generalizing s with
  | zero => omega
  | succ N ih =>
    intro n hn
    obtain ⟨p1, p2, p3, p4, p5⟩ := boundS_parts hb
    have hz := szS_eq s
    have hla := GStmt.wl_Args hw
    have hlb := GStmt.wl_Body hw
    have hle := GStmt.wl_Else hw
    have hB : RBlock s.Body := fun m hm => refBlock_of s.Body (by omega) (fun x hx => ih x (GStmt.wf_Body hw x hx) (p4 x hx) (by have := GStmt.lt_body s; have := List.sizeOf_lt_of_mem hx; omega)) m hm
    have hE : RBlock s.Else := fun m hm => refBlock_of s.Else (by omega) (fun x hx => ih x (GStmt.wf_Else hw x hx) (p5 x hx) (by have := GStmt.lt_else s; have := List.sizeOf_lt_of_mem hx; omega)) m hm
    by_cases k1 : s.Kind = 1
    · refine refSayS_of s n hn k1 (refSay_ok t locals s.Args (GStmt.wf_Args hw) (fun x hx => ?_) (by omega) n ⟨by omega, by omega⟩)
      have := p3 x hx
      rwa [show decide (s.Kind = 1) = true by simp [k1]] at this
    have hA : ∀ x ∈ s.Args, boundM t locals x false = true := fun x hx => by
      have := p3 x hx
      rwa [show decide (s.Kind = 1) = false by simp [k1]] at this
    have hX : ∀ x ∈ s.Args, RExpr x := fun x hx m hm => refExpr_ok t locals x (GStmt.wf_Args hw x hx) (hA x hx) m hm
    by_cases k9 : s.Kind = 9
    · obtain ⟨x, hx⟩ := shape_one p1 (.inl k9)
      by_cases he : s.Else = []
      · exact refIf0_of s x hx n hn (hX x (by simp [hx])) hB k9 he
      · exact refIf1_of s x hx n hn (hX x (by simp [hx])) hB hE k9 he
    by_cases k10 : s.Kind = 10
    · obtain ⟨x, hx⟩ := shape_one p1 (.inr (.inl k10))
      exact refWhile_of s x hx n hn (hX x (by simp [hx])) hB k10
    by_cases k11 : s.Kind = 11
    · obtain ⟨x, hx⟩ := shape_one p1 (.inr (.inr k11))
      have hnum : inR .i64 (s.Num + 1) := by
        have hnm : s.Name.toList = [] ∧ s.Num < locals - 1 := by
          unfold thereM at p2
          cases h : s.Name.toList with
          | nil => simp [h, k11] at p2; exact ⟨rfl, by omega⟩
          | cons a l => simp [h] at p2
        have h0 : 0 ≤ s.Num := by simp [thereM, hnm.1, k11] at p2; omega
        rw [inR_i64] at hlo ⊢
        omega
      exact refEachS_of s n k11 (refEach_of s x hx n hn hnum hw (hX x (by simp [hx])) hB k11)
    · exact refPlain_of s n hn k9 k10 k11 k1 (refExprs_of s.Args (by omega) n ⟨by omega, by omega⟩ (fun i h m hm => hX _ (List.getElem_mem h) m hm))
end Go.Ab
