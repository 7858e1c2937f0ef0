/-
  The texts Q Lp Wr Fam Pn Rf Rg Rh Ri Sc Zt Pd Df Dg Dh Di Rj Nl Nx, one behind the other.
-/
import Derived.Test.YtnajleligcjlkaaGreatDoorMg4
import Derived.RangeFuncIn
import Derived.Lib.Builder
import Derived.Laws.Externs
import Derived.Deep.DeepHandedRow
import Derived.FnData
import Derived.LaidMore
import Derived.RecoverIn
import Derived.WalkSpells
set_option linter.unusedSimpArgs false
set_option linter.unusedVariables false
namespace Go.Ab
section
variable {P : Program} {n : Nat} {s : St} {Q : AX → St → Prop} {L : Heap}
structure Pure (P : Program) (f : FuncId) (args : List V) (x : V) : Prop where
  en : enters P f = true
  on : V.ons [] args = true
  rn : x.on [] = true
  calls : ACalls P f args [] (fun r _ => r = .ret x)
theorem Pure.run {f : FuncId} {args : List V} {x : V} {fn : Func} {c : Code} (hf : P.funcs[f]? = some fn) (hb : fn.body = some c) (hs : args.length ≤ fn.ntmps ∧ enters P f = true ∧ V.ons [] args = true ∧ x.on [] = true)
    (h : codeK P fn.ntmps c ⟨argFrame 0 args, []⟩ (kontK P fn.ntmps (FPost P fn.results.toList (fun r L' => ∃ y, r = .ret y ∧ y.fz L' = x)) [])) : Pure P f args x :=
  ⟨hs.2.1, hs.2.2.1, hs.2.2.2, (ACalls.data (ACalls.run hf hb hs.1 h) hs.2.2.2).mono fun _ _ h => h.1⟩
theorem Pure.ok {f : FuncId} {args : List V} {x : V} (h : Pure P f args x) (L : Heap) : OKCall P f args L x := OKCall.pure h.en h.on h.rn h.calls
theorem Pure.lend {f : FuncId} {args args' : List V} {x : V} {L : Heap} (h : Pure P f args' x) (hx : x.scal = true) (ha : V.fzs L args = args') : OKCall P f args L x := by
  subst ha
  exact OKCall.lend h.en h.on hx h.calls
structure Kept (P : Program) (f : FuncId) (args : List V) (L1 : Heap) (x : V) : Prop where
  en : enters P f = true
  on : V.ons (keys L1) args = true
  onL : L1.all (fun p => Res.on (keys L1) p.2 && isBox p.2) = true
  rn : x.scal = true
  calls : ACalls P f args L1 (fun r L' => r = .ret x ∧ L' = L1)
theorem Kept.run {f : FuncId} {args : List V} {L1 : Heap} {x : V} {fn : Func} {c : Code} (hf : P.funcs[f]? = some fn) (hb : fn.body = some c)
    (hs : args.length ≤ fn.ntmps ∧ enters P f = true ∧ V.ons (keys L1) args = true ∧ L1.all (fun p => Res.on (keys L1) p.2 && isBox p.2) = true ∧ x.scal = true)
    (h : codeK P fn.ntmps c ⟨argFrame 0 args, L1⟩ (kontK P fn.ntmps (FPost P fn.results.toList (fun r L' => r = .ret x ∧ L' = L1)) [])) : Kept P f args L1 x :=
  ⟨hs.2.1, hs.2.2.1, hs.2.2.2.1, hs.2.2.2.2, ACalls.run hf hb hs.1 h⟩
theorem Kept.ok {f : FuncId} {args : List V} {L1 : Heap} {x : V} (h : Kept P f args L1 x) (L : Heap) (hL : L.filter (fun p => (keys L1).contains p.1) = L1) : OKCall P f args L x :=
  OKCall.box (keys L1) hL h.en h.on h.onL h.rn h.calls
theorem AOps.pureC {ops : Array Oper} {o : Oper} {rest : List Oper} {c : Call} {f : FuncId} {args : List V} {x : V} (hop : o.op = .call c) (h : Pure P f args x) (hc : callee s.ev c = some (f, args)) (hg : o.guard = none)
    (hd : ∀ d, o.dst = some d → d < n) (hr : dstsOk n rest = true) (k : ∀ bs, runC P ops rest (s.put o.dst x) bs [] (KK P n ops Q)) : AOps P n ops (o :: rest) s Q :=
  AOps.quietT hg hd (OpT.call hop hc h.en h.on h.rn h.calls) (runC_sound rest _ [] hr k)
theorem AOps.lendC {ops : Array Oper} {o : Oper} {rest : List Oper} {c : Call} {f : FuncId} {args args' : List V} {x : V} (hop : o.op = .call c) (h : Pure P f args' x) (hc : callee s.ev c = some (f, args)) (ha : V.fzs s.L args = args') (hx : x.scal = true) (hg : o.guard = none)
    (hd : ∀ d, o.dst = some d → d < n) (hr : dstsOk n rest = true) (k : ∀ bs, runC P ops rest (s.put o.dst x) bs [] (KK P n ops Q)) : AOps P n ops (o :: rest) s Q := by
  subst ha
  exact AOps.quietT hg hd (OpT.lend hop hc h.en h.on hx h.calls) (runC_sound rest _ [] hr k)
theorem AOps.effC {ops : Array Oper} {o : Oper} {rest : List Oper} {c : Call} {f : FuncId} {args : List V} {L1 : Heap} {R : AE → Heap → Prop} (hs : List Nat) (hop : o.op = .call c) (h : ACalls P f args L1 R) (hc : callee s.ev c = some (f, args)) (hg : o.guard = none)
    (hd : ∀ d, o.dst = some d → d < n) (hr : dstsOk n rest = true) (he : enters P f = true) (hL : s.L.filter (fun p => hs.contains p.1) = L1)
    (ho : V.ons (keys L1) args = true) (hon : L1.all (fun p => Res.on (keys L1) p.2) = true)
    (hfr : s.fr.all (fun p => V.on (keys (s.L.filter fun p => !hs.contains p.1) ++ (L1.filterMap fun p => match p.2 with | .box (_ + 1) _ _ => some p.1 | _ => none)) p.2) = true)
    (hL2 : (s.L.filter fun p => !hs.contains p.1).all (fun p => Res.on (keys (s.L.filter fun p => !hs.contains p.1) ++ (L1.filterMap fun p => match p.2 with | .box (_ + 1) _ _ => some p.1 | _ => none)) p.2) = true)
    (hstay : ∀ r L1', R r L1' → (∃ x, r = .ret x) ∧ (∀ k ∈ keys L1', k ∉ keys (s.L.filter fun p => !hs.contains p.1)) ∧ ∀ k b ty cs, (k, Res.box (b + 1) ty cs) ∈ L1 → ∃ ty' cs', (k, Res.box (b + 1) ty' cs') ∈ L1')
    (k : ∀ x L1', R (.ret x) L1' → ∀ bs, runC P ops rest (St.put { s with L := L1' ++ s.L.filter fun p => !hs.contains p.1 } o.dst x) bs [] (KK P n ops Q)) : AOps P n ops (o :: rest) s Q :=
  AOps.callG (L1 := L1) (L2 := s.L.filter fun p => !hs.contains p.1) hg hd hop hc he ho (by subst hL; exact (List.filter_append_perm _ s.L).symm) hon (fun p hp => List.all_eq_true.1 hfr p hp) (fun p hp => List.all_eq_true.1 hL2 p hp) h hstay
    (fun x L1' hR => runC_sound rest _ [] hr (k x L1' hR))
def boxAt : Res → Option Nat
  | .box b _ _ => some b
  | _ => none
attribute [simp] boxAt
theorem AOps.effD {ops : Array Oper} {o : Oper} {rest : List Oper} {c : Call} {f : FuncId} {args : List V} {L1 L1' : Heap} {x : V} (hs : List Nat) (hop : o.op = .call c) (h : ACalls P f args L1 (fun r L => r = .ret x ∧ L = L1')) (hc : callee s.ev c = some (f, args)) (hg : o.guard = none)
    (hd : ∀ d, o.dst = some d → d < n) (hr : dstsOk n rest = true) (he : enters P f = true) (hL : s.L.filter (fun p => hs.contains p.1) = L1)
    (ho : V.ons (keys L1) args = true ∧ L1.all (fun p => Res.on (keys L1) p.2) = true ∧ L1.all (fun p => !isBox p.2 || L1'.any (fun q => q.1 == p.1 && (isBox q.2 && boxAt q.2 == boxAt p.2))) = true)
    (hfr : s.fr.all (fun p => V.on (keys (s.L.filter fun p => !hs.contains p.1) ++ keys (L1.filter fun p => isBox p.2)) p.2) = true)
    (hL2 : (s.L.filter fun p => !hs.contains p.1).all (fun p => Res.on (keys (s.L.filter fun p => !hs.contains p.1) ++ keys (L1.filter fun p => isBox p.2)) p.2) = true)
    (hk : (keys L1').all (fun k => !(keys (s.L.filter fun p => !hs.contains p.1)).contains k) = true)
    (k : ∀ bs, runC P ops rest (St.put { s with L := L1' ++ s.L.filter fun p => !hs.contains p.1 } o.dst x) bs [] (KK P n ops Q)) : AOps P n ops (o :: rest) s Q := by
  have hbx : (L1.filterMap fun p => match p.2 with | .box (_ + 1) _ _ => some p.1 | _ => none) = keys (L1.filter fun p => isBox p.2) := by
    generalize L1 = l
    induction l with
    | nil => rfl
    | cons p l ih =>
      obtain ⟨a, r⟩ := p
      cases r with
      | box b ty cs =>
        cases b with
        | succ b => simp only [List.filterMap_cons, List.filter_cons, isBox, if_true, keys, List.map_cons, ih]
        | zero =>
          simp only [List.filterMap_cons, List.filter_cons, isBox, ih]
          simp
      | row ty k xs =>
        simp only [List.filterMap_cons, List.filter_cons, isBox, ih]
        simp
      | env A =>
        simp only [List.filterMap_cons, List.filter_cons, isBox, ih]
        simp
      | mp es =>
        simp only [List.filterMap_cons, List.filter_cons, isBox, ih]
        simp
  refine AOps.effC hs hop h hc hg hd hr he hL ho.1 ho.2.1 (by rw [hbx]; exact hfr) (by rw [hbx]; exact hL2) ?_ ?_
  · rintro r L1'' ⟨rfl, rfl⟩
    refine ⟨⟨_, rfl⟩, fun k hk' => ?_, fun k b ty cs hm => ?_⟩
    · have := List.all_eq_true.1 hk k hk'
      simpa using this
    · have := List.all_eq_true.1 ho.2.2 _ hm
      simp only [isBox, Bool.not_true, Bool.false_or, List.any_eq_true, Bool.and_eq_true, beq_iff_eq] at this
      obtain ⟨⟨a, r⟩, h1, h2, h3, h4⟩ := this
      simp only at h2
      subst h2
      cases r with
      | box b' ty' cs' =>
        simp only [boxAt, Option.some.injEq] at h4
        subst h4
        exact ⟨ty', cs', h1⟩
      | row _ _ _ => simp at h3
      | env _ => simp at h3
      | mp _ => simp at h3
  · rintro x' L1'' ⟨e, rfl⟩
    obtain rfl := AE.ret.inj e
    exact k
def upF (fr : List (Nat × V)) (ov : List (Nat × V)) : List (Nat × V) := fr.map fun p => (p.1, (ov.lookup p.1).getD p.2)
def upL (L : Heap) (ov : List (Nat × Res)) : Heap := L.map fun p => (p.1, (ov.lookup p.1).getD p.2)
def St.up (s : St) (F : List (Nat × V)) (R : List (Nat × Res)) : St := ⟨upF s.fr F, upL s.L R⟩
def LoopS (ts hs : List Nat) (S : Nat → St) (N : Nat) (H : Nat → Prop) (i : Nat) (s : St) : Prop := (s.pick ts hs).on (keys (s.pick ts hs).L) = true ∧ i < N ∧ s.pick ts hs = S (i + 1) ∧ H (i + 1)
theorem AWP.loopS {c : Code} {ks : List KI} (ts : List Nat) (N : Nat) (F : Nat → List (Nat × V)) (R : Nat → List (Nat × Res)) (H : Nat → Prop) (ht : ts.all (fun t => decide (t < n)) = true)
    (h0 : (keys s.L).Nodup ∧ (s.pick ts (keys s.L)).on (keys (s.pick ts (keys s.L)).L) = true ∧ s.pick ts (keys s.L) = (s.pick ts (keys s.L)).up (F 0) (R 0) ∧ H 0)
    (round : ∀ i, i ≤ N → H i → codeK P n c ((s.pick ts (keys s.L)).up (F i) (R i)) (kontK P n Q (.inv (LoopS ts (keys s.L) (fun i => (s.pick ts (keys s.L)).up (F i) (R i)) N H i) :: ks))) :
    AWP P n (.loop c) s (kontK P n Q ks) := by
  obtain ⟨h1, h2, h3, h4⟩ := h0
  refine AWP.weaken (Wk.pick ts (keys s.L) ht h1 h2) (AWP.loop (fun k st => ∃ i, k = N - i ∧ i ≤ N ∧ H i ∧ st = (s.pick ts (keys s.L)).up (F i) (R i)) ⟨N, 0, rfl, Nat.zero_le _, h4, h3⟩ ?_)
  rintro k st ⟨i, rfl, hi, hH, rfl⟩
  refine AWP.mono (codeK_sound _ _ _ (round i hi hH)) (fun x s' h => ?_)
  cases x with
  | normal =>
    obtain ⟨a1, a2, a3, a4⟩ := h
    exact ⟨N - (i + 1), by omega, _, Wk.pick ts (keys s.L) ht h1 a1, i + 1, rfl, by omega, a4, a3⟩
  | _ => exact h
def Res.rlx : Res → Res
  | .box _ ty cs => .box 0 ty cs
  | r => r
def St.rlx (rs : List Nat) (s : St) : St := ⟨s.fr, s.L.map fun p => (p.1, if rs.contains p.1 then p.2.rlx else p.2)⟩
theorem Wk.rlx (rs : List Nat) : Wk n s (s.rlx rs) := by
  intro fo m a w g
  have hi := g.inv
  have hk : keys (St.rlx rs s).L = keys s.L := by simp [keys, St.rlx, Function.comp_def]
  refine ⟨m, ⟨g.size, g.fr, ⟨by rw [hk]; exact hi.nodup, fun h x hx => by rw [hk]; exact hi.dom h x hx, hi.apart, hi.others, hi.folt, ?_, hi.glob⟩, g.defers⟩, Step.refl w _⟩
  intro h r hr
  obtain ⟨p, hp, he⟩ := List.mem_map.1 hr
  simp only [Prod.mk.injEq] at he
  obtain ⟨rfl, rfl⟩ := he
  obtain ⟨x, hx, hh⟩ := hi.holds p.1 p.2 hp
  refine ⟨x, hx, ?_⟩
  split
  · generalize p.2 = q at hh
    cases q with
    | row ty k xs => exact hh
    | env A => exact hh
    | mp es => exact hh
    | box b ty cs =>
      obtain ⟨bb, _, h1⟩ := hh
      exact ⟨bb, .inl rfl, h1⟩
  · exact hh
def LoopR (rs ts hs : List Nat) (S : Nat → St) (N : Nat) (H : Nat → Prop) (i : Nat) (s : St) : Prop := (s.pick ts hs).on (keys (s.pick ts hs).L) = true ∧ i < N ∧ (s.pick ts hs).rlx rs = S (i + 1) ∧ H (i + 1)
attribute [simp] Res.rlx St.rlx LoopR
def LoopW (n : Nat) (S : Nat → St) (N : Nat) (H : Nat → Prop) (i : Nat) (s : St) : Prop := i < N ∧ H (i + 1) ∧ Wk n s (S (i + 1))
attribute [simp] upF upL St.up LoopS LoopW
@[simp] theorem dd_getElem (ys : List (List D)) (i : Nat) (h : i < (dd ys).length) : (dd ys)[i]'h = (ys[i]'(by simpa using h)).map V.d := by simp [dd]
@[simp] theorem encB_getElem (l : List Bool) (i : Nat) (h : i < (encB l).length) : (encB l)[i]'h = [.v (.bool (l[i]'(by simpa using h)))] := by simp [encB]
@[simp] theorem encS_getElem (l : List ByteArray) (i : Nat) (h : i < (encS l).length) : (encS l)[i]'h = [.v (.string (l[i]'(by simpa using h)))] := by simp [encS]
@[simp] theorem encSl_getElem {α : Type} (g : List α → List (List D)) (l : List (List α)) (i : Nat) (h : i < (encSl g l).length) : (encSl g l)[i]'h = [.sl (g (l[i]'(by simpa [encSl] using h)))] := by simp [encSl]
@[simp] theorem encI_getElem (l : List Int) (i : Nat) (h : i < (encI l).length) : (encI l)[i]'h = [.v (.int .i64 (l[i]'(by simpa using h)))] := by simp [encI]
end
end Go.Ab

namespace Go.Ab
section
variable {P : Program} {n : Nat} {s : St} {Q : AX → St → Prop} {L : Heap}
def LoopL {α : Type} (ts hs : List Nat) (S : List α → St) (H : List α → Prop) (pre : List α) (x : α) (s : St) : Prop := (s.pick ts hs).on (keys (s.pick ts hs).L) = true ∧ s.pick ts hs = S (pre ++ [x]) ∧ H (pre ++ [x])
theorem AWP.loopL {α : Type} {c : Code} {ks : List KI} (ts : List Nat) (l : List α) (F : List α → List (Nat × V)) (R : List α → List (Nat × Res)) (H : List α → Prop) (ht : ts.all (fun t => decide (t < n)) = true) (hl : l.length ≤ 1000000000000000)
    (h0 : (keys s.L).Nodup ∧ (s.pick ts (keys s.L)).on (keys (s.pick ts (keys s.L)).L) = true ∧ s.pick ts (keys s.L) = (s.pick ts (keys s.L)).up (F []) (R []) ∧ H [])
    (round : ∀ pre x post, l = pre ++ x :: post → H pre → (hlt : pre.length < l.length) → l[pre.length] = x → inR .i64 ((pre.length : Int) + 1) →
      codeK P n c ((s.pick ts (keys s.L)).up (F pre) (R pre)) (kontK P n Q (.inv (LoopL ts (keys s.L) (fun l => (s.pick ts (keys s.L)).up (F l) (R l)) H pre x) :: ks)))
    (last : H l → codeK P n c ((s.pick ts (keys s.L)).up (F l) (R l)) (kontK P n Q (.inv (fun _ => False) :: ks))) :
    AWP P n (.loop c) s (kontK P n Q ks) := by
  obtain ⟨h1, h2, h3, h4⟩ := h0
  refine AWP.weaken (Wk.pick ts (keys s.L) ht h1 h2) (AWP.loop (fun k st => ∃ pre post, l = pre ++ post ∧ k = post.length ∧ H pre ∧ st = (s.pick ts (keys s.L)).up (F pre) (R pre)) ⟨l.length, [], l, rfl, rfl, h4, h3⟩ ?_)
  rintro k st ⟨pre, post, hsp, rfl, hH, rfl⟩
  match post, hsp with
  | x :: post, hsp =>
    refine AWP.mono (codeK_sound _ _ _ (round pre x post hsp hH (by rw [hsp]; simp) (by simp [hsp]) (by rw [inR_i64]; rw [hsp] at hl; simp at hl; omega))) (fun y s' h => ?_)
    cases y with
    | normal =>
      obtain ⟨a1, a2, a3⟩ := h
      exact ⟨post.length, by simp, _, Wk.pick ts (keys s.L) ht h1 a1, pre ++ [x], post, by simp [hsp], rfl, a3, a2⟩
    | _ => exact h
  | [], hsp =>
    rw [List.append_nil] at hsp
    subst hsp
    refine AWP.mono (codeK_sound _ _ _ (last hH)) (fun y s' h => ?_)
    cases y with
    | normal => exact h.elim
    | _ => exact h
end
attribute [simp] LoopL
end Go.Ab

namespace Go.Ab
section
variable {P : Program} {n : Nat} {s : St} {Q : AX → St → Prop} {ops : Array Oper}
theorem Oper.uponIn_mono {F : Fence} {d : Nat} {o : Oper} {a : Act} {next next' : Act → World → Prop} {Q1 Q2 : Exit → Act → World → Prop} (hn : ∀ a w, next a w → next' a w) (he : ∀ e a w, e ≠ .normal → Q1 e a w → Q2 e a w) {r : Result Next} (h : o.uponIn F d P a next Q1 r) : o.uponIn F d P a next' Q2 r := by
  cases r with
  | ok x w' =>
    cases x <;> simp only [Oper.uponIn] at h ⊢ <;>
      first
        | exact hn _ _ h
        | exact ⟨h.1, CallsIn.mono h.2 (fun e w'' hh => by cases e <;> first | exact hn _ _ hh | exact he _ _ _ (by simp) hh | (obtain ⟨a0, w0, hq⟩ := hh; exact ⟨a0, w0, he _ _ _ (by simp) hq⟩))⟩
        | exact ⟨h.1, RowsIn.mono h.2 (fun _ _ hh => hn _ _ hh)⟩
        | exact ⟨h.1, RoundIn.mono h.2 (fun e w'' hh => by cases e <;> first | exact hn _ _ hh | exact he _ _ _ (by simp) hh | (obtain ⟨a0, w0, hq⟩ := hh; exact ⟨a0, w0, he _ _ _ (by simp) hq⟩))⟩
  | halt x w' => cases x <;> simp only [Oper.uponIn] at h ⊢ <;> exact he _ _ _ (by simp) h
theorem wpList_app {F : Fence} {d : Nat} {Q1 Q2 : Exit → Act → World → Prop} {l2 : List Oper} (hn : ∀ a w, Q1 .normal a w → wpListIn F d P ops Q2 l2 a w) (he : ∀ e a w, e ≠ .normal → Q1 e a w → Q2 e a w) :
    ∀ (l1 : List Oper) (a : Act) (w : World), wpListIn F d P ops Q1 l1 a w → wpListIn F d P ops Q2 (l1 ++ l2) a w
  | [], a, w, h => hn a w h
  | o :: l1, a, w, h => by
    rw [List.cons_append]
    unfold wpListIn at h ⊢
    split
    · rename_i hw
      rw [if_pos hw] at h
      exact ⟨h.1, Oper.uponIn_mono (fun a w => wpList_app hn he l1 a w) he h.2⟩
    · rename_i hw
      rw [if_neg hw] at h
      exact ⟨h.1, wpList_app hn he l1 _ _ h.2⟩
theorem wpListIn_mono {F : Fence} {d : Nat} {Q1 Q2 : Exit → Act → World → Prop} (he : ∀ e a w, Q1 e a w → Q2 e a w) : ∀ (l : List Oper) (a : Act) (w : World), wpListIn F d P ops Q1 l a w → wpListIn F d P ops Q2 l a w
  | [], a, w, h => he _ a w h
  | o :: l, a, w, h => by
    unfold wpListIn at h ⊢
    split
    · rename_i hw
      rw [if_pos hw] at h
      exact ⟨h.1, Oper.uponIn_mono (fun a w => wpListIn_mono he l a w) (fun e a w _ => he e a w) h.2⟩
    · rename_i hw
      rw [if_neg hw] at h
      exact ⟨h.1, wpListIn_mono he l _ _ h.2⟩
theorem AOps.app {l1 l2 : List Oper} (h : AOps P n ops l1 s (AX.then (fun s' => AOps P n ops l2 s' Q) Q)) : AOps P n ops (l1 ++ l2) s Q := by
  intro fo m0 w0 m a w st g
  refine wpList_app (fun a1 w1 h1 => ?_) (fun e a1 w1 hne h1 => ?_) l1 a w (h fo m0 w0 m a w st g)
  · obtain ⟨ms, m', x, s', hm, hq, g', hx, st'⟩ := h1
    cases x <;> simp only [Exits] at hx
    refine wpListIn_mono (fun _ _ _ => Post.marked hm g' st') _ _ _ (hq (fo.mark ms) m' w1 m' a1 w1 (Step.refl _ _) g')
  · obtain ⟨ms, m', x, s', hm, hq, g', hx, st'⟩ := h1
    refine ⟨ms, m', x, s', hm, ?_, g', hx, st'⟩
    cases x with
    | normal => cases e <;> simp only [Exits] at hx; exact (hne rfl).elim
    | _ => exact hq
theorem AOps.stop {l : List Oper} (k : Nat) (us : List V) (hd : dstsOk n (l.take k) = true) (h : ∀ bs, runC P ops (l.take k) s bs us (KK P n ops (AX.then (fun s' => AOps P n ops (l.drop k) s' Q) Q))) : AOps P n ops l s Q := by
  rw [← List.take_append_drop k l]
  exact AOps.app (runC_sound _ _ us hd h)
theorem AOps.pureG {o : Oper} {rest : List Oper} {c : Call} {f : FuncId} {args : List V} {x : V} {g : Bool} (hop : o.op = .call c) (h : g = true → Pure P f args x) (hc : callee (fun z => (s.ev z).un) c = some (f, args)) (hgd : guardV ops s o = some (some g)) (hu : g = true → uncs s o.op.operands.toList)
    (hd : ∀ d, o.dst = some d → d < n) (hr : dstsOk n rest = true) (k : ∀ bs, runC P ops rest (s.put o.dst (.gd g x)) bs [] (KK P n ops Q)) : AOps P n ops (o :: rest) s Q :=
  AOps.guardedT hgd hd (fun hg => ⟨fun z => (s.ev z).un, fun z hz w O m v hr => un_rel hr (uncs_mem (hu hg) z (by simpa using hz)), OpT.call hop hc (h hg).en (h hg).on (h hg).rn (h hg).calls⟩) (runC_sound rest _ [] hr k)
theorem AWP.seqK {x y : Code} (h : codeK P n x s (kontK P n (AX.then (fun s' => AWP P n y s' Q) Q) [])) : AWP P n (.seq x y) s Q := AWP.seq (codeK_sound _ _ _ h)
theorem Pure.runA {f : FuncId} {args : List V} {x : V} {fn : Func} {c : Code} (hf : P.funcs[f]? = some fn) (hb : fn.body = some c) (hs : args.length ≤ fn.ntmps ∧ enters P f = true ∧ V.ons [] args = true ∧ x.on [] = true)
    (h : AWP P fn.ntmps c ⟨argFrame 0 args, []⟩ (kontK P fn.ntmps (FPost P fn.results.toList (fun r L' => ∃ y, r = .ret y ∧ y.fz L' = x)) [])) : Pure P f args x :=
  ⟨hs.2.1, hs.2.2.1, hs.2.2.2, (ACalls.data (ACalls.of_AWP hf hb hs.1 h) hs.2.2.2).mono fun _ _ h => h.1⟩
end
end Go.Ab

namespace Go.Ab
def famd (b n : Nat) (ty : TypeId) (k : Nat) (A : Nat → List (List D)) : Heap := (List.range n).map fun i => (i + b, .row ty k (dd (A i)))
def hrow (b n : Nat) : List (List V) := (List.range n).map fun i => [.rv (i + b)]
def famKeys (b n : Nat) : List Nat := (List.range n).map fun i => i + b
section
variable {P : Program} {n : Nat} {s : St} {Q : AX → St → Prop} {L : Heap} {b N : Nat} {ty : TypeId} {k : Nat} {A : Nat → List (List D)}
theorem famd_lookup_none {h : Nat} : ∀ (l : List Nat), (∀ i ∈ l, i + b ≠ h) → List.lookup h (l.map fun i => (i + b, Res.row ty k (dd (A i)))) = none
  | [], _ => rfl
  | i :: l, hn => by
    have h1 : (h == i + b) = false := by simpa using fun e => hn i List.mem_cons_self e.symm
    simp only [List.map_cons, List.lookup, h1]
    exact famd_lookup_none l fun j hj => hn j (List.mem_cons_of_mem _ hj)
theorem famd_lookup_some {i : Nat} : ∀ (l : List Nat), i ∈ l → List.lookup (i + b) (l.map fun i => (i + b, Res.row ty k (dd (A i)))) = some (.row ty k (dd (A i)))
  | [], h => by cases h
  | j :: l, h => by
    by_cases e : j = i
    · subst e; simp [List.lookup]
    · have h1 : (i + b == j + b) = false := by simp; omega
      simp only [List.map_cons, List.lookup, h1]
      exact famd_lookup_some l ((List.mem_cons.1 h).resolve_left fun e' => e e'.symm)
@[simp] theorem famd_get (i : Nat) : List.lookup (i + b) (famd b N ty k A) = if i < N then some (.row ty k (dd (A i))) else none := by
  unfold famd
  split
  · exact famd_lookup_some _ (by simpa using ‹i < N›)
  · exact famd_lookup_none _ (by intro j hj; simp at hj; omega)
@[simp] theorem famd_keys : keys (famd b N ty k A) = famKeys b N := by simp [keys, famd, famKeys, Function.comp_def]
@[simp] theorem famd_keys' : List.map (·.1) (famd b N ty k A) = famKeys b N := by simp [famd, famKeys, Function.comp_def]
@[simp] theorem famKeys_mem (x : Nat) : x ∈ famKeys b N ↔ b ≤ x ∧ x < N + b := by
  unfold famKeys
  simp only [List.mem_map, List.mem_range]
  constructor
  · rintro ⟨i, h, rfl⟩; omega
  · rintro ⟨h1, h2⟩; exact ⟨x - b, by omega, by omega⟩
@[simp] theorem famKeys_contains (x : Nat) : (famKeys b N).contains x = (decide (b ≤ x) && decide (x < N + b)) := by
  rw [Bool.eq_iff_iff]; simp
@[simp] theorem famd_kill (h : Nat) : (famd b N ty k A).map (fun p => (p.1, p.2.kill h)) = famd b N ty k A := by
  unfold famd
  rw [List.map_map]
  apply List.map_congr_left
  intro i _
  simp [Res.kill, kill_dd]
@[simp] theorem famd_on (ks : List Nat) : (famd b N ty k A).all (fun p => Res.on ks p.2) = true := by
  simp [famd, List.all_map, Function.comp_def, Res.on, on_dd]
theorem famd_upd (i : Nat) (ys : List (List D)) : Heap.upd (famd b N ty k A) (i + b) (.row ty k (dd ys)) = famd b N ty k (fun j => if j = i then ys else A j) := by
  unfold famd Heap.upd
  rw [List.map_map]
  apply List.map_congr_left
  intro j _
  by_cases e : j = i
  · subst e; simp
  · have : ¬ j + b = i + b := by omega
    simp [this, e]
theorem famd_upd_other (h : Nat) (r : Res) (hh : h < b) : Heap.upd (famd b N ty k A) h r = famd b N ty k A := by
  unfold famd Heap.upd
  rw [List.map_map]
  apply List.map_congr_left
  intro j _
  have : ¬ j + b = h := by omega
  simp [this]
@[simp] theorem hrow_length : (hrow b N).length = N := by simp [hrow]
@[simp] theorem hrow_get (i : Nat) : (hrow b N)[i]? = if i < N then some [.rv (i + b)] else none := by
  unfold hrow
  rw [List.getElem?_map]
  split
  · rename_i h; simp [h]
  · rename_i h; rw [List.getElem?_eq_none (by simpa using h)]; rfl
theorem Wk.ownBox (c i h : Nat) {e k : Nat} {bk : Nat} {bt : TypeId} {cs : List V} (hl : s.L.lookup c = some (.box bk bt cs)) (hi : cs[i]? = some (.d (.v (.slice none 0 0)))) (hn : h ∉ keys s.L) :
    Wk n s ⟨s.fr, (h, .row e k []) :: Heap.upd s.L c (.box bk bt (cs.set i (.rv h)))⟩ := by
  intro fo m a w g
  obtain ⟨g', st⟩ := g.new (Grows.refl w) hn (x := .slice none 0 0) (r := .row e k []) (by intro b hb; simp [blk, blk1] at hb) (.inl ⟨rfl, rfl⟩)
  refine ⟨_, ⟨g'.size, g'.fr, ?_, g'.defers⟩, st⟩
  have hi' := g'.inv
  have hkey : keys ((h, Res.row e k []) :: Heap.upd s.L c (.box bk bt (cs.set i (.rv h)))) = keys ((h, Res.row e k []) :: s.L) := by
    have := keys_upd s.L c (.box bk bt (cs.set i (.rv h)))
    simp only [keys, List.map_cons] at this ⊢
    rw [this]
  have hmem := lookup_mem hl
  refine ⟨by rw [hkey]; exact hi'.nodup, fun j x hx => by rw [hkey]; exact hi'.dom j x hx, hi'.apart, hi'.others, hi'.folt, ?_, hi'.glob⟩
  intro j r hr
  rcases List.mem_cons.1 hr with hr | hr
  · exact hi'.holds j r (by rw [hr]; exact List.mem_cons_self)
  · unfold Heap.upd at hr
    obtain ⟨p, hp, he⟩ := List.mem_map.1 hr
    split at he
    · rename_i hpc
      simp only [Prod.mk.injEq] at he
      obtain ⟨rfl, rfl⟩ := he
      obtain ⟨x, hx, hh⟩ := hi'.holds c _ (List.mem_cons_of_mem _ hmem)
      refine ⟨x, hx, ?_⟩
      obtain ⟨bb, hbb, cur, e1, e2, e3, e4, e5⟩ := hh
      refine ⟨bb, hbb, cur, e1, e2, by simpa using e3, e4, fun l v y hv hy => ?_⟩
      rw [List.getElem?_set] at hy
      split at hy
      · rename_i hil
        subst hil
        split at hy
        · simp only [Option.some.injEq] at hy
          subst hy
          have := e5 i v _ hv hi
          rw [this.bool_inv]
          exact .rv h _ (mset_same _ _) rfl
        · cases hy
      · exact e5 l v y hv hy
    · rw [he] at hp
      exact hi'.holds j r (List.mem_cons_of_mem _ hp)
@[simp] theorem encI_replicate (N : Nat) (v : Int) : List.replicate N [V.d (.v (.int .i64 v))] = dd (encI (List.replicate N v)) := by simp [dd, encI]
@[simp] theorem famd_mem (a : Nat) (r : Res) : (a, r) ∈ famd b N ty k A ↔ ∃ i, i < N ∧ i + b = a ∧ .row ty k (dd (A i)) = r := by
  simp [famd]
@[simp] theorem hrow_mem (x : List V) : x ∈ hrow b N ↔ ∃ i, i < N ∧ [.rv (i + b)] = x := by simp [hrow]
@[simp] theorem famd_map_upd (h : Nat) (r : Res) (hh : h < b) : List.map (fun p => if p.1 = h then (h, r) else p) (famd b N ty k A) = famd b N ty k A := famd_upd_other h r hh
@[simp] theorem famd_map_upd' (i : Nat) (ys : List (List D)) : List.map (fun p => if p.1 = i + b then (i + b, .row ty k (dd ys)) else p) (famd b N ty k A) = famd b N ty k (fun j => if j = i then ys else A j) := famd_upd i ys
@[simp] theorem hrow_getElem (i : Nat) (h : i < (hrow b N).length) : (hrow b N)[i]'h = [.rv (i + b)] := by simp [hrow]
theorem famd_filter_all (f : Nat × Res → Bool) (h : ∀ i, f (i + b, .row ty k (dd (A i))) = true) : (famd b N ty k A).filter f = famd b N ty k A := by
  rw [List.filter_eq_self]
  rintro ⟨a, r⟩ hm
  obtain ⟨i, _, rfl, rfl⟩ := (famd_mem a r).1 hm
  exact h i
@[simp] theorem hrow_kill_other (h : Nat) (hh : h < b) : (hrow b N).map (V.kills h) = hrow b N := by
  unfold hrow
  rw [List.map_map]
  apply List.map_congr_left
  intro i _
  have : ¬ i + b = h := by omega
  simp [V.kills, V.kill, this]
@[simp] theorem famd_opn (bs : Nat → Nat) : (famd b N ty k A).map (fun p => (p.1, opnR bs p.1 p.2)) = famd b N ty k A := by
  simp [famd, Function.comp_def]
@[simp] theorem famd_rem (h : Nat) (hh : h < b) : remL h (famd b N ty k A) = famd b N ty k A := by
  rw [remL_eq, famd_filter_all _ (by intro i; simp; omega), famd_kill]
@[simp] theorem hrow_cellAt (i : Nat) (z : List V) (h : i < N) : cellAt (hrow b N) i 0 z = .rv (i + b) := by
  unfold cellAt
  rw [hrow_get, if_pos h]
  rfl
mutual
def V.ren (h g : Nat) : V → V
  | .bp i o => if i = h then .bp g o else .bp i o
  | .rv i => if i = h then .rv g else .rv i
  | .ep i k x y => if i = h then .ep g k x y else .ep i k x y
  | .clo fn f c => .clo fn (V.rens h g f) (V.rens h g c)
  | .agg cs => .agg (V.rens h g cs)
  | .tup cs => .tup (V.rens h g cs)
  | .gd b x => .gd b (V.ren h g x)
  | .d x => .d x
  | .rp cs => .rp cs
  | .sv i n => if i = h then .sv g n else .sv i n
  | .kn Q => .kn Q
  | .any => .any
def V.rens (h g : Nat) : List V → List V
  | [] => []
  | x :: l => V.ren h g x :: V.rens h g l
end
theorem rens_eq (h g : Nat) : ∀ l : List V, V.rens h g l = l.map (V.ren h g)
  | [] => by simp [V.rens]
  | x :: l => by simp [V.rens, rens_eq h g l]
theorem rens_d (h g : Nat) (l : List D) : V.rens h g (l.map V.d) = l.map V.d := by
  rw [rens_eq, List.map_map]
  apply List.map_congr_left
  intro x _
  simp [V.ren]
def Res.ren (h g : Nat) : Res → Res
  | .box b ty cs => .box b ty (V.rens h g cs)
  | .row ty k xs => .row ty k (xs.map (V.rens h g))
  | .env A => .env A
  | .mp es => .mp es
theorem ren_dd (h g : Nat) (ys : List (List D)) : (dd ys).map (V.rens h g) = dd ys := by
  unfold dd
  rw [List.map_map]
  apply List.map_congr_left
  intro x _
  simp [rens_d]
def St.ren (h g : Nat) (s : St) : St := ⟨s.fr.map fun p => (p.1, p.2.ren h g), s.L.map fun p => (if p.1 = h then g else p.1, p.2.ren h g)⟩
theorem RelV.ren {w : World} {O : Nat → Prop} {m m' : Nat → Option Value} {h g : Nat} (hm : ∀ i x, i ≠ h → m i = some x → m' i = some x) (hg : ∀ x, m h = some x → m' g = some x) {x : Value} {y : V} (hr : RelV w O m x y) : RelV w O m' x (y.ren h g) := by
  induction hr with
  | d x y hd => simpa [V.ren] using RelV.d x y hd
  | bp i off b e =>
    simp only [V.ren]
    split
    · rename_i he; subst he; exact .bp g off b (hg _ e)
    · rename_i hne; exact .bp i off b (hm _ _ hne e)
  | rv i x e e1 =>
    simp only [V.ren]
    split
    · rename_i he; subst he; exact .rv g x (hg _ e) e1
    · rename_i hne; exact .rv i x (hm _ _ hne e) e1
  | ep i k p q b o n c e =>
    simp only [V.ren]
    split
    · rename_i he; subst he; exact .ep g k p q b o n c (hg _ e)
    · rename_i hne; exact .ep i k p q b o n c (hm _ _ hne e)
  | rp b off cs f hb hlt hc hr => simpa [V.ren] using RelV.rp b off cs f hb hlt hc hr
  | sv i n b cap e hc hx =>
    simp only [V.ren]
    split
    · rename_i he; subst he; exact .sv g n b cap (hg _ e) hc hx
    · rename_i hne; exact .sv i n b cap (hm _ _ hne e) hc hx
  | clo fn first caps cf cc s1 s2 h1 h2 ih1 ih2 =>
    simp only [V.ren, rens_eq]
    refine .clo fn first caps _ _ (by simpa using s1) (by simpa using s2) ?_ ?_
    · intro j x y hx hy
      rw [List.getElem?_map] at hy
      obtain ⟨z, hz, rfl⟩ := Option.map_eq_some_iff.1 hy
      exact ih1 j x z hx hz
    · intro j x y hx hy
      rw [List.getElem?_map] at hy
      obtain ⟨z, hz, rfl⟩ := Option.map_eq_some_iff.1 hy
      exact ih2 j x z hx hz
  | agg vs cs hs h1 h2 ih =>
    simp only [V.ren, rens_eq]
    refine .agg vs _ (by simpa using hs) h1 ?_
    intro j x y hx hy
    rw [List.getElem?_map] at hy
    obtain ⟨z, hz, rfl⟩ := Option.map_eq_some_iff.1 hy
    exact ih j x z hx hz
  | tup vs cs hs h2 ih =>
    simp only [V.ren, rens_eq]
    refine .tup vs _ (by simpa using hs) ?_
    intro j x y hx hy
    rw [List.getElem?_map] at hy
    obtain ⟨z, hz, rfl⟩ := Option.map_eq_some_iff.1 hy
    exact ih j x z hx hz
  | gt x y hr ih => simpa [V.ren] using RelV.gt x _ ih
  | gf y => simpa [V.ren] using RelV.gf (y.ren h g)
  | kn x Q h => simpa [V.ren] using RelV.kn x Q h
  | any x => simpa [V.ren] using RelV.any x
theorem Res.Holds.ren {w : World} {O : Nat → Prop} {m m' : Nat → Option Value} {h g : Nat} (hm : ∀ i x, i ≠ h → m i = some x → m' i = some x) (hg : ∀ x, m h = some x → m' g = some x) {x : Value} {r : Res} (hh : r.Holds w O m x) : (r.ren h g).Holds w O m' x := by
  cases r with
  | box b ty cs =>
    obtain ⟨bb, hbb, cur, rfl, h1, h2, h3, h4⟩ := hh
    simp only [Res.ren, rens_eq]
    refine ⟨bb, hbb, cur, rfl, h1, by simpa using h2, h3, fun j v c hv hc => ?_⟩
    rw [List.getElem?_map] at hc
    obtain ⟨z, hz, rfl⟩ := Option.map_eq_some_iff.1 hc
    exact (h4 j v z hv hz).ren hm hg
  | row ty k xs =>
    simp only [Res.ren]
    rcases hh with ⟨rfl, rfl⟩ | ⟨b, off, cap, cur, rfl, h1, h2, h3, h4, h5, h6, h7⟩
    · exact .inl ⟨rfl, rfl⟩
    · refine .inr ⟨b, off, cap, cur, by simp, h1, by simpa using h2, h3, h4, fun i x hx => ?_, h6, fun i j x y v hx hy hv => ?_⟩
      · rw [List.getElem?_map] at hx
        obtain ⟨z, hz, rfl⟩ := Option.map_eq_some_iff.1 hx
        rw [rens_eq, List.length_map]
        exact h5 i z hz
      · rw [List.getElem?_map] at hx
        obtain ⟨z, hz, rfl⟩ := Option.map_eq_some_iff.1 hx
        rw [rens_eq, List.getElem?_map] at hy
        obtain ⟨y', hy', rfl⟩ := Option.map_eq_some_iff.1 hy
        exact (h7 i j z y' v hz hy' hv).ren hm hg
  | env A => exact hh
  | mp es => exact hh
theorem Wk.ren (h g : Nat) (hg : g ∉ keys s.L) : Wk n s (s.ren h g) := by
  classical
  intro fo m a w gg
  let m' : Nat → Option Value := fun i => if i = g then m h else if i = h then none else m i
  have hi := gg.inv
  have hgn : ∀ x, m g ≠ some x := fun x hx => hg (hi.dom g x hx)
  have hm : ∀ i x, i ≠ h → m i = some x → m' i = some x := by
    intro i x hne hx
    have : i ≠ g := fun e => hgn x (e ▸ hx)
    simp only [m', if_neg this, if_neg hne]; exact hx
  have hmg : ∀ x, m h = some x → m' g = some x := fun x hx => by simp only [m', if_pos]; exact hx
  have hm' : ∀ i x, m' i = some x → ∃ j, m j = some x ∧ i = (if j = h then g else j) := by
    intro i x hx
    by_cases e : i = g
    · simp only [m', if_pos e] at hx; exact ⟨h, hx, by simp [e]⟩
    · simp only [m', if_neg e] at hx
      by_cases e2 : i = h
      · simp only [if_pos e2] at hx; cases hx
      · simp only [if_neg e2] at hx; exact ⟨i, hx, by rw [if_neg e2]⟩
  have hown : ∀ b, Ab.own m' b ↔ Ab.own m b := by
    intro b
    constructor
    · rintro ⟨i, x, hx, hb⟩
      obtain ⟨j, hj, _⟩ := hm' i x hx
      exact ⟨j, x, hj, hb⟩
    · rintro ⟨i, x, hx, hb⟩
      by_cases e : i = h
      · subst e; exact ⟨g, x, hmg x hx, hb⟩
      · exact ⟨i, x, hm i x e hx, hb⟩
  have hO : ∀ b, b < w.heap.size → OO fo m' b → OO fo m b := fun b _ ho => ho.imp (hown b).1 id
  have hkey : ∀ i, i ∈ keys s.L → (if i = h then g else i) ∈ keys (s.ren h g).L := by
    intro i hi'
    obtain ⟨p, hp, rfl⟩ := List.mem_map.1 hi'
    exact List.mem_map.2 ⟨_, List.mem_map.2 ⟨p, hp, rfl⟩, rfl⟩
  refine ⟨m', ⟨gg.size, ?_, ?_, gg.defers⟩, ⟨rfl, rfl, rfl, Nat.le_refl _, fun _ _ _ => rfl, fun b _ ho => (hown b).1 ho⟩⟩
  · intro t x hx
    obtain ⟨p, hp, he⟩ := List.mem_map.1 hx
    simp only [Prod.mk.injEq] at he
    obtain ⟨rfl, rfl⟩ := he
    obtain ⟨h1, h2⟩ := gg.fr p.1 p.2 hp
    exact ⟨h1, (h2.ren hm hmg).mono (Keep.refl w _) hO (fun _ _ e => e)⟩
  · refine ⟨?_, ?_, ?_, ?_, hi.folt, ?_, hi.glob.mono (Keep.refl w _) hO⟩
    · have : keys (s.ren h g).L = (keys s.L).map fun i => if i = h then g else i := by
        simp [keys, St.ren, Function.comp_def]
      rw [this]
      have hnd := hi.nodup
      unfold List.Nodup at hnd ⊢
      rw [List.pairwise_map]
      refine List.Pairwise.imp_of_mem (fun {a b} ha hb hab => ?_) hnd
      have h1 : a ≠ g := fun e => hg (e ▸ ha)
      have h2 : b ≠ g := fun e => hg (e ▸ hb)
      split <;> split
      · rename_i e1 e2; exact (hab (e1.trans e2.symm)).elim
      · exact fun e => h2 e.symm
      · exact h1
      · exact hab
    · intro i x hx
      obtain ⟨j, hj, rfl⟩ := hm' i x hx
      exact hkey j (hi.dom j x hj)
    · intro i j x y b hx hy hb hb'
      obtain ⟨i', hi1, rfl⟩ := hm' i x hx
      obtain ⟨j', hj1, rfl⟩ := hm' j y hy
      rw [hi.apart i' j' x y b hi1 hj1 hb hb']
    · intro i x b hx hb
      obtain ⟨j, hj, _⟩ := hm' i x hx
      exact hi.others j x b hj hb
    · intro i r hr
      obtain ⟨p, hp, he⟩ := List.mem_map.1 hr
      simp only [Prod.mk.injEq] at he
      obtain ⟨rfl, rfl⟩ := he
      obtain ⟨x, hx, hh⟩ := hi.holds p.1 p.2 hp
      refine ⟨x, ?_, (hh.ren hm hmg).mono (fun _ _ => rfl) (Keep.refl w _) hO (fun _ _ e => e)⟩
      split
      · rename_i e; rw [e] at hx; exact hmg x hx
      · rename_i e; exact hm _ x e hx
attribute [simp] V.ren V.rens Res.ren St.ren rens_d ren_dd
def EPost (P : Program) (rs : List ResultVar) (R : AE → Heap → Prop) (hs : List Nat) (x : AX) (s : St) : Prop :=
  match x with
  | .normal | .ret => (s.pick [] hs).on (keys (s.pick [] hs).L) = true ∧ FPost P rs R .ret (s.pick [] hs)
  | _ => False
theorem AWP.epost {P : Program} {c : Code} {rs : List ResultVar} {R : AE → Heap → Prop} (hs : List Nat) (hh : hs.Nodup) (h : AWP P n c s (EPost P rs R hs)) : AWP P n c s (FPost P rs R) := by
  intro fo m a w hr g
  refine Code.wpIn_mono (fun e a1 w1 hp => ?_) (h fo m a w hr g)
  obtain ⟨ms, m', x, s', hmk, hq, g', he, st⟩ := hp
  have key : ∀ y, (s'.pick [] hs).on (keys (s'.pick [] hs).L) = true ∧ FPost P rs R .ret (s'.pick [] hs) → (∀ m2, Exits w1 (OO (fo.mark ms) m2) m2 e y) → FPost P rs R .ret (s'.pick [] hs) = FPost P rs R y (s'.pick [] hs) → Post fo n m w (FPost P rs R) e a1 w1 := by
    intro y h1 h2 h3
    obtain ⟨m2, g2, st2⟩ := Wk.pick [] hs (by simp) hh h1.1 (fo.mark ms) m' a1 w1 g'
    exact ⟨ms, m2, y, s'.pick [] hs, hmk, h3 ▸ h1.2, g2, h2 m2, st.trans st2⟩
  cases x with
  | normal =>
    refine key .normal hq (fun m2 => ?_) rfl
    cases e <;> simp [Exits] at he ⊢
  | ret =>
    refine key .ret hq (fun m2 => ?_) rfl
    cases e <;> simp [Exits] at he ⊢
  | _ => exact hq.elim
theorem ACalls.runP {P : Program} (hs : List Nat) (hh : hs.Nodup) {f : FuncId} {args : List V} {R : AE → Heap → Prop} {fn : Func} {c : Code} (hf : P.funcs[f]? = some fn) (hb : fn.body = some c) (hn : args.length ≤ fn.ntmps)
    (h : codeK P fn.ntmps c ⟨argFrame 0 args, L⟩ (kontK P fn.ntmps (EPost P fn.results.toList R hs) [])) : ACalls P f args L R :=
  ACalls.of_AWP hf hb hn (AWP.epost hs hh (codeK_sound _ _ _ h))
attribute [simp] EPost
end
end Go.Ab

namespace Go.Ab
section
variable {P : Program} {n : Nat} {s : St} {Q : AX → St → Prop} {ops : Array Oper}
theorem AOps.panic {o : Oper} {rest : List Oper} {xo : Operand} {t : TypeId} {ag : Bool} {cs : List D} (hop : o.op = .panic xo) (hx : s.ev xo = .d (.ifc t ag cs)) (hg : o.guard = none) (k : Q (.pan (.d (.ifc t ag cs))) s) : AOps P n ops (o :: rest) s Q := by
  intro fo m0 w0 m a w st g
  have hr := eval_rel g xo
  rw [hx] at hr
  obtain ⟨u, hv⟩ := ifc_inv hr.d_inv
  unfold wpListIn
  rw [if_pos (by simp [Region.wanted, hg])]
  have hrun : (execOp a.eval o).run P w = .halt (.panic (a.eval xo)) w := by
    simp [execOp, hop, hv, Instr.panic, goPanic]
  refine owp_panic (by simp [hop]) hrun ?_
  exact .of m (.pan (.d (.ifc t ag cs))) s k g ⟨_, [], rfl, by simp, hr⟩ st
def Leads (P : Program) : Next → World → (Ending → World → Prop) → Prop
  | .enter f args, w, R => Calls P f args w R
  | .round l f tmps assign body, w, R => RoundIn Fence.wide 0 P l f tmps assign body w R
  | _, _, _ => False
theorem Leads.mono {nx : Next} {w : World} {R R' : Ending → World → Prop} (h : Leads P nx w R) (hr : ∀ e w', R e w' → R' e w') : Leads P nx w R' := by
  cases nx <;> simp only [Leads] at h ⊢
  · exact Calls.mono h hr
  · exact RoundIn.mono h hr
theorem owp_leads {r : Option Nat} {o : Oper} {a : Act} {w w' : World} {nx : Next} {next : Act → World → Prop} {Q : Exit → Act → World → Prop} (hrun : (execOp a.eval o).run P w = .ok nx w')
    (h : Leads P nx w' fun
      | .returned v, w'' => next (a.put o.dst v) w''
      | .panicked chain, w'' => Q (.panic chain) a w''
      | .outgrown, _ => LetsOut Q) : o.wpIn (wr r) 0 P a w next Q := by
  refine ⟨fun _ _ => trivial, ?_⟩
  cases nx <;> simp only [Leads] at h
  · rw [sem_at (not_defer hrun (by simp)), hrun]
    exact ⟨fun h => by simp [wr, Fence.wide] at h, wr_calls h⟩
  · rw [sem_at (not_defer hrun (by simp)), hrun]
    exact ⟨fun h => by simp [wr, Fence.wide] at h, h⟩
theorem core {o : Oper} {L1 L2 : Heap} {R : AE → Heap → Prop}
    (hL : s.L.Perm (L1 ++ L2)) (hon : L1.all (fun p => Res.on (keys L1) p.2) = true)
    (hL2 : ∀ p ∈ L2, Res.on (keys L2 ++ (L1.filterMap fun p => match p.2 with | .box (_ + 1) _ _ => some p.1 | _ => none)) p.2 = true)
    (hstay : ∀ r L1', R r L1' → (∀ k ∈ keys L1', k ∉ keys L2) ∧ ∀ k b ty cs, (k, Res.box (b + 1) ty cs) ∈ L1 → ∃ ty' cs', (k, Res.box (b + 1) ty' cs') ∈ L1')
    {fo : FO} {m : Nat → Option Value} {a : Act} {w : World}
    (h : ∀ (fo1 : FO) (m1 : Nat → Option Value), (∀ b, OO fo1 m1 b ↔ OO fo m b) → (∀ h x, h ∈ keys L1 → m h = some x → m1 h = some x) → Inv fo1 m1 L1 w → ∃ nx, (execOp a.eval o).run P w = .ok nx w ∧ Leads P nx w (CPost fo1 m1 w R))
    (g : G fo n m s a w) {next : Act → World → Prop} {Q' : Exit → Act → World → Prop}
    (k : ∀ x L1' mm v w', R (.ret x) L1' → RelV w' (OO fo mm) mm v x → Inv fo mm (L1' ++ L2) w' → Step w (own m) w' (own mm) →
      (∀ h y, h ∈ keys L2 ++ (L1.filterMap fun p => match p.2 with | .box (_ + 1) _ _ => some p.1 | _ => none) → m h = some y → mm h = some y) →
      Keep w (OO fo m) w' → (∀ b, b < w.heap.size → OO fo mm b → OO fo m b) → next (a.put o.dst v) w')
    (kp : ∀ x L1' mm ch w', R (.pan x) L1' → Chain w' (OO fo mm) mm ch x → Inv fo mm (L1' ++ L2) w' → Step w (own m) w' (own mm) →
      (∀ h y, h ∈ keys L2 ++ (L1.filterMap fun p => match p.2 with | .box (_ + 1) _ _ => some p.1 | _ => none) → m h = some y → mm h = some y) →
      Keep w (OO fo m) w' → (∀ b, b < w.heap.size → OO fo mm b → OO fo m b) → Q' (.panic ch) a w') : o.wpIn (wr fo.r) 0 P a w next Q' := by
  classical
  have hi := g.inv
  have hkeys : ∀ x, x ∈ keys s.L ↔ x ∈ keys L1 ∨ x ∈ keys L2 := by
    intro x
    have : (keys s.L).Perm (keys (L1 ++ L2)) := hL.map _
    rw [this.mem_iff]
    simp [keys]
  have hnd : (keys L1).Nodup ∧ (keys L2).Nodup ∧ ∀ x, x ∈ keys L1 → x ∉ keys L2 := by
    have hp : (keys s.L).Perm (keys L1 ++ keys L2) := by simpa [keys] using hL.map (·.1)
    have := hp.nodup_iff.1 hi.nodup
    rw [List.nodup_append] at this
    exact ⟨this.1, this.2.1, fun x h1 h2 => this.2.2 x h1 x h2 rfl⟩
  let m1 : Nat → Option Value := fun h => if h ∈ keys L1 then m h else none
  let m2 : Nat → Option Value := fun h => if h ∈ keys L2 then m h else none
  have hm1 : ∀ h x, m1 h = some x → m h = some x ∧ h ∈ keys L1 := by
    intro h x hx
    by_cases hh : h ∈ keys L1
    · simp only [m1, if_pos hh] at hx; exact ⟨hx, hh⟩
    · simp only [m1, if_neg hh] at hx; cases hx
  have hm2 : ∀ h x, m2 h = some x → m h = some x ∧ h ∈ keys L2 := by
    intro h x hx
    by_cases hh : h ∈ keys L2
    · simp only [m2, if_pos hh] at hx; exact ⟨hx, hh⟩
    · simp only [m2, if_neg hh] at hx; cases hx
  have hm1' : ∀ h x, h ∈ keys L1 → m h = some x → m1 h = some x := fun h x hh hx => by simp only [m1, if_pos hh]; exact hx
  have hm2' : ∀ h x, h ∈ keys L2 → m h = some x → m2 h = some x := fun h x hh hx => by simp only [m2, if_pos hh]; exact hx
  let fo1 : FO := fun b => fo b ∨ own m2 b
  have hown : ∀ b, own m b ↔ own m1 b ∨ own m2 b := by
    intro b
    constructor
    · rintro ⟨h, x, hx, hb⟩
      rcases (hkeys h).1 (hi.dom h x hx) with hh | hh
      · exact .inl ⟨h, x, hm1' h x hh hx, hb⟩
      · exact .inr ⟨h, x, hm2' h x hh hx, hb⟩
    · rintro (⟨h, x, hx, hb⟩ | ⟨h, x, hx, hb⟩)
      · exact ⟨h, x, (hm1 h x hx).1, hb⟩
      · exact ⟨h, x, (hm2 h x hx).1, hb⟩
  have hOO : ∀ b, OO fo1 m1 b ↔ OO fo m b := by
    intro b
    unfold OO
    rw [hown b]
    constructor
    · rintro (h | h | h)
      · exact .inl (.inl h)
      · exact .inr h
      · exact .inl (.inr h)
    · rintro ((h | h) | h)
      · exact .inl h
      · exact .inr (.inr h)
      · exact .inr (.inl h)
  have hi1 : Inv fo1 m1 L1 w := by
    refine ⟨hnd.1, fun h x hx => (hm1 h x hx).2, ?_, ?_, ?_, ?_, hi.glob.mono (Keep.refl w _) (fun b _ hb => (hOO b).1 hb)⟩
    · intro h h' x x' b hx hx' hb hb'
      exact hi.apart h h' x x' b (hm1 h x hx).1 (hm1 h' x' hx').1 hb hb'
    · rintro h x b hx hb (hf | ⟨h', x', hx', hb'⟩)
      · exact hi.others h x b (hm1 h x hx).1 hb hf
      · have := hi.apart h h' x x' b (hm1 h x hx).1 (hm2 h' x' hx').1 hb hb'
        subst this
        exact hnd.2.2 h (hm1 h x hx).2 (hm2 h x' hx').2
    · rintro b (hf | ⟨h', x', hx', hb'⟩)
      · exact hi.folt b hf
      · exact hi.lt (hm2 h' x' hx').1 hb'
    · intro h r hr
      obtain ⟨x, hx, hh⟩ := hi.holds h r (hL.mem_iff.2 (List.mem_append_left _ hr))
      have hk : h ∈ keys L1 := List.mem_map.2 ⟨_, hr, rfl⟩
      rw [List.all_eq_true] at hon
      exact ⟨x, hm1' h x hk hx, (hh.on hm1' (hon _ hr)).mono (fun _ _ => rfl) (Keep.refl w _) (fun b _ hb => (hOO b).1 hb) (fun _ _ e => e)⟩
  obtain ⟨nx, h1, hlead⟩ := h fo1 m1 hOO hm1' hi1
  refine owp_leads h1 ?_
  refine hlead.mono ?_
  rintro e w' ⟨m1', r, L1', hR, he', hi', st'⟩
  obtain ⟨hdis, hbox⟩ := hstay r L1' hR
  let mm : Nat → Option Value := fun h => if h ∈ keys L1' then m1' h else m2 h
  have hmm1 : ∀ h y, m1' h = some y → mm h = some y := fun h y hy => by simp only [mm, if_pos (hi'.dom h y hy)]; exact hy
  have hmm2 : ∀ h y, m2 h = some y → mm h = some y := by
    intro h y hy
    have : h ∉ keys L1' := fun hh => hdis h hh (hm2 h y hy).2
    simp only [mm, if_neg this]; exact hy
  have hmmi : ∀ h y, mm h = some y → (m1' h = some y ∧ h ∈ keys L1') ∨ (m2 h = some y ∧ h ∉ keys L1') := by
    intro h y hy
    by_cases hh : h ∈ keys L1'
    · simp only [mm, if_pos hh] at hy; exact .inl ⟨hy, hh⟩
    · simp only [mm, if_neg hh] at hy; exact .inr ⟨hy, hh⟩
  have hownm : ∀ b, own mm b ↔ own m1' b ∨ own m2 b := by
    intro b
    constructor
    · rintro ⟨h, y, hy, hb⟩
      rcases hmmi h y hy with ⟨hy, _⟩ | ⟨hy, _⟩
      · exact .inl ⟨h, y, hy, hb⟩
      · exact .inr ⟨h, y, hy, hb⟩
    · rintro (⟨h, y, hy, hb⟩ | ⟨h, y, hy, hb⟩)
      · exact ⟨h, y, hmm1 h y hy, hb⟩
      · exact ⟨h, y, hmm2 h y hy, hb⟩
  have hOOm : ∀ b, OO fo mm b ↔ OO fo1 m1' b := by
    intro b
    unfold OO
    rw [hownm b]
    constructor
    · rintro ((h | h) | h)
      · exact .inl h
      · exact .inr (.inr h)
      · exact .inr (.inl h)
    · rintro (h | h | h)
      · exact .inl (.inl h)
      · exact .inr h
      · exact .inl (.inr h)
  have hO' : ∀ b, b < w.heap.size → OO fo mm b → OO fo m b := by
    intro b hb ho'
    rcases (hOOm b).1 ho' with h | h | h
    · exact .inl ((hown b).2 (.inl (st'.owned b hb h)))
    · exact .inr h
    · exact .inl ((hown b).2 (.inr h))
  have hkeep : Keep w (OO fo m) w' := ⟨st'.size, fun b hb hno => st'.block b hb (fun h => hno (.inl ((hown b).2 (.inl h))))⟩
  have hboxm : ∀ h y, h ∈ keys L2 ++ (L1.filterMap fun p => match p.2 with | .box (_ + 1) _ _ => some p.1 | _ => none) → m h = some y → mm h = some y := by
    intro h y hh hy
    rcases List.mem_append.1 hh with hh | hh
    · exact hmm2 h y (hm2' h y hh hy)
    · obtain ⟨p, hp, hpe⟩ := List.mem_filterMap.1 hh
      obtain ⟨q, r⟩ := p
      cases r with
      | row ty k xs => simp at hpe
      | env A => simp at hpe
      | mp es => simp at hpe
      | box b0 ty cs =>
        cases b0 with
        | zero => simp at hpe
        | succ b =>
        simp only [Option.some.injEq] at hpe
        subst hpe
        obtain ⟨ty', cs', hb'⟩ := hbox q b ty cs hp
        obtain ⟨z, hz, hzh⟩ := hi'.holds q _ hb'
        obtain ⟨bb1, hb1, cur', e1, _⟩ := hzh
        obtain ⟨u, hu, huh⟩ := hi1.holds q _ hp
        obtain ⟨bb2, hb2, cur, e2, _⟩ := huh
        obtain rfl : bb1 = b := by omega
        obtain rfl : bb2 = bb1 := by omega
        have := (hm1 q u hu).1
        rw [hy] at this
        obtain rfl := Option.some.inj this
        rw [e2, ← e1]
        exact hmm1 q z hz
  have hinv : Inv fo mm (L1' ++ L2) w' := by
    refine ⟨?_, ?_, ?_, ?_, fun b hf => Nat.lt_of_lt_of_le (hi.folt b hf) st'.size, ?_, hi.glob.mono hkeep hO'⟩
    · show (keys (L1' ++ L2)).Nodup
      rw [show keys (L1' ++ L2) = keys L1' ++ keys L2 by simp [keys], List.nodup_append]
      exact ⟨hi'.nodup, hnd.2.1, fun x h1 y h2 e => hdis x h1 (by rw [e]; exact h2)⟩
    · intro h y hy
      show h ∈ keys (L1' ++ L2)
      rw [show keys (L1' ++ L2) = keys L1' ++ keys L2 by simp [keys]]
      rcases hmmi h y hy with ⟨_, hh⟩ | ⟨hy, _⟩
      · exact List.mem_append_left _ hh
      · exact List.mem_append_right _ (hm2 h y hy).2
    · intro h h' y y' b hy hy' hb hb'
      rcases hmmi h y hy with ⟨hy, _⟩ | ⟨hy, _⟩ <;> rcases hmmi h' y' hy' with ⟨hy', _⟩ | ⟨hy', _⟩
      · exact hi'.apart h h' y y' b hy hy' hb hb'
      · exact (hi'.others h y b hy hb (.inr ⟨h', y', hy', hb'⟩)).elim
      · exact (hi'.others h' y' b hy' hb' (.inr ⟨h, y, hy, hb⟩)).elim
      · exact hi.apart h h' y y' b (hm2 h y hy).1 (hm2 h' y' hy').1 hb hb'
    · intro h y b hy hb hf
      rcases hmmi h y hy with ⟨hy, _⟩ | ⟨hy, _⟩
      · exact hi'.others h y b hy hb (.inl hf)
      · exact hi.others h y b (hm2 h y hy).1 hb hf
    · intro h r hr
      rcases List.mem_append.1 hr with hr | hr
      · obtain ⟨z, hz, hzh⟩ := hi'.holds h r hr
        exact ⟨z, hmm1 h z hz, hzh.mono (fun _ _ => rfl) (Keep.refl w' _) (fun b _ hb => (hOOm b).1 hb) hmm1⟩
      · obtain ⟨z, hz, hzh⟩ := hi.holds h r (hL.mem_iff.2 (List.mem_append_right _ hr))
        have hk : h ∈ keys L2 := List.mem_map.2 ⟨_, hr, rfl⟩
        refine ⟨z, hmm2 h z (hm2' h z hk hz), (hzh.on hboxm (hL2 _ hr)).mono (fun b hb => ?_) hkeep hO' (fun _ _ e => e)⟩
        exact st'.block b (hi.lt hz hb) (fun ho1 => by
          obtain ⟨h', y', hy', hb'⟩ := ho1
          have := hi.apart h h' z y' b hz (hm1 h' y' hy').1 hb hb'
          subst this
          exact hnd.2.2 h (hm1 h y' hy').2 hk)
  have stt : Step w (own m) w' (own mm) := by
    refine ⟨st'.os, st'.tape, st'.output, st'.size, fun b hb hno => st'.block b hb (fun h => hno ((hown b).2 (.inl h))), fun b hb ho' => ?_⟩
    rcases (hownm b).1 ho' with h | h
    · exact (hown b).2 (.inl (st'.owned b hb h))
    · exact (hown b).2 (.inr h)
  cases e with
  | panicked ch =>
    cases r with
    | ret x => simp only [Ends] at he'
    | pan x =>
      simp only [Ends] at he'
      obtain ⟨v, older, rfl, hold, hv⟩ := he'
      have hrx : RelV w' (OO fo mm) mm v x := hv.mono (Keep.refl w' _) (fun b _ hb => (hOOm b).1 hb) hmm1
      exact kp x L1' mm _ w' hR ⟨v, older, rfl, hold, hrx⟩ hinv stt hboxm hkeep hO'
  | outgrown => cases r <;> simp only [Ends] at he'
  | returned v =>
    cases r with
    | pan x => simp only [Ends] at he'
    | ret x =>
      simp only [Ends] at he'
      have hrx : RelV w' (OO fo mm) mm v x := he'.mono (Keep.refl w' _) (fun b _ hb => (hOOm b).1 hb) hmm1
      exact k x L1' mm v w' hR hrx hinv stt hboxm hkeep hO'
theorem call_coreP {o : Oper} {c : Call} {f : FuncId} {args : List V} {L1 L2 : Heap} {R : AE → Heap → Prop}
    (hop : o.op = .call c) (hc : callee s.ev c = some (f, args)) (he : enters P f = true) (ho : V.ons (keys L1) args = true) (hL : s.L.Perm (L1 ++ L2)) (hon : L1.all (fun p => Res.on (keys L1) p.2) = true)
    (hL2 : ∀ p ∈ L2, Res.on (keys L2 ++ (L1.filterMap fun p => match p.2 with | .box (_ + 1) _ _ => some p.1 | _ => none)) p.2 = true)
    (h : ACalls P f args L1 R)
    (hstay : ∀ r L1', R r L1' → (∀ k ∈ keys L1', k ∉ keys L2) ∧ ∀ k b ty cs, (k, Res.box (b + 1) ty cs) ∈ L1 → ∃ ty' cs', (k, Res.box (b + 1) ty' cs') ∈ L1')
    {fo : FO} {m : Nat → Option Value} {a : Act} {w : World} (g : G fo n m s a w) {next : Act → World → Prop} {Q' : Exit → Act → World → Prop}
    (k : ∀ x L1' mm v w', R (.ret x) L1' → RelV w' (OO fo mm) mm v x → Inv fo mm (L1' ++ L2) w' → Step w (own m) w' (own mm) →
      (∀ h y, h ∈ keys L2 ++ (L1.filterMap fun p => match p.2 with | .box (_ + 1) _ _ => some p.1 | _ => none) → m h = some y → mm h = some y) →
      Keep w (OO fo m) w' → (∀ b, b < w.heap.size → OO fo mm b → OO fo m b) → next (a.put o.dst v) w')
    (kp : ∀ x L1' mm ch w', R (.pan x) L1' → Chain w' (OO fo mm) mm ch x → Inv fo mm (L1' ++ L2) w' → Step w (own m) w' (own mm) →
      (∀ h y, h ∈ keys L2 ++ (L1.filterMap fun p => match p.2 with | .box (_ + 1) _ _ => some p.1 | _ => none) → m h = some y → mm h = some y) →
      Keep w (OO fo m) w' → (∀ b, b < w.heap.size → OO fo mm b → OO fo m b) → Q' (.panic ch) a w') : o.wpIn (wr fo.r) 0 P a w next Q' := by
  obtain ⟨xs, h1, h2⟩ := call_enters (P := P) (w := w) (m := m) (O := OO fo m) hop hc he (fun z _ => eval_rel g z)
  refine core hL hon hL2 hstay (fun fo1 m1 hOO hm1' hi1 => ⟨_, h1, ?_⟩) g k kp
  refine h fo1 m1 w xs hi1 ⟨h2.1, fun j v y hv hy => ?_⟩
  exact ((h2.2 j v y hv hy).on hm1' (ons_mem ho y (List.mem_of_getElem? hy))).mono (Keep.refl w _) (fun b _ hb => (hOO b).1 hb) (fun _ _ e => e)
end
end Go.Ab

namespace Go.Ab
section
variable {P : Program} {n : Nat} {s : St} {Q : AX → St → Prop} {ops : Array Oper}
def yv (l : Nat) : V := .d (.v (.func (.yield l) #[] #[]))
def yieldee (ρ : Operand → V) (c : Call) : Option (Nat × List V) :=
  match c.callee with
  | .value fo => match ρ fo with
    | .d (.v (.func (.yield l) first _)) => if first.isEmpty then some (l, c.args.toList.map ρ) else none
    | _ => none
  | _ => none
def AYield (P : Program) (l : Nat) (args : List V) (L : Heap) (R : AE → Heap → Prop) : Prop :=
  ∀ (fo : FO) (m : Nat → Option Value) (w : World) (xs : Array Value), Inv fo m L w → RelVs w (OO fo m) m xs args → ∃ nx, (Instr.yield l xs).run P w = .ok nx w ∧ Leads P nx w (CPost fo m w R)
def YR (A B : Env) (r : AE) (L : Heap) : Prop := (r = .ret (.d (.v (.bool true))) ∧ L = [(5003, .env A)]) ∨ (r = .ret (.d (.v (.bool false))) ∧ L = [(5003, .env B)])
def Iter (P : Program) (f : FuncId) (caps : List V) (Lc : Heap) (xs : List (List V)) : Prop :=
  ∀ (l : Nat) (A : Nat → Env) (B : Env), (∀ i x, xs[i]? = some x → AYield P l x [(5003, .env (A i))] (YR (A (i + 1)) B)) →
    ACalls P f (yv l :: caps) ((5003, .env (A 0)) :: Lc) (fun r L' => (∃ y, r = .ret y) ∧ (L' = [(5003, .env (A xs.length))] ∨ L' = [(5003, .env B)]))
theorem yield_run {o : Oper} {c : Call} {l : Nat} {args : List V} {ρ : Operand → Value} {ρa : Operand → V} {w : World} {O : Nat → Prop} {m : Nat → Option Value} (hop : o.op = .call c) (hc : yieldee ρa c = some (l, args))
    (hr : ∀ z, z ∈ o.op.operands → RelV w O m (ρ z) (ρa z)) : RelVs w O m (c.args.map ρ) args ∧ (execOp ρ o).run P w = (Instr.yield l (c.args.map ρ)).run P w := by
  unfold yieldee at hc
  split at hc
  · rename_i fop hcal
    split at hc
    · rename_i l' first caps hfo
      split at hc
      · rename_i he
        simp only [Option.some.injEq, Prod.mk.injEq] at hc
        obtain ⟨rfl, rfl⟩ := hc
        have h1 := hr fop (by rw [hop]; simp [Op.operands, Call.operands, hcal])
        rw [hfo] at h1
        have h2 := h1.v_inv
        have hf : first = #[] := by simpa using he
        subst hf
        refine ⟨⟨by simp, map_rel2 c.args fun z hz => hr z (by rw [hop]; simp [Op.operands, Call.operands, hz])⟩, ?_⟩
        simp [execOp, hop, resolve, hcal, h2, Deferred.ofValue, Sem.run_bind, invoke]
      · cases hc
    · cases hc
  · cases hc
theorem AOps.yieldW {o : Oper} {rest : List Oper} {c : Call} {l : Nat} {args : List V} {A A' B : Env} (hw : ∀ {fo : FO} {m : Nat → Option Value} {a : Act} {w : World}, G fo n m s a w → Region.wanted o (yielded ops a.tmps) = true) (hd : ∀ d, o.dst = some d → d < n)
    {ρa : Operand → V} (hρ : ∀ z, z ∈ o.op.operands → ∀ w O m v, RelV w O m v (s.ev z) → RelV w O m v (ρa z))
    (hop : o.op = .call c) (hc : yieldee ρa c = some (l, args)) (ha : V.ons [5003] args = true) {L2 : Heap} (hL : s.L.Perm ((5003, .env A) :: L2))
    (hfr : ∀ p ∈ s.fr, V.on (keys L2) p.2 = true) (hL2 : ∀ p ∈ L2, Res.on (keys L2) p.2 = true) (hk : 5003 ∉ keys L2) (h : AYield P l args [(5003, .env A)] (YR A' B)) (wrap : V → V) (hwr : ∀ {w O m v x}, RelV w O m v x → RelV w O m v (wrap x))
    (kt : AOps P n ops rest (St.put { s with L := (5003, .env A') :: L2 } o.dst (wrap (.d (.v (.bool true))))) Q) (kf : AOps P n ops rest (St.put { s with L := (5003, .env B) :: L2 } o.dst (wrap (.d (.v (.bool false))))) Q) : AOps P n ops (o :: rest) s Q := by
  intro fo m0 w0 m a w st g
  unfold wpListIn
  rw [if_pos (hw g)]
  have hrho : ∀ z, z ∈ o.op.operands → RelV w (OO fo m) m (a.eval z) (ρa z) := fun z hz => hρ z hz _ _ _ _ (eval_rel g z)
  refine core (L1 := [(5003, .env A)]) (L2 := L2) (R := YR A' B) hL (by simp [Res.on]) (fun p hp => by simpa using hL2 p hp) ?_ (fun fo1 m1 hOO hm1' hi1 => ?_) g
    (fun x L1' mm v w' hR hrx hinv stt hbx' hkeep hO' => ?_) (fun x L1' mm ch w' hR => by rcases hR with ⟨h, _⟩ | ⟨h, _⟩ <;> cases h)
  · rintro r L1' (⟨_, rfl⟩ | ⟨_, rfl⟩) <;> exact ⟨by simpa [keys] using hk, by simp⟩
  · obtain ⟨h1, h2⟩ := yield_run (P := P) (w := w) hop hc hrho
    rw [h2]
    refine h fo1 m1 w _ hi1 ⟨h1.1, fun j v y hv hy => ?_⟩
    exact ((h1.2 j v y hv hy).on hm1' (by simpa [keys] using ons_mem ha y (List.mem_of_getElem? hy))).mono (Keep.refl w _) (fun b _ hb => (hOO b).1 hb) (fun _ _ e => e)
  · have hbx2 : ∀ h y, h ∈ keys L2 → m h = some y → mm h = some y := fun h y hh => hbx' h y (List.mem_append_left _ hh)
    have g' : G fo n mm { s with L := L1' ++ L2 } a w' := ⟨g.size, fun t y hy => by
      obtain ⟨q1, q2⟩ := g.fr t y hy
      exact ⟨q1, (q2.on hbx2 (hfr _ hy)).mono hkeep hO' (fun _ _ e => e)⟩, hinv, g.defers⟩
    rcases hR with ⟨h1, rfl⟩ | ⟨h1, rfl⟩
    · obtain rfl := AE.ret.inj h1
      exact kt fo m0 w0 mm _ w' (st.trans stt) (g'.put hd (hwr hrx))
    · obtain rfl := AE.ret.inj h1
      exact kf fo m0 w0 mm _ w' (st.trans stt) (g'.put hd (hwr hrx))
theorem perm_out {h : Nat} {r : Res} : ∀ {L : Heap}, (keys L).Nodup → L.lookup h = some r → L.Perm ((h, r) :: L.filter (fun p => p.1 != h))
  | [], _, hl => by cases hl
  | (k, q) :: L, hn, hl => by
    simp only [keys, List.map_cons, List.nodup_cons] at hn
    rw [List.lookup_cons] at hl
    by_cases e : h = k
    · subst e
      simp only [beq_self_eq_true, Option.some.injEq] at hl
      subst hl
      have : L.filter (fun p => p.1 != h) = L := by
        rw [List.filter_eq_self]
        intro p hp
        have : p.1 ≠ h := fun e => hn.1 (e ▸ List.mem_map.2 ⟨p, hp, rfl⟩)
        simpa using this
      simp [List.filter_cons, this]
    · have e' : (h == k) = false := by simpa using e
      rw [e'] at hl
      have hf : ((k, q).1 != h) = true := by simpa using Ne.symm e
      rw [List.filter_cons, hf]
      exact ((perm_out hn.2 hl).cons _).trans (List.Perm.swap _ _ _)
theorem AOps.yieldG {o : Oper} {rest : List Oper} {c : Call} {l : Nat} {args : List V} {A A' B : Env} {b : Bool} (h : b = true → AYield P l args [(5003, .env A)] (YR A' B)) (hop : o.op = .call c) (hgd : guardV ops s o = some (some b)) (hu : b = true → uncs s o.op.operands.toList) (hc : b = true → yieldee (fun z => (s.ev z).un) c = some (l, args)) (ha : V.ons [5003] args = true)
    (hd : ∀ d, o.dst = some d → d < n) (hr : dstsOk n rest = true) (hn : (keys s.L).Nodup) (hL : s.L.lookup 5003 = some (.env A))
    (hfr : s.fr.all (fun p => V.on (keys (s.L.filter fun p => p.1 != 5003)) p.2) = true) (hL2 : (s.L.filter fun p => p.1 != 5003).all (fun p => Res.on (keys (s.L.filter fun p => p.1 != 5003)) p.2) = true)
    (kt : b = true → ∀ bs, runC P ops rest (St.put { s with L := (5003, .env A') :: s.L.filter fun p => p.1 != 5003 } o.dst (.gd true (.d (.v (.bool true))))) bs [] (KK P n ops Q))
    (kf : b = true → ∀ bs, runC P ops rest (St.put { s with L := (5003, .env B) :: s.L.filter fun p => p.1 != 5003 } o.dst (.gd true (.d (.v (.bool false))))) bs [] (KK P n ops Q))
    (kn : b = false → ∀ bs, runC P ops rest (s.put o.dst (.gd false .any)) bs [] (KK P n ops Q)) : AOps P n ops (o :: rest) s Q := by
  cases b with
  | true =>
    exact AOps.yieldW (fun g => guard_wanted g hgd) hd (fun z hz w O m v hr => un_rel hr (uncs_mem (hu rfl) z (by simpa using hz))) hop (hc rfl) ha (perm_out hn hL) (fun p hp => List.all_eq_true.1 hfr p hp) (fun p hp => List.all_eq_true.1 hL2 p hp) (by simp [keys]) (h rfl) (.gd true) (fun h => .gt _ _ h)
      (runC_sound rest _ [] hr (kt rfl)) (runC_sound rest _ [] hr (kf rfl))
  | false =>
    intro fo m0 w0 m a w st g
    unfold wpListIn
    rw [if_neg (by rw [guard_wanted g hgd]; simp)]
    exact ⟨fun _ _ => trivial, runC_sound rest _ [] hr (kn rfl) fo m0 w0 m _ w st (g.put hd (.gf _))⟩
def comps : Value → List Value
  | .tuple vs => vs.toList
  | v => [v]
theorem blk_comps (x : Value) (b : Nat) : (∃ v ∈ comps x, blk1 v b) ↔ blk x b := by
  cases x <;> simp [comps, blk, blk1]
def bval (l : Nat) (L : Heap) (m : Nat → Option Value) : Value :=
  .tuple (Value.pointer (some ⟨l, 0, none⟩) :: (keys L).flatMap (fun h => match m h with | some x => comps x | none => [])).toArray
theorem blk_bval {l : Nat} {L : Heap} {m : Nat → Option Value} (hd : ∀ h x, m h = some x → h ∈ keys L) (b : Nat) : blk (bval l L m) b ↔ b = l ∨ own m b := by
  simp only [bval, blk, List.mem_toArray, List.mem_cons, List.mem_flatMap]
  constructor
  · rintro ⟨v, rfl | ⟨h, hh, hv⟩, hb⟩
    · simp only [blk1] at hb; exact .inl hb.symm
    · right
      cases hx : m h with
      | none => rw [hx] at hv; cases hv
      | some x => rw [hx] at hv; exact ⟨h, x, hx, (blk_comps x b).1 ⟨v, hv, hb⟩⟩
  · rintro (rfl | ⟨h, x, hx, hb⟩)
    · exact ⟨_, .inl rfl, rfl⟩
    · obtain ⟨v, hv, hb'⟩ := (blk_comps x b).2 hb
      exact ⟨v, .inr ⟨h, hd h x hx, by rw [hx]; exact hv⟩, hb'⟩
structure Bun (w : World) (O : Nat → Prop) (l : Nat) (L : Heap) (m : Nat → Option Value) : Prop where
  nodup : (keys L).Nodup
  dom : ∀ h x, m h = some x → h ∈ keys L
  apart : ∀ h h' x x' b, m h = some x → m h' = some x' → blk x b → blk x' b → h = h'
  self : ¬ own m l
  holds : ∀ h r, (h, r) ∈ L → ∃ x, m h = some x ∧ r.Holds w O m x
theorem Bun.lt {w : World} {O : Nat → Prop} {l : Nat} {L : Heap} {m : Nat → Option Value} (hb : Bun w O l L m) {b : Nat} (h : own m b) : b < w.heap.size := by
  obtain ⟨h, x, hx, hbb⟩ := h
  obtain ⟨r, hr⟩ := mem_of_key (hb.dom h x hx)
  obtain ⟨x', hx', hh⟩ := hb.holds h r hr
  rw [hx] at hx'
  obtain rfl := Option.some.inj hx'
  exact hh.lt hbb
def loopEnv (r0 : Loop) (l : Nat) (fr : List (Nat × V)) (J : LoopState → Option Code → Heap → Prop) : Env where
  H w O x := ∃ st pd L m, J st pd L ∧ x = bval l L m ∧ Bun w O l L m ∧ w.heap[l]? = some (.loop { r0 with state := st, pending := pd }) ∧ ∀ t y, (t, y) ∈ fr → RelV w O m (r0.tmps.getD t undef) y
  mono := by
    rintro w w' O O' x ⟨st, pd, L, m, hJ, rfl, hb, hl, hf⟩ hbl hk hO
    have hblk := fun b => blk_bval (l := l) (L := L) (m := m) hb.dom b
    refine ⟨st, pd, L, m, hJ, rfl, ⟨hb.nodup, hb.dom, hb.apart, hb.self, fun h r hr => ?_⟩, ?_, fun t y hy => (hf t y hy).mono hk hO (fun _ _ e => e)⟩
    · obtain ⟨x, hx, hh⟩ := hb.holds h r hr
      exact ⟨x, hx, hh.mono (fun b hbb => hbl b ((hblk b).2 (.inr ⟨h, x, hx, hbb⟩))) hk hO (fun _ _ e => e)⟩
    · rw [hbl l ((hblk l).2 (.inl rfl))]; exact hl
  lt := by
    rintro w O x b ⟨st, pd, L, m, hJ, rfl, hb, hl, hf⟩ hbb
    rcases (blk_bval (l := l) (L := L) (m := m) hb.dom b).1 hbb with rfl | h
    · exact (Array.getElem?_eq_some_iff.1 hl).1
    · exact hb.lt h
def one (x : Value) : Nat → Option Value := fun h => if h = 5003 then some x else none
theorem one_own (x : Value) (b : Nat) : own (one x) b ↔ blk x b := by
  constructor
  · rintro ⟨h, y, hy, hb⟩
    by_cases e : h = 5003
    · simp only [one, if_pos e, Option.some.injEq] at hy; subst hy; exact hb
    · simp only [one, if_neg e] at hy; cases hy
  · intro hb
    exact ⟨5003, x, by simp [one], hb⟩
theorem inv_bundle {fo fo' : FO} {r0 : Loop} {l : Nat} {fr : List (Nat × V)} {J : LoopState → Option Code → Heap → Prop} {m : Nat → Option Value} {L : Heap} {w : World} {st : LoopState} {pd : Option Code} (hf : ∀ b, fo.f b → fo'.f b) (hl : fo'.f l) (hlo : ¬ fo.f l)
    (hi : Inv fo' m L w) (hJ : J st pd L) (hrec : w.heap[l]? = some (.loop { r0 with state := st, pending := pd })) (hfr : ∀ t y, (t, y) ∈ fr → RelV w (OO fo' m) m (r0.tmps.getD t undef) y) :
    Inv fo (one (bval l L m)) [(5003, .env (loopEnv r0 l fr J))] w := by
  have hblk := fun b => blk_bval (l := l) (L := L) (m := m) hi.dom b
  have hO : ∀ b, OO fo (one (bval l L m)) b → OO fo' m b := by
    rintro b (h | h)
    · rcases (hblk b).1 ((one_own _ b).1 h) with rfl | h
      · exact .inr hl
      · exact .inl h
    · exact .inr (hf b h)
  refine ⟨by simp [keys], ?_, ?_, ?_, fun b h => hi.folt b (hf b h), ?_, hi.glob.mono (Keep.refl w _) (fun b _ hb => hO b hb)⟩
  · intro h x hx
    by_cases e : h = 5003
    · simp [keys, e]
    · simp only [one, if_neg e] at hx; cases hx
  · intro h h' x x' b hx hx' _ _
    have : ∀ {h x}, one (bval l L m) h = some x → h = 5003 := by
      intro h x hx
      by_cases e : h = 5003
      · exact e
      · simp only [one, if_neg e] at hx; cases hx
    rw [this hx, this hx']
  · intro h x b hx hb
    by_cases e : h = 5003
    · simp only [one, if_pos e, Option.some.injEq] at hx
      subst hx
      rcases (hblk b).1 hb with rfl | ⟨i, y, hy, hyb⟩
      · exact hlo
      · exact fun h => hi.others i y b hy hyb (hf b h)
    · simp only [one, if_neg e] at hx; cases hx
  · intro h r hr
    simp only [List.mem_singleton, Prod.mk.injEq] at hr
    obtain ⟨rfl, rfl⟩ := hr
    refine ⟨bval l L m, by simp [one], st, pd, L, m, hJ, rfl, ⟨hi.nodup, hi.dom, hi.apart, ?_, fun h r hr => ?_⟩, hrec, fun t y hy => (hfr t y hy).mono (Keep.refl w _) (fun b _ hb => hO b hb) (fun _ _ e => e)⟩
    · rintro ⟨i, y, hy, hb⟩; exact hi.others i y l hy hb hl
    · obtain ⟨x, hx, hh⟩ := hi.holds h r hr
      exact ⟨x, hx, hh.mono (fun _ _ => rfl) (Keep.refl w _) (fun b _ hb => hO b hb) (fun _ _ e => e)⟩
theorem inv_open {fo : FO} {m1 : Nat → Option Value} {r0 : Loop} {l : Nat} {fr : List (Nat × V)} {J : LoopState → Option Code → Heap → Prop} {w : World} (hi : Inv fo m1 [(5003, .env (loopEnv r0 l fr J))] w) (D : List Deferred) (rr : Option Nat) :
    ∃ st pd L m, J st pd L ∧ w.heap[l]? = some (.loop { r0 with state := st, pending := pd }) ∧ Inv ⟨fun b => fo.f b ∨ b = l, D, rr, false⟩ m L w ∧ (∀ t y, (t, y) ∈ fr → RelV w (OO ⟨fun b => fo.f b ∨ b = l, D, rr, false⟩ m) m (r0.tmps.getD t undef) y) ∧
      (∀ b, own m1 b ↔ b = l ∨ own m b) ∧ ¬ fo.f l := by
  obtain ⟨x, hx, st, pd, L, m, hJ, rfl, hb, hl, hf⟩ := hi.holds 5003 _ List.mem_cons_self
  have hblk := fun b => blk_bval (l := l) (L := L) (m := m) hb.dom b
  have hown : ∀ b, own m1 b ↔ b = l ∨ own m b := by
    intro b
    rw [← hblk b]
    constructor
    · rintro ⟨h, y, hy, hyb⟩
      have hk := hi.dom h y hy
      simp only [keys, List.map_cons, List.map_nil, List.mem_singleton] at hk
      subst hk
      rw [hx] at hy
      obtain rfl := Option.some.inj hy
      exact hyb
    · intro h; exact ⟨5003, _, hx, h⟩
  have hnot : ∀ b, own m1 b → ¬ fo.f b := by
    rintro b ⟨h, y, hy, hyb⟩
    exact hi.others h y b hy hyb
  have hO : ∀ b, OO ⟨fun b => fo.f b ∨ b = l, D, rr, false⟩ m b → OO fo m1 b := by
    rintro b (h | h | rfl)
    · exact .inl ((hown b).2 (.inr h))
    · exact .inr h
    · exact .inl ((hown _).2 (.inl rfl))
  refine ⟨st, pd, L, m, hJ, hl, ⟨hb.nodup, hb.dom, hb.apart, ?_, ?_, ?_, hi.glob.mono (Keep.refl w _) (fun b _ hb => hO b hb)⟩, fun t y hy => (hf t y hy).mono (Keep.refl w _) (fun b _ hb => hO b hb) (fun _ _ e => e), hown, hnot l ((hown l).2 (.inl rfl))⟩
  · rintro h y b hy hyb (hfo | rfl)
    · exact hnot b ((hown b).2 (.inr ⟨h, y, hy, hyb⟩)) hfo
    · exact hb.self ⟨h, y, hy, hyb⟩
  · rintro b (hfo | rfl)
    · exact hi.folt b hfo
    · exact (Array.getElem?_eq_some_iff.1 hl).1
  · intro h r hr
    obtain ⟨y, hy, hh⟩ := hb.holds h r hr
    exact ⟨y, hy, hh.mono (fun _ _ => rfl) (Keep.refl w _) (fun b _ hb => hO b hb) (fun _ _ e => e)⟩
end
end Go.Ab

namespace Go.Ab
section
variable {P : Program} {n : Nat} {s : St} {Q : AX → St → Prop}
def putPs : List (Nat × V) → List (Nat × V) → List (Nat × V)
  | [], fr => fr
  | (t, x) :: l, fr => putPs l ((t, x) :: delF t fr)
def labs : Heap → List (Nat × Nat)
  | [] => []
  | (h, .box (b + 1) _ _) :: L => (h, b) :: labs L
  | _ :: L => labs L
theorem labs_mem {h b : Nat} : ∀ {L : Heap}, (h, b) ∈ labs L → ∃ ty cs, (h, Res.box (b + 1) ty cs) ∈ L
  | [], hm => by cases hm
  | (k, .box 0 ty cs) :: L, hm => by
    simp only [labs] at hm
    obtain ⟨ty', cs', h'⟩ := labs_mem hm
    exact ⟨ty', cs', List.mem_cons_of_mem _ h'⟩
  | (k, .box (c + 1) ty cs) :: L, hm => by
    simp only [labs, List.mem_cons, Prod.mk.injEq] at hm
    rcases hm with ⟨rfl, rfl⟩ | hm
    · exact ⟨ty, cs, List.mem_cons_self⟩
    · obtain ⟨ty', cs', h'⟩ := labs_mem hm
      exact ⟨ty', cs', List.mem_cons_of_mem _ h'⟩
  | (k, .row ty j xs) :: L, hm => by
    simp only [labs] at hm
    obtain ⟨ty', cs', h'⟩ := labs_mem hm
    exact ⟨ty', cs', List.mem_cons_of_mem _ h'⟩
  | (k, .env A) :: L, hm => by
    simp only [labs] at hm
    obtain ⟨ty', cs', h'⟩ := labs_mem hm
    exact ⟨ty', cs', List.mem_cons_of_mem _ h'⟩
  | (k, .mp es) :: L, hm => by
    simp only [labs] at hm
    obtain ⟨ty', cs', h'⟩ := labs_mem hm
    exact ⟨ty', cs', List.mem_cons_of_mem _ h'⟩
theorem labs_place {fo : FO} {m : Nat → Option Value} {L : Heap} {w : World} (hi : Inv fo m L w) {h : Nat} {x : Value} (hk : h ∈ (labs L).map (·.1)) (hx : m h = some x) : ∃ b, (h, b) ∈ labs L ∧ x = .pointer (some ⟨b, 0, none⟩) := by
  obtain ⟨⟨h', b⟩, hm, rfl⟩ := List.mem_map.1 hk
  obtain ⟨ty, cs, hm'⟩ := labs_mem hm
  obtain ⟨y, hy, bb, hbb, cur, rfl, _⟩ := hi.holds _ _ hm'
  simp only at hx
  rw [hx] at hy
  obtain rfl := Option.some.inj hy
  obtain rfl : bb = b := by omega
  exact ⟨bb, hm, rfl⟩
theorem labs_same {fo fo' : FO} {m m' : Nat → Option Value} {L L' : Heap} {w w' : World} (hi : Inv fo m L w) (hi' : Inv fo' m' L' w') (hl : labs L' = labs L) : ∀ h x, h ∈ (labs L).map (·.1) → m h = some x → m' h = some x := by
  intro h x hk hx
  obtain ⟨b, hb, rfl⟩ := labs_place hi hk hx
  rw [← hl] at hb
  obtain ⟨ty, cs, hm⟩ := labs_mem hb
  obtain ⟨y, hy, hyh⟩ := hi'.holds _ _ hm
  obtain ⟨b', h1, e⟩ := labs_place hi' (List.mem_map.2 ⟨_, hb, rfl⟩) hy
  obtain ⟨bb, hbb, cur, rfl, _⟩ := hyh
  obtain rfl : bb = b := by omega
  exact hy
def jumpAX : Option Code → AX → Prop
  | some .ret, .ret => True
  | some (.exit i), .exit j => i = j
  | some (.goto i), .goto j => i = j
  | _, _ => False
def RoundQ (hs : List Nat) (L0 L' : Heap) (Hn : Prop) (fr : List (Nat × V)) (K : AX → St → Prop) (x : AX) (s : St) : Prop :=
  match x with
  | .normal => (s.pick [] hs).on (keys (s.pick [] hs).L) = true ∧ (s.pick [] hs).L = L' ∧ Hn
  | .pan _ => False
  | x => (s.pick [] hs).on (keys (s.pick [] hs).L) = true ∧ labs (s.pick [] hs).L = labs L0 ∧ K x ⟨fr, (s.pick [] hs).L⟩
theorem fold_params {ps : List Tmp} {xs : List Value} : ∀ (T : Array Value), (((ps.zip xs).foldl (fun tmps (p : Tmp × Value) => tmps.setIfInBounds p.1 p.2) T)).size = T.size := by
  induction ps.zip xs with
  | nil => intro T; rfl
  | cons p l ih => intro T; rw [List.foldl_cons, ih]; simp
theorem params_rel {w : World} {O : Nat → Prop} {m : Nat → Option Value} : ∀ (ps : List Tmp) (xs : List Value) (ys : List V) (T : Array Value) (fr : List (Nat × V)), xs.length = ps.length → ys.length = ps.length → (∀ p : Tmp, p ∈ ps → p < T.size) →
    (∀ (j : Nat) (x : Value) (y : V), xs[j]? = some x → ys[j]? = some y → RelV w O m x y) → (∀ (t : Nat) (y : V), (t, y) ∈ fr → t < T.size ∧ RelV w O m (T.getD t undef) y) →
    ∀ (t : Nat) (y : V), (t, y) ∈ putPs (ps.zip ys) fr → t < T.size ∧ RelV w O m (((ps.zip xs).foldl (fun tmps (p : Tmp × Value) => tmps.setIfInBounds p.1 p.2) T).getD t undef) y
  | [], _, _, T, fr, _, _, _, _, hf, t, y, h => by simpa [putPs] using hf t y h
  | p :: ps, [], _, _, _, h, _, _, _, _, _, _, _ => by simp at h
  | p :: ps, x :: xs, [], _, _, _, h, _, _, _, _, _, _ => by simp at h
  | p :: ps, x :: xs, z :: ys, T, fr, h1, h2, hp, hr, hf, t, y, h => by
    simp only [List.zip_cons_cons, putPs, List.foldl_cons] at h ⊢
    have key := params_rel ps xs ys (T.setIfInBounds p x) ((p, z) :: delF p fr) (by simpa using h1) (by simpa using h2) (fun q hq => by simpa using hp q (List.mem_cons_of_mem _ hq)) (fun j x y hx hy => hr (j + 1) x y (by simpa using hx) (by simpa using hy)) (fun t y hm => by
      rcases List.mem_cons.1 hm with e | hm
      · simp only [Prod.mk.injEq] at e
        obtain ⟨rfl, rfl⟩ := e
        have hlt := hp t List.mem_cons_self
        refine ⟨by simpa using hlt, ?_⟩
        simpa [Array.getD, hlt] using hr 0 x y rfl rfl
      · obtain ⟨hm, hne⟩ := mem_delF hm
        obtain ⟨k1, k2⟩ := hf t y hm
        refine ⟨by simpa using k1, ?_⟩
        have : (T.setIfInBounds p x).getD t undef = T.getD t undef := by
          simp only [Array.getD, Array.size_setIfInBounds]
          have hne' : ¬ p = t := fun e => hne e.symm
          simp [k1, Array.getElem_setIfInBounds, hne']
        rw [this]; exact k2) t y h
    simpa using key
theorem yield_of_body {r0 : Loop} {l : Nat} {fr : List (Nat × V)} {J J' JB : LoopState → Option Code → Heap → Prop} {args : List V} {L0 : Heap} {K : AX → St → Prop}
    (hrf : hasRF r0.assign = false ∧ hasRF r0.body = false) (hT : r0.tmps.size = n) (hps : args.length = r0.params.size) (hpn : ∀ p ∈ r0.params.toList, p < n) (ha : V.ons [] args = true)
    (hfr : ∀ t y, (t, y) ∈ fr → t < n ∧ V.on ((labs L0).map (·.1)) y = true)
    (hJ : ∀ st pd L, J st pd L → st = .ready ∧ pd = none ∧ labs L = labs L0)
    (hbody : ∀ st pd L, J st pd L → ∃ L' Hn, (Hn → J' .ready none L' ∧ labs L' = labs L0) ∧ codeK P n r0.assign ⟨putPs (r0.params.toList.zip args) fr, L⟩ (AX.then (fun s2 => codeK P n r0.body s2 (RoundQ (keys L0) L0 L' Hn fr K)) (fun _ _ => False)))
    (hnd : (keys L0).Nodup)
    (hJB : ∀ pd x L, jumpAX pd x → labs L = labs L0 → K x ⟨fr, L⟩ → JB .done pd L) :
    AYield P l args [(5003, .env (loopEnv r0 l fr J))] (YR (loopEnv r0 l fr J') (loopEnv r0 l fr JB)) := by
  intro fo m1 w xs hi hx
  obtain ⟨st, pd, L, m, hj, hrec, hi', hf, hown, hlo⟩ := inv_open hi [] (some l)
  obtain ⟨rfl, rfl, hlab⟩ := hJ _ _ _ hj
  obtain ⟨L', Hn, hn', hcode⟩ := hbody _ _ _ hj
  have hsz : xs.size = r0.params.size := by rw [hx.1, hps]
  let fo3 : FO := ⟨fun b => fo.f b ∨ b = l, [], some l, false⟩
  have hO : ∀ b, OO fo3 m b ↔ OO fo m1 b := by
    intro b
    unfold OO
    rw [hown b]
    constructor
    · rintro (h | h | h)
      · exact .inl (.inr h)
      · exact .inr h
      · exact .inl (.inl h)
    · rintro ((h | h) | h)
      · exact .inr (.inr h)
      · exact .inl h
      · exact .inr (.inl h)
  refine ⟨.round l r0.fn ((r0.params.zip xs).foldl (fun tmps (t, a) => tmps.setIfInBounds t a) r0.tmps) r0.assign r0.body, ?_, ?_⟩
  · simp [Instr.yield, Instr.getLoop, Sem.run_bind, run_getO hrec (by simp), hsz]
  · show RoundIn Fence.wide 0 P l r0.fn _ r0.assign r0.body w _
    have hfold : (r0.params.zip xs).foldl (fun tmps (t, a) => tmps.setIfInBounds t a) r0.tmps = (r0.params.toList.zip xs.toList).foldl (fun tmps (p : Tmp × Value) => tmps.setIfInBounds p.1 p.2) r0.tmps := by
      rw [← Array.foldl_toList, Array.toList_zip]
    rw [hfold]
    refine roundIn_of_wpIn (F := Fence.wide) trivial ?_
    have g : G fo3 n m ⟨putPs (r0.params.toList.zip args) fr, L⟩ { tmps := (r0.params.toList.zip xs.toList).foldl (fun tmps (p : Tmp × Value) => tmps.setIfInBounds p.1 p.2) r0.tmps, defers := [] } w := by
      refine ⟨by rw [fold_params]; exact hT, fun t y hy => ?_, hi', rfl⟩
      have := params_rel (w := w) (O := OO fo3 m) (m := m) r0.params.toList xs.toList args r0.tmps fr (by simpa using hsz) (by simpa using hps) (fun p hp => by rw [hT]; exact hpn p hp)
        (fun j x y hxj hyj => ((hx.2 j x y (by simpa using hxj) hyj).on (ks := []) (m' := m) (by simp) (ons_mem ha y (List.mem_of_getElem? hyj))).mono (Keep.refl w _) (fun b _ hb => (hO b).1 hb) (fun _ _ e => e))
        (fun t y hy => ⟨by rw [hT]; exact (hfr t y hy).1, hf t y hy⟩) t y hy
      rw [hT] at this
      exact this
    have h1 := codeK_sound _ _ _ hcode fo3 m _ w (fun h => by rw [hrf.1] at h; cases h) g
    refine Code.wpIn_mono (F := Fence.wide.inRound l) ?_ h1
    rintro e1 a1 w1 ⟨ms1, m2, x1, s1, hm1, hq1, g1, hx1, st1⟩
    have hlown : ¬ own m l := by
      rintro ⟨i, y, hy, hb⟩
      exact hi'.others i y l hy hb (.inr rfl)
    have hrec1 : w1.heap[l]? = some (.loop { r0 with state := .ready, pending := none }) := by
      rw [st1.block l (Array.getElem?_eq_some_iff.1 hrec).1 hlown]; exact hrec
    cases e1 with
    | normal =>
      cases x1 <;> simp only [Exits] at hx1
      simp only [AX.then] at hq1
      show ∃ w2, (Instr.beginRound l).run P w1 = .ok () w2 ∧ _
      refine ⟨setO w1 l (.loop { r0 with state := .busy, pending := none }), ?_, ?_⟩
      · simp [Instr.beginRound, Instr.getLoop, Sem.run_bind, run_getO hrec1 (by simp), run_setO hrec1 (by simp)]
      · have hl1 : l < w1.heap.size := (Array.getElem?_eq_some_iff.1 hrec1).1
        have g2 := g1.others (w' := setO w1 l (.loop { r0 with state := .busy, pending := none })) (by rw [setO_size]; exact Nat.le_refl _) (fun b _ hb => setO_ne (fun e => hb (.inl (.inr e))))
        have h2 := codeK_sound _ _ _ hq1 (fo3.mark ms1) m2 _ _ (fun h => by rw [hrf.2] at h; cases h) g2
        refine Code.wpIn_mono (F := Fence.wide.inRound l) ?_ h2
        rintro e3 a3 w3 ⟨ms3, m3, x3, s3, hm3, hq3, g3, hx3, st3⟩
        rw [FO.mark_mark] at g3 hx3
        generalize hfm : fo3.mark (ms3 ++ ms1) = fo4 at g3 hx3
        have hf4 : ∀ b, fo.f b → fo4.f b := fun b h => by subst hfm; exact .inl (.inl h)
        have hl4 : fo4.f l := by subst hfm; exact .inl (.inr rfl)
        have hl2own : ¬ own m2 l := by
          rintro ⟨i, y, hy, hb⟩
          exact g1.inv.others i y l hy hb (.inl (.inr rfl))
        have hrec3 : w3.heap[l]? = some (.loop { r0 with state := .busy, pending := none }) := by
          rw [st3.block l (by rw [setO_size]; exact hl1) hl2own]
          exact setO_same hl1
        have hl3 : l < w3.heap.size := (Array.getElem?_eq_some_iff.1 hrec3).1
        have fin : ∀ (st : LoopState) (pd : Option Code) (J2 : LoopState → Option Code → Heap → Prop), (s3.pick [] (keys L0)).on (keys (s3.pick [] (keys L0)).L) = true → labs (s3.pick [] (keys L0)).L = labs L0 → J2 st pd (s3.pick [] (keys L0)).L →
            ∃ m5, Inv fo m5 [(5003, .env (loopEnv r0 l fr J2))] (setO w3 l (.loop { r0 with state := st, pending := pd })) ∧ Step w (own m1) (setO w3 l (.loop { r0 with state := st, pending := pd })) (own m5) := by
          intro st pd J2 hon hlab2 hJ2
          obtain ⟨m4, g4, st4⟩ := Wk.pick [] (keys L0) (by simp) hnd hon fo4 m3 a3 w3 g3
          have g5 := g4.others (w' := setO w3 l (.loop { r0 with state := st, pending := pd })) (by rw [setO_size]; exact Nat.le_refl _) (fun b _ hb => setO_ne (fun e => hb (e ▸ hl4)))
          have hlab3 := labs_same hi' g5.inv (hlab2.trans hlab.symm)
          have hown4 : ∀ b, b < w.heap.size → own m4 b → own m b := fun b hb h4 => by
            have h3 := st4.owned b (Nat.lt_of_lt_of_le hb (Nat.le_trans st1.size (by have := st3.size; rwa [setO_size] at this))) h4
            have h2 := st3.owned b (by rw [setO_size]; exact Nat.lt_of_lt_of_le hb st1.size) h3
            exact st1.owned b hb h2
          have hsame : ∀ b, b < w.heap.size → ¬ own m b → b ≠ l → (setO w3 l (.loop { r0 with state := st, pending := pd })).heap[b]? = w.heap[b]? := by
            intro b hb ho hbl
            have hb1 := Nat.lt_of_lt_of_le hb st1.size
            rw [setO_ne hbl, st3.block b (by rw [setO_size]; exact hb1) (fun h => ho (st1.owned b hb h)), setO_ne hbl]
            exact st1.block b hb ho
          have hsize : w.heap.size ≤ (setO w3 l (.loop { r0 with state := st, pending := pd })).heap.size := by
            rw [setO_size]
            exact Nat.le_trans st1.size (by have := st3.size; rwa [setO_size] at this)
          have hkeep : Keep w (OO fo3 m) (setO w3 l (.loop { r0 with state := st, pending := pd })) := ⟨hsize, fun b hb ho => hsame b hb (fun h => ho (.inl h)) (fun e => ho (.inr (.inr e)))⟩
          have hOs : ∀ b, b < w.heap.size → OO fo4 m4 b → OO fo3 m b := by
            rintro b hb (h | h)
            · exact .inl (hown4 b hb h)
            · subst hfm
              rcases h with h | h
              · exact .inr h
              · exfalso
                rcases List.mem_append.1 h with h | h
                · have h1 := (hm3.2 b h).1
                  rw [setO_size] at h1
                  have := st1.size
                  omega
                · have := (hm1.2 b h).1; omega
          have hrs : (setO w3 l (.loop { r0 with state := st, pending := pd })).heap[l]? = some (.loop { r0 with state := st, pending := pd }) := setO_same hl3
          refine ⟨_, inv_bundle (fo := fo) (fo' := fo4) hf4 hl4 hlo g5.inv hJ2 hrs (fun t y hy => ?_), ?_⟩
          · exact ((hf t y hy).on hlab3 (by rw [hlab]; exact (hfr t y hy).2)).mono hkeep hOs (fun _ _ e => e)
          · refine ⟨?_, ?_, ?_, hsize, fun b hb ho => ?_, fun b hb h5 => ?_⟩
            · show w3.os = w.os
              exact st3.os.trans st1.os
            · show w3.tape = w.tape
              exact st3.tape.trans st1.tape
            · show w3.output = w.output
              exact st3.output.trans st1.output
            · exact hsame b hb (fun h => ho ((hown b).2 (.inr h))) (fun e => ho ((hown b).2 (.inl e)))
            · rw [one_own, blk_bval g5.inv.dom] at h5
              rcases h5 with rfl | h5
              · exact (hown _).2 (.inl rfl)
              · exact (hown b).2 (.inr (hown4 b hb h5))
        have hend : ∀ jump : Option Code, (Instr.endRound l jump).run P w3 = .ok (.bool jump.isNone) (setO w3 l (.loop { r0 with state := if jump.isNone then .ready else .done, pending := jump })) := by
          intro jump
          simp [Instr.endRound, Instr.getLoop, Sem.run_bind, run_getO hrec3 (by simp), run_setO hrec3 (by simp)]
        have hstop : ∀ (jump : Code) (x : AX), jumpAX (some jump) x → (s3.pick [] (keys L0)).on (keys (s3.pick [] (keys L0)).L) = true ∧ labs (s3.pick [] (keys L0)).L = labs L0 ∧ K x ⟨fr, (s3.pick [] (keys L0)).L⟩ →
            ∃ v w', (Instr.endRound l (some jump)).run P w3 = .ok v w' ∧ CPost fo m1 w (YR (loopEnv r0 l fr J') (loopEnv r0 l fr JB)) (.returned v) w' := by
          rintro jump x hj ⟨q1, q2, q3⟩
          obtain ⟨m5, i5, s5⟩ := fin .done (some jump) JB q1 q2 (hJB _ _ _ hj q2 q3)
          exact ⟨_, _, hend _, m5, .ret (.d (.v (.bool false))), _, .inr ⟨rfl, rfl⟩, .d _ _ (.v _ rfl), i5, s5⟩
        cases e3 with
        | normal =>
          cases x3 <;> simp only [Exits] at hx3
          obtain ⟨q1, q2, q3⟩ := hq3
          obtain ⟨n1, n2⟩ := hn' q3
          obtain ⟨m5, i5, s5⟩ := fin .ready none J' q1 (by rw [q2]; exact n2) (by rw [q2]; exact n1)
          exact ⟨_, _, hend none, m5, .ret (.d (.v (.bool true))), _, .inl ⟨rfl, rfl⟩, .d _ _ (.v _ rfl), i5, s5⟩
        | ret =>
          cases x3 <;> simp only [Exits] at hx3
          exact hstop .ret .ret trivial hq3
        | exit i =>
          cases x3 <;> simp only [Exits] at hx3
          subst hx3
          exact hstop (.exit i) (.exit i) rfl hq3
        | goto i =>
          cases x3 <;> simp only [Exits] at hx3
          subst hx3
          exact hstop (.goto i) (.goto i) rfl hq3
        | panic ch => cases x3 <;> simp only [Exits] at hx3; exact hq3.elim
        | outgrown => cases x3 <;> simp only [Exits] at hx3
    | exit i => cases x1 <;> simp only [Exits] at hx1; exact hq1.elim
    | goto i => cases x1 <;> simp only [Exits] at hx1; exact hq1.elim
    | ret => cases x1 <;> simp only [Exits] at hx1; exact hq1.elim
    | panic ch => cases x1 <;> simp only [Exits] at hx1; exact hq1.elim
    | outgrown => cases x1 <;> simp only [Exits] at hx1
end
end Go.Ab

namespace Go.Ab
section
variable {P : Program} {n : Nat} {s : St} {Q : AX → St → Prop}
def newO (w : World) (o : Obj) : World := { w with heap := w.heap.push o }
theorem newO_size (w : World) (o : Obj) : (newO w o).heap.size = w.heap.size + 1 := by
  show (w.heap.push o).size = _
  rw [Array.size_push]
theorem newO_same (w : World) (o : Obj) : (newO w o).heap[w.heap.size]? = some o := by
  show (w.heap.push o)[w.heap.size]? = _
  rw [Array.getElem?_push, if_pos rfl]
theorem newO_lt {w : World} {o : Obj} {b : Nat} (h : b < w.heap.size) : (newO w o).heap[b]? = w.heap[b]? := by
  show (w.heap.push o)[b]? = _
  rw [Array.getElem?_push, if_neg (by omega)]
theorem run_newO (w : World) (o : Obj) : (newObj o).run P w = .ok w.heap.size (newO w o) := rfl
theorem perm_keys {L L' : Heap} (h : L.Perm L') : (keys L).Perm (keys L') := h.map _
end
end Go.Ab

namespace Go.Ab
section
variable {P : Program} {n : Nat} {s : St} {Q : AX → St → Prop}
theorem codeK_rangeF {g : Operand} {ps : List Tmp} {assign body : Code} : codeK P n (.rangeFunc g ps.toArray assign body) s Q = AWP P n (.rangeFunc g ps.toArray assign body) s Q := by simp [codeK]
attribute [simp] yv codeK_rangeF RoundQ putPs labs
end
end Go.Ab

namespace Go.Ab
section
variable {P : Program} {n : Nat} {s : St} {Q : AX → St → Prop} {L : Heap}
theorem OpT.ptrNil {o : Oper} {ρa : Operand → V} {t e ty : TypeId} {x y : Operand} (hop : o.op = .binOp .eql t x y ty) (ht : tyPtr P t = some e) (hx : ρa x = .d (.v (.pointer none))) (hy : ρa y = .d (.v (.pointer none))) : OpT P o ρa L (.d (.v (.bool true))) := by
  refine .of_Q fun fo m ρ w hi hr => ?_
  have h1 := hr x (by rw [hop]; simp [Op.operands])
  have h2 := hr y (by rw [hop]; simp [Op.operands])
  rw [hx] at h1
  rw [hy] at h2
  have h : ∀ d : Nat, (Op.equalIn (d + 1) t (.pointer none) (.pointer none)).run P w = .ok true w := fun d => by
    simp [Op.equalIn, run_underlying (tyPtr_spec ht)]
  have h9 : (Op.equal t (.pointer none) (.pointer none)).run P w = .ok true w := h 9999
  refine ⟨.bool true, ?_, .d _ _ (.v _ rfl)⟩
  simp [execOp, hop, h1.v_inv, h2.v_inv, eqGuard, binOp, h9]
theorem OpT.ptrBp {o : Oper} {ρa : Operand → V} {t e ty : TypeId} {x y : Operand} {h off : Nat} (hop : o.op = .binOp .eql t x y ty) (ht : tyPtr P t = some e) (hx : ρa x = .bp h off) (hy : ρa y = .d (.v (.pointer none))) : OpT P o ρa L (.d (.v (.bool false))) := by
  refine .of_Q fun fo m ρ w hi hr => ?_
  have h1 := hr x (by rw [hop]; simp [Op.operands])
  have h2 := hr y (by rw [hop]; simp [Op.operands])
  rw [hx] at h1
  rw [hy] at h2
  obtain ⟨b, _, e1⟩ := bp_inv h1
  have h : ∀ d : Nat, (Op.equalIn (d + 1) t (.pointer (some ⟨b, off, none⟩)) (.pointer none)).run P w = .ok false w := fun d => by
    simp [Op.equalIn, run_underlying (tyPtr_spec ht)]
  have h9 : (Op.equal t (.pointer (some ⟨b, off, none⟩)) (.pointer none)).run P w = .ok false w := h 9999
  refine ⟨.bool false, ?_, .d _ _ (.v _ rfl)⟩
  simp [execOp, hop, e1, h2.v_inv, eqGuard, binOp, h9]
theorem OpT.ptrSame {o : Oper} {ρa : Operand → V} {t e ty : TypeId} {x y : Operand} {h off : Nat} {i : TypeInfo} (hop : o.op = .binOp .neq t x y ty) (ht : tyPtr P t = some e) (hi : P.info? e = some i) (hx : ρa x = .bp h off) (hy : ρa y = .bp h off) : OpT P o ρa L (.d (.v (.bool false))) := by
  refine .of_Q fun fo m ρ w _ hr => ?_
  have h1 := hr x (by rw [hop]; simp [Op.operands])
  have h2 := hr y (by rw [hop]; simp [Op.operands])
  rw [hx] at h1
  rw [hy] at h2
  obtain ⟨b, m1, e1⟩ := bp_inv h1
  obtain ⟨b', m2, e2⟩ := bp_inv h2
  have : b = b' := by
    rw [m1] at m2
    simp only [Option.some.injEq, Value.pointer.injEq, Addr.mk.injEq] at m2
    exact m2.1
  subst this
  refine ⟨.bool false, ?_, .d _ _ (.v _ rfl)⟩
  have := Lib.run_neq_ptr_same (P := P) w ⟨b, off, none⟩ (tyPtr_spec ht) hi
  simp [execOp, hop, e1, e2, eqGuard, this]
def tyUns (P : Program) (t : TypeId) : Bool := match P.underlying t with
  | some .unsafePointer => true
  | _ => false
theorem tyUns_spec {t : TypeId} (h : tyUns P t = true) : P.underlying t = some .unsafePointer := by
  unfold tyUns at h
  split at h
  · assumption
  · cases h
theorem box_shape {fo : FO} {m : Nat → Option Value} {w : World} (hi : Inv fo m L w) {h b0 b : Nat} {ty : TypeId} {cs : List V} (hl : L.lookup h = some (.box b0 ty cs)) (hm : m h = some (.pointer (some ⟨b, 0, none⟩))) : w.shape? b = some (ty, cs.length) := by
  obtain ⟨x, hx, bb, _, cur, rfl, hb, hs, _⟩ := hi.holds h _ (lookup_mem hl)
  rw [hm] at hx
  simp only [Option.some.injEq, Value.pointer.injEq, Addr.mk.injEq] at hx
  obtain ⟨rfl, _⟩ := hx
  simp [World.shape?, hb, hs]
theorem OpT.toUns {o : Oper} {ρa : Operand → V} {src dst e ty : TypeId} {x : Operand} {h off b0 : Nat} {cs : List V} {i : TypeInfo} (hop : o.op = .convert src dst x) (hs : tyPtr P src = some e) (hd : tyUns P dst = true) (hi : P.info? e = some i) (hz : i.size ≠ 0)
    (hx : ρa x = .bp h off) (hl : L.lookup h = some (.box b0 ty cs)) (hoff : off < cs.length) : OpT P o ρa L (.bp h off) := by
  refine .of_Q fun fo m ρ w hinv hr => ?_
  have h1 := hr x (by rw [hop]; simp [Op.operands])
  rw [hx] at h1
  obtain ⟨b, m1, e1⟩ := bp_inv h1
  refine ⟨.pointer (some ⟨b, off, none⟩), ?_, .bp h off b m1⟩
  have := Lib.run_to_unsafe (P := P) w ⟨b, off, none⟩ (tyPtr_spec hs) (tyUns_spec hd) hi hz (box_shape hinv hl m1) hoff
  simp [execOp, hop, e1, this]
theorem OpT.ofUns {o : Oper} {ρa : Operand → V} {src dst u ty : TypeId} {x : Operand} {h off b0 : Nat} {cs : List V} {i : TypeInfo} (hop : o.op = .convert src dst x) (hs : tyUns P src = true) (hd : tyPtr P dst = some u) (hi : P.info? u = some i)
    (hx : ρa x = .bp h off) (hl : L.lookup h = some (.box b0 ty cs)) (hlies : liesAt P P.depth ty (cs.length / P.cellsOf ty) off u 1 = true) : OpT P o ρa L (.bp h off) := by
  refine .of_Q fun fo m ρ w hinv hr => ?_
  have h1 := hr x (by rw [hop]; simp [Op.operands])
  rw [hx] at h1
  obtain ⟨b, m1, e1⟩ := bp_inv h1
  refine ⟨.pointer (some ⟨b, off, none⟩), ?_, .bp h off b m1⟩
  have := Lib.run_from_unsafe (P := P) w ⟨b, off, none⟩ (tyUns_spec hs) (tyPtr_spec hd) hi (box_shape hinv hl m1) hlies
  simp [execOp, hop, e1, this]
theorem OpT.noEscape {o : Oper} {c : Call} {ρa : Operand → V} {f : FuncId} {fn : Func} {x : V} (hop : o.op = .call c) (hc : callee ρa c = some (f, [x])) (hf : P.funcs[f]? = some fn) (hname : (fn.name == "runtime.NumGoroutine") = false)
    (hb : fn.body.isNone = true) (hn : Extern.findNext fn = none) (he : Extern.find fn = some Extern.AbiNoEscape.same) : OpT P o ρa L x := by
  refine .of_Q fun fo m ρ w hi hr => ?_
  unfold callee at hc
  split at hc
  · rename_i fop hcal
    split at hc
    · rename_i f' first caps hfo
      simp only [Option.some.injEq, Prod.mk.injEq] at hc
      obtain ⟨rfl, hc⟩ := hc
      have h1 := hr fop (by rw [hop]; simp [Op.operands, Call.operands, hcal])
      rw [hfo] at h1
      obtain ⟨fa, ca, e, s1, s2, g1, g2⟩ := clo_inv h1
      have hrel : RelVs w (OO fo m) m (fa ++ c.args.map ρ ++ ca) [x] := by
        rw [← hc]
        refine (RelVs.append ⟨s1, g1⟩ ?_).append ⟨s2, g2⟩
        exact ⟨by simp, map_rel2 c.args fun z hz => hr z (by rw [hop]; simp [Op.operands, Call.operands, hz])⟩
      obtain ⟨v, hv⟩ : ∃ v, fa ++ c.args.map ρ ++ ca = #[v] := by
        have := hrel.1
        simp only [List.length_singleton] at this
        generalize fa ++ c.args.map ρ ++ ca = xs at *
        exact ⟨xs[0], by apply Array.ext <;> simp [this]; intro i hi; subst hi; rfl⟩
      refine ⟨v, ?_, hrel.2 0 v x (by rw [hv]; rfl) rfl⟩
      have h3 := run_callFunc_extern (P := P) hf hname hb hn he (fa ++ c.args.map ρ ++ ca) w
      rw [hv, Lib.run_noEscape] at h3
      simp only [execOp, hop, resolve, hcal, e, Deferred.ofValue, Sem.run_bind, Sem.run_pure, Result.andThen_ok, invoke]
      rw [hv]
      exact h3
    · cases hc
  · cases hc
mutual
theorem kill_kill (h : Nat) : ∀ x : V, V.kill h (V.kill h x) = V.kill h x
  | .bp i o => by simp only [V.kill]; split <;> simp [V.kill, *]
  | .rv i => by simp only [V.kill]; split <;> simp [V.kill, *]
  | .ep i k x y => by simp only [V.kill]; split <;> simp [V.kill, *]
  | .clo fn f c => by simp only [V.kill, kills_kills h f, kills_kills h c]
  | .agg cs => by simp only [V.kill, kills_kills h cs]
  | .tup cs => by simp only [V.kill, kills_kills h cs]
  | .gd b x => by simp only [V.kill, kill_kill h x]
  | .d x => rfl
  | .rp cs => rfl
  | .sv i n => by simp only [V.kill]; split <;> simp [V.kill, *]
  | .kn Q => rfl
  | .any => rfl
theorem kills_kills (h : Nat) : ∀ l : List V, V.kills h (V.kills h l) = V.kills h l
  | [] => rfl
  | x :: l => by simp only [V.kills, kill_kill h x, kills_kills h l]
end
theorem ACalls.rem {f : FuncId} {args : List V} {L1 : Heap} {x : V} (g : Nat) (hx : x.on [] = true) (h : ACalls P f args L (fun r L' => r = .ret x ∧ remL g L' = L1)) : ACalls P f args L (fun r L' => r = .ret x ∧ L' = L1) := by
  intro fo m w xs hi hr
  refine (h fo m w xs hi hr).mono ?_
  rintro e w' ⟨m1, r, L', ⟨rfl, rfl⟩, he, hi', st⟩
  cases e with
  | returned v =>
    simp only [Ends] at he
    have g0 : G fo 0 m1 ⟨[], L'⟩ { tmps := #[], defers := fo.D } w' := ⟨rfl, by simp, hi', rfl⟩
    obtain ⟨m2, g2, st2⟩ := Wk.rem (s := ⟨[], L'⟩) (n := 0) g fo m1 _ w' g0
    refine ⟨m2, .ret x, remL g L', ⟨rfl, rfl⟩, ?_, g2.inv, st.trans st2⟩
    simp only [Ends]
    refine (he.on (ks := []) (m' := m2) (by simp) hx).mono (Keep.refl w' _) (fun b hb ho => ?_) (fun _ _ e => e)
    exact ho.elim (fun h => .inl (st2.owned b hb h)) .inr
  | panicked ch => simp only [Ends] at he
  | outgrown => simp only [Ends] at he
theorem Inv.perm {fo : FO} {m : Nat → Option Value} {L L' : Heap} {w : World} (hp : L.Perm L') (h : Inv fo m L w) : Inv fo m L' w :=
  ⟨(perm_keys hp).nodup_iff.1 h.nodup, fun i x hx => (perm_keys hp).mem_iff.1 (h.dom i x hx), h.apart, h.others, h.folt, fun i r hr => h.holds i r (hp.mem_iff.2 hr), h.glob⟩
theorem ACalls.perm {f : FuncId} {args : List V} {L L2 L' L2' : Heap} {x : AE} (hp : L.Perm L2) (hp' : L'.Perm L2') (h : ACalls P f args L (fun r K => r = x ∧ K = L')) : ACalls P f args L2 (fun r K => r = x ∧ K = L2') := by
  intro fo m w xs hi hr
  refine (h fo m w xs (hi.perm hp.symm) hr).mono ?_
  rintro e w' ⟨m1, r, K, ⟨rfl, rfl⟩, he, hi', st⟩
  exact ⟨m1, r, L2', ⟨rfl, rfl⟩, he, hi'.perm hp', st⟩
theorem AOps.byT {ops : Array Oper} {o : Oper} {rest : List Oper} {x : V} (h : OpT P o s.ev s.L x) (hg : o.guard = none) (hd : ∀ d, o.dst = some d → d < n) (hr : dstsOk n rest = true)
    (k : ∀ bs, runC P ops rest (s.put o.dst x) bs [] (KK P n ops Q)) : AOps P n ops (o :: rest) s Q := AOps.quietT hg hd h (runC_sound rest _ [] hr k)
end
end Go.Ab

namespace Go.Ab
open Go.ChangeShapes Go.WideShapes Go.ChangeAt Go.RowKit
section
variable {P : Program} {w : World} {base : Nat} {spare : Nat → Bool} {held : Bool}
theorem cells_of_laid {k : IntKind} {t e n fuel : Nat} {H : Type} {enc : TypeId × Value → H} {cs : List Value} {xs : List Int} {ps : List MemPlace} (ht : P.underlying t = some (.array n e)) (he : P.underlying e = some (.int k)) (ce : P.cellsOf e = 1)
    (h : DataW.trod enc P w base spare held fuel t cs = some (.agg (xs.map fun x => .lit (.int k x)), ps)) : ∀ (i : Nat) (x : Int), xs[i]? = some x → cs[i]? = some (.int k x) := by
  obtain ⟨ys, m, rfl, hx, hl, hn, hel⟩ := DataW.trod_array ht h
  intro i x hi
  simp only [Prod.mk.injEq, DataW.agg.injEq] at hx
  have hlen : ys.length = xs.length := by
    have := congrArg List.length hx.1
    simpa using this.symm
  have hin : i < n := by
    have := (List.getElem?_eq_some_iff.1 hi).1
    omega
  have h0 := hel i hin
  have hyi : ys[i]? = some ys[i] := List.getElem?_eq_getElem (by omega)
  rw [hyi] at h0
  obtain ⟨r, e1, e2, _⟩ := DataW.trod_int he h0
  have h3 := congrArg (fun l => l[i]?) hx.1
  simp only [List.getElem?_map, hi, hyi, Option.map_some, Option.some.injEq] at h3
  rw [e2] at h3
  simp only [DataW.lit.injEq, Lit.int.injEq, true_and] at h3
  subst h3
  rw [ce] at e1
  have h4 : ((cs.drop (i * 1)).take 1)[0]? = some (.int k x) := by rw [e1]; rfl
  rw [List.getElem?_take, if_pos (by omega), List.getElem?_drop] at h4
  simpa using h4
end
theorem OO_none (b : Nat) : ¬ OO (⟨fun _ => False, [], none, false⟩ : FO) noneM b := by rintro (h | h); exact noneM_own b h; exact h
theorem cell_lt {w : World} {g i : Nat} {v : Value} (h : w.cell? ⟨g, i, none⟩ = some v) : g < w.heap.size := by
  rcases Nat.lt_or_ge g w.heap.size with h1 | h1
  · exact h1
  · simp [World.cell?, Array.getElem?_eq_none h1] at h
theorem row_tied {H : Type} {enc : TypeId × Value → H} {C : Checked} {os : Os} {f : FuncId} {fn : Func} {s : OpenSpec} {F : Stop.Interp} {a : Assume} {conds : List PathCond} {fresh handsOn : Bool} {laid : List (String × DataW Unit)} (tb : TypeId)
    (hgl : ∀ W : World, laidMetH C.prog laid W → Globs W (OO (⟨fun _ => False, [], none, false⟩ : FO) noneM))
    (own : ownKnob C.prog.godebug = none) (started : os.Started) (noInit : C.prog.inits.idxOf? f = none) (hfn : C.prog.funcs[f]? = some fn)
    (witness : ∃ (w : World) (tape : Tape) (i : Input), w.os = os ∧ (w.forCall tape i).Shaped C.prog ∧ i.vars = [] ∧ Input.okWide C.prog (w.forCall tape i) .any w.heap.size f i ∧
      s.preRow enc C.prog fn conds false laid (w.forCall tape i).memory i.args ∧ a.holds C.prog (lone (Frame.enter C.prog f i.args .normal) [] (w.forCall tape i)))
    (hfine : fineB C.prog = true) (hlaid : laidOutB C.prog = true)
    (hps : fn.params.toList.all (fun t => C.prog.readableRec t && decide (t < C.prog.types.size)) = true)
    (hres : fn.resultTypes = #[tb]) (htb : C.prog.underlying tb = some .bool) (hv : s.vars = []) (hvb : s.bare.vars = []) (hva : (s.at F).vars = [])
    (hs : ∀ ds : List (DataW H), ds.length = fn.params.size → (s.at F).fn H ds = { results := [.lit (.bool true)], args := ds })
    (walk : ∀ yss : List (List D), yss.length = fn.params.size → (∀ (i : Nat) t ys, fn.params[i]? = some t → yss[i]? = some ys → HasT C.prog t ys) →
      (∀ N, (∀ ds : List (DataW H), (∀ k, s.cond = some k → k H ds = true) → bulkAll ds ≤ N) → bDss yss ≤ N) →
      ACalls C.prog f ((fn.params.toList.zip yss).map fun p => argV C.prog p.1 p.2) [] (fun r _ => r = .ret (.d (.v (.bool true))))) :
    ReturnsInHanded a C os f .any (s.preRow enc C.prog fn conds false laid) ((s.at F).post enc C.prog fn false fresh handsOn false) := by
  refine returnsInHanded_of_row own started noInit hfn witness ?_
  intro W base args ds gs before hval hW _ hkk hwt hlm _ _
  have hW' := hW
  obtain ⟨p, q, hA, hV, rfl, hfz, hnd⟩ := hW
  rw [hv] at hV
  obtain ⟨rfl, rfl⟩ := trodVars_none hV
  simp only [List.append_nil] at hwt hW' hkk ⊢
  rw [show s.bare.plain.varTypes C.prog = [] by simp [ChangeSpec.plain, DataSpec.varTypes, hvb], List.append_nil] at hwt
  have hps' : ∀ t ∈ fn.params.toList, C.prog.readableRec t = true ∧ t < C.prog.types.size := fun t h => by
    have := List.all_eq_true.1 hps t h
    simpa using this
  obtain ⟨yss, y1, y2, y3, y4, y6, y5⟩ := open_all (base := base) hfine fn.params.toList args.toList ds p (fun t h => (hps' t h).2) hA (fun n hn => by simpa using List.all_eq_true.1 hwt n hn) (fun j t v h1 h2 => hval j t v (by simpa using h1) (by simpa using h2))
  have hc := walk yss (by simpa using y1) (fun i t ys h1 h2 => y2 i t ys (by simpa using h1) h2) (fun N hN => Nat.le_trans y6 (hN _ hkk))
  refine (hc (⟨fun _ => False, [], none, false⟩ : FO) noneM W args ⟨by simp [keys], by simp [noneM], by simp [noneM], by simp [noneM], by simp, by simp, hgl W hlm⟩ ⟨by simp at y1 y3; simp [y1, y3], fun j x y hx hy => y5 j x y (by simpa using hx) hy⟩).mono fun e W' ⟨m', r, L', hr, he, hi, hst⟩ => ?_
  subst hr
  cases e with
  | returned v =>
    simp only [Ends] at he
    have hb := he.bool_inv
    subst hb
    have bel : Below W.heap.size W W' := ⟨hst.os, hst.tape, hst.output, hst.size, fun k hk => hst.block k hk (noneM_own k)⟩
    have hlt : ∀ x ∈ p, x.block < W.heap.size := fun x hx => hW'.lt x (by simpa using hx)
    refine ⟨_, rfl, ds, [], p ++ [], [], p, [], by rw [hva]; rw [hv] at hW'; simpa using hW', ?_, ?_, by simp [hva, DataW.TrodVars, List.append_nil, hs ds (by simpa using y4)], bel.frame _, fun h => by cases h⟩
    · rw [List.append_nil, hs ds (by simpa using y4), hres]
      exact trodAll_mk1 (shut_bool htb _)
    · rw [List.append_nil, hs ds (by simpa using y4)]
      exact trod_all_stays hlaid bel _ _ _ _ hps' hA hlt
  | panicked c => simp only [Ends] at he
  | _ => simp only [Ends] at he
end Go.Ab

namespace Go.Ab
section
variable {P : Program} {n : Nat} {Q : AX → St → Prop}
def LOpP (P : Program) (n : Nat) (ops : Array Oper) (o : Oper) (fr : List (Nat × V)) (L : Heap) (y : V) (L' : Heap) : Prop :=
  ∀ fr2, (∀ t, t ∈ o.looksAt ops → getF t fr2 = getF t fr) → ∀ fo m a w, G fo n m ⟨fr2, L⟩ a w →
    Region.wanted o (yielded ops a.tmps) = true ∧ ∀ (next : Act → World → Prop) (Q' : Exit → Act → World → Prop),
      (∀ ch w' m', Chain w' (OO fo m') m' ch y → Inv fo m' L' w' → Step w (own m) w' (own m') → Q' (.panic ch) a w') → o.wpIn (wr fo.r) 0 P a w next Q'
def SemP (P : Program) (n : Nat) (Q : AX → St → Prop) (ops : Array Oper) (dd : Option Nat) (ks : List (Option Nat)) (Ls : Nat → Heap) (r : Rec) (o : Oper) : Prop :=
  (r.loud = true → (∃ q, dd = some q ∧ q < r.q) ∨ (dd = some r.q ∧ ∃ y L', LOpP P n ops o (frAt ks r.q r.fr) (Ls r.q) y L' ∧ Q (.pan y) ⟨[], L'⟩) ∨
    (dd ≠ some r.q ∧ r.q < ks.length ∧ LOp P n ops o (frAt ks r.q r.fr) (Ls r.q) (ks.getD r.q none) r.x (Ls (r.q + 1)))) ∧
  (r.loud = false → ∀ p, r.lo ≤ p → p ≤ r.hi → (∀ q, dd = some q → p ≤ q) → YOp P ops o ⟨frAt ks p r.fr, Ls p⟩ r.x)
theorem any_orderP {dd : Option Nat} {l : List Oper} {rg : List (Option (Nat × Nat))} {lds : List Nat} {ks : List (Option Nat)} {Ls : Nat → Heap} {fr0 frE : FrM} {tr : List Rec} {k : Nat} (hz : rg.length = l.length)
    (ht : TrM (l.zip rg) fr0 0 tr frE k) (hsem : ∀ (i : Nat) (r : Rec) (o : Oper), tr[i]? = some r → l[i]? = some o → SemP P n Q l.toArray dd ks Ls r o) (hin : indep l = true) (hd : dstsOk n l = true) (hnd : lds.Nodup)
    (hanc : ancOk l (ancs l []) = true) (hgo : okGo (ancs l []) lds (l.zip rg) 0 0 = true) (hlk : ∀ o ∈ l, ∀ t ∈ o.looksAt l.toArray, t < n) (hks : ks.length = k) (hdq : ∀ q, dd = some q → q < lds.length) (hq : dd = none → Q .normal ⟨frAt ks k frE, Ls k⟩)
    {fo : FO} {m0 : Nat → Option Value} {w0 : World} (hfr : ∀ e, e ∈ fr0 → e.1 < n) (hf0 : ∀ e, e ∈ fr0 → e.2.1 = 0) :
    ∀ (fuel : Nat) (m : Nat → Option Value) (p : Nat) (listed : Array Bool) (un : List Nat) (a : Act) (w : World), un.length ≤ fuel → (∀ i, i < l.length → listed.getD i false = false → i ∈ un) →
      (∀ q, dd = some q → p ≤ q) → MidM fo m m0 w0 n l lds ks Ls fr0 tr p listed a w → wpAnyIn (wr fo.r) 0 P .any l.toArray (Post fo n m0 w0 Q) fuel listed a w := by
  have hdl : ∀ (i : Nat) (o : Oper) (d : Nat), l[i]? = some o → o.dst = some d → d < n := by
    intro i o d hi ho
    unfold dstsOk at hd
    rw [List.all_eq_true] at hd
    have := hd o (List.mem_of_getElem? hi)
    rw [ho] at this
    simpa using this
  have hzl : (l.zip rg).length = l.length := by rw [List.length_zip]; omega
  have hlen : tr.length = l.length := by rw [ht.len, hzl]
  have htr : ∀ i : Nat, i < l.length → ∃ r : Rec, tr[i]? = some r := fun i hi => ⟨_, List.getElem?_eq_getElem (by omega)⟩
  have hzip : ∀ (i : Nat) (o : Oper), l[i]? = some o → ∃ g, (l.zip rg)[i]? = some (o, g) := by
    intro i o hi
    have hil := (List.getElem?_eq_some_iff.1 hi).1
    refine ⟨rg[i]'(by omega), ?_⟩
    rw [List.getElem?_zip_eq_some]
    exact ⟨hi, List.getElem?_eq_getElem (by omega)⟩
  have hunzip : ∀ (i : Nat) (z : Oper × Option (Nat × Nat)), (l.zip rg)[i]? = some z → l[i]? = some z.1 := by
    intro i z hz'
    exact (List.getElem?_zip_eq_some.1 hz').1
  obtain ⟨hlds, hat0⟩ := okGo_at ht 0 hgo
  have hat : ∀ (i : Nat) (r : Rec) (o : Oper), tr[i]? = some r → l[i]? = some o →
      (r.loud = true → lds[r.q]? = some i ∧ (∀ j ∈ lds.take r.q, j ∈ (ancs l []).getD i [])) ∧
      (r.loud = false → r.lo ≤ lds.length ∧ i ∉ lds ∧ (∀ j ∈ lds.take r.lo, j ∈ (ancs l []).getD i []) ∧ ∀ j ∈ lds.drop r.hi, i ∈ (ancs l []).getD j []) := by
    intro i r o hr ho
    obtain ⟨g, hg⟩ := hzip i o ho
    have := hat0 i r (o, g) hr hg
    simpa using this
  have getM0 : ∀ t, (getM t fr0).1 = 0 := by
    intro t
    clear ht hfr
    induction fr0 with
    | nil => rfl
    | cons e fr ih =>
      obtain ⟨k, b, x⟩ := e
      rw [getM]
      split
      · exact hf0 _ List.mem_cons_self
      · exact ih (fun e he => hf0 e (List.mem_cons_of_mem _ he))
  have hloud : ∀ (q j : Nat), lds[q]? = some j → j < l.length ∧ ∃ r, tr[j]? = some r ∧ r.loud = true ∧ r.q = q := by
    intro q j hj
    obtain ⟨i, r, h1, h2, h3, h4⟩ := okGo_loud ht 0 hgo q j (Nat.zero_le _) hj
    obtain rfl : j = i := by omega
    exact ⟨by have := (List.getElem?_eq_some_iff.1 h2).1; omega, r, h2, h3, h4⟩
  have fin : ∀ (m : Nat → Option Value) (p : Nat) (listed : Array Bool) (a : Act) (w : World), (∀ i, i < l.length → listed.getD i false = true) → (∀ q, dd = some q → p ≤ q) → MidM fo m m0 w0 n l lds ks Ls fr0 tr p listed a w → Post fo n m0 w0 Q .normal a w := by
    intro m p listed a w hall hdp M
    have hpk : p = k := by
      have h1 := M.ple
      rcases Nat.lt_or_ge p lds.length with h | h
      · have hj := M.louds p lds[p] (List.getElem?_eq_getElem h)
        have hmem : lds[p] < l.length := by
          refine Classical.byContradiction fun hn => ?_
          exact hn (hloud p _ (List.getElem?_eq_getElem h)).1
        have := hj.1 (hall _ hmem)
        omega
      · omega
    subst hpk
    have hdn : dd = none := by
      cases hdd : dd with
      | none => rfl
      | some q =>
        have h1 := hdp q hdd
        have h2 := hdq q hdd
        omega
    refine .of m .normal _ (hq hdn) ⟨M.size, ?_, M.inv, M.defers⟩ trivial M.step
    intro t x hx
    obtain ⟨e, he, hex⟩ := List.mem_map.1 hx
    simp only [Prod.mk.injEq] at hex
    obtain ⟨rfl, rfl⟩ := hex
    rcases ht.mem e he with ⟨j, z, r, h1, h2, h3, h4⟩ | ⟨h1, h2⟩
    · have h1' := hunzip j z h1
      refine ⟨hdl j z.1 e.1 h1' h2, ?_⟩
      have := M.done j z.1 r e.1 h1' h3 h2 (hall j (List.getElem?_eq_some_iff.1 h1').1)
      rw [h4]
      exact this
    · exact ⟨hfr _ h1, M.rest _ h1 (fun j o hj => by
        obtain ⟨g, hg⟩ := hzip j o hj
        exact h2 j (o, g) hg)⟩
  have ready_nil : ∀ (listed : Array Bool), listed.size = l.length → Region.ready .any l.toArray listed = [] → ∀ i, i < l.length → listed.getD i false = true := by
    intro listed hsz hr i
    induction i using Nat.strongRecOn with
    | _ i ih =>
      intro hi
      cases hb : listed.getD i false with
      | true => rfl
      | false =>
        exfalso
        have hmem : i ∈ Region.ready .any l.toArray listed := by
          refine mem_ready.2 ⟨by rw [getD_lt (c := false) (by omega)]; exact hb, l[i], by simp [hi], fun e he hbd => ?_⟩
          have := (indep_at hin (List.getElem?_eq_getElem hi)).2.1 e he hbd
          exact ih e.on this (by omega)
        rw [hr] at hmem
        cases hmem
  intro fuel
  induction fuel with
  | zero =>
    intro m p listed un a w hun hall hdp M
    have h0 : ∀ i, i < l.length → listed.getD i false = true := by
      intro i hi
      cases hb : listed.getD i false with
      | true => rfl
      | false => have h9 := hall i hi hb; have h8 : un = [] := List.eq_nil_of_length_eq_zero (by omega); rw [h8] at h9; cases h9
    refine ⟨?_, fin m p listed a w h0 hdp M⟩
    rw [List.eq_nil_iff_forall_not_mem]
    intro j hj
    obtain ⟨h1, o, h2, _⟩ := mem_ready.1 hj
    have hjl : j < l.length := by have := (Array.getElem?_eq_some_iff.1 h2).1; simpa using this
    rw [getD_lt (c := false) (by have := M.lsz; omega)] at h1
    rw [h0 j hjl] at h1
    cases h1
  | succ fuel ih =>
    intro m p listed un a w hun hall hdp M
    refine ⟨fun hr => fin m p listed a w (ready_nil listed M.lsz hr) hdp M, ?_⟩
    intro i hi
    obtain ⟨h1, o, h2, h3⟩ := mem_ready.1 hi
    have hil : i < l.length := by have := (Array.getElem?_eq_some_iff.1 h2).1; simpa using this
    have hio : l[i]? = some o := by simpa using h2
    rw [getD_lt (c := false) (by have := M.lsz; omega)] at h1
    obtain ⟨r, htri⟩ := htr i hil
    obtain ⟨hs1, hs2⟩ := hsem i r o htri hio
    obtain ⟨ha1, ha2⟩ := hat i r o htri hio
    obtain ⟨i1, i2, i3⟩ := indep_at hin hio
    have uniq : ∀ (t : Nat) (j : Nat) (o'' : Oper), l[j]? = some o'' → o''.dst = some t → writes l t = some j := fun t j o'' hj hd => (indep_at hin hj).1 t hd
    have hancs : ∀ j ∈ (ancs l []).getD i [], listed.getD j false = true := anc_listed hin hanc M.closed i o hio h3
    have hancl : ∀ (j : Nat) (oj : Oper), l[j]? = some oj → listed.getD j false = true → ∀ j' ∈ (ancs l []).getD j [], listed.getD j' false = true :=
      fun j oj hoj hb => anc_listed hin hanc M.closed j oj hoj (M.closed j oj hoj hb)
    have hslots : ∀ t, t ∈ o.looksAt l.toArray → RelV w (OO fo m) m (a.tmps.getD t undef) (getF t (frAt ks p r.fr)) := by
      intro t htl
      rw [getF_frAt]
      cases hw : writes l t with
      | none =>
        rw [ht.get_old t i r htri (fun j z _ hj => writes_none hw (hunzip j z hj))]
        exact M.todo t (fun j o'' hj hd => (writes_none hw hj hd).elim)
      | some j =>
        obtain ⟨oj, hoj, hdj⟩ := writes_some hw
        obtain ⟨rj, htrj⟩ := htr j (List.getElem?_eq_some_iff.1 hoj).1
        obtain ⟨gj, hgj⟩ := hzip j oj hoj
        rcases i3 t htl j hw with ⟨hlt, e, he, hb, hon⟩ | ⟨hlt, oj', hoj', e, he, hb, hon⟩
        · rw [ht.get_new t i j r rj (oj, gj) htri hlt htrj hgj hdj (fun j' z hjj _ hj' hd' => by
            have := uniq t j' z.1 (hunzip j' z hj') hd'
            rw [hw] at this
            have := Option.some.inj this
            omega)]
          exact M.done j oj rj t hoj htrj hdj (by rw [← hon]; exact h3 e he hb)
        · rw [ht.get_old t i r htri (fun j' z hj' hz' hd' => by
            have := uniq t j' z.1 (hunzip j' z hz') hd'
            rw [hw] at this
            have := Option.some.inj this
            omega)]
          refine M.todo t (fun j' o'' hj' hd' => ?_)
          have := uniq t j' o'' hj' hd'
          rw [hw] at this
          obtain rfl := Option.some.inj this
          cases hb' : listed.getD j false with
          | false => rfl
          | true =>
            rw [hoj] at hoj'
            obtain rfl := Option.some.inj hoj'
            have := M.closed j oj hoj hb' e he hb
            rw [hon, h1] at this
            cases this
    have hne : ∀ (v : Value) (t : Nat), o.dst ≠ some t → (a.put o.dst v).tmps.getD t undef = a.tmps.getD t undef := by
      intro v t hn
      cases hdd : o.dst with
      | none => rfl
      | some d =>
        have : d ≠ t := fun e => hn (by rw [hdd, e])
        simp [Act.put, Array.getElem?_setIfInBounds_ne this]
    have hset : ∀ j, (listed.setIfInBounds i true).getD j false = true ↔ (j = i ∨ listed.getD j false = true) := by
      intro j
      by_cases hj : j = i
      · subst hj
        have hjs : j < listed.size := by have := M.lsz; omega
        simp [Array.getD, hjs]
      · have : ¬ i = j := fun e => hj e.symm
        simp only [Array.getD_eq_getD_getElem?, Array.getElem?_setIfInBounds_ne this, hj, false_or]
    have next : ∀ (m' : Nat → Option Value) (p' : Nat) (v : Value) (w' : World), p ≤ p' → (∀ q, dd = some q → p' ≤ q) → Inv fo m' (Ls p') w' → Step w (own m) w' (own m') → RelV w' (OO fo m') m' v r.x → r.birth = p' ∨ r.birth ≤ p → (∀ x β, β ≤ p → ∀ u, RelV w (OO fo m) m u (killR ks β p x) → (∃ t, t < n ∧ u = a.tmps.getD t undef ∧ ((∃ (j : Nat) (oj : Oper) (rj : Rec), l[j]? = some oj ∧ tr[j]? = some rj ∧ oj.dst = some t ∧ listed.getD j false = true ∧ x = rj.x ∧ β = rj.birth) ∨ ((∀ (j : Nat) (o : Oper), l[j]? = some o → o.dst = some t → listed.getD j false = false) ∧ x = (getM t fr0).2 ∧ β = (getM t fr0).1) ∨ ((t, β, x) ∈ fr0 ∧ ∀ (j : Nat) (o : Oper), l[j]? = some o → o.dst ≠ some t))) → RelV w' (OO fo m') m' u (killR ks β p' x)) →
        (p' ≤ lds.length) → (∀ q j, lds[q]? = some j → ((listed.setIfInBounds i true).getD j false = true ↔ q < p')) → RelV w' (OO fo m') m' v (killR ks r.birth p' r.x) → wpAnyIn (wr fo.r) 0 P .any l.toArray (Post fo n m0 w0 Q) fuel (listed.setIfInBounds i true) (a.put o.dst v) w' := by
      intro m' p' v w' hpp hdp' hinv hst hv hb hold hple' hlouds' hvk
      refine ih m' p' (listed.setIfInBounds i true) (un.erase i) (a.put o.dst v) w' ?_ ?_ hdp' ?_
      · have hmem := hall i hil h1
        rw [List.length_erase_of_mem hmem]; omega
      · intro j hj hb
        have hnj : ¬ ((listed.setIfInBounds i true).getD j false = true) := by rw [hb]; simp
        rw [hset] at hnj
        have hji : j ≠ i := fun e => hnj (.inl e)
        have hb2 : listed.getD j false = false := by
          cases hx : listed.getD j false with
          | false => rfl
          | true => exact (hnj (.inr hx)).elim
        exact (List.mem_erase_of_ne hji).2 (hall j hj hb2)
      · refine ⟨?_, ?_, hinv, M.step.trans hst, by simpa using M.lsz, hple', hlouds', ?_, ?_, ?_, ?_, ?_⟩
        · cases hdd : o.dst <;> simp [Act.put, M.size]
        · cases hdd : o.dst <;> simp [Act.put, M.defers]
        · intro j rj hrj hbj
          rcases (hset j).1 hbj with rfl | hbj'
          · rw [htri] at hrj
            obtain rfl := Option.some.inj hrj
            rcases hb with h | h <;> omega
          · exact Nat.le_trans (M.born j rj hrj hbj') hpp
        · intro j oj rj d hoj htrj hdj hbj
          by_cases hji : j = i
          · subst hji
            rw [hio] at hoj
            obtain rfl := Option.some.inj hoj
            rw [htri] at htrj
            obtain rfl := Option.some.inj htrj
            have hdn := hdl j o d hio hdj
            have : (a.put o.dst v).tmps.getD d undef = v := by
              have hsz := M.size
              rw [hdj]
              simp [Act.put, Array.getD, hsz, hdn]
            rw [this]; exact hvk
          · have hnd' : o.dst ≠ some d := by
              intro e
              have q1 := uniq d i o hio e
              have q2 := uniq d j oj hoj hdj
              rw [q1] at q2
              exact hji (Option.some.inj q2).symm
            have hbj' := ((hset j).1 hbj).resolve_left hji
            rw [hne v d hnd']
            exact hold _ _ (M.born j rj htrj hbj') _ (M.done j oj rj d hoj htrj hdj hbj') ⟨d, hdl j oj d hoj hdj, rfl, .inl ⟨j, oj, rj, hoj, htrj, hdj, hbj', rfl, rfl⟩⟩
        · intro t hall'
          have hall2 : ∀ (j : Nat) (oj : Oper), l[j]? = some oj → oj.dst = some t → listed.getD j false = false := by
            intro j oj hoj hdj
            have := hall' j oj hoj hdj
            cases hx : listed.getD j false with
            | false => rfl
            | true => have h4 := (hset j).2 (.inr hx); rw [this] at h4; cases h4
          have hnd' : o.dst ≠ some t := by
            intro e
            have := hall' i o hio e
            have h4 := (hset i).2 (.inl rfl)
            rw [this] at h4; cases h4
          rw [hne v t hnd']
          by_cases htn : t < n
          · exact hold _ _ (by rw [getM0]; omega) _ (M.todo t hall2) ⟨t, htn, rfl, .inr (.inl ⟨hall2, rfl, rfl⟩)⟩
          · have : (getM t fr0).2 = .any := by
              have : ∀ fr : FrM, (∀ e ∈ fr, e.1 < n) → (getM t fr).2 = .any := by
                intro fr hf
                induction fr with
                | nil => rfl
                | cons e fr ih' =>
                  obtain ⟨k', b', x'⟩ := e
                  rw [getM]
                  split
                  · rename_i hk
                    have h9 : k' < n := hf (k', b', x') List.mem_cons_self
                    exact absurd (hk ▸ h9) htn
                  · exact ih' (fun e he => hf e (List.mem_cons_of_mem _ he))
              exact this fr0 hfr
            rw [this, killR_any]
            exact .any _
        · intro e he hnw
          rw [hne v e.1 (hnw i o hio)]
          exact hold _ _ (by rw [hf0 e he]; omega) _ (M.rest e he hnw) ⟨e.1, hfr e he, rfl, .inr (.inr ⟨he, hnw⟩)⟩
        · intro j oj hoj hbj e he hbd
          rw [hset]
          rcases (hset j).1 hbj with rfl | hbj'
          · rw [hio] at hoj
            obtain rfl := Option.some.inj hoj
            exact .inr (h3 e he hbd)
          · exact .inr (M.closed j oj hoj hbj' e he hbd)
    unfold wpOpIn
    rw [h2]
    simp only
    cases hlo : r.loud with
    | false =>
      obtain ⟨g1, g2, g3, g4⟩ := ha2 hlo
      have hpl : r.lo ≤ p := by
        refine Classical.byContradiction fun hn => ?_
        have hp1 : p < lds.length := by omega
        have hm : lds[p] ∈ lds.take r.lo := by
          rw [List.mem_take_iff_getElem]
          exact ⟨p, by omega, rfl⟩
        have := (M.louds p _ (List.getElem?_eq_getElem hp1)).1 (hancs _ (g3 _ hm))
        omega
      have hph : p ≤ r.hi := by
        refine Classical.byContradiction fun hn => ?_
        have hp1 : r.hi < lds.length := by have := M.ple; omega
        have hl := hloud r.hi _ (List.getElem?_eq_getElem hp1)
        have hm : lds[r.hi] ∈ lds.drop r.hi := by
          rw [List.mem_drop_iff_getElem]
          exact ⟨0, by omega, by simp⟩
        have hb := (M.louds r.hi _ (List.getElem?_eq_getElem hp1)).2 (by omega)
        have := hancl _ _ (List.getElem?_eq_getElem hl.1) hb i (g4 _ hm)
        rw [h1] at this
        cases this
      have hrun := hs2 hlo p hpl hph hdp fo m a w M.inv hslots (wpAnyIn (wr fo.r) 0 P .any l.toArray (Post fo n m0 w0 Q) fuel (listed.setIfInBounds i true)) (Post fo n m0 w0 Q) (fun v w' hr hi' st => by
        have hkeep : Keep w (OO fo m) w' := ⟨st.size, fun b hb ho => st.block b hb (fun h => ho (.inl h))⟩
        have mono : ∀ {v : Value} {x : V}, RelV w (OO fo m) m v x → RelV w' (OO fo m) m v x := fun h => h.mono hkeep (fun _ _ h => h) (fun _ _ h => h)
        have hbirth : r.birth ≤ p := by unfold Rec.birth; rw [hlo]; exact hpl
        refine next m p v w' (Nat.le_refl _) hdp hi' st hr (.inr hbirth) (fun x β _ u hu _ => mono hu) M.ple (fun q j hq => ?_) ?_
        · rw [hset, ← M.louds q j hq]
          constructor
          · rintro (rfl | h)
            · exact (g2 (List.mem_of_getElem? hq)).elim
            · exact h
          · exact .inr
        · exact killR_rel _ hr)
      split
      · rename_i hw; rw [if_pos hw] at hrun; exact hrun
      · rename_i hw; rw [if_neg hw] at hrun; exact ⟨fun _ _ => trivial, hrun⟩
    | true =>
      obtain ⟨g1, g2⟩ := ha1 hlo
      have hqp : r.q = p := by
        have e1 : ¬ r.q < p := fun h => by
          have := (M.louds r.q i g1).2 h
          rw [h1] at this; cases this
        refine Classical.byContradiction fun hn => ?_
        have hlt : p < r.q := by omega
        have hp1 : p < lds.length := by have := (List.getElem?_eq_some_iff.1 g1).1; omega
        have hm : lds[p] ∈ lds.take r.q := by
          rw [List.mem_take_iff_getElem]
          exact ⟨p, by omega, rfl⟩
        have := (M.louds p _ (List.getElem?_eq_getElem hp1)).1 (hancs _ (g2 _ hm))
        omega
      have hqp' := hqp
      subst hqp
      have hs1' := hs1 hlo
      let cur : Nat → V := fun t => match writes l t with
        | some j => if listed.getD j false = true then (match tr[j]? with | some rj => killR ks rj.birth r.q rj.x | none => .any) else killR ks (getM t fr0).1 r.q (getM t fr0).2
        | none => killR ks (getM t fr0).1 r.q (getM t fr0).2
      have hcur : ∀ t, RelV w (OO fo m) m (a.tmps.getD t undef) (cur t) := by
        intro t
        simp only [cur]
        cases hw : writes l t with
        | none => exact M.todo t (fun j o'' hj hd => (writes_none hw hj hd).elim)
        | some j =>
          obtain ⟨oj, hoj, hdj⟩ := writes_some hw
          obtain ⟨rj, htrj⟩ := htr j (List.getElem?_eq_some_iff.1 hoj).1
          simp only [htrj]
          split
          · rename_i hb; exact M.done j oj rj t hoj htrj hdj hb
          · rename_i hb
            refine M.todo t (fun j' o'' hj' hd' => ?_)
            have := uniq t j' o'' hj' hd'
            rw [hw] at this
            obtain rfl := Option.some.inj this
            simpa using hb
      let base : List (Nat × V) := (fr0.filter fun e => (writes l e.1).isNone).map fun e => (e.1, killR ks e.2.1 r.q e.2.2)
      let fr2 : List (Nat × V) := (List.range' 0 n).map (fun t => (t, cur t)) ++ base
      have hget : ∀ t, t < n → getF t fr2 = cur t := fun t ht' => getF_range n 0 (Nat.zero_le _) (by omega)
      have g2' : G fo n m ⟨fr2, Ls r.q⟩ a w := by
        refine ⟨M.size, ?_, M.inv, M.defers⟩
        intro t x hx
        rcases List.mem_append.1 hx with hx | hx
        · obtain ⟨t', ht', e⟩ := List.mem_map.1 hx
          simp only [Prod.mk.injEq] at e
          obtain ⟨rfl, rfl⟩ := e
          have : t' < n := by have := List.mem_range'.1 ht'; obtain ⟨_, _, _⟩ := this; omega
          exact ⟨this, hcur t'⟩
        · obtain ⟨e, he, hex⟩ := List.mem_map.1 hx
          simp only [Prod.mk.injEq] at hex
          obtain ⟨rfl, rfl⟩ := hex
          obtain ⟨he1, he2⟩ := List.mem_filter.1 he
          have hwn : writes l e.1 = none := by simpa using he2
          exact ⟨hfr e he1, M.rest e he1 (fun j oj hj => writes_none hwn hj)⟩
      have hlook : ∀ t, t ∈ o.looksAt l.toArray → getF t fr2 = getF t (frAt ks r.q r.fr) := by
        intro t htl
        rw [hget t (hlk o (List.mem_of_getElem? hio) t htl), getF_frAt]
        simp only [cur]
        cases hw : writes l t with
        | none => rw [ht.get_old t i r htri (fun j z _ hj => writes_none hw (hunzip j z hj))]
        | some j =>
          obtain ⟨oj, hoj, hdj⟩ := writes_some hw
          obtain ⟨rj, htrj⟩ := htr j (List.getElem?_eq_some_iff.1 hoj).1
          obtain ⟨gj, hgj⟩ := hzip j oj hoj
          simp only [htrj]
          rcases i3 t htl j hw with ⟨hlt, e, he, hb, hon⟩ | ⟨hlt, oj', hoj', e, he, hb, hon⟩
          · rw [if_pos (by rw [← hon]; exact h3 e he hb), ht.get_new t i j r rj (oj, gj) htri hlt htrj hgj hdj (fun j' z hjj _ hj' hd' => by
              have := uniq t j' z.1 (hunzip j' z hj') hd'
              rw [hw] at this
              have := Option.some.inj this
              omega)]
          · rw [if_neg, ht.get_old t i r htri (fun j' z hj' hz' hd' => by
              have := uniq t j' z.1 (hunzip j' z hz') hd'
              rw [hw] at this
              have := Option.some.inj this
              omega)]
            intro hb'
            rw [hoj] at hoj'
            obtain rfl := Option.some.inj hoj'
            have := M.closed j oj hoj hb' e he hb
            rw [hon, h1] at this
            cases this
      rcases hs1' with ⟨q, hdd, hlt⟩ | ⟨hdd, y, L', hlopP, hpan⟩ | ⟨hdd, hqk, hlop⟩
      · have := hdp q hdd
        omega
      · obtain ⟨hw, hrun⟩ := hlopP fr2 hlook fo m a w g2'
        rw [if_pos hw]
        refine hrun _ _ fun ch w' m' hch hi' st => ?_
        exact .of m' (.pan y) ⟨[], L'⟩ hpan ⟨M.size, by simp, hi', M.defers⟩ hch (M.step.trans st)
      have fin : ∀ (m' : Nat → Option Value) (v : Value) (w' : World), RelV w' (OO fo m') m' v r.x → G fo n m' ⟨killO (ks.getD r.q none) fr2, Ls (r.q + 1)⟩ a w' → Step w (own m) w' (own m') → wpAnyIn (wr fo.r) 0 P .any l.toArray (Post fo n m0 w0 Q) fuel (listed.setIfInBounds i true) (a.put o.dst v) w' := by
       intro m' v w' hr g' st
       exact next m' (r.q + 1) v w' (by omega) (fun q hq => by have h1 := hdp q hq; have h2 : q ≠ r.q := fun e => hdd (by rw [hq, e]); omega) g'.inv st hr (.inl (by unfold Rec.birth; rw [hlo]; rfl)) (by
        intro x β hβ u hu ⟨t, htn, hut, hwhich⟩
        rw [killR_succ hβ hqk]
        subst hut
        have hmem : ∀ y, (t, y) ∈ fr2 → RelV w' (OO fo m') m' (a.tmps.getD t undef) (kO (ks.getD r.q none) y) := by
          intro y hy
          exact (g'.fr t _ (List.mem_map.2 ⟨(t, y), hy, rfl⟩)).2
        have hcurm : (t, cur t) ∈ fr2 := List.mem_append_left _ (List.mem_map.2 ⟨t, List.mem_range'.2 ⟨t, by omega, by omega⟩, rfl⟩)
        rcases hwhich with ⟨j, oj, rj, hoj, htrj, hdj, hb, rfl, rfl⟩ | ⟨hall2, rfl, rfl⟩ | ⟨he, hnw⟩
        · have hw := uniq t j oj hoj hdj
          have : cur t = killR ks rj.birth r.q rj.x := by simp only [cur, hw, if_pos hb, htrj]
          rw [← this]; exact hmem _ hcurm
        · have : cur t = killR ks (getM t fr0).1 r.q (getM t fr0).2 := by
            simp only [cur]
            cases hw : writes l t with
            | none => rfl
            | some j =>
              obtain ⟨oj, hoj, hdj⟩ := writes_some hw
              simp [hall2 j oj hoj hdj]
          rw [← this]; exact hmem _ hcurm
        · refine hmem _ (List.mem_append_right _ (List.mem_map.2 ⟨(t, β, x), List.mem_filter.2 ⟨he, ?_⟩, rfl⟩))
          cases hw : writes l t with
          | none => simp [hw]
          | some j =>
            obtain ⟨oj, hoj, hdj⟩ := writes_some hw
            exact (hnw j oj hoj hdj).elim)
        (by have := (List.getElem?_eq_some_iff.1 g1).1; omega) (fun q j hq => by
          rw [hset, M.louds q j hq]
          constructor
          · rintro (rfl | h)
            · have e1 := List.getElem?_eq_some_iff.1 hq
              have e2 := List.getElem?_eq_some_iff.1 g1
              have := (List.getElem_inj hnd).1 (e1.2.trans e2.2.symm)
              omega
            · omega
          · intro h
            rcases Nat.lt_or_ge q r.q with h' | h'
            · exact .inr h'
            · obtain rfl : q = r.q := by omega
              rw [g1] at hq
              exact .inl (Option.some.inj hq).symm)
        (by rw [killR_self (by unfold Rec.birth; rw [hlo]; exact Nat.le_refl _)]; exact hr)
      rcases hlop fr2 hlook fo m a w g2' with ⟨hw, hrun⟩ | ⟨hw, hk0, hL0, hr⟩
      · rw [if_pos hw]
        exact hrun _ _ fun v w' m' hr g' st => fin m' v w' hr g' st
      · rw [if_neg (by rw [hw]; simp)]
        refine ⟨fun _ _ => trivial, fin m undef w hr ?_ (Step.refl w _)⟩
        rw [hk0, hL0, killO_none]
        exact g2'
def EffP (P : Program) (ops : Array Oper) (o : Oper) (s : St) (K : V → Option Nat → Heap → Prop) (KP : V → Heap → Prop) : Prop :=
  (∃ x k L', (∀ n, LOp P n ops o s.fr s.L k x L') ∧ K x k L') ∨ (∃ y L', (∀ n, LOpP P n ops o s.fr s.L y L') ∧ KP y L')
theorem EffP.ret {ops : Array Oper} {o : Oper} {s : St} {K : V → Option Nat → Heap → Prop} {KP : V → Heap → Prop} {x : V} {k : Option Nat} {L' : Heap} (h : ∀ n, LOp P n ops o s.fr s.L k x L') (hk : K x k L') : EffP P ops o s K KP := .inl ⟨x, k, L', h, hk⟩
theorem EffP.pan {ops : Array Oper} {o : Oper} {s : St} {K : V → Option Nat → Heap → Prop} {KP : V → Heap → Prop} {y : V} {L' : Heap} (h : ∀ n, LOpP P n ops o s.fr s.L y L') (hk : KP y L') : EffP P ops o s K KP := .inr ⟨y, L', h, hk⟩
def dAllC (P : Program) (ops : Array Oper) (c : Nat) (ks : List (Option Nat)) (Ls : List Heap) : List Dfr → Prop
  | [] => True
  | d :: ds => allP (min d.hi c - d.lo) (d.lo + 1) (fun p => qAt P ops d.o ⟨frAt ks p d.fr, Ls.getD p []⟩ d.x d.told) ∧ dAllC P ops c ks Ls ds
def runX (P : Program) (ops : Array Oper) (c : Nat) : List (Oper × Option (Nat × Nat)) → FrM → List (Option Nat) → List Heap → List V → Prop
  | [], _, _, _, _ => True
  | (o, none) :: rest, fr, ks, Ls, us => runX P ops c rest (putM fr o.dst (ks.length + 1) .any) (ks ++ [none]) (Ls ++ [[]]) us
  | (o, some (lo, hi)) :: rest, fr, ks, Ls, us =>
    if c < lo then runX P ops c rest (putM fr o.dst lo .any) ks Ls us
    else if isCall o then
      match us with
      | [] => False
      | u :: us' => match cv P ops ⟨frAt ks lo fr, Ls.getD lo []⟩ o u with
        | some (x, cd) => cd ∧ allP (min hi c - lo) (lo + 1) (fun p => qAt P ops o ⟨frAt ks p fr, Ls.getD p []⟩ x (some u)) ∧ runX P ops c rest (putM fr o.dst lo x) ks Ls us'
        | none => False
    else
      match qv P ops ⟨frAt ks lo fr, Ls.getD lo []⟩ o with
      | some (x, cd) => cd ∧ allP (min hi c - lo) (lo + 1) (fun p => qAt P ops o ⟨frAt ks p fr, Ls.getD p []⟩ x none) ∧ runX P ops c rest (putM fr o.dst lo x) ks Ls us
      | none => False
def runP (P : Program) (ops : Array Oper) (ov : List Nat) : List (Oper × Option (Nat × Nat)) → FrM → List (Option Nat) → List Heap → List V → List Dfr → (FrM → List (Option Nat) → List Heap → Prop) → (V → Heap → Prop) → Prop
  | [], fr, ks, Ls, _, ds, K, _ => dAll P ops ks Ls ds ∧ K fr ks Ls
  | (o, none) :: rest, fr, ks, Ls, us, ds, K, KP =>
    match (if ov.any (fun t => o.dst == some t) then none else lv P ops ⟨frAt ks ks.length fr, Ls.getD ks.length []⟩ o) with
    | some (x, k, L', c) => c ∧ runP P ops ov rest (putM fr o.dst (ks.length + 1) x) (ks ++ [k]) (Ls ++ [L']) us ds K KP
    | none => EffP P ops o ⟨frAt ks ks.length fr, Ls.getD ks.length []⟩
        (fun x k L' => runP P ops ov rest (putM fr o.dst (ks.length + 1) x) (ks ++ [k]) (Ls ++ [L']) us ds K KP)
        (fun y L' => KP y L' ∧ dAllC P ops ks.length ks Ls ds ∧ runX P ops ks.length rest (putM fr o.dst (ks.length + 1) .any) (ks ++ [none]) (Ls ++ [[]]) us)
  | (o, some (lo, hi)) :: rest, fr, ks, Ls, us, ds, K, KP =>
    if isCall o then
      match us with
      | [] => False
      | u :: us' => match cv P ops ⟨frAt ks ks.length fr, Ls.getD ks.length []⟩ o u with
        | some (x, c) => c ∧ allP (ks.length - lo) lo (fun p => qAt P ops o ⟨frAt ks p fr, Ls.getD p []⟩ x (some u)) ∧
            runP P ops ov rest (putM fr o.dst lo x) ks Ls us' (if ks.length < hi then ⟨o, fr, x, ks.length, hi, some u⟩ :: ds else ds) K KP
        | none => False
    else
      match qv P ops ⟨frAt ks ks.length fr, Ls.getD ks.length []⟩ o with
      | some (x, c) => c ∧ allP (ks.length - lo) lo (fun p => qAt P ops o ⟨frAt ks p fr, Ls.getD p []⟩ x none) ∧
          runP P ops ov rest (putM fr o.dst lo x) ks Ls us (if ks.length < hi then ⟨o, fr, x, ks.length, hi, none⟩ :: ds else ds) K KP
      | none => False
theorem runX_tr {ops : Array Oper} {c : Nat} : ∀ (l : List (Oper × Option (Nat × Nat))) (fr : FrM) (ks : List (Option Nat)) (Ls : List Heap) (us : List V), Ls.length = ks.length + 1 → c < ks.length → runX P ops c l fr ks Ls us →
    ∃ tr frE ks1 Ls1, TrM l fr ks.length tr frE (ks ++ ks1).length ∧ ∀ (i : Nat) (r : Rec) (z : Oper × Option (Nat × Nat)), tr[i]? = some r → l[i]? = some z → SemP P n Q ops (some c) (ks ++ ks1) (fun p => (Ls ++ Ls1).getD p []) r z.1
  | [], fr, ks, Ls, us, hl, hc, h => by
    refine ⟨[], fr, [], [], ?_, by simp⟩
    simp only [List.append_nil]; exact .nil fr ks.length
  | (o, none) :: rest, fr, ks, Ls, us, hl, hc, h => by
    rw [runX] at h
    obtain ⟨tr, frE, ks1, Ls1, h1, h2⟩ := runX_tr rest _ _ _ us (by simp [hl]) (by simp; omega) h
    rw [List.append_assoc] at h1
    simp only [List.append_assoc, List.length_append, List.length_cons, List.length_nil] at h1 h2
    refine ⟨⟨fr, .any, 0, 0, true, ks.length⟩ :: tr, frE, [none] ++ ks1, [[]] ++ Ls1, .loud (by simpa [Nat.add_comm 1] using h1), ?_⟩
    intro i r z hi hz
    cases i with
    | zero =>
      simp only [List.getElem?_cons_zero, Option.some.injEq] at hi hz
      subst hi; subst hz
      exact ⟨fun _ => .inl ⟨c, rfl, hc⟩, (fun h => by cases h)⟩
    | succ i => exact h2 i r z (by simpa using hi) (by simpa using hz)
  | (o, some (lo, hi)) :: rest, fr, ks, Ls, us, hl, hc, h => by
    have key : ∀ (x : V) (us' : List V), (∀ p, lo ≤ p → p ≤ hi → p ≤ c → YOp P ops o ⟨frAt ks p fr, Ls.getD p []⟩ x) → runX P ops c rest (putM fr o.dst lo x) ks Ls us' →
        ∃ tr frE ks1 Ls1, TrM ((o, some (lo, hi)) :: rest) fr ks.length tr frE (ks ++ ks1).length ∧ ∀ (i : Nat) (r : Rec) (z : Oper × Option (Nat × Nat)), tr[i]? = some r → ((o, some (lo, hi)) :: rest)[i]? = some z → SemP P n Q ops (some c) (ks ++ ks1) (fun p => (Ls ++ Ls1).getD p []) r z.1 := by
      intro x us' hy hr
      obtain ⟨tr, frE, ks1, Ls1, h1, h2⟩ := runX_tr rest _ _ _ us' hl hc hr
      refine ⟨⟨fr, x, lo, hi, false, ks.length⟩ :: tr, frE, ks1, Ls1, .quiet h1, ?_⟩
      intro i r z hi' hz
      cases i with
      | zero =>
        simp only [List.getElem?_cons_zero, Option.some.injEq] at hi' hz
        subst hi'; subst hz
        refine ⟨(fun h => by cases h), fun _ p hp1 hp2 hp3 => ?_⟩
        simp only at hp1 hp2 ⊢
        have := hp3 c rfl
        rw [frAt_pre (by omega), getD_pre (by omega)]
        exact hy p hp1 hp2 this
      | succ i => exact h2 i r z (by simpa using hi') (by simpa using hz)
    rw [runX.eq_def] at h
    simp only at h
    by_cases hlo : c < lo
    · rw [if_pos hlo] at h
      exact key .any us (fun p h1 h2 h3 => by omega) h
    · rw [if_neg hlo] at h
      cases hcall : isCall o with
      | true =>
        rw [if_pos hcall] at h
        cases us with
        | nil => exact h.elim
        | cons u us' =>
          simp only at h
          split at h
          · rename_i x cd hcv
            refine key x us' (fun p h1 h2 h3 => ?_) h.2.2
            rcases Nat.lt_or_ge lo p with hlt | hge
            · exact qAt_sound (allP_at h.2.1 p (by omega) (by omega))
            · obtain rfl : p = lo := by omega
              exact cv_sound hcv h.1
          · exact h.elim
      | false =>
        simp only [hcall, Bool.false_eq_true, if_false] at h
        split at h
        · rename_i x cd hqv
          refine key x us (fun p h1 h2 h3 => ?_) h.2.2
          rcases Nat.lt_or_ge lo p with hlt | hge
          · exact qAt_sound (allP_at h.2.1 p (by omega) (by omega))
          · obtain rfl : p = lo := by omega
            exact qv_sound hqv h.1
        · exact h.elim
theorem dAllC_pre {ops : Array Oper} {c : Nat} {ks ks' : List (Option Nat)} {Ls Ls' : List Heap} (h1 : c ≤ ks.length) (h2 : c < Ls.length) : ∀ {ds : List Dfr}, dAllC P ops c ks Ls ds → dAllC P ops c (ks ++ ks') (Ls ++ Ls') ds
  | [], _ => trivial
  | d :: ds, h => by
    refine ⟨?_, dAllC_pre h1 h2 h.2⟩
    have key : ∀ k p (f g : Nat → Prop), (∀ i, p ≤ i → i < p + k → f i → g i) → allP k p f → allP k p g := by
      intro k
      induction k with
      | zero => intros; trivial
      | succ k ih => intro p f g hfg hf; exact ⟨hfg p (Nat.le_refl _) (by omega) hf.1, ih (p + 1) f g (fun i a b => hfg i (by omega) (by omega)) hf.2⟩
    refine key _ _ _ _ (fun i a b hi => ?_) h.1
    rw [frAt_pre (by omega), getD_pre (by omega)]
    exact hi
theorem runP_tr {ops : Array Oper} {ov : List Nat} {K : FrM → List (Option Nat) → List Heap → Prop} : ∀ (l : List (Oper × Option (Nat × Nat))) (fr : FrM) (ks : List (Option Nat)) (Ls : List Heap) (us : List V) (ds : List Dfr), Ls.length = ks.length + 1 → runP P ops ov l fr ks Ls us ds K (fun y L' => Q (.pan y) ⟨[], L'⟩) →
    ∃ dd tr frE ks1 Ls1, TrM l fr ks.length tr frE (ks ++ ks1).length ∧ (∀ (i : Nat) (r : Rec) (z : Oper × Option (Nat × Nat)), tr[i]? = some r → l[i]? = some z → SemP P n Q ops dd (ks ++ ks1) (fun p => (Ls ++ Ls1).getD p []) r z.1) ∧
      (dd = none → dAll P ops (ks ++ ks1) (Ls ++ Ls1) ds ∧ K frE (ks ++ ks1) (Ls ++ Ls1)) ∧ ∀ c, dd = some c → dAllC P ops c (ks ++ ks1) (Ls ++ Ls1) ds ∧ ks.length ≤ c ∧ c < (ks ++ ks1).length
  | [], fr, ks, Ls, us, ds, hl, h => by
    refine ⟨none, [], fr, [], [], ?_, by simp, fun _ => ⟨?_, ?_⟩, fun _ e => by cases e⟩
    · simp only [List.append_nil]; exact .nil fr ks.length
    · simpa using h.1
    · simpa using h.2
  | (o, none) :: rest, fr, ks, Ls, us, ds, hl, h => by
    have key : ∀ (x : V) (k : Option Nat) (L' : Heap), LOp P n ops o (frAt ks ks.length fr) (Ls.getD ks.length []) k x L' → runP P ops ov rest (putM fr o.dst (ks.length + 1) x) (ks ++ [k]) (Ls ++ [L']) us ds K (fun y L' => Q (.pan y) ⟨[], L'⟩) →
        ∃ dd tr frE ks1 Ls1, TrM ((o, none) :: rest) fr ks.length tr frE (ks ++ ks1).length ∧ (∀ (i : Nat) (r : Rec) (z : Oper × Option (Nat × Nat)), tr[i]? = some r → ((o, none) :: rest)[i]? = some z → SemP P n Q ops dd (ks ++ ks1) (fun p => (Ls ++ Ls1).getD p []) r z.1) ∧
          (dd = none → dAll P ops (ks ++ ks1) (Ls ++ Ls1) ds ∧ K frE (ks ++ ks1) (Ls ++ Ls1)) ∧ ∀ c, dd = some c → dAllC P ops c (ks ++ ks1) (Ls ++ Ls1) ds ∧ ks.length ≤ c ∧ c < (ks ++ ks1).length := by
      intro x k L' hlop hr
      obtain ⟨dd, tr, frE, ks1, Ls1, h1, h2, h3, h4⟩ := runP_tr rest _ _ _ us ds (by simp [hl]) hr
      rw [List.append_assoc] at h1 h3
      simp only [List.append_assoc, List.length_append, List.length_cons, List.length_nil] at h1 h2 h3 h4
      refine ⟨dd, ⟨fr, x, 0, 0, true, ks.length⟩ :: tr, frE, [k] ++ ks1, [L'] ++ Ls1, .loud (by simpa [Nat.add_comm 1] using h1), ?_, h3, fun c hc => ?_⟩
      · intro i r z hi hz
        cases i with
        | zero =>
          simp only [List.getElem?_cons_zero, Option.some.injEq] at hi hz
          subst hi; subst hz
          refine ⟨fun _ => .inr (.inr ⟨fun e => ?_, by simp, ?_⟩), (fun h => by cases h)⟩
          · have := (h4 _ e).2.1
            simp only at this
            omega
          · simp only
            rw [frAt_pre (Nat.le_refl _), getD_pre (by omega)]
            have e1 : (ks ++ ([k] ++ ks1)).getD ks.length none = k := by
              simp [List.getD_eq_getElem?_getD]
            have e2 : (Ls ++ ([L'] ++ Ls1)).getD (ks.length + 1) [] = L' := by
              simp [List.getD_eq_getElem?_getD, ← hl]
            rw [e1, e2]
            exact hlop
        | succ i => exact h2 i r z (by simpa using hi) (by simpa using hz)
      · obtain ⟨q1, q2, q3⟩ := h4 c hc
        exact ⟨q1, by omega, by simpa [Nat.add_comm 1, Nat.add_assoc] using q3⟩
    rw [runP] at h
    split at h
    · rename_i x k L' c hst
      split at hst
      · cases hst
      · exact key x k L' (LOp.of (n := n) hst h.1) h.2
    · rcases h with ⟨x, k, L', hlop, hr⟩ | ⟨y, L', hlop, hq, hds, hr⟩
      · exact key x k L' (hlop n) hr
      · obtain ⟨tr, frE, ks1, Ls1, h1, h2⟩ := runX_tr (n := n) (Q := Q) rest _ _ _ us (by simp [hl]) (by simp) hr
        rw [List.append_assoc] at h1
        simp only [List.append_assoc, List.length_append, List.length_cons, List.length_nil] at h1 h2
        refine ⟨some ks.length, ⟨fr, .any, 0, 0, true, ks.length⟩ :: tr, frE, [none] ++ ks1, [[]] ++ Ls1, .loud (by simpa [Nat.add_comm 1] using h1), ?_, (fun e => by cases e), fun c hc => ?_⟩
        · intro i r z hi hz
          cases i with
          | zero =>
            simp only [List.getElem?_cons_zero, Option.some.injEq] at hi hz
            subst hi; subst hz
            refine ⟨fun _ => .inr (.inl ⟨rfl, y, L', ?_, hq⟩), (fun h => by cases h)⟩
            simp only
            rw [frAt_pre (Nat.le_refl _), getD_pre (by omega)]
            exact hlop n
          | succ i => exact h2 i r z (by simpa using hi) (by simpa using hz)
        · obtain rfl := Option.some.inj hc
          exact ⟨dAllC_pre (Nat.le_refl _) (by omega) hds, Nat.le_refl _, by simp⟩
  | (o, some (lo, hi)) :: rest, fr, ks, Ls, us, ds, hl, h => by
    have key : ∀ (x : V) (t : Option V) (us' : List V), YOp P ops o ⟨frAt ks ks.length fr, Ls.getD ks.length []⟩ x → allP (ks.length - lo) lo (fun p => qAt P ops o ⟨frAt ks p fr, Ls.getD p []⟩ x t) →
        runP P ops ov rest (putM fr o.dst lo x) ks Ls us' (if ks.length < hi then ⟨o, fr, x, ks.length, hi, t⟩ :: ds else ds) K (fun y L' => Q (.pan y) ⟨[], L'⟩) →
        ∃ dd tr frE ks1 Ls1, TrM ((o, some (lo, hi)) :: rest) fr ks.length tr frE (ks ++ ks1).length ∧ (∀ (i : Nat) (r : Rec) (z : Oper × Option (Nat × Nat)), tr[i]? = some r → ((o, some (lo, hi)) :: rest)[i]? = some z → SemP P n Q ops dd (ks ++ ks1) (fun p => (Ls ++ Ls1).getD p []) r z.1) ∧
          (dd = none → dAll P ops (ks ++ ks1) (Ls ++ Ls1) ds ∧ K frE (ks ++ ks1) (Ls ++ Ls1)) ∧ ∀ c, dd = some c → dAllC P ops c (ks ++ ks1) (Ls ++ Ls1) ds ∧ ks.length ≤ c ∧ c < (ks ++ ks1).length := by
      intro x t us' hc ha hr
      obtain ⟨dd, tr, frE, ks1, Ls1, h1, h2, h3, h4⟩ := runP_tr rest _ _ _ us' _ hl hr
      refine ⟨dd, ⟨fr, x, lo, hi, false, ks.length⟩ :: tr, frE, ks1, Ls1, .quiet h1, ?_, fun e => ⟨?_, (h3 e).2⟩, fun c e => ?_⟩
      · intro i r z hi' hz
        cases i with
        | zero =>
          simp only [List.getElem?_cons_zero, Option.some.injEq] at hi' hz
          subst hi'; subst hz
          refine ⟨(fun h => by cases h), fun _ p hp1 hp2 hp3 => ?_⟩
          simp only at hp1 hp2 ⊢
          rcases Nat.lt_trichotomy p ks.length with hlt | heq | hgt
          · rw [frAt_pre (by omega), getD_pre (by omega)]
            exact qAt_sound (allP_at ha p hp1 (by omega))
          · subst heq
            rw [frAt_pre (by omega), getD_pre (by omega)]
            exact hc
          · cases hd : dd with
            | none =>
              have h5 := (h3 hd).1
              rw [if_pos (by omega)] at h5
              exact qAt_sound (allP_at h5.1 p (by simp only; omega) (by simp only; omega))
            | some c =>
              have h5 := (h4 c hd).1
              have h6 := hp3 c hd
              rw [if_pos (by omega)] at h5
              exact qAt_sound (allP_at h5.1 p (by simp only; omega) (by simp only; omega))
        | succ i => exact h2 i r z (by simpa using hi') (by simpa using hz)
      · have h5 := (h3 e).1
        split at h5
        · exact h5.2
        · exact h5
      · obtain ⟨h5, h6⟩ := h4 c e
        refine ⟨?_, h6⟩
        split at h5
        · exact h5.2
        · exact h5
    cases hcall : isCall o with
    | true =>
      cases us with
      | nil => rw [runP, if_pos hcall] at h; exact h.elim
      | cons u us' =>
        rw [runP, if_pos hcall] at h
        split at h
        · rename_i x c hcv
          exact key x (some u) us' (cv_sound hcv h.1) h.2.1 h.2.2
        · exact h.elim
    | false =>
      rw [runP.eq_def] at h
      simp only [hcall, Bool.false_eq_true, if_false] at h
      split at h
      · rename_i x c hqv
        exact key x none us (qv_sound hqv h.1) h.2.1 h.2.2
      · exact h.elim
theorem AWP.regionP0 {id : Nat} {l : List Oper} {s : St} (rg : List (Option (Nat × Nat))) (ov : List Nat) (us : List V) (hm : P.follows .mixedOrders = true) (ok : okM n l rg = true)
    (h : runP P l.toArray ov (l.zip rg) (s.fr.map fun e => (e.1, 0, e.2)) [] [s.L] us [] (fun fr ks Ls => Q .normal ⟨frAt ks ks.length fr, Ls.getD ks.length []⟩) (fun y L' => Q (.pan y) ⟨[], L'⟩)) : AWP P n (.region id l.toArray true) s Q := by
  intro fo m a w _ g
  simp only [okM, Bool.and_eq_true, beq_iff_eq, decide_eq_true_eq, List.all_eq_true] at ok
  obtain ⟨⟨⟨⟨⟨⟨o1, o2⟩, o3⟩, o4⟩, o5⟩, o6⟩, o7⟩ := ok
  obtain ⟨dd, tr, frE, ks, Ls, h1, h2, h3, h4⟩ := runP_tr (n := n) (Q := Q) (l.zip rg) _ [] [s.L] us [] rfl h
  simp only [List.nil_append, List.length_nil] at h1 h2 h3 h4
  have hlds := (okGo_at h1 0 o6).1
  refine wpIn_region_any hm ?_
  have := any_orderP (P := P) (n := n) (Q := Q) (dd := dd) (l := l) (rg := rg) (lds := loudsOf rg) (ks := ks) (Ls := fun p => ([s.L] ++ Ls).getD p []) o3 h1 (fun i r o hr ho => by
      have hil := (List.getElem?_eq_some_iff.1 ho).1
      exact h2 i r (o, rg[i]'(by omega)) hr (by rw [List.getElem?_zip_eq_some]; exact ⟨ho, List.getElem?_eq_getElem (by omega)⟩))
    o1 o2 o4 o5 o6 (fun o ho t ht => by simpa using o7 o ho t ht) rfl (fun q hq => by rw [hlds]; exact (h4 q hq).2.2) (fun e => (h3 e).2) (fo := fo) (m0 := m) (w0 := w)
    (fun e he => by obtain ⟨x, hx, rfl⟩ := List.mem_map.1 he; exact (g.fr x.1 x.2 hx).1) (fun e he => by obtain ⟨x, hx, rfl⟩ := List.mem_map.1 he; rfl)
    l.toArray.size m 0 (Array.replicate l.toArray.size false) (List.range l.length) a { w with drawn := w.drawn + 1 } (by simp) (fun i hi _ => by simpa using hi) (fun q _ => Nat.zero_le _) ?_
  · exact this
  · have st : Step w (own m) { w with drawn := w.drawn + 1 } (own m) := ⟨rfl, rfl, rfl, Nat.le_refl _, fun _ _ _ => rfl, fun _ _ h => h⟩
    have mono : ∀ {v : Value} {x : V}, RelV w (OO fo m) m v x → RelV { w with drawn := w.drawn + 1 } (OO fo m) m v x := fun h => h.mono st.keep (fun _ _ h => h) (fun _ _ h => h)
    have hfalse : ∀ j, (Array.replicate l.toArray.size false).getD j false = false := by intro j; simp [Array.getD]
    refine ⟨g.size, g.defers, g.inv.grown (Nat.le_refl _) (fun _ _ => rfl), st, by simp, Nat.zero_le _, ?_, ?_, ?_, ?_, ?_, ?_⟩
    · intro q j _; rw [hfalse]; simp
    · intro j r _ hb; rw [hfalse] at hb; cases hb
    · intro j o r d _ _ _ hb; rw [hfalse] at hb; cases hb
    · intro t _
      rw [killR_self (Nat.zero_le _)]
      have : (getM t (s.fr.map fun e => (e.1, 0, e.2))).2 = s.get t := by
        unfold St.get
        generalize s.fr = fr
        induction fr with
        | nil => rfl
        | cons e fr ih =>
          obtain ⟨k, x⟩ := e
          simp only [List.map_cons, getM, getF]
          split
          · rfl
          · exact ih
      rw [this]
      exact mono (get_rel g t)
    · intro e he _
      obtain ⟨x, hx, rfl⟩ := List.mem_map.1 he
      rw [killR_self (Nat.zero_le _)]
      exact mono (g.fr x.1 x.2 hx).2
    · intro j o _ hb; rw [hfalse] at hb; cases hb
theorem AWP.regionP {id : Nat} {l : List Oper} {s : St} (rg : List (Option (Nat × Nat))) (ov : List Nat) (us : List V) (hm : P.follows .mixedOrders = true) (ok : okM n l rg = true)
    (h : runP P l.toArray ov (l.zip rg) (s.fr.map fun e => (e.1, 0, e.2)) [] [s.L] us [] (fun fr ks Ls => ∀ bs, Q .normal (St.opn bs ⟨frAt ks ks.length fr, Ls.getD ks.length []⟩)) (fun y L' => ∀ bs, Q (.pan y) (St.opn bs ⟨[], L'⟩))) : AWP P n (.region id l.toArray true) s Q :=
  AWP.opened (AWP.regionP0 rg ov us hm ok h)
theorem LOpP.call {ops : Array Oper} {o : Oper} {s : St} {c : Call} {f : FuncId} {args : List V} {L1 L1' : Heap} {y : V} (hs : List Nat) (hop : o.op = .call c) (h : ACalls P f args L1 (fun r L => r = .pan y ∧ L = L1')) (hc : callee s.ev c = some (f, args)) (hg : o.guard = none)
    (he : enters P f = true) (hL : s.L.filter (fun p => hs.contains p.1) = L1)
    (ho : V.ons (keys L1) args = true ∧ L1.all (fun p => Res.on (keys L1) p.2) = true)
    (hb : ∀ k b ty cs, (k, Res.box (b + 1) ty cs) ∈ L1 → ∃ ty' cs', (k, Res.box (b + 1) ty' cs') ∈ L1')
    (hL2 : (s.L.filter fun p => !hs.contains p.1).all (fun p => Res.on (keys (s.L.filter fun p => !hs.contains p.1) ++ (L1.filterMap fun p => match p.2 with | .box (_ + 1) _ _ => some p.1 | _ => none)) p.2) = true)
    (hk : ∀ k ∈ keys L1', k ∉ keys (s.L.filter fun p => !hs.contains p.1)) :
    LOpP P n ops o s.fr s.L y (L1' ++ s.L.filter fun p => !hs.contains p.1) := by
  intro fr2 hlook fo m a w g
  have he' : ∀ z, z ∈ o.op.operands → St.ev ⟨fr2, s.L⟩ z = s.ev z := by
    intro z hz
    cases z with
    | tmp t => exact hlook t (looks_operand hz)
    | const v => rfl
    | global g => rfl
    | func f => rfl
  have hperm : s.L.Perm (L1 ++ s.L.filter fun p => !hs.contains p.1) := by subst hL; exact (List.filter_append_perm _ s.L).symm
  refine ⟨by simp [Region.wanted, hg], fun next Q' kk => ?_⟩
  refine call_coreP (s := ⟨fr2, s.L⟩) hop ?_ he ho.1 hperm ho.2 (fun p hp => List.all_eq_true.1 hL2 p hp) h ?_ g (fun x' L1'' mm v w' hR hrx hinv stt hbx hkeep hO' => by cases hR.1) (fun x' L1'' mm ch w' hR hch hinv stt hbx hkeep hO' => ?_)
  · rw [← hc]
    unfold callee
    cases hcal : c.callee with
    | value fo =>
      simp only
      rw [he' fo (by rw [hop]; simp [Op.operands, Call.operands, hcal])]
      have : c.args.toList.map (St.ev ⟨fr2, s.L⟩) = c.args.toList.map s.ev := by
        apply List.map_congr_left
        intro z hz
        exact he' z (by rw [hop]; simp only [Op.operands, Call.operands, Array.mem_append]; right; exact Array.mem_toList_iff.1 hz)
      rw [this]
    | _ => rfl
  · rintro r' L1'' ⟨rfl, rfl⟩
    exact ⟨hk, hb⟩
  · obtain ⟨e, rfl⟩ := hR
    obtain rfl := AE.pan.inj e
    exact kk ch w' mm hch hinv stt
attribute [simp] runP runX dAllC
end
end Go.Ab

namespace Go.Ab
section
variable {P : Program} {n : Nat} {s : St} {Q : AX → St → Prop}
def ModeR (w : World) (O : Nat → Prop) (m : Nat → Option Value) : FrameMode → Option V → Prop
  | .returning, none => True
  | .panicking chain, some x => Chain w O m chain x
  | _, _ => False
def DEnds (w : World) (O : Nat → Prop) (m : Nat → Option Value) (u' : FrameMode) (r : Option V) : Ending → Prop
  | .returned _ => ModeR w O m (settle u') r
  | .panicked chain => ModeR w O m (raised u' chain) r
  | .outgrown => False
def DPost (fo : FO) (m : Nat → Option Value) (w : World) (R : Option V → Heap → Prop) (e : Ending) (u' : FrameMode) (w' : World) : Prop :=
  ∃ m' r L', R r L' ∧ DEnds w' (OO fo m') m' u' r e ∧ Inv fo m' L' w' ∧ Step w (own m) w' (own m')
def DCalls (P : Program) (f : FuncId) (args : List V) (L : Heap) (px : Option V) (R : Option V → Heap → Prop) : Prop :=
  ∀ (fo : FO) m w (xs : Array Value) u, Inv fo m L w → RelVs w (OO fo m) m xs args → ModeR w (OO fo m) m u px → CallsDIn Fence.wide 0 P f xs u w (DPost fo m w R)
def DQ (R : Option V → Heap → Prop) : AX → St → Prop
  | .normal, s => R none s.L
  | .ret, s => R none s.L
  | .pan y, s => R (some y) s.L
  | _, _ => False
def RecM (u u' : FrameMode) (px : Option V) : Prop :=
  match px with
  | none => u = .returning ∧ u' = .returning
  | some _ => ∃ v older, u = .panicking ({ v := v, recovered := false } :: older) ∧ u' = .panicking ({ v := v, recovered := true } :: older) ∧ ∀ e ∈ older, e.goexit = false
theorem settle_rec {u u' : FrameMode} {px : Option V} (h : RecM u u' px) : settle u' = .returning := by
  unfold RecM at h
  cases px with
  | none => obtain ⟨_, rfl⟩ := h; rfl
  | some x =>
    obtain ⟨v, older, hu, rfl, ho⟩ := h
    clear hu
    unfold settle
    have : older.dropWhile (fun e => !e.goexit) = [] := by
      induction older with
      | nil => rfl
      | cons e l ih =>
        rw [List.dropWhile_cons, ho e List.mem_cons_self]
        simp only [Bool.not_false, if_true]
        exact ih (fun e h => ho e (List.mem_cons_of_mem _ h))
    simp only [this]
theorem raised_rec {u u' : FrameMode} {px : Option V} (h : RecM u u' px) {w : World} {O : Nat → Prop} {m : Nat → Option Value} {chain : List PanicEntry} {y : V} (hc : Chain w O m chain y) : ModeR w O m (raised u' chain) (some y) := by
  unfold RecM at h
  obtain ⟨v, older, rfl, hold, hv⟩ := hc
  cases px with
  | none => obtain ⟨_, rfl⟩ := h; exact ⟨v, older, rfl, hold, hv⟩
  | some x =>
    obtain ⟨v', older', _, rfl, ho⟩ := h
    refine ⟨v, older ++ { v := v', recovered := true } :: older', rfl, fun e he => ?_, hv⟩
    rcases List.mem_append.1 he with he | he
    · exact hold e he
    · rcases List.mem_cons.1 he with rfl | he
      · rfl
      · exact ho e he
def SWP (P : Program) (n : Nat) (c : Code) (s : St) (px : Option V) (R : Option V → Heap → Prop) : Prop :=
  ∀ (fo : FO) m a w (w0 : World) (m0 : Nat → Option Value) (fn : Func) (c0 : Frame) (cs : List Frame), fo.D = [] → fo.r = none → fo.nm = true → fn.results.toList = [] → G fo n m s a w → ModeR w (OO fo m) m c0.mode px → Step w0 (own m0) w (own m) →
    c.wpSIn Fence.wide 0 P (bodyPostS P fn c0 cs (DPost fo m0 w0 R)) a (c0 :: cs) w
def pxOn : Option V → Bool
  | none => true
  | some x => x.on []
theorem ModeR.mono {w w' : World} {fo : FO} {m m' : Nat → Option Value} {u : FrameMode} {px : Option V} (h : ModeR w (OO fo m) m u px) (hx : pxOn px = true) (st : Step w (own m) w' (own m')) : ModeR w' (OO fo m') m' u px := by
  unfold ModeR at h ⊢
  split at h
  · trivial
  · obtain ⟨v, older, rfl, ho, hv⟩ := h
    exact ⟨v, older, rfl, ho, ((hv.on (ks := []) (m' := m') (by simp) hx).mono (Step.keep (fo := fo.f) st) (Step.sub st) (fun _ _ e => e))⟩
  · exact h.elim
theorem SWP.seqA {x y : Code} {px : Option V} {R : Option V → Heap → Prop} (hx : pxOn px = true) (hrf : hasRF x = false) (h : AWP P n x s (AX.then (fun s' => SWP P n y s' px R) (fun _ _ => False))) : SWP P n (.seq x y) s px R := by
  intro fo m a w w0 m0 fn c0 cs hD hr hnm hres g hm st0
  refine wpSIn_seq (wpSIn_of_wpIn rfl ?_)
  have h1 := h fo m a w (fun e => by rw [hrf] at e; cases e) g
  rw [hr] at h1
  refine Code.wpIn_mono (F := Fence.wide) ?_ h1
  rintro e a1 w1 ⟨ms, m1, x1, s1, hmk, hq, g1, hx1, st⟩
  obtain rfl := hmk.1.2 hnm
  rw [FO.mark_nil] at g1 hx1
  cases e with
  | normal =>
    cases x1 <;> simp only [Exits] at hx1
    exact hq fo m1 a1 w1 w0 m0 fn c0 cs hD hr hnm hres g1 (hm.mono hx st) (st0.trans st)
  | exit i => cases x1 <;> simp only [Exits] at hx1; exact hq.elim
  | goto i => cases x1 <;> simp only [Exits] at hx1; exact hq.elim
  | ret => cases x1 <;> simp only [Exits] at hx1; exact hq.elim
  | panic ch => cases x1 <;> simp only [Exits] at hx1; exact hq.elim
  | outgrown => cases x1 <;> simp only [Exits] at hx1
def recV : Option V → V
  | none => .d (.v .nilIface)
  | some x => x
def movesSt : List Oper → St → Option St
  | [], s => some s
  | o :: l, s => match o.op, o.dst, o.guard with
    | .move x, some d, none => movesSt l (s.put (some d) (s.ev x))
    | .assign x, some d, none => movesSt l (s.put (some d) (s.ev x))
    | _, _, _ => none
def movesOk (n : Nat) (l : List Oper) : Bool := l.all fun o => match o.dst with
  | some d => decide (d < n)
  | none => false
theorem moves_S {fo : FO} {m : Nat → Option Value} {ops : Array Oper} {K : Exit → Act → List Frame → World → Prop} {cs : List Frame} {w : World} : ∀ (l : List Oper) (k : Nat) (s s' : St) (a : Act), (∀ j, l[j]? = ops[k + j]?) → movesSt l s = some s' → movesOk n l = true → G fo n m s a w →
    (∀ a', G fo n m s' a' w → K .normal a' cs w) → wpOpsSIn Fence.wide 0 P ops K (List.range' k l.length) a cs w
  | [], k, s, s', a, _, hm, _, g, hK => by
    simp only [movesSt, Option.some.injEq] at hm
    subst hm
    exact hK a g
  | o :: l, k, s, s', a, hl, hm, hok, g, hK => by
    have h0 : ops[k]? = some o := by simpa using (hl 0).symm
    have hl' : ∀ j, l[j]? = ops[k + 1 + j]? := fun j => by
      have := hl (j + 1)
      rw [show k + 1 + j = k + (j + 1) by omega]
      simpa using this
    simp only [movesOk, List.all_cons, Bool.and_eq_true] at hok
    rw [List.length_cons, List.range'_succ]
    simp only [wpOpsSIn, h0]
    refine ⟨fun _ _ => trivial, ?_⟩
    have key : ∀ x d, o.dst = some d → o.guard = none → (execOp a.eval o).run P w = .ok (.value (a.eval x)) w → movesSt l (s.put (some d) (s.ev x)) = some s' →
        (if Region.wanted o (yielded ops a.tmps) = true then
          match (execOp a.eval o).run P w with
          | .ok .recover w' =>
            match recoverD cs with
            | some (v, cs') => wpOpsSIn Fence.wide 0 P ops K (List.range' (k + 1) l.length) (a.put o.dst v) cs' w'
            | none => wpOpsSIn Fence.wide 0 P ops K (List.range' (k + 1) l.length) (a.put o.dst .nilIface) cs w'
          | .ok (.value v) w' => wpOpsSIn Fence.wide 0 P ops K (List.range' (k + 1) l.length) (a.put o.dst v) cs w'
          | .ok .skip w' => wpOpsSIn Fence.wide 0 P ops K (List.range' (k + 1) l.length) (a.put o.dst undef) cs w'
          | .halt (.panic v) w' => K (.panic [{ v, recovered := false }]) a cs w'
          | _ => False
        else wpOpsSIn Fence.wide 0 P ops K (List.range' (k + 1) l.length) (a.put o.dst undef) cs w) := by
      intro x d hd hg hrun hms
      rw [if_pos (by simp [Region.wanted, hg]), hrun]
      have hdn : d < n := by
        have := hok.1
        rw [hd] at this
        simpa using this
      have gp : G fo n m (s.put (some d) (s.ev x)) (a.put o.dst (a.eval x)) w := by
        rw [hd]
        exact g.put (dst := some d) (fun d' e => by obtain rfl := Option.some.inj e; exact hdn) (eval_rel g x)
      exact moves_S l (k + 1) _ s' _ hl' hms hok.2 gp hK
    unfold movesSt at hm
    split at hm
    · rename_i x d hop hd hg
      exact key x d hd hg (by simp [execOp, hop]) hm
    · rename_i x d hop hd hg
      exact key x d hd hg (by simp [execOp, hop]) hm
    · cases hm
theorem SWP.rest {y : Code} {px : Option V} {R : Option V → Heap → Prop} {fo : FO} {m : Nat → Option Value} {a : Act} {w w0 : World} {m0 : Nat → Option Value} {fn : Func} {c0 : Frame} {cs : List Frame} {u' : FrameMode} (hD : fo.D = []) (hr : fo.r = none) (hnm : fo.nm = true) (hres : fn.results.toList = [])
    (g : G fo n m s a w) (hrec : RecM c0.mode u' px) (st0 : Step w0 (own m0) w (own m)) (hrf : hasRF y = false) (h : AWP P n y s (DQ R)) : y.wpSIn Fence.wide 0 P (bodyPostS P fn c0 cs (DPost fo m0 w0 R)) a ({ c0 with mode := u' } :: cs) w := by
  refine wpSIn_of_wpIn rfl ?_
  have h1 := h fo m a w (fun e => by rw [hrf] at e; cases e) g
  rw [hr] at h1
  have hresults : ∀ T : Array Value, ∀ w1, (results fn T).run P w1 = .ok (.tuple #[]) w1 := by
    intro T w1
    rw [results_eq, Array.mapM_eq_mapM_toList, hres]
    simp
  refine Code.wpIn_mono (F := Fence.wide) ?_ h1
  rintro e a1 w1 ⟨ms, m1, x1, s1, hmk, hq, g1, hx1, st⟩
  obtain rfl := hmk.1.2 hnm
  rw [FO.mark_nil] at g1 hx1
  have hdf : a1.defers = [] := by rw [g1.defers, hD]
  cases e with
  | normal =>
    cases x1 <;> simp only [Exits] at hx1
    exact ⟨hdf, u', rfl, _, hresults _ _, m1, none, s1.L, hq, by simp only [DEnds, settle_rec hrec, ModeR], g1.inv, st0.trans st⟩
  | ret =>
    cases x1 <;> simp only [Exits] at hx1
    exact ⟨hdf, u', rfl, _, hresults _ _, m1, none, s1.L, hq, by simp only [DEnds, settle_rec hrec, ModeR], g1.inv, st0.trans st⟩
  | panic ch =>
    cases x1 <;> simp only [Exits] at hx1
    rename_i y'
    exact ⟨hdf, u', rfl, m1, some y', s1.L, hq, raised_rec hrec hx1, g1.inv, st0.trans st⟩
  | exit i => cases x1 <;> simp only [Exits] at hx1; exact hq.elim
  | goto i => cases x1 <;> simp only [Exits] at hx1; exact hq.elim
  | outgrown => cases x1 <;> simp only [Exits] at hx1
theorem SWP.rec {id : Nat} {o : Oper} {l : List Oper} {d : Tmp} {y : Code} {px : Option V} {R : Option V → Heap → Prop} {s' : St} (hrun : ∀ ρ w, (execOp ρ o).run P w = .ok .recover w) (hd : o.dst = some d) (hdn : d < n) (hg : o.guard = none)
    (hm : movesSt l (s.put (some d) (recV px)) = some s') (hok : movesOk n l = true) (hrf : hasRF y = false) (h : AWP P n y s' (DQ R)) : SWP P n (.seq (.region id (o :: l).toArray false) y) s px R := by
  intro fo m a w w0 m0 fn c0 cs hD hr hnm hres g hmd st0
  refine wpSIn_seq (wpSIn_region ?_)
  have hops : ∀ j, l[j]? = (o :: l).toArray[1 + j]? := fun j => by
    rw [show 1 + j = j + 1 by omega]; simp
  have hrange : List.range (o :: l).toArray.size = 0 :: List.range' 1 l.length := by
    simp [List.range_eq_range', List.range'_succ]
  rw [hrange]
  simp only [wpOpsSIn, List.getElem?_toArray, List.getElem?_cons_zero]
  refine ⟨fun _ _ => trivial, ?_⟩
  rw [if_pos (by simp [Region.wanted, hg]), hrun]
  simp only [hd]
  have fin : ∀ (u' : FrameMode) (v : Value), RelV w (OO fo m) m v (recV px) → RecM c0.mode u' px →
      wpOpsSIn Fence.wide 0 P (o :: l).toArray (Exit.thenS (y.wpSIn Fence.wide 0 P (bodyPostS P fn c0 cs (DPost fo m0 w0 R))) (bodyPostS P fn c0 cs (DPost fo m0 w0 R))) (List.range' 1 l.length) (a.put (some d) v) ({ c0 with mode := u' } :: cs) w := by
    intro u' v hv hrec
    refine moves_S l 1 _ s' _ hops hm hok (g.put (dst := some d) (fun d' e => by obtain rfl := Option.some.inj e; exact hdn) hv) (fun a' g' => ?_)
    exact SWP.rest hD hr hnm hres g' hrec st0 hrf h
  cases px with
  | none =>
    have hmode : c0.mode = .returning := by
      unfold ModeR at hmd
      split at hmd
      · rename_i e _; exact e
      · rename_i e; cases e
      · exact hmd.elim
    have hn : recoverD (c0 :: cs) = none := by simp [recoverD, hmode]
    rw [hn]
    have := fin .returning .nilIface (.d _ _ (.v _ rfl)) ⟨hmode, rfl⟩
    rw [show ({ c0 with mode := .returning } : Frame) = c0 by rw [← hmode]] at this
    exact this
  | some x =>
    unfold ModeR at hmd
    split at hmd
    · rename_i e; cases e
    · rename_i ch x' hmode e
      obtain rfl := Option.some.inj e
      obtain ⟨v, older, rfl, ho, hv⟩ := hmd
      have hn : recoverD (c0 :: cs) = some (v, { c0 with mode := .panicking ({ v := v, recovered := true } :: older) } :: cs) := by simp [recoverD, hmode]
      rw [hn]
      exact fin _ v hv ⟨v, older, hmode, rfl, ho⟩
    · exact hmd.elim
theorem DCalls.run {f : FuncId} {args : List V} {L : Heap} {px : Option V} {R : Option V → Heap → Prop} {fn : Func} {c : Code} (hf : P.funcs[f]? = some fn) (hb : fn.body = some c) (hn : args.length ≤ fn.ntmps) (hres : fn.results.toList = [])
    (h : SWP P fn.ntmps c ⟨argFrame 0 args, L⟩ px R) : DCalls P f args L px R := by
  intro fo m w xs u hi hx hu
  refine callsDIn_of_wpSIn hf hb trivial (fun c0 cs hc0 => ?_)
  subst hc0
  have hsz : (xs ++ Array.replicate (fn.ntmps - xs.size) undef).size = fn.ntmps := by
    have := hx.1
    simp; omega
  let fo' : FO := ⟨fo.f, [], none, true⟩
  have g : G fo' fn.ntmps m ⟨argFrame 0 args, L⟩ { tmps := xs ++ Array.replicate (fn.ntmps - xs.size) undef, defers := [] } w := by
    refine ⟨hsz, ?_, ⟨hi.nodup, hi.dom, hi.apart, hi.others, hi.folt, hi.holds, hi.glob⟩, rfl⟩
    intro t y hy
    obtain ⟨h1, h2, h3⟩ := mem_argFrame hy
    simp only [Nat.sub_zero, Nat.zero_add] at h2 h3
    refine ⟨by omega, ?_⟩
    have hlt : t < xs.size := by rw [hx.1]; exact h3
    have : (xs ++ Array.replicate (fn.ntmps - xs.size) undef).getD t undef = xs[t] := by
      simp [Array.getD, hlt]
      omega
    rw [this]
    exact hx.2 t _ y (Array.getElem?_eq_getElem hlt) h2
  have hE : DPost fo' m w R = DPost fo m w R := by
    funext e u' w'
    refine propext ⟨?_, ?_⟩
    · rintro ⟨m', r, L', h1, h2, h3, h4⟩
      exact ⟨m', r, L', h1, h2, ⟨h3.nodup, h3.dom, h3.apart, h3.others, h3.folt, h3.holds, h3.glob⟩, h4⟩
    · rintro ⟨m', r, L', h1, h2, h3, h4⟩
      exact ⟨m', r, L', h1, h2, ⟨h3.nodup, h3.dom, h3.apart, h3.others, h3.folt, h3.holds, h3.glob⟩, h4⟩
  rw [← hE]
  exact h fo' m _ w w m fn c0 cs rfl rfl rfl hres g hu (Step.refl w _)
end
end Go.Ab

namespace Go.Ab
section
variable {P : Program} {n : Nat} {s : St} {Q : AX → St → Prop}
def dcall (f : FuncId) (hs : List (Nat × Nat)) : Deferred := ⟨.fn (.func f) (hs.map fun p => Value.pointer (some ⟨p.2, 0, none⟩)).toArray, #[]⟩
def BWP (P : Program) (n : Nat) (c : Code) (s : St) (Q : AX → St → Prop) (QD : FuncId → List (Nat × Nat) → AX → St → Prop) : Prop :=
  ∀ (fo : FO) m a w, fo.r = none → fo.D = [] → fo.nm = true → G fo n m s a w →
    c.wpIn Fence.wide 0 P (fun e a' w' => Post fo n m w Q e a' w' ∨ ∃ f hs, enters P f = true ∧ Post ⟨fo.f, [dcall f hs], none, true⟩ n m w (QD f hs) e a' w') a w
variable {QD : FuncId → List (Nat × Nat) → AX → St → Prop}
theorem BWP.last {c : Code} (hrf : hasRF c = false) (h : AWP P n c s Q) : BWP P n c s Q QD := by
  intro fo m a w hr hD hnm g
  have h1 := h fo m a w (fun e => by rw [hrf] at e; cases e) g
  rw [hr] at h1
  exact Code.wpIn_mono (F := Fence.wide) (fun _ _ _ h => .inl h) h1
theorem BWP.seqA {x y : Code} (hrf : hasRF x = false) (h : AWP P n x s (AX.then (fun s' => BWP P n y s' Q QD) Q)) : BWP P n (.seq x y) s Q QD := by
  intro fo m a w hr hD hnm g
  refine wpIn_seq ?_
  have h1 := h fo m a w (fun e => by rw [hrf] at e; cases e) g
  rw [hr] at h1
  refine Code.wpIn_mono (F := Fence.wide) ?_ h1
  rintro e a1 w1 ⟨ms, m1, x1, s1, hmk, hq, g1, hx1, st⟩
  obtain rfl := hmk.1.2 hnm
  have gg := g1
  rw [FO.mark_nil] at gg
  cases e with
  | normal =>
    cases x1 <;> simp only [Exits] at hx1
    refine Code.wpIn_mono (F := Fence.wide) ?_ (hq fo m1 a1 w1 hr hD hnm gg)
    rintro e2 a2 w2 (h2 | ⟨f, hs, he, h2⟩)
    · exact .inl (Post.step st h2)
    · exact .inr ⟨f, hs, he, Post.step st h2⟩
  | exit i => cases x1 <;> simp only [Exits] at hx1; exact .inl ⟨[], m1, _, s1, hmk, hq, g1, hx1, st⟩
  | goto i => cases x1 <;> simp only [Exits] at hx1; exact .inl ⟨[], m1, _, s1, hmk, hq, g1, hx1, st⟩
  | ret => cases x1 <;> simp only [Exits] at hx1; exact .inl ⟨[], m1, _, s1, hmk, hq, g1, hx1, st⟩
  | panic ch => cases x1 <;> simp only [Exits] at hx1; exact .inl ⟨[], m1, _, s1, hmk, hq, g1, hx1, st⟩
  | outgrown => cases x1 <;> simp only [Exits] at hx1
def capsAt (L : Heap) : List V → List (Nat × Nat) → Prop
  | [], [] => True
  | x :: xs, p :: ps => x = .bp p.1 0 ∧ p ∈ labs L ∧ capsAt L xs ps
  | _, _ => False
theorem capsAt_vals {fo : FO} {m : Nat → Option Value} {L : Heap} {w : World} (hi : Inv fo m L w) : ∀ (xs : List V) (ps : List (Nat × Nat)) (vs : List Value), capsAt L xs ps → vs.length = xs.length → (∀ (j : Nat) v x, vs[j]? = some v → xs[j]? = some x → RelV w (OO fo m) m v x) →
    vs = ps.map fun p => Value.pointer (some ⟨p.2, 0, none⟩)
  | [], [], vs, _, hl, _ => by simpa using List.eq_nil_of_length_eq_zero hl
  | x :: xs, p :: ps, v :: vs, ⟨hx, hp, ht⟩, hl, hr => by
    have h0 := hr 0 v x rfl rfl
    subst hx
    obtain ⟨b, hb, rfl⟩ := bp_inv h0
    obtain ⟨ty, cs, hm⟩ := labs_mem (h := p.1) (b := p.2) hp
    obtain ⟨z, hz, bb, hbb, cur, rfl, _⟩ := hi.holds _ _ hm
    rw [hz] at hb
    simp only [Option.some.injEq, Value.pointer.injEq, Addr.mk.injEq] at hb
    obtain rfl : bb = p.2 := by omega
    obtain rfl := hb.1
    rw [List.map_cons, ← capsAt_vals hi xs ps vs ht (by simpa using hl) (fun j v x h1 h2 => hr (j + 1) v x (by simpa using h1) (by simpa using h2))]
  | [], _ :: _, _, h, _, _ => h.elim
  | _ :: _, [], _, h, _, _ => h.elim
  | _ :: _, _ :: _, [], _, hl, _ => by simp at hl
theorem BWP.defer {id : Nat} {o1 o2 : Oper} {t : Tmp} {f : FuncId} {cops : Array Operand} {hs : List (Nat × Nat)} {y : Code} {c : Call} (h1 : o1.op = .makeFunc (.func f) #[] cops) (hd1 : o1.dst = some t) (htn : t < n) (hg1 : o1.guard = none)
    (h2 : o2.op = .defer c) (hc : c.callee = .value (.tmp t)) (hca : c.args = #[]) (hd2 : o2.dst = none) (hg2 : o2.guard = none) (hcap : capsAt s.L (cops.toList.map s.ev) hs) (he : enters P f = true) (hrf : hasRF y = false)
    (h : AWP P n y (s.put (some t) (.clo (.func f) [] (cops.toList.map s.ev))) (QD f hs)) : BWP P n (.seq (.region id #[o1, o2] false) y) s Q QD := by
  intro fo m a w hr hD hnm g
  refine wpIn_seq (wpIn_region_list ?_)
  have hvals : (cops.toList.map a.eval) = hs.map fun p => Value.pointer (some ⟨p.2, 0, none⟩) := by
    refine capsAt_vals g.inv _ _ _ hcap (by simp) (fun j v x hv hx => ?_)
    simp only [List.getElem?_map, Option.map_eq_some_iff] at hv hx
    obtain ⟨z, hz, rfl⟩ := hv
    obtain ⟨z', hz', rfl⟩ := hx
    rw [hz] at hz'
    obtain rfl := Option.some.inj hz'
    exact eval_rel g z
  have hrel : RelV w (OO fo m) m (.func (.func f) #[] (cops.map a.eval)) (.clo (.func f) [] (cops.toList.map s.ev)) := by
    refine .clo _ _ _ _ _ rfl (by simp) (by simp) (fun j x y hx hy => ?_)
    have hx' : (cops.toList.map a.eval)[j]? = some x := by
      rw [← Array.getElem?_toList, Array.toList_map] at hx
      exact hx
    simp only [List.getElem?_map, Option.map_eq_some_iff] at hx' hy
    obtain ⟨z, hz, rfl⟩ := hx'
    obtain ⟨z', hz', rfl⟩ := hy
    rw [hz] at hz'
    obtain rfl := Option.some.inj hz'
    exact eval_rel g z
  have g1 := g.put (dst := some t) (fun d e => by obtain rfl := Option.some.inj e; exact htn) hrel
  have ht : (a.put (some t) (.func (.func f) #[] (cops.map a.eval))).eval (.tmp t) = .func (.func f) #[] (cops.map a.eval) := by
    have := g.size
    simp [Act.eval, Act.put, Array.getD, this, htn]
  have hrun1 : (execOp a.eval o1).run P w = .ok (.value (.func (.func f) #[] (cops.map a.eval))) w := by simp [execOp, h1, Instr.makeFunc]
  unfold wpListIn
  rw [if_pos (by simp [Region.wanted, hg1])]
  refine ⟨fun _ _ => trivial, ?_⟩
  show Oper.uponIn Fence.wide 0 P o1 a _ _ ((o1.semAt none a.eval).run P w)
  rw [Oper.semAt_none, hrun1, Oper.uponIn_value, hd1]
  unfold wpListIn
  rw [if_pos (by simp [Region.wanted, hg2])]
  refine ⟨fun _ _ => trivial, ?_⟩
  show Oper.uponIn Fence.wide 0 P o2 _ _ _ ((o2.semAt none _).run P w)
  have hrun2 : (execOp (a.put (some t) (.func (.func f) #[] (cops.map a.eval))).eval o2).run P w = .ok (.defer (dcall f hs)) w := by
    have : (cops.map a.eval) = (hs.map fun p => Value.pointer (some ⟨p.2, 0, none⟩)).toArray := by
      rw [← hvals, ← Array.toList_map]
    simp only [execOp, h2, resolve, hc, hca, ht, Deferred.ofValue, Sem.run_bind, Sem.run_pure, Result.andThen_ok]
    simp [dcall, this]
  rw [Oper.semAt_none, hrun2, Oper.uponIn_defer, hd2]
  unfold wpListIn
  let fo' : FO := ⟨fo.f, [dcall f hs], none, true⟩
  have g2 : G fo' n m (s.put (some t) (.clo (.func f) [] (cops.toList.map s.ev))) { a.put (some t) (.func (.func f) #[] (cops.map a.eval)) with defers := dcall f hs :: (a.put (some t) (.func (.func f) #[] (cops.map a.eval))).defers } w := by
    refine ⟨g1.size, g1.fr, ⟨g1.inv.nodup, g1.inv.dom, g1.inv.apart, g1.inv.others, g1.inv.folt, g1.inv.holds, g1.inv.glob⟩, ?_⟩
    have := g1.defers
    rw [hD] at this
    simp [fo', this]
  refine Code.wpIn_mono (F := Fence.wide) ?_ (h fo' m _ w (fun e => by rw [hrf] at e; cases e) g2)
  intro e a' w' hp
  exact .inr ⟨f, hs, he, hp⟩
end
end Go.Ab

namespace Go.Ab
section
variable {P : Program} {n : Nat} {s : St} {Q : AX → St → Prop}
def lfr (s : St) : List (Nat × V) := s.fr.filter fun p => V.on ((labs s.L).map (·.1)) p.2
def Back (P : Program) (rs : List ResultVar) (R : AE → Heap → Prop) (s : St) (r : Option V) (L' : Heap) : Prop :=
  labs L' = labs s.L ∧ match r with
    | none => FPost P rs R .ret ⟨lfr s, L'⟩
    | some y => R (.pan y) L'
def LvD (P : Program) (rs : List ResultVar) (R : AE → Heap → Prop) (f : FuncId) (hs : List (Nat × Nat)) (x : AX) (s : St) : Prop :=
  match x with
  | .normal | .ret => (∀ p ∈ hs, p ∈ labs s.L) ∧ DCalls P f (hs.map fun p => .bp p.1 0) s.L none (Back P rs R s)
  | .pan v => (∀ p ∈ hs, p ∈ labs s.L) ∧ DCalls P f (hs.map fun p => .bp p.1 0) s.L (some v) (Back P rs R s)
  | _ => False
theorem leave_dcall {fo : FO} {m m0 : Nat → Option Value} {a : Act} {w w0 : World} {fn : Func} {R : AE → Heap → Prop} {f : FuncId} {hs : List (Nat × Nat)} {px : Option V} {u : FrameMode} (hu : u ≠ .run) (hnr : fo.nm = true)
    (hh : ∀ p ∈ hs, p ∈ labs s.L) (h : DCalls P f (hs.map fun p => .bp p.1 0) s.L px (Back P fn.results.toList R s)) (he : enters P f = true) (g : G fo n m s a w) (hm : ModeR w (OO fo m) m u px) (st0 : Step w0 (own m0) w (own m)) :
    LeavesIn Fence.wide 0 P fn a.tmps (CPost fo m0 w0 R) [dcall f hs] u w := by
  have hargs : RelVs w (OO fo m) m (hs.map fun p => Value.pointer (some ⟨p.2, 0, none⟩)).toArray (hs.map fun p => .bp p.1 0) := by
    refine ⟨by simp, fun j x y hx hy => ?_⟩
    simp only [List.getElem?_toArray, List.getElem?_map, Option.map_eq_some_iff] at hx hy
    obtain ⟨p, hp, rfl⟩ := hx
    obtain ⟨p', hp', rfl⟩ := hy
    rw [hp] at hp'
    obtain rfl := Option.some.inj hp'
    obtain ⟨ty, cs, hmem⟩ := labs_mem (h := p.1) (b := p.2) (hh p (List.mem_of_getElem? hp))
    obtain ⟨z, hz, bb, hbb, cur, rfl, _⟩ := g.inv.holds _ _ hmem
    obtain rfl : bb = p.2 := by omega
    exact .bp _ _ _ hz
  refine leavesIn_cons hu (fun h => by simp [Fence.wide] at h) (f := f) (args := (hs.map fun p => Value.pointer (some ⟨p.2, 0, none⟩)).toArray) (by simpa [invoke] using run_callFunc (P := P) he _ w) (fun _ _ => trivial) ?_
  refine (h fo m w _ u g.inv hargs hm).mono ?_
  rintro e u' w' ⟨m', r, L', ⟨hlab, hR⟩, hends, hi', st⟩
  have hsame := labs_same g.inv hi' hlab
  have g' : G fo n m' ⟨lfr s, L'⟩ a w' := by
    refine ⟨g.size, fun t y hy => ?_, hi', g.defers⟩
    obtain ⟨h1, h2⟩ := List.mem_filter.1 hy
    obtain ⟨q1, q2⟩ := g.fr t y h1
    exact ⟨q1, (q2.on hsame h2).mono (Step.keep (fo := fo.f) st) (Step.sub st) (fun _ _ e => e)⟩
  have fin : ∀ u'' : FrameMode, ModeR w' (OO fo m') m' u'' r → LeavesIn Fence.wide 0 P fn a.tmps (CPost fo m0 w0 R) [] u'' w' := by
    intro u'' hmd
    unfold ModeR at hmd
    split at hmd
    · simp only [FPost] at hR
      split at hR
      · rename_i xs c hr
        obtain ⟨v, k1, k2⟩ := results_sound g' hr hR.1
        exact ⟨v, k1, m', _, _, hR.2, k2, hi', st0.trans st⟩
      · exact hR.elim
    · rename_i ch y
      exact ⟨m', _, _, hR, hmd, hi', st0.trans st⟩
    · exact hmd.elim
  cases e with
  | returned v => exact fin _ hends
  | panicked ch => exact fin _ hends
  | outgrown => exact hends.elim
theorem ACalls.of_BWP {f : FuncId} {fn : Func} {c : Code} {args : List V} {L : Heap} {R : AE → Heap → Prop} (hf : P.funcs[f]? = some fn) (hb : fn.body = some c) (hn : args.length ≤ fn.ntmps)
    (h : BWP P fn.ntmps c ⟨argFrame 0 args, L⟩ (FPost P fn.results.toList R) (LvD P fn.results.toList R)) : ACalls P f args L R := by
  intro fo m w xs hi hx
  let fo' : FO := ⟨fo.f, [], none, true⟩
  have hcp : ∀ e w', CPost fo' m w R e w' → CPost fo m w R e w' := fun _ _ ⟨m', r, L', h1, h2, h3, h4⟩ => ⟨m', r, L', h1, h2, ⟨h3.nodup, h3.dom, h3.apart, h3.others, h3.folt, h3.holds, h3.glob⟩, h4⟩
  refine Calls.mono ?_ hcp
  refine callsIn_wide.1 (callsIn_of_wp_defers (n := 0) hf hb trivial ?_)
  have hsz : (xs ++ Array.replicate (fn.ntmps - xs.size) undef).size = fn.ntmps := by
    have := hx.1
    simp; omega
  have g : G fo' fn.ntmps m ⟨argFrame 0 args, L⟩ { tmps := xs ++ Array.replicate (fn.ntmps - xs.size) undef, defers := [] } w := by
    refine ⟨hsz, ?_, ⟨hi.nodup, hi.dom, hi.apart, hi.others, hi.folt, hi.holds, hi.glob⟩, rfl⟩
    intro t y hy
    obtain ⟨h1, h2, h3⟩ := mem_argFrame hy
    simp only [Nat.sub_zero, Nat.zero_add] at h2 h3
    refine ⟨by omega, ?_⟩
    have hlt : t < xs.size := by rw [hx.1]; exact h3
    have : (xs ++ Array.replicate (fn.ntmps - xs.size) undef).getD t undef = xs[t] := by
      simp [Array.getD, hlt]
      omega
    rw [this]
    exact hx.2 t _ y (Array.getElem?_eq_getElem hlt) h2
  refine Code.wpIn_mono (F := Fence.wide) ?_ (h fo' m _ w rfl rfl rfl g)
  rintro e a' w' (⟨ms, m', x, s', hmk, hq, g', hx', st⟩ | ⟨f2, hs, he2, ms, m', x, s', hmk, hq, g', hx', st⟩)
  · obtain rfl := hmk.1.2 rfl
    rw [FO.mark_nil] at g' hx'
    have hdef : a'.defers = [] := g'.defers
    have retn : FPost P fn.results.toList R .ret s' → LeavesIn Fence.wide 0 P fn a'.tmps (CPost fo' m w R) a'.defers .returning w' := by
      intro hq
      rw [hdef]
      simp only [FPost] at hq
      split at hq
      · rename_i ys c' hr
        obtain ⟨v, k1, k2⟩ := results_sound g' hr hq.1
        exact ⟨v, k1, m', _, _, hq.2, k2, g'.inv, st⟩
      · exact hq.elim
    cases e with
    | normal => cases x <;> simp only [Exits] at hx'; exact retn hq
    | ret => cases x <;> simp only [Exits] at hx'; exact retn hq
    | panic ch =>
      cases x <;> simp only [Exits] at hx'
      simp only [FPost] at hq
      show LeavesIn Fence.wide 0 P fn a'.tmps (CPost fo' m w R) a'.defers (.panicking ch) w'
      rw [hdef]
      exact ⟨m', _, _, hq, hx', g'.inv, st⟩
    | exit i => cases x <;> simp only [Exits] at hx'; exact hq.elim
    | goto i => cases x <;> simp only [Exits] at hx'; exact hq.elim
    | outgrown => cases x <;> simp only [Exits] at hx'
  · obtain rfl := hmk.1.2 rfl
    rw [FO.mark_nil] at g' hx'
    have hdef : a'.defers = [dcall f2 hs] := g'.defers
    have g2 : G fo' fn.ntmps m' s' { a' with defers := [] } w' := ⟨g'.size, g'.fr, ⟨g'.inv.nodup, g'.inv.dom, g'.inv.apart, g'.inv.others, g'.inv.folt, g'.inv.holds, g'.inv.glob⟩, rfl⟩
    cases e with
    | normal =>
      cases x <;> simp only [Exits] at hx'
      show LeavesIn Fence.wide 0 P fn a'.tmps (CPost fo' m w R) a'.defers .returning w'
      rw [hdef]
      exact leave_dcall (a := { a' with defers := [] }) (by simp) rfl hq.1 hq.2 he2 g2 trivial st
    | ret =>
      cases x <;> simp only [Exits] at hx'
      show LeavesIn Fence.wide 0 P fn a'.tmps (CPost fo' m w R) a'.defers .returning w'
      rw [hdef]
      exact leave_dcall (a := { a' with defers := [] }) (by simp) rfl hq.1 hq.2 he2 g2 trivial st
    | panic ch =>
      cases x <;> simp only [Exits] at hx'
      show LeavesIn Fence.wide 0 P fn a'.tmps (CPost fo' m w R) a'.defers (.panicking ch) w'
      rw [hdef]
      exact leave_dcall (a := { a' with defers := [] }) (by simp) rfl hq.1 hq.2 he2 g2 hx' st
    | exit i => cases x <;> simp only [Exits] at hx'; exact hq.elim
    | goto i => cases x <;> simp only [Exits] at hx'; exact hq.elim
    | outgrown => cases x <;> simp only [Exits] at hx'
end
end Go.Ab

namespace Go.Ab
section
variable {P : Program} {n : Nat} {s : St} {Q : AX → St → Prop}
theorem frame {L L1 L2 : Heap} {fo : FO} {m : Nat → Option Value} {w : World} (hi : Inv fo m L w) (hL : L.Perm (L1 ++ L2)) (hon : L1.all (fun p => Res.on (keys L1) p.2) = true)
    (hL2 : ∀ p ∈ L2, Res.on (keys L2 ++ (L1.filterMap fun p => match p.2 with | .box (_ + 1) _ _ => some p.1 | _ => none)) p.2 = true) :
    ∃ (fo1 : FO) (m1 : Nat → Option Value), (∀ b, OO fo1 m1 b ↔ OO fo m b) ∧ (∀ h x, h ∈ keys L1 → m h = some x → m1 h = some x) ∧ Inv fo1 m1 L1 w ∧
      ∀ (w' : World) (m1' : Nat → Option Value) (L1' : Heap), Inv fo1 m1' L1' w' → Step w (own m1) w' (own m1') → (∀ k ∈ keys L1', k ∉ keys L2) → (∀ k b ty cs, (k, Res.box (b + 1) ty cs) ∈ L1 → ∃ ty' cs', (k, Res.box (b + 1) ty' cs') ∈ L1') →
        ∃ mm : Nat → Option Value, Inv fo mm (L1' ++ L2) w' ∧ Step w (own m) w' (own mm) ∧ (∀ h y, m1' h = some y → mm h = some y) ∧ (∀ b, OO fo mm b ↔ OO fo1 m1' b) := by
  classical
  have hkeys : ∀ x, x ∈ keys L ↔ x ∈ keys L1 ∨ x ∈ keys L2 := by
    intro x
    have : (keys L).Perm (keys (L1 ++ L2)) := hL.map _
    rw [this.mem_iff]
    simp [keys]
  have hnd : (keys L1).Nodup ∧ (keys L2).Nodup ∧ ∀ x, x ∈ keys L1 → x ∉ keys L2 := by
    have hp : (keys L).Perm (keys L1 ++ keys L2) := by simpa [keys] using hL.map (·.1)
    have := hp.nodup_iff.1 hi.nodup
    rw [List.nodup_append] at this
    exact ⟨this.1, this.2.1, fun x h1 h2 => this.2.2 x h1 x h2 rfl⟩
  let m1 : Nat → Option Value := fun h => if h ∈ keys L1 then m h else none
  let m2 : Nat → Option Value := fun h => if h ∈ keys L2 then m h else none
  have hm1 : ∀ h x, m1 h = some x → m h = some x ∧ h ∈ keys L1 := by
    intro h x hx
    by_cases hh : h ∈ keys L1
    · simp only [m1, if_pos hh] at hx; exact ⟨hx, hh⟩
    · simp only [m1, if_neg hh] at hx; cases hx
  have hm2 : ∀ h x, m2 h = some x → m h = some x ∧ h ∈ keys L2 := by
    intro h x hx
    by_cases hh : h ∈ keys L2
    · simp only [m2, if_pos hh] at hx; exact ⟨hx, hh⟩
    · simp only [m2, if_neg hh] at hx; cases hx
  have hm1' : ∀ h x, h ∈ keys L1 → m h = some x → m1 h = some x := fun h x hh hx => by simp only [m1, if_pos hh]; exact hx
  have hm2' : ∀ h x, h ∈ keys L2 → m h = some x → m2 h = some x := fun h x hh hx => by simp only [m2, if_pos hh]; exact hx
  let fo1 : FO := fun b => fo b ∨ own m2 b
  have hown : ∀ b, own m b ↔ own m1 b ∨ own m2 b := by
    intro b
    constructor
    · rintro ⟨h, x, hx, hb⟩
      rcases (hkeys h).1 (hi.dom h x hx) with hh | hh
      · exact .inl ⟨h, x, hm1' h x hh hx, hb⟩
      · exact .inr ⟨h, x, hm2' h x hh hx, hb⟩
    · rintro (⟨h, x, hx, hb⟩ | ⟨h, x, hx, hb⟩)
      · exact ⟨h, x, (hm1 h x hx).1, hb⟩
      · exact ⟨h, x, (hm2 h x hx).1, hb⟩
  have hOO : ∀ b, OO fo1 m1 b ↔ OO fo m b := by
    intro b
    unfold OO
    rw [hown b]
    constructor
    · rintro (h | h | h)
      · exact .inl (.inl h)
      · exact .inr h
      · exact .inl (.inr h)
    · rintro ((h | h) | h)
      · exact .inl h
      · exact .inr (.inr h)
      · exact .inr (.inl h)
  have hi1 : Inv fo1 m1 L1 w := by
    refine ⟨hnd.1, fun h x hx => (hm1 h x hx).2, ?_, ?_, ?_, ?_, hi.glob.mono (Keep.refl w _) (fun b _ hb => (hOO b).1 hb)⟩
    · intro h h' x x' b hx hx' hb hb'
      exact hi.apart h h' x x' b (hm1 h x hx).1 (hm1 h' x' hx').1 hb hb'
    · rintro h x b hx hb (hf | ⟨h', x', hx', hb'⟩)
      · exact hi.others h x b (hm1 h x hx).1 hb hf
      · have := hi.apart h h' x x' b (hm1 h x hx).1 (hm2 h' x' hx').1 hb hb'
        subst this
        exact hnd.2.2 h (hm1 h x hx).2 (hm2 h x' hx').2
    · rintro b (hf | ⟨h', x', hx', hb'⟩)
      · exact hi.folt b hf
      · exact hi.lt (hm2 h' x' hx').1 hb'
    · intro h r hr
      obtain ⟨x, hx, hh⟩ := hi.holds h r (hL.mem_iff.2 (List.mem_append_left _ hr))
      have hk : h ∈ keys L1 := List.mem_map.2 ⟨_, hr, rfl⟩
      rw [List.all_eq_true] at hon
      exact ⟨x, hm1' h x hk hx, (hh.on hm1' (hon _ hr)).mono (fun _ _ => rfl) (Keep.refl w _) (fun b _ hb => (hOO b).1 hb) (fun _ _ e => e)⟩
  refine ⟨fo1, m1, hOO, hm1', hi1, ?_⟩
  intro w' m1' L1' hi' st' hdis hbox
  let mm : Nat → Option Value := fun h => if h ∈ keys L1' then m1' h else m2 h
  have hmm1 : ∀ h y, m1' h = some y → mm h = some y := fun h y hy => by simp only [mm, if_pos (hi'.dom h y hy)]; exact hy
  have hmm2 : ∀ h y, m2 h = some y → mm h = some y := by
    intro h y hy
    have : h ∉ keys L1' := fun hh => hdis h hh (hm2 h y hy).2
    simp only [mm, if_neg this]; exact hy
  have hmmi : ∀ h y, mm h = some y → (m1' h = some y ∧ h ∈ keys L1') ∨ (m2 h = some y ∧ h ∉ keys L1') := by
    intro h y hy
    by_cases hh : h ∈ keys L1'
    · simp only [mm, if_pos hh] at hy; exact .inl ⟨hy, hh⟩
    · simp only [mm, if_neg hh] at hy; exact .inr ⟨hy, hh⟩
  have hownm : ∀ b, own mm b ↔ own m1' b ∨ own m2 b := by
    intro b
    constructor
    · rintro ⟨h, y, hy, hb⟩
      rcases hmmi h y hy with ⟨hy, _⟩ | ⟨hy, _⟩
      · exact .inl ⟨h, y, hy, hb⟩
      · exact .inr ⟨h, y, hy, hb⟩
    · rintro (⟨h, y, hy, hb⟩ | ⟨h, y, hy, hb⟩)
      · exact ⟨h, y, hmm1 h y hy, hb⟩
      · exact ⟨h, y, hmm2 h y hy, hb⟩
  have hOOm : ∀ b, OO fo mm b ↔ OO fo1 m1' b := by
    intro b
    unfold OO
    rw [hownm b]
    constructor
    · rintro ((h | h) | h)
      · exact .inl h
      · exact .inr (.inr h)
      · exact .inr (.inl h)
    · rintro (h | h | h)
      · exact .inl (.inl h)
      · exact .inr h
      · exact .inl (.inr h)
  have hO' : ∀ b, b < w.heap.size → OO fo mm b → OO fo m b := by
    intro b hb ho'
    rcases (hOOm b).1 ho' with h | h | h
    · exact .inl ((hown b).2 (.inl (st'.owned b hb h)))
    · exact .inr h
    · exact .inl ((hown b).2 (.inr h))
  have hkeep : Keep w (OO fo m) w' := ⟨st'.size, fun b hb hno => st'.block b hb (fun h => hno (.inl ((hown b).2 (.inl h))))⟩
  have hboxm : ∀ h y, h ∈ keys L2 ++ (L1.filterMap fun p => match p.2 with | .box (_ + 1) _ _ => some p.1 | _ => none) → m h = some y → mm h = some y := by
    intro h y hh hy
    rcases List.mem_append.1 hh with hh | hh
    · exact hmm2 h y (hm2' h y hh hy)
    · obtain ⟨p, hp, hpe⟩ := List.mem_filterMap.1 hh
      obtain ⟨q, r⟩ := p
      cases r with
      | row ty k xs => simp at hpe
      | env A => simp at hpe
      | mp es => simp at hpe
      | box b0 ty cs =>
        cases b0 with
        | zero => simp at hpe
        | succ b =>
        simp only [Option.some.injEq] at hpe
        subst hpe
        obtain ⟨ty', cs', hb'⟩ := hbox q b ty cs hp
        obtain ⟨z, hz, hzh⟩ := hi'.holds q _ hb'
        obtain ⟨bb1, hb1, cur', e1, _⟩ := hzh
        obtain ⟨u, hu, huh⟩ := hi1.holds q _ hp
        obtain ⟨bb2, hb2, cur, e2, _⟩ := huh
        obtain rfl : bb1 = b := by omega
        obtain rfl : bb2 = bb1 := by omega
        have := (hm1 q u hu).1
        rw [hy] at this
        obtain rfl := Option.some.inj this
        rw [e2, ← e1]
        exact hmm1 q z hz
  have hinv : Inv fo mm (L1' ++ L2) w' := by
    refine ⟨?_, ?_, ?_, ?_, fun b hf => Nat.lt_of_lt_of_le (hi.folt b hf) st'.size, ?_, hi.glob.mono hkeep hO'⟩
    · show (keys (L1' ++ L2)).Nodup
      rw [show keys (L1' ++ L2) = keys L1' ++ keys L2 by simp [keys], List.nodup_append]
      exact ⟨hi'.nodup, hnd.2.1, fun x h1 y h2 e => hdis x h1 (by rw [e]; exact h2)⟩
    · intro h y hy
      show h ∈ keys (L1' ++ L2)
      rw [show keys (L1' ++ L2) = keys L1' ++ keys L2 by simp [keys]]
      rcases hmmi h y hy with ⟨_, hh⟩ | ⟨hy, _⟩
      · exact List.mem_append_left _ hh
      · exact List.mem_append_right _ (hm2 h y hy).2
    · intro h h' y y' b hy hy' hb hb'
      rcases hmmi h y hy with ⟨hy, _⟩ | ⟨hy, _⟩ <;> rcases hmmi h' y' hy' with ⟨hy', _⟩ | ⟨hy', _⟩
      · exact hi'.apart h h' y y' b hy hy' hb hb'
      · exact (hi'.others h y b hy hb (.inr ⟨h', y', hy', hb'⟩)).elim
      · exact (hi'.others h' y' b hy' hb' (.inr ⟨h, y, hy, hb⟩)).elim
      · exact hi.apart h h' y y' b (hm2 h y hy).1 (hm2 h' y' hy').1 hb hb'
    · intro h y b hy hb hf
      rcases hmmi h y hy with ⟨hy, _⟩ | ⟨hy, _⟩
      · exact hi'.others h y b hy hb (.inl hf)
      · exact hi.others h y b (hm2 h y hy).1 hb hf
    · intro h r hr
      rcases List.mem_append.1 hr with hr | hr
      · obtain ⟨z, hz, hzh⟩ := hi'.holds h r hr
        exact ⟨z, hmm1 h z hz, hzh.mono (fun _ _ => rfl) (Keep.refl w' _) (fun b _ hb => (hOOm b).1 hb) hmm1⟩
      · obtain ⟨z, hz, hzh⟩ := hi.holds h r (hL.mem_iff.2 (List.mem_append_right _ hr))
        have hk : h ∈ keys L2 := List.mem_map.2 ⟨_, hr, rfl⟩
        refine ⟨z, hmm2 h z (hm2' h z hk hz), (hzh.on hboxm (hL2 _ hr)).mono (fun b hb => ?_) hkeep hO' (fun _ _ e => e)⟩
        exact st'.block b (hi.lt hz hb) (fun ho1 => by
          obtain ⟨h', y', hy', hb'⟩ := ho1
          have := hi.apart h h' z y' b hz (hm1 h' y' hy').1 hb hb'
          subst this
          exact hnd.2.2 h (hm1 h y' hy').2 hk)
  have stt : Step w (own m) w' (own mm) := by
    refine ⟨st'.os, st'.tape, st'.output, st'.size, fun b hb hno => st'.block b hb (fun h => hno ((hown b).2 (.inl h))), fun b hb ho' => ?_⟩
    rcases (hownm b).1 ho' with h | h
    · exact (hown b).2 (.inl (st'.owned b hb h))
    · exact (hown b).2 (.inr h)
  exact ⟨mm, hinv, stt, hmm1, hOOm⟩
theorem DCalls.frame {f : FuncId} {args : List V} {L L1 L2 : Heap} {px : Option V} {R1 : Option V → Heap → Prop} (h : DCalls P f args L1 px R1) (hL : L.Perm (L1 ++ L2)) (ho : V.ons (keys L1) args = true) (hx : pxOn px = true) (hon : L1.all (fun p => Res.on (keys L1) p.2) = true)
    (hL2 : ∀ p ∈ L2, Res.on (keys L2 ++ (L1.filterMap fun p => match p.2 with | .box (_ + 1) _ _ => some p.1 | _ => none)) p.2 = true)
    (hstay : ∀ r L1', R1 r L1' → (∀ k ∈ keys L1', k ∉ keys L2) ∧ ∀ k b ty cs, (k, Res.box (b + 1) ty cs) ∈ L1 → ∃ ty' cs', (k, Res.box (b + 1) ty' cs') ∈ L1') :
    DCalls P f args L px (fun r L' => ∃ L1', R1 r L1' ∧ L' = L1' ++ L2) := by
  intro fo m w xs u hi hxs hu
  obtain ⟨fo1, m1, hOO, hm1', hi1, fin⟩ := Go.Ab.frame hi hL hon hL2
  have hxs1 : RelVs w (OO fo1 m1) m1 xs args := ⟨hxs.1, fun j v y hv hy => ((hxs.2 j v y hv hy).on hm1' (ons_mem ho y (List.mem_of_getElem? hy))).mono (Keep.refl w _) (fun b _ hb => (hOO b).1 hb) (fun _ _ e => e)⟩
  have hu1 : ModeR w (OO fo1 m1) m1 u px := by
    unfold ModeR at hu ⊢
    split at hu
    · trivial
    · obtain ⟨v, older, rfl, ho', hv⟩ := hu
      exact ⟨v, older, rfl, ho', (hv.on (ks := []) (m' := m1) (by simp) hx).mono (Keep.refl w _) (fun b _ hb => (hOO b).1 hb) (fun _ _ e => e)⟩
    · exact hu.elim
  refine (h fo1 m1 w xs u hi1 hxs1 hu1).mono ?_
  rintro e u' w' ⟨m1', r, L1', hR, hends, hi', st'⟩
  obtain ⟨hdis, hbox⟩ := hstay r L1' hR
  obtain ⟨mm, hinv, stt, hmm1, hOOm⟩ := fin w' m1' L1' hi' st' hdis hbox
  refine ⟨mm, r, _, ⟨L1', hR, rfl⟩, ?_, hinv, stt⟩
  have md : ∀ u'' : FrameMode, ModeR w' (OO fo1 m1') m1' u'' r → ModeR w' (OO fo mm) mm u'' r := by
    intro u'' hmd
    unfold ModeR at hmd ⊢
    split at hmd
    · trivial
    · obtain ⟨v, older, rfl, ho', hv⟩ := hmd
      exact ⟨v, older, rfl, ho', hv.mono (Keep.refl w' _) (fun b _ hb => (hOOm b).1 hb) hmm1⟩
    · exact hmd.elim
  cases e with
  | returned v => exact md _ hends
  | panicked ch => exact md _ hends
  | outgrown => exact hends.elim
def EDQ (hs : List Nat) (R : Option V → Heap → Prop) (x : AX) (s : St) : Prop :=
  match x with
  | .normal | .ret => (s.pick [] hs).on (keys (s.pick [] hs).L) = true ∧ R none (s.pick [] hs).L
  | .pan y => (s.pick [] hs).on (keys (s.pick [] hs).L) = true ∧ y.on [] = true ∧ R (some y) (s.pick [] hs).L
  | _ => False
theorem AWP.edq {c : Code} {hs : List Nat} {R : Option V → Heap → Prop} (hh : hs.Nodup) (h : AWP P n c s (EDQ hs R)) : AWP P n c s (DQ R) := by
  intro fo m a w hr g
  refine Code.wpIn_mono (fun e a' w' hp => ?_) (h fo m a w hr g)
  obtain ⟨ms, m', x, s', hmk, hq, g', he, st⟩ := hp
  cases x with
  | normal =>
    obtain ⟨m2, g2, st2⟩ := Wk.pick [] hs rfl hh hq.1 (fo.mark ms) m' a' w' g'
    refine ⟨ms, m2, .normal, _, hmk, hq.2, g2, ?_, st.trans st2⟩
    cases e <;> simp only [Exits] at he ⊢
  | ret =>
    obtain ⟨m2, g2, st2⟩ := Wk.pick [] hs rfl hh hq.1 (fo.mark ms) m' a' w' g'
    refine ⟨ms, m2, .ret, _, hmk, hq.2, g2, ?_, st.trans st2⟩
    cases e <;> simp only [Exits] at he ⊢
  | pan y =>
    obtain ⟨m2, g2, st2⟩ := Wk.pick [] hs rfl hh hq.1 (fo.mark ms) m' a' w' g'
    refine ⟨ms, m2, .pan y, _, hmk, hq.2.2, g2, ?_, st.trans st2⟩
    cases e <;> simp only [Exits] at he ⊢
    obtain ⟨v, older, rfl, ho', hv⟩ := he
    exact ⟨v, older, rfl, ho', (hv.on (ks := []) (m' := m2) (by simp) hq.2.1).mono (Step.keep (fo := (fo.mark ms).f) st2) (Step.sub st2) (fun _ _ e => e)⟩
  | exit i => exact hq.elim
  | goto i => exact hq.elim
attribute [simp] EDQ DQ
theorem AWP.ofK {c : Code} (h : codeK P n c s (kontK P n Q [])) : AWP P n c s Q := codeK_sound _ _ _ h
end
end Go.Ab

namespace Go.Ab
section
variable {P : Program} {n : Nat} {s : St} {Q : AX → St → Prop}
theorem AWP.rangeF1 {g : Operand} {ps : Array Tmp} {assign body : Code} {f : FuncId} {caps : List V} {xs : List (List V)}
    (J : Nat → Heap → Prop) (K : AX → St → Prop) (L0 Lc : Heap) (fr : List (Nat × V)) (hL0 : s.L.Perm (L0 ++ Lc)) (h5 : 5003 ∉ keys Lc) (hLc : ∀ p ∈ Lc, Res.on (keys Lc) p.2 = true) (hLo : ∀ p ∈ L0, Res.on (keys L0) p.2 = true) (hsfr : ∀ p ∈ fr, p ∈ s.fr)
    (hg : s.ev g = .clo (.func f) [] caps) (he : enters P f = true) (hcaps : V.ons (keys Lc) caps = true) (hit : Iter P f caps Lc xs)
    (hrf : hasRF assign = false ∧ hasRF body = false) (hps : ∀ (i : Nat) (x : List V), xs[i]? = some x → x.length = ps.size ∧ V.ons [] x = true) (hpn : ∀ p ∈ ps.toList, p < n)
    (hnd : (keys L0).Nodup) (hfr : ∀ t y, (t, y) ∈ fr → V.on ((labs L0).map (·.1)) y = true)
    (hJ0 : J 0 L0) (hJl : ∀ i L, J i L → labs L = labs L0)
    (round : ∀ (i : Nat) (x : List V) L, xs[i]? = some x → J i L → ∃ L' Hn, (Hn → J (i + 1) L' ∧ labs L' = labs L0) ∧ codeK P n assign ⟨putPs (ps.toList.zip x) fr, L⟩ (AX.then (fun s2 => codeK P n body s2 (RoundQ (keys L0) L0 L' Hn fr K)) (fun _ _ => False)))
    (last : ∀ L, J xs.length L → Q .normal ⟨fr, L⟩) (hK : ∀ x L, K x ⟨fr, L⟩ → Q x ⟨fr, L⟩) : AWP P n (.rangeFunc g ps assign body) s Q := by
  intro fo m a w hr gG
  have hro : fo.r = none := (hr rfl).1
  have hnm : fo.nm = false := (hr rfl).2
  refine wpIn_rangeFunc (F := wr fo.r) (n := 0) (P := P) (fun fn _ => ?_)
  let r := w.heap.size
  let wa := newO w (.deferred (some []))
  let r0 : Loop := { state := .ready, pending := none, fn, tmps := a.tmps, params := ps, assign, body, defers := r }
  let l := wa.heap.size
  let w1 := newO wa (.loop r0)
  have hl : l = w.heap.size + 1 := newO_size _ _
  have hw1 : w1.heap.size = w.heap.size + 2 := by rw [newO_size]; omega
  have hi := gG.inv
  have hold : ∀ b, b < w.heap.size → w1.heap[b]? = w.heap[b]? := fun b hb => by
    rw [newO_lt (by rw [newO_size]; omega), newO_lt hb]
  have hrl : w1.heap[r]? = some (.deferred (some [])) := by
    rw [newO_lt (by rw [newO_size]; exact Nat.lt_succ_self _)]; exact newO_same _ _
  have hll : w1.heap[l]? = some (.loop r0) := newO_same _ _
  have hev := eval_rel gG g
  rw [hg] at hev
  obtain ⟨fa, ca, ev, s1, s2, g1, g2⟩ := clo_inv hev
  have hfa : fa = #[] := by simpa using s1
  subst hfa
  refine ⟨l, [⟨.collected r, #[]⟩], w1, ⟨.fn (.func f) ca, #[.func (.yield l) #[] #[]]⟩, w1, f, #[.func (.yield l) #[] #[]] ++ ca, w1, ?_, ?_, fun _ _ => trivial, ?_, fun h => by simp [wr, Fence.wide] at h, ?_⟩
  · show (Instr.enterLoop fn a.tmps ps assign body (wr fo.r).round).run P w = _
    rw [show (wr fo.r).round = none from hro]
    simp [Instr.enterLoop, Sem.run_bind, run_newO, r, l, w1, wa, r0]
    exact ⟨(newO_size _ _).symm, rfl⟩
  · have hcv : ∀ v, a.eval (.const v) = v := fun _ => rfl
    simp [resolve, rangeCall, ev, hcv, Deferred.ofValue]
  · simpa [invoke] using run_callFunc (P := P) he (#[.func (.yield l) #[] #[]] ++ ca) w1
  have hkeys : ∀ x, x ∈ keys s.L ↔ x ∈ keys L0 ∨ x ∈ keys Lc := by
    intro x
    have : (keys s.L).Perm (keys (L0 ++ Lc)) := hL0.map _
    rw [this.mem_iff]
    simp [keys]
  have hnd2 : (keys L0).Nodup ∧ (keys Lc).Nodup ∧ ∀ x, x ∈ keys L0 → x ∉ keys Lc := by
    have hp : (keys s.L).Perm (keys L0 ++ keys Lc) := by simpa [keys] using hL0.map (·.1)
    have := hp.nodup_iff.1 hi.nodup
    rw [List.nodup_append] at this
    exact ⟨this.1, this.2.1, fun x h1 h2 => this.2.2 x h1 x h2 rfl⟩
  let ml : Nat → Option Value := fun h => if h ∈ keys L0 then m h else none
  let mc : Nat → Option Value := fun h => if h ∈ keys Lc then m h else none
  have hml : ∀ h x, ml h = some x → m h = some x ∧ h ∈ keys L0 := by
    intro h x hx
    by_cases hh : h ∈ keys L0
    · simp only [ml, if_pos hh] at hx; exact ⟨hx, hh⟩
    · simp only [ml, if_neg hh] at hx; cases hx
  have hmc : ∀ h x, mc h = some x → m h = some x ∧ h ∈ keys Lc := by
    intro h x hx
    by_cases hh : h ∈ keys Lc
    · simp only [mc, if_pos hh] at hx; exact ⟨hx, hh⟩
    · simp only [mc, if_neg hh] at hx; cases hx
  have hml' : ∀ h x, h ∈ keys L0 → m h = some x → ml h = some x := fun h x hh hx => by simp only [ml, if_pos hh]; exact hx
  have hmc' : ∀ h x, h ∈ keys Lc → m h = some x → mc h = some x := fun h x hh hx => by simp only [mc, if_pos hh]; exact hx
  have olm : ∀ b, own ml b → own m b := fun b ⟨h, x, hx, hb⟩ => ⟨h, x, (hml h x hx).1, hb⟩
  have ocm : ∀ b, own mc b → own m b := fun b ⟨h, x, hx, hb⟩ => ⟨h, x, (hmc h x hx).1, hb⟩
  have hsep : ∀ b, own ml b → own mc b → False := by
    rintro b ⟨h, x, hx, hb⟩ ⟨h', x', hx', hb'⟩
    have := hi.apart h h' x x' b (hml h x hx).1 (hmc h' x' hx').1 hb hb'
    subst this
    exact hnd2.2.2 h (hml h x hx).2 (hmc h x' hx').2
  let fo1 : FO := ⟨fun b => fo.f b ∨ b = r, [], none, false⟩
  let foB : FO := ⟨fun b => (fo.f b ∨ b = r) ∨ own mc b, [], none, false⟩
  let fo2 : FO := ⟨fun b => ((fo.f b ∨ b = r) ∨ own mc b) ∨ b = l, [], none, false⟩
  have hown : ∀ b, own m b → b < w.heap.size := fun b ⟨h, x, hx, hb⟩ => hi.lt hx hb
  have hO2 : ∀ b, b < w.heap.size → OO fo2 ml b → OO fo m b := by
    rintro b hb (h | (((h | h) | h) | h))
    · exact .inl (olm b h)
    · exact .inr h
    · omega
    · exact .inl (ocm b h)
    · omega
  have hk1 : Keep w (OO fo m) w1 := ⟨by omega, fun b hb _ => hold b hb⟩
  have hi2 : Inv fo2 ml L0 w1 := by
    refine ⟨hnd2.1, fun h x hx => (hml h x hx).2, fun h h' x x' b hx hx' hb hb' => hi.apart h h' x x' b (hml h x hx).1 (hml h' x' hx').1 hb hb', ?_, ?_, ?_, hi.glob.mono hk1 hO2⟩
    · rintro h x b hx hb (((h' | h') | h') | h')
      · exact hi.others h x b (hml h x hx).1 hb h'
      · have := hi.lt (hml h x hx).1 hb; omega
      · exact hsep b ⟨h, x, hx, hb⟩ h'
      · have := hi.lt (hml h x hx).1 hb; omega
    · rintro b (((h' | h') | h') | h')
      · have := hi.folt b h'; omega
      · omega
      · have := hown b (ocm b h'); omega
      · omega
    · intro h q hq
      obtain ⟨x, hx, hh⟩ := hi.holds h q (hL0.mem_iff.2 (List.mem_append_left _ hq))
      have hk : h ∈ keys L0 := List.mem_map.2 ⟨_, hq, rfl⟩
      exact ⟨x, hml' h x hk hx, (hh.on hml' (hLo _ hq)).mono (fun b hb => hold b (hi.lt hx hb)) hk1 hO2 (fun _ _ e => e)⟩
  let B := loopEnv r0 l fr (fun st pd L => st = .done ∧ ∃ c x, pd = some c ∧ jumpAX pd x ∧ K x ⟨fr, L⟩)
  let A : Nat → Env := fun i => loopEnv r0 l fr (fun st pd L => (st = .ready ∧ pd = none ∧ labs L = labs L0) ∧ J i L)
  have hlk : ∀ h, h ∈ (labs L0).map (·.1) → h ∈ keys L0 := by
    intro h hh
    obtain ⟨p, hp, rfl⟩ := List.mem_map.1 hh
    obtain ⟨ty, cs, hm⟩ := labs_mem (h := p.1) (b := p.2) hp
    exact List.mem_map.2 ⟨_, hm, rfl⟩
  have hfrel : ∀ t y, (t, y) ∈ fr → RelV w1 (OO fo2 ml) ml (r0.tmps.getD t undef) y := fun t y hy => (((gG.fr t y (hsfr _ hy)).2.on (fun h x hh hx => hml' h x (hlk h hh) hx) (hfr t y hy))).mono hk1 hO2 (fun _ _ e => e)
  have hloB : ¬ foB.f l := by
    rintro ((h | h) | h)
    · have := hi.folt _ h; omega
    · omega
    · have := hown _ (ocm _ h); omega
  have hbB : Inv foB (one (bval l L0 ml)) [(5003, .env (A 0))] w1 :=
    inv_bundle (fo := foB) (fo' := fo2) (fun b h => .inl h) (.inr rfl) hloB hi2 ⟨⟨rfl, rfl, rfl⟩, hJ0⟩ hll hfrel
  let m1 : Nat → Option Value := fun h => if h = 5003 then some (bval l L0 ml) else mc h
  have hm1 : ∀ h x, m1 h = some x → (h = 5003 ∧ x = bval l L0 ml) ∨ (h ≠ 5003 ∧ mc h = some x) := by
    intro h x hx
    by_cases e : h = 5003
    · simp only [m1, if_pos e, Option.some.injEq] at hx; exact .inl ⟨e, hx.symm⟩
    · simp only [m1, if_neg e] at hx; exact .inr ⟨e, hx⟩
  have hm1c : ∀ h x, mc h = some x → m1 h = some x := by
    intro h x hx
    have : h ≠ 5003 := fun e => h5 (e ▸ (hmc h x hx).2)
    simp only [m1, if_neg this]; exact hx
  have hbl := fun b => blk_bval (l := l) (L := L0) (m := ml) hi2.dom b
  have hownm1 : ∀ b, own m1 b ↔ (b = l ∨ own ml b) ∨ own mc b := by
    intro b
    constructor
    · rintro ⟨h, x, hx, hb⟩
      rcases hm1 h x hx with ⟨rfl, rfl⟩ | ⟨_, hx⟩
      · exact .inl ((hbl b).1 hb)
      · exact .inr ⟨h, x, hx, hb⟩
    · rintro (h | ⟨h, x, hx, hb⟩)
      · exact ⟨5003, _, by simp [m1], (hbl b).2 h⟩
      · exact ⟨h, x, hm1c h x hx, hb⟩
  have hOO1 : ∀ b, OO fo1 m1 b ↔ OO foB (one (bval l L0 ml)) b := by
    intro b
    unfold OO
    rw [hownm1 b, one_own, hbl b]
    constructor
    · rintro ((h | h) | h)
      · exact .inl h
      · exact .inr (.inr h)
      · exact .inr (.inl h)
    · rintro (h | h | h)
      · exact .inl (.inl h)
      · exact .inr h
      · exact .inl (.inr h)
  have hOO1m : ∀ b, b < w.heap.size → OO fo1 m1 b → OO fo m b := by
    intro b hb ho
    rcases ho with ho | ho
    · rcases (hownm1 b).1 ho with (rfl | h) | h
      · omega
      · exact .inl (olm b h)
      · exact .inl (ocm b h)
    · rcases ho with h | h
      · exact .inr h
      · omega
  have hb1 : Inv fo1 m1 ((5003, .env (A 0)) :: Lc) w1 := by
    refine ⟨?_, ?_, ?_, ?_, ?_, ?_, hi.glob.mono hk1 hOO1m⟩
    · simp only [keys, List.map_cons, List.nodup_cons]; exact ⟨h5, hnd2.2.1⟩
    · intro h x hx
      rcases hm1 h x hx with ⟨rfl, _⟩ | ⟨_, hx⟩
      · simp [keys]
      · exact List.mem_cons_of_mem _ (hmc h x hx).2
    · intro h h' x x' b hx hx' hb hb'
      rcases hm1 h x hx with ⟨rfl, rfl⟩ | ⟨_, hx⟩ <;> rcases hm1 h' x' hx' with ⟨rfl, rfl⟩ | ⟨_, hx'⟩
      · rfl
      · rcases (hbl b).1 hb with rfl | h1
        · have := hi.lt (hmc h' x' hx').1 hb'; omega
        · exact (hsep b h1 ⟨h', x', hx', hb'⟩).elim
      · rcases (hbl b).1 hb' with rfl | h1
        · have := hi.lt (hmc h x hx).1 hb; omega
        · exact (hsep b h1 ⟨h, x, hx, hb⟩).elim
      · exact hi.apart h h' x x' b (hmc h x hx).1 (hmc h' x' hx').1 hb hb'
    · intro h x b hx hb hf
      rcases hm1 h x hx with ⟨rfl, rfl⟩ | ⟨_, hx⟩
      · rcases (hbl b).1 hb with rfl | ⟨i, z, hz, hzb⟩
        · rcases hf with h | h
          · have := hi.folt _ h; omega
          · omega
        · rcases hf with h | h
          · exact hi.others i z b (hml i z hz).1 hzb h
          · have := hi.lt (hml i z hz).1 hzb; omega
      · rcases hf with h' | h'
        · exact hi.others h x b (hmc h x hx).1 hb h'
        · have := hi.lt (hmc h x hx).1 hb; omega
    · rintro b (h | h)
      · have := hi.folt b h; omega
      · omega
    · intro h q hq
      rcases List.mem_cons.1 hq with e | hq
      · simp only [Prod.mk.injEq] at e
        obtain ⟨rfl, rfl⟩ := e
        obtain ⟨x, hx, hh⟩ := hbB.holds 5003 _ List.mem_cons_self
        have hx' : x = bval l L0 ml := by simpa [one] using hx.symm
        subst hx'
        exact ⟨_, by simp [m1], hh.mono (fun _ _ => rfl) (Keep.refl w1 _) (fun b _ hb => (hOO1 b).1 hb) (fun i z hz => by
          by_cases e : i = 5003
          · simp only [one, if_pos e] at hz; simp only [m1, if_pos e]; exact hz
          · simp only [one, if_neg e] at hz; cases hz)⟩
      · obtain ⟨x, hx, hh⟩ := hi.holds h q (hL0.mem_iff.2 (List.mem_append_right _ hq))
        have hk : h ∈ keys Lc := List.mem_map.2 ⟨_, hq, rfl⟩
        exact ⟨x, hm1c h x (hmc' h x hk hx), ((hh.on hmc' (hLc _ hq)).mono (fun b hb => hold b (hi.lt hx hb)) hk1 hOO1m hm1c)⟩
  have hcall := hit l A B (fun i x hx => ?_)
  · have hargs : RelVs w1 (OO fo1 m1) m1 (#[.func (.yield l) #[] #[]] ++ ca) (yv l :: caps) := by
      have h1 : RelVs w1 (OO fo1 m1) m1 #[.func (.yield l) #[] #[]] [yv l] := by
        refine ⟨rfl, fun j x y hx hy => ?_⟩
        match j with
        | 0 =>
          simp only [List.getElem?_cons_zero, Option.some.injEq] at hy
          have hx' : x = .func (.yield l) #[] #[] := by simpa using hx.symm
          subst hy; subst hx'
          exact .d _ _ (.v _ rfl)
        | j + 1 => simp at hy
      refine h1.append (ys' := caps) ⟨s2, fun j x y hx hy => ?_⟩
      exact ((g2 j x y hx hy).on hmc' (ons_mem hcaps y (List.mem_of_getElem? hy))).mono hk1 hOO1m hm1c
    have hc := hcall fo1 m1 w1 _ hb1 hargs
    refine wr_calls (hc.mono ?_)
    rintro e w3 ⟨m', rr, L', ⟨⟨y, rfl⟩, hL'⟩, hends, hi3, st3⟩
    have hro1 : ¬ own m1 r := by
      rw [hownm1]
      rintro ((h | h) | h)
      · omega
      · have := hown _ (olm _ h); omega
      · have := hown _ (ocm _ h); omega
    have hr3 : w3.heap[r]? = some (.deferred (some [])) := by rw [st3.block r (by omega) hro1]; exact hrl
    have hown1 : ∀ b, own m1 b → b = l ∨ own m b := fun b h => by
      rcases (hownm1 b).1 h with (h | h) | h
      · exact .inl h
      · exact .inr (olm b h)
      · exact .inr (ocm b h)
    have fin : ∀ st pd L m2, st ≠ .busy → w3.heap[l]? = some (.loop { r0 with state := st, pending := pd }) → Inv ⟨fun b => fo1.f b ∨ b = l, [], none, false⟩ m2 L w3 → (∀ t y, (t, y) ∈ fr → RelV w3 (OO ⟨fun b => fo1.f b ∨ b = l, [], none, false⟩ m2) m2 (r0.tmps.getD t undef) y) → (∀ b, own m' b ↔ b = l ∨ own m2 b) →
        ∃ w4, (Instr.endLoop l).run P w3 = .ok pd w4 ∧ G (fo.mark [r]) n m2 ⟨fr, L⟩ { a with defers := [⟨.collected r, #[]⟩] ++ a.defers } w4 ∧ Step w (own m) w4 (own m2) ∧ Marks fo.nm w w4 [r] := by
      intro st pd L m2 hst hrec hi4 hf4 ho4
      have hl3 : l < w3.heap.size := (Array.getElem?_eq_some_iff.1 hrec).1
      refine ⟨setO w3 l (.loop { r0 with state := .exhausted, pending := pd }), ?_, ?_, ?_, ?_⟩
      · simp [Instr.endLoop, Instr.getLoop, Sem.run_bind, run_getO hrec (by simp), run_setO hrec (by simp), hst]
      · have g4 : G (⟨fun b => fo1.f b ∨ b = l, ⟨.collected r, #[]⟩ :: fo.D, fo.r, fo.nm⟩ : FO) n m2 ⟨fr, L⟩ { a with defers := [⟨.collected r, #[]⟩] ++ a.defers } w3 :=
          ⟨gG.size, fun t y hy => ⟨(gG.fr t y (hsfr _ hy)).1, hf4 t y hy⟩, ⟨hi4.nodup, hi4.dom, hi4.apart, hi4.others, hi4.folt, hi4.holds, hi4.glob⟩, by simp [gG.defers]⟩
        have g5 := g4.others (w' := setO w3 l (.loop { r0 with state := .exhausted, pending := pd })) (by rw [setO_size]; exact Nat.le_refl _) (fun b _ hb => setO_ne (fun e => hb (.inr e)))
        have hsub : ∀ b, (fo.mark [r]).f b → (fun b => fo1.f b ∨ b = l) b := by
          rintro b (h | h)
          · exact .inl (.inl h)
          · exact .inl (.inr (by simpa using h))
        refine ⟨g5.size, fun t y hy => ⟨(g5.fr t y hy).1, (g5.fr t y hy).2.mono (Keep.refl _ _) (fun b _ hb => hb.imp id (hsub b)) (fun _ _ e => e)⟩, g5.inv.less hsub, ?_⟩
        simp [FO.mark, gG.defers]
      · refine ⟨?_, ?_, ?_, ?_, fun b hb ho => ?_, fun b hb ho => ?_⟩
        · show w3.os = w.os
          exact st3.os
        · show w3.tape = w.tape
          exact st3.tape
        · show w3.output = w.output
          exact st3.output
        · rw [setO_size]; have := st3.size; omega
        · rw [setO_ne (by omega), st3.block b (by omega) (fun h => (hown1 b h).elim (fun h => by omega) ho)]
          exact hold b hb
        · have h1 := st3.owned b (by omega) ((ho4 b).2 (.inr ho))
          rcases hown1 b h1 with h | h
          · omega
          · exact h
      · refine ⟨⟨by simp, by simp [hnm]⟩, fun b hb => ?_⟩
        obtain rfl : b = r := by simpa using hb
        exact ⟨Nat.le_refl _, by rw [setO_ne (by omega)]; exact hr3⟩
    cases e with
    | returned v =>
      rcases hL' with rfl | rfl
      · obtain ⟨st, pd, L, m2, ⟨⟨rfl, rfl, hlab⟩, hJ⟩, hrec, hi4, hf4, ho4, _⟩ := inv_open hi3 [] none
        obtain ⟨w4, h1, h2, h3, h4⟩ := fin _ _ L m2 (by simp) hrec hi4 hf4 ho4
        exact ⟨none, w4, h1, [r], m2, .normal, _, h4, last L hJ, h2, trivial, h3⟩
      · obtain ⟨st, pd, L, m2, ⟨rfl, c, x, rfl, hj, hKx⟩, hrec, hi4, hf4, ho4, _⟩ := inv_open hi3 [] none
        obtain ⟨w4, h1, h2, h3, h4⟩ := fin _ _ L m2 (by simp) hrec hi4 hf4 ho4
        refine ⟨some c, w4, h1, ?_⟩
        have hq := hK x L hKx
        show Code.wpIn (wr fo.r) 0 P c _ _ w4
        cases c <;> cases x <;> simp only [jumpAX] at hj
        all_goals first
          | exact wpIn_ret (show Post fo n m w Q .ret _ _ from ⟨[r], m2, _, _, h4, hq, h2, trivial, h3⟩)
          | (subst hj; exact wpIn_exit (show Post fo n m w Q (.exit _) _ _ from ⟨[r], m2, _, _, h4, hq, h2, rfl, h3⟩))
          | (subst hj; exact wpIn_goto (show Post fo n m w Q (.goto _) _ _ from ⟨[r], m2, _, _, h4, hq, h2, rfl, h3⟩))
    | panicked ch => simp only [Ends] at hends
    | outgrown => simp only [Ends] at hends
  · obtain ⟨hx1, hx2⟩ := hps i x hx
    refine yield_of_body (r0 := r0) (l := l) (fr := fr) (L0 := L0) (K := K) hrf gG.size hx1 hpn hx2 (fun t y hy => ⟨(gG.fr t y (hsfr _ hy)).1, hfr t y hy⟩) (fun st pd L h => h.1) ?_ hnd ?_
    · rintro st pd L ⟨⟨rfl, rfl, hlab⟩, hj⟩
      obtain ⟨L', Hn, h1, h2⟩ := round i x L hx hj
      exact ⟨L', Hn, fun h => ⟨⟨⟨rfl, rfl, (h1 h).2⟩, (h1 h).1⟩, (h1 h).2⟩, h2⟩
    · intro pd x' L hj hlab hKx
      cases pd with
      | none => simp [jumpAX] at hj
      | some c => exact ⟨rfl, c, x', rfl, hj, hKx⟩
theorem AWP.rangeLc {α : Type} {g : Operand} {ps : Array Tmp} {assign body : Code} {f : FuncId} {caps : List V} {ks : List KI} (hs ts : List Nat) (l : List α) (e : α → List V) (R : List α → List (Nat × Res)) (H : List α → Prop)
    (hit : Iter P f caps (s.L.filter fun p => hs.contains p.1) (l.map e)) (hg : s.ev g = .clo (.func f) [] caps) (he : enters P f = true) (hcaps : V.ons (keys (s.L.filter fun p => hs.contains p.1)) caps = true)
    (hrf : hasRF assign = false ∧ hasRF body = false) (hps : ∀ x ∈ l, (e x).length = ps.size ∧ V.ons [] (e x) = true) (hpn : ps.toList.all (fun p => decide (p < n)) = true) (ht : ts.all (fun t => decide (t < n)) = true)
    (h0 : (keys (s.L.filter fun p => !hs.contains p.1)).Nodup ∧ ((s.L.filter fun p => !hs.contains p.1).all (fun p => Res.on (keys (s.L.filter fun p => !hs.contains p.1)) p.2) = true ∧ (s.L.filter fun p => hs.contains p.1).all (fun p => Res.on (keys (s.L.filter fun p => hs.contains p.1)) p.2) = true ∧ (keys (s.L.filter fun p => hs.contains p.1)).contains 5003 = false) ∧ (ts.all fun t => V.on ((labs (s.L.filter fun p => !hs.contains p.1)).map (·.1)) (getF t s.fr)) = true ∧ (s.L.filter fun p => !hs.contains p.1) = upL (s.L.filter fun p => !hs.contains p.1) (R []) ∧ H [])
    (hlab : ∀ pre, labs (upL (s.L.filter fun p => !hs.contains p.1) (R pre)) = labs (s.L.filter fun p => !hs.contains p.1))
    (round : ∀ pre x post, l = pre ++ x :: post → H pre → codeK P n assign ⟨putPs (ps.toList.zip (e x)) (ts.map fun t => (t, getF t s.fr)), upL (s.L.filter fun p => !hs.contains p.1) (R pre)⟩
      (kontK P n (fun _ _ => False) [.inv (fun s2 => codeK P n body s2 (kontK P n (RoundQ (keys (s.L.filter fun p => !hs.contains p.1)) (s.L.filter fun p => !hs.contains p.1) (upL (s.L.filter fun p => !hs.contains p.1) (R (pre ++ [x]))) (H (pre ++ [x])) (ts.map fun t => (t, getF t s.fr)) (kontK P n Q ks)) []))]))
    (last : H l → kontK P n Q ks .normal ⟨ts.map fun t => (t, getF t s.fr), upL (s.L.filter fun p => !hs.contains p.1) (R l)⟩) : AWP P n (.rangeFunc g ps assign body) s (kontK P n Q ks) := by
  obtain ⟨h1, h2, h3, h4, h5⟩ := h0
  let s1 : St := ⟨(ts.map fun t => (t, getF t s.fr)) ++ s.fr, s.L⟩
  have hw : Wk n s s1 := by
    intro fo m a w gG
    refine ⟨m, ⟨gG.size, fun t x hx => ?_, gG.inv, gG.defers⟩, Step.refl w _⟩
    rcases List.mem_append.1 hx with hx | hx
    · obtain ⟨t', ht', e⟩ := List.mem_map.1 hx
      simp only [Prod.mk.injEq] at e
      obtain ⟨rfl, rfl⟩ := e
      rw [List.all_eq_true] at ht
      refine ⟨by simpa using ht t' ht', ?_⟩
      exact get_rel gG t'
    · exact gG.fr t x hx
  have getF_app : ∀ t, getF t s1.fr = getF t s.fr := by
    intro t
    show getF t ((ts.map fun t => (t, getF t s.fr)) ++ s.fr) = _
    clear hw h2 h3 ht round last
    induction ts with
    | nil => rfl
    | cons u ts ih =>
      rw [List.map_cons, List.cons_append, getF]
      split
      · rename_i h; rw [h]
      · exact ih
  have hg1 : s1.ev g = .clo (.func f) [] caps := by
    rw [← hg]
    cases g with
    | tmp t => exact getF_app t
    | _ => rfl
  refine AWP.weaken hw ?_
  refine AWP.rangeF1 (J := fun i L => L = upL (s.L.filter fun p => !hs.contains p.1) (R (l.take i)) ∧ H (l.take i)) (K := kontK P n Q ks) (s.L.filter fun p => !hs.contains p.1) (s.L.filter fun p => hs.contains p.1) (ts.map fun t => (t, getF t s.fr)) ((List.filter_append_perm (fun p => hs.contains p.1) s.L).symm.trans List.perm_append_comm) (by simpa using h2.2.2) (fun p hp => List.all_eq_true.1 h2.2.1 p hp) (fun p hp => List.all_eq_true.1 h2.1 p hp) (fun p hp => List.mem_append_left _ hp) hg1 he hcaps hit hrf ?_ ?_ h1 ?_ ?_ ?_ ?_ ?_ ?_
  · intro i x hx
    rw [List.getElem?_map] at hx
    obtain ⟨z, hz, rfl⟩ := Option.map_eq_some_iff.1 hx
    exact hps z (List.mem_of_getElem? hz)
  · intro p hp
    rw [List.all_eq_true] at hpn
    simpa using hpn p hp
  · intro t y hy
    obtain ⟨t', ht', e⟩ := List.mem_map.1 hy
    simp only [Prod.mk.injEq] at e
    obtain ⟨rfl, rfl⟩ := e
    rw [List.all_eq_true] at h3
    exact h3 t' ht'
  · exact ⟨h4, h5⟩
  · rintro i L ⟨rfl, _⟩
    exact hlab _
  · rintro i x L hx ⟨rfl, hH⟩
    rw [List.getElem?_map] at hx
    obtain ⟨z, hz, rfl⟩ := Option.map_eq_some_iff.1 hx
    have hlt : i < l.length := (List.getElem?_eq_some_iff.1 hz).1
    have hsp : l = l.take i ++ z :: l.drop (i + 1) := by
      have : l.drop i = z :: l.drop (i + 1) := by
        rw [List.drop_eq_getElem_cons hlt]
        rw [List.getElem?_eq_getElem hlt, Option.some.injEq] at hz
        rw [hz]
      rw [← this, List.take_append_drop]
    have htk : l.take (i + 1) = l.take i ++ [z] := by rw [List.take_add_one, hz]; rfl
    refine ⟨upL (s.L.filter fun p => !hs.contains p.1) (R (l.take i ++ [z])), H (l.take i ++ [z]), fun h => ⟨by rw [htk]; exact ⟨rfl, h⟩, hlab _⟩, ?_⟩
    have hr := round _ z _ hsp hH
    exact hr
  · rintro L ⟨rfl, hH⟩
    rw [List.length_map, List.take_length] at *
    exact last hH
  · intro x L h; exact h
end
end Go.Ab

namespace Go.Ab
section
variable {P : Program} {n : Nat} {s : St} {Q : AX → St → Prop} {ops : Array Oper}
theorem ACalls.wk {f : FuncId} {args : List V} {L : Heap} {R R' : AE → Heap → Prop} (h : ACalls P f args L R) (hw : ∀ r L', R r L' → ∃ x x2 L2, r = .ret x ∧ Wk 1 ⟨[(0, x)], L'⟩ ⟨[(0, x2)], L2⟩ ∧ R' (.ret x2) L2) : ACalls P f args L R' := by
  intro fo m w xs hi hx
  refine (h fo m w xs hi hx).mono ?_
  rintro e w' ⟨m', r, L', hR, he, hi', st⟩
  obtain ⟨x, x2, L2, rfl, hwk, hR'⟩ := hw r L' hR
  cases e with
  | returned v =>
    simp only [Ends] at he
    have g : G fo 1 m' ⟨[(0, x)], L'⟩ { tmps := #[v], defers := fo.D } w' := by
      refine ⟨rfl, fun t y hy => ?_, hi', rfl⟩
      simp only [List.mem_singleton, Prod.mk.injEq] at hy
      obtain ⟨rfl, rfl⟩ := hy
      exact ⟨by omega, he⟩
    obtain ⟨m2, g2, st2⟩ := hwk fo m' _ w' g
    exact ⟨m2, _, L2, hR', (g2.fr 0 x2 List.mem_cons_self).2, g2.inv, st.trans st2⟩
  | panicked c => simp only [Ends] at he
  | outgrown => simp only [Ends] at he
end
end Go.Ab

namespace Go.Ab
section
variable {P : Program} {n : Nat} {s : St} {Q : AX → St → Prop} {L : Heap}
theorem AOps.callX {ops : Array Oper} {o : Oper} {rest : List Oper} {c : Call} {f : FuncId} {args : List V} {L1 L2 : Heap} {R : AE → Heap → Prop} (fr : List (Nat × V)) (hg : o.guard = none) (hd : ∀ d, o.dst = some d → d < n)
    (hop : o.op = .call c) (hc : callee s.ev c = some (f, args)) (he : enters P f = true) (ho : V.ons (keys L1) args = true) (hL : s.L.Perm (L1 ++ L2)) (hon : L1.all (fun p => Res.on (keys L1) p.2) = true)
    (hfr : ∀ p ∈ fr, p ∈ s.fr ∧ V.on (keys L2 ++ (L1.filterMap fun p => match p.2 with | .box (_ + 1) _ _ => some p.1 | _ => none)) p.2 = true)
    (hL2 : ∀ p ∈ L2, Res.on (keys L2 ++ (L1.filterMap fun p => match p.2 with | .box (_ + 1) _ _ => some p.1 | _ => none)) p.2 = true)
    (h : ACalls P f args L1 R)
    (hstay : ∀ r L1', R r L1' → (∃ x, r = .ret x) ∧ (∀ k ∈ keys L1', k ∉ keys L2) ∧ ∀ k b ty cs, (k, Res.box (b + 1) ty cs) ∈ L1 → ∃ ty' cs', (k, Res.box (b + 1) ty' cs') ∈ L1')
    (k : ∀ x L1', R (.ret x) L1' → AOps P n ops rest (St.put ⟨fr, L1' ++ L2⟩ o.dst x) Q) : AOps P n ops (o :: rest) s Q := by
  intro fo m0 w0 m a w st g
  unfold wpListIn
  rw [if_pos (by simp [Region.wanted, hg])]
  refine call_core hop hc he ho hL hon hL2 h hstay g fun x L1' mm v w' hR hrx hinv stt hbx hkeep hO' => ?_
  have g' : G fo n mm ⟨fr, L1' ++ L2⟩ a w' := ⟨g.size, fun t y hy => by
    obtain ⟨q0, q3⟩ := hfr _ hy
    obtain ⟨q1, q2⟩ := g.fr t y q0
    exact ⟨q1, (q2.on hbx q3).mono hkeep hO' (fun _ _ e => e)⟩, hinv, g.defers⟩
  exact k x L1' hR fo m0 w0 mm _ w' (st.trans stt) (g'.put hd hrx)
theorem AOps.effX {ops : Array Oper} {o : Oper} {rest : List Oper} {c : Call} {f : FuncId} {args : List V} {L1 L1' : Heap} {x : V} (hs : List Nat) (hop : o.op = .call c) (h : ACalls P f args L1 (fun r L => r = .ret x ∧ L = L1')) (hc : callee s.ev c = some (f, args)) (hg : o.guard = none)
    (hd : ∀ d, o.dst = some d → d < n) (hr : dstsOk n rest = true) (he : enters P f = true) (hL : s.L.filter (fun p => hs.contains p.1) = L1)
    (ho : V.ons (keys L1) args = true ∧ L1.all (fun p => Res.on (keys L1) p.2) = true ∧ L1.all (fun p => match p.2 with | .box (_ + 1) _ _ => false | _ => true) = true)
    (hL2 : (s.L.filter fun p => !hs.contains p.1).all (fun p => Res.on (keys (s.L.filter fun p => !hs.contains p.1)) p.2) = true)
    (hk : (keys L1').all (fun k => !(keys (s.L.filter fun p => !hs.contains p.1)).contains k) = true)
    (k : ∀ bs, runC P ops rest (St.put ⟨s.fr.filter fun p => V.on (keys (s.L.filter fun p => !hs.contains p.1)) p.2, L1' ++ s.L.filter fun p => !hs.contains p.1⟩ o.dst x) bs [] (KK P n ops Q)) : AOps P n ops (o :: rest) s Q := by
  have hb : (L1.filterMap fun p => match p.2 with | .box (_ + 1) _ _ => some p.1 | _ => none) = [] := by
    rw [List.filterMap_eq_nil_iff]
    intro p hp
    have := List.all_eq_true.1 ho.2.2 p hp
    split <;> simp_all
  refine AOps.callX (L1 := L1) (L2 := s.L.filter fun p => !hs.contains p.1) (s.fr.filter fun p => V.on (keys (s.L.filter fun p => !hs.contains p.1)) p.2) hg hd hop hc he ho.1 (by subst hL; exact (List.filter_append_perm _ s.L).symm) ho.2.1 ?_ ?_ h ?_ ?_
  · intro p hp
    rw [hb, List.append_nil]
    exact List.mem_filter.1 hp
  · rw [hb, List.append_nil]
    intro p hp
    exact List.all_eq_true.1 hL2 p hp
  · rintro r L1'' ⟨rfl, rfl⟩
    refine ⟨⟨_, rfl⟩, fun k hk' => ?_, fun k b ty cs hm => ?_⟩
    · have := List.all_eq_true.1 hk k hk'
      simpa using this
    · have := List.all_eq_true.1 ho.2.2 _ hm
      simp at this
  · rintro x' L1'' ⟨e, rfl⟩
    obtain rfl := AE.ret.inj e
    exact runC_sound rest _ [] hr k
end
end Go.Ab
