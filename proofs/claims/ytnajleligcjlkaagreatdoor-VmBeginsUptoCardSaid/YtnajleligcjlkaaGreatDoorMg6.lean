/-
  The texts Pe Pf Pt Pu Dn Vpeep Vpeep2 Vpeep3 Vpeep4 Vpeep5 Vasm Vasm2 Lo Vasm3 Vasm4 Vasm5 Vasm6 Vasm7 Vasm8 Gexpr Gwrite Gwexpr Gwlog Gwx Gex Glook Glaw1 Gsfew Gsfew2 Gst Gst2, one behind the other.
-/
import Derived.Test.YtnajleligcjlkaaGreatDoorMg5
set_option linter.unusedSimpArgs false
set_option linter.unusedVariables false
namespace Go.Ab
section
variable {P : Program} {n : Nat} {s : St} {Q : AX → St → Prop} {L : Heap} {ops : Array Oper}
def XPost (P : Program) (rs : List ResultVar) (R : AE → Heap → Prop) (ts hs : List Nat) (x : AX) (s : St) : Prop :=
  match x with
  | .normal | .ret => (s.pick ts hs).on (keys (s.pick ts hs).L) = true ∧ FPost P rs R .ret (s.pick ts hs)
  | .pan y => ((s.pick [] hs).on (keys (s.pick [] hs).L) = true ∧ y.on [] = true) ∧ R (.pan y) (s.pick [] hs).L
  | _ => False
theorem AWP.xpost {c : Code} {rs : List ResultVar} {R : AE → Heap → Prop} (ts hs : List Nat) (ht : ts.all (fun t => decide (t < n)) = true) (hh : hs.Nodup) (h : AWP P n c s (XPost P rs R ts hs)) : AWP P n c s (FPost P rs R) := by
  intro fo m a w hr g
  refine Code.wpIn_mono (fun e a1 w1 hp => ?_) (h fo m a w hr g)
  obtain ⟨ms, m', x, s', hmk, hq, g', he, st⟩ := hp
  have key : ∀ y, (s'.pick ts hs).on (keys (s'.pick ts hs).L) = true ∧ FPost P rs R .ret (s'.pick ts hs) → (∀ m2, Exits w1 (OO (fo.mark ms) m2) m2 e y) → FPost P rs R .ret (s'.pick ts hs) = FPost P rs R y (s'.pick ts hs) → Post fo n m w (FPost P rs R) e a1 w1 := by
    intro y h1 h2 h3
    obtain ⟨m2, g2, st2⟩ := Wk.pick ts hs ht hh h1.1 (fo.mark ms) m' a1 w1 g'
    exact ⟨ms, m2, y, s'.pick ts hs, hmk, h3 ▸ h1.2, g2, h2 m2, st.trans st2⟩
  cases x with
  | normal =>
    refine key .normal hq (fun m2 => ?_) rfl
    cases e <;> simp [Exits] at he ⊢
  | ret =>
    refine key .ret hq (fun m2 => ?_) rfl
    cases e <;> simp [Exits] at he ⊢
  | pan y =>
    obtain ⟨⟨h1, h2⟩, h3⟩ := hq
    obtain ⟨m2, g2, st2⟩ := Wk.pick [] hs rfl hh h1 (fo.mark ms) m' a1 w1 g'
    refine ⟨ms, m2, .pan y, s'.pick [] hs, hmk, h3, g2, ?_, st.trans st2⟩
    cases e <;> simp only [Exits] at he ⊢
    obtain ⟨v, older, rfl, ho', hv⟩ := he
    exact ⟨v, older, rfl, ho', (hv.on (ks := []) (m' := m2) (by simp) h2).mono (Step.keep (fo := (fo.mark ms).f) st2) (Step.sub st2) (fun _ _ e => e)⟩
  | exit i => exact hq.elim
  | goto i => exact hq.elim
theorem ACalls.runX (ts hs : List Nat) {f : FuncId} {args : List V} {R : AE → Heap → Prop} {fn : Func} {c : Code} (hf : P.funcs[f]? = some fn) (hb : fn.body = some c) (hn : args.length ≤ fn.ntmps ∧ ts.all (fun t => decide (t < fn.ntmps)) = true ∧ hs.Nodup)
    (h : codeK P fn.ntmps c ⟨argFrame 0 args, L⟩ (kontK P fn.ntmps (XPost P fn.results.toList R ts hs) [])) : ACalls P f args L R :=
  ACalls.of_AWP hf hb hn.1 (AWP.xpost ts hs hn.2.1 hn.2.2 (codeK_sound _ _ _ h))
attribute [simp] XPost
theorem AOps.effPanK {o : Oper} {rest : List Oper} {c : Call} {f : FuncId} {args : List V} {L1 L1' : Heap} {y : V} (hs : List Nat) (hop : o.op = .call c) (h : ACalls P f args L1 (fun r L => r = .pan y ∧ L = L1')) (hc : callee s.ev c = some (f, args)) (hg : o.guard = none)
    (hd : ∀ d, o.dst = some d → d < n) (he : enters P f = true) (hL : s.L.filter (fun p => hs.contains p.1) = L1)
    (ho : V.ons (keys L1) args = true ∧ L1.all (fun p => Res.on (keys L1) p.2) = true ∧ L1.all (fun p => !isBox p.2 || L1'.any (fun q => q.1 == p.1 && (isBox q.2 && boxAt q.2 == boxAt p.2))) = true)
    (hL2 : (s.L.filter fun p => !hs.contains p.1).all (fun p => Res.on (keys (s.L.filter fun p => !hs.contains p.1) ++ keys (L1.filter fun p => isBox p.2)) p.2) = true)
    (hk : (keys L1').all (fun k => !(keys (s.L.filter fun p => !hs.contains p.1)).contains k) = true)
    (kp : Q (.pan y) ⟨s.fr.filter fun p => V.on (keys (s.L.filter fun p => !hs.contains p.1) ++ keys (L1.filter fun p => isBox p.2)) p.2, L1' ++ s.L.filter fun p => !hs.contains p.1⟩) : AOps P n ops (o :: rest) s Q := by
  intro fo m0 w0 m a w st g
  have hbx : (L1.filterMap fun p => match p.2 with | .box (_ + 1) _ _ => some p.1 | _ => none) = keys (L1.filter fun p => isBox p.2) := by
    generalize L1 = l
    induction l with
    | nil => rfl
    | cons p l ih =>
      obtain ⟨a, r⟩ := p
      cases r with
      | box b ty cs =>
        cases b with
        | succ b => simp only [List.filterMap_cons, List.filter_cons, isBox, if_true, keys, List.map_cons, ih]
        | zero =>
          simp only [List.filterMap_cons, List.filter_cons, isBox, ih]
          simp
      | row ty k xs =>
        simp only [List.filterMap_cons, List.filter_cons, isBox, ih]
        simp
      | env A =>
        simp only [List.filterMap_cons, List.filter_cons, isBox, ih]
        simp
      | mp es =>
        simp only [List.filterMap_cons, List.filter_cons, isBox, ih]
        simp
  unfold wpListIn
  rw [if_pos (by simp [Region.wanted, hg])]
  have hperm : s.L.Perm (L1 ++ s.L.filter fun p => !hs.contains p.1) := by subst hL; exact (List.filter_append_perm _ s.L).symm
  refine call_coreP hop hc he ho.1 hperm ho.2.1 (fun p hp => by have h1 := List.all_eq_true.1 hL2 p hp; rw [← hbx] at h1; exact h1) h ?_ g (fun x L1'' mm v w' hR _ _ _ _ _ _ => by cases hR.1) (fun x L1'' mm ch w' hR hch hinv stt hbx' hkeep hO' => ?_)
  · rintro r L1'' ⟨rfl, rfl⟩
    refine ⟨fun k hk' => ?_, fun k b ty cs hm => ?_⟩
    · have := List.all_eq_true.1 hk k hk'
      simpa using this
    · have := List.all_eq_true.1 ho.2.2 _ hm
      simp only [isBox, Bool.not_true, Bool.false_or, List.any_eq_true, Bool.and_eq_true, beq_iff_eq] at this
      obtain ⟨⟨a, r⟩, h1, h2, h3, h4⟩ := this
      simp only at h2
      subst h2
      cases r with
      | box b' ty' cs' =>
        simp only [boxAt, Option.some.injEq] at h4
        subst h4
        exact ⟨ty', cs', h1⟩
      | row _ _ _ => simp at h3
      | env _ => simp at h3
      | mp _ => simp at h3
  · obtain ⟨e, rfl⟩ := hR
    obtain rfl := AE.pan.inj e
    have g' : G fo n mm ⟨s.fr.filter fun p => V.on (keys (s.L.filter fun p => !hs.contains p.1) ++ keys (L1.filter fun p => isBox p.2)) p.2, L1'' ++ s.L.filter fun p => !hs.contains p.1⟩ a w' := ⟨g.size, fun t y hy => by
      obtain ⟨h1, h2⟩ := List.mem_filter.1 hy
      obtain ⟨q1, q2⟩ := g.fr t y h1
      refine ⟨q1, (q2.on (fun i z hi hz => hbx' i z ?_ hz) h2).mono hkeep hO' (fun _ _ e => e)⟩
      have e := hbx
      rw [← e] at hi
      exact hi, hinv, g.defers⟩
    exact .of mm (.pan x) _ kp g' hch (st.trans stt)
end
end Go.Ab

namespace Go.Ab
section
variable {P : Program} {n : Nat} {Q : AX → St → Prop} {ops : Array Oper} {ov : List Nat}
def stopS (P : Program) (ops : Array Oper) (ov : List Nat) (l : List (Oper × Option (Nat × Nat))) (fr : FrM) (ks : List (Option Nat)) (Ls : List Heap) (us : List V) (ds : List Dfr) (Q : AX → St → Prop) : Prop :=
  runP P ops ov l fr ks Ls us ds (fun fr ks Ls => ∀ bs, Q .normal (St.opn bs ⟨frAt ks ks.length fr, Ls.getD ks.length []⟩)) (fun y L' => ∀ bs, Q (.pan y) (St.opn bs ⟨[], L'⟩))
def runS (P : Program) (ops : Array Oper) (ov : List Nat) : List (Oper × Option (Nat × Nat)) → FrM → List (Option Nat) → List Heap → List V → List Dfr → (AX → St → Prop) → Prop
  | [], fr, ks, Ls, _, ds, Q => dAll P ops ks Ls ds ∧ ∀ bs, Q .normal (St.opn bs ⟨frAt ks ks.length fr, Ls.getD ks.length []⟩)
  | (o, none) :: rest, fr, ks, Ls, us, ds, Q =>
    match (if ov.any (fun t => o.dst == some t) then none else lv P ops ⟨frAt ks ks.length fr, Ls.getD ks.length []⟩ o) with
    | some (x, k, L', c) => c ∧ runS P ops ov rest (putM fr o.dst (ks.length + 1) x) (ks ++ [k]) (Ls ++ [L']) us ds Q
    | none => stopS P ops ov ((o, none) :: rest) fr ks Ls us ds Q
  | (o, some (lo, hi)) :: rest, fr, ks, Ls, us, ds, Q =>
    if isCall o then
      match us with
      | [] => False
      | u :: us' => match cv P ops ⟨frAt ks ks.length fr, Ls.getD ks.length []⟩ o u with
        | some (x, c) => c ∧ allP (ks.length - lo) lo (fun p => qAt P ops o ⟨frAt ks p fr, Ls.getD p []⟩ x (some u)) ∧
            runS P ops ov rest (putM fr o.dst lo x) ks Ls us' (if ks.length < hi then ⟨o, fr, x, ks.length, hi, some u⟩ :: ds else ds) Q
        | none => False
    else
      match qv P ops ⟨frAt ks ks.length fr, Ls.getD ks.length []⟩ o with
      | some (x, c) => c ∧ allP (ks.length - lo) lo (fun p => qAt P ops o ⟨frAt ks p fr, Ls.getD p []⟩ x none) ∧
          runS P ops ov rest (putM fr o.dst lo x) ks Ls us (if ks.length < hi then ⟨o, fr, x, ks.length, hi, none⟩ :: ds else ds) Q
      | none => False
theorem boxes_stay {L1 L1' : Heap} (h : L1.all (fun p => !isBox p.2 || L1'.any (fun q => q.1 == p.1 && (isBox q.2 && boxAt q.2 == boxAt p.2))) = true) : ∀ k b ty cs, (k, Res.box (b + 1) ty cs) ∈ L1 → ∃ ty' cs', (k, Res.box (b + 1) ty' cs') ∈ L1' := by
  intro k b ty cs hm
  have := List.all_eq_true.1 h _ hm
  simp only [isBox, Bool.not_true, Bool.false_or, List.any_eq_true, Bool.and_eq_true, beq_iff_eq] at this
  obtain ⟨⟨a, r⟩, h1, h2, h3, h4⟩ := this
  simp only at h2
  subst h2
  cases r with
  | box b' ty' cs' =>
    simp only [boxAt, Option.some.injEq] at h4
    subst h4
    exact ⟨ty', cs', h1⟩
  | row _ _ _ => simp at h3
  | env _ => simp at h3
  | mp _ => simp at h3
attribute [simp] runS
end
end Go.Ab

namespace Go.Ab
section
variable {P : Program} {n : Nat} {Q : AX → St → Prop}
def isTold (ov : List Nat) (o : Oper) : Bool := isCall o || ov.any (fun t => o.dst == some t)
def tv (P : Program) (ops : Array Oper) (s : St) (o : Oper) (u : V) : Option (V × Prop) := if isCall o then cv P ops s o u else some (u, YOp P ops o s u)
theorem tv_sound {ops : Array Oper} {s : St} {o : Oper} {u x : V} {c : Prop} (h : tv P ops s o u = some (x, c)) (hc : c) : YOp P ops o s x := by
  unfold tv at h
  split at h
  · exact cv_sound h hc
  · simp only [Option.some.injEq, Prod.mk.injEq] at h
    obtain ⟨rfl, rfl⟩ := h
    exact hc
def tAt (P : Program) (ops : Array Oper) (o : Oper) (s : St) (x : V) : Option V → Prop
  | some u => match tv P ops s o u with
    | some (x', c) => x' = x ∧ c
    | none => False
  | none => match qv P ops s o with
    | some (x', c) => x' = x ∧ c
    | none => False
theorem tAt_sound {ops : Array Oper} {s : St} {o : Oper} {x : V} {t : Option V} (h : tAt P ops o s x t) : YOp P ops o s x := by
  cases t with
  | some u =>
    simp only [tAt] at h
    split at h
    · rename_i x' c hc; obtain ⟨rfl, h⟩ := h; exact tv_sound hc h
    · exact h.elim
  | none =>
    simp only [tAt] at h
    split at h
    · rename_i x' c hc; obtain ⟨rfl, h⟩ := h; exact qv_sound hc h
    · exact h.elim
def dAllT (P : Program) (ops : Array Oper) (ks : List (Option Nat)) (Ls : List Heap) : List Dfr → Prop
  | [] => True
  | d :: ds => allP (d.hi - d.lo) (d.lo + 1) (fun p => tAt P ops d.o ⟨frAt ks p d.fr, Ls.getD p []⟩ d.x d.told) ∧ dAllT P ops ks Ls ds
def EffT (P : Program) (ops : Array Oper) (o : Oper) (s : St) (K : V → Option Nat → Heap → Prop) : Prop := ∃ x k L', (∀ n, LOp P n ops o s.fr s.L k x L') ∧ K x k L'
def runT (P : Program) (ops : Array Oper) (ov : List Nat) : List (Oper × Option (Nat × Nat)) → FrM → List (Option Nat) → List Heap → List V → List Dfr → (FrM → List (Option Nat) → List Heap → Prop) → Prop
  | [], fr, ks, Ls, _, ds, K => dAllT P ops ks Ls ds ∧ K fr ks Ls
  | (o, none) :: rest, fr, ks, Ls, us, ds, K =>
    match lv P ops ⟨frAt ks ks.length fr, Ls.getD ks.length []⟩ o with
    | some (x, k, L', c) => c ∧ runT P ops ov rest (putM fr o.dst (ks.length + 1) x) (ks ++ [k]) (Ls ++ [L']) us ds K
    | none => EffT P ops o ⟨frAt ks ks.length fr, Ls.getD ks.length []⟩ fun x k L' => runT P ops ov rest (putM fr o.dst (ks.length + 1) x) (ks ++ [k]) (Ls ++ [L']) us ds K
  | (o, some (lo, hi)) :: rest, fr, ks, Ls, us, ds, K =>
    if isTold ov o then
      match us with
      | [] => False
      | u :: us' => match tv P ops ⟨frAt ks ks.length fr, Ls.getD ks.length []⟩ o u with
        | some (x, c) => c ∧ allP (ks.length - lo) lo (fun p => tAt P ops o ⟨frAt ks p fr, Ls.getD p []⟩ x (some u)) ∧
            runT P ops ov rest (putM fr o.dst lo x) ks Ls us' (if ks.length < hi then ⟨o, fr, x, ks.length, hi, some u⟩ :: ds else ds) K
        | none => False
    else
      match qv P ops ⟨frAt ks ks.length fr, Ls.getD ks.length []⟩ o with
      | some (x, c) => c ∧ allP (ks.length - lo) lo (fun p => tAt P ops o ⟨frAt ks p fr, Ls.getD p []⟩ x none) ∧
          runT P ops ov rest (putM fr o.dst lo x) ks Ls us (if ks.length < hi then ⟨o, fr, x, ks.length, hi, none⟩ :: ds else ds) K
      | none => False
theorem runT_tr {ops : Array Oper} {ov : List Nat} {K : FrM → List (Option Nat) → List Heap → Prop} : ∀ (l : List (Oper × Option (Nat × Nat))) (fr : FrM) (ks : List (Option Nat)) (Ls : List Heap) (us : List V) (ds : List Dfr), Ls.length = ks.length + 1 → runT P ops ov l fr ks Ls us ds K →
    ∃ tr frE ks1 Ls1, TrM l fr ks.length tr frE (ks ++ ks1).length ∧ (∀ (i : Nat) (r : Rec) (z : Oper × Option (Nat × Nat)), tr[i]? = some r → l[i]? = some z → SemM P n ops (ks ++ ks1) (fun p => (Ls ++ Ls1).getD p []) r z.1) ∧
      dAllT P ops (ks ++ ks1) (Ls ++ Ls1) ds ∧ K frE (ks ++ ks1) (Ls ++ Ls1)
  | [], fr, ks, Ls, us, ds, hl, h => by
    refine ⟨[], fr, [], [], ?_, by simp, ?_, ?_⟩
    · simp only [List.append_nil]; exact .nil fr ks.length
    · simpa using h.1
    · simpa using h.2
  | (o, none) :: rest, fr, ks, Ls, us, ds, hl, h => by
    have key : ∀ (x : V) (k : Option Nat) (L' : Heap), LOp P n ops o (frAt ks ks.length fr) (Ls.getD ks.length []) k x L' → runT P ops ov rest (putM fr o.dst (ks.length + 1) x) (ks ++ [k]) (Ls ++ [L']) us ds K →
        ∃ tr frE ks1 Ls1, TrM ((o, none) :: rest) fr ks.length tr frE (ks ++ ks1).length ∧ (∀ (i : Nat) (r : Rec) (z : Oper × Option (Nat × Nat)), tr[i]? = some r → ((o, none) :: rest)[i]? = some z → SemM P n ops (ks ++ ks1) (fun p => (Ls ++ Ls1).getD p []) r z.1) ∧
          dAllT P ops (ks ++ ks1) (Ls ++ Ls1) ds ∧ K frE (ks ++ ks1) (Ls ++ Ls1) := by
      intro x k L' hlop hr
      obtain ⟨tr, frE, ks1, Ls1, h1, h2, h3, h4⟩ := runT_tr rest _ _ _ us ds (by simp [hl]) hr
      rw [List.append_assoc] at h1 h3 h4
      simp only [List.append_assoc, List.length_append, List.length_cons, List.length_nil] at h1 h2 h3 h4
      refine ⟨⟨fr, x, 0, 0, true, ks.length⟩ :: tr, frE, _, _, .loud (by simpa [Nat.add_comm 1] using h1), ?_, h3, h4⟩
      intro i r z hi hz
      cases i with
      | zero =>
        simp only [List.getElem?_cons_zero, Option.some.injEq] at hi hz
        subst hi; subst hz
        refine ⟨fun _ => ⟨by simp, ?_⟩, (fun h => by cases h)⟩
        simp only
        rw [frAt_pre (Nat.le_refl _), getD_pre (by omega)]
        have e1 : (ks ++ ([k] ++ ks1)).getD ks.length none = k := by
          simp [List.getD_eq_getElem?_getD]
        have e2 : (Ls ++ ([L'] ++ Ls1)).getD (ks.length + 1) [] = L' := by
          simp [List.getD_eq_getElem?_getD, ← hl]
        rw [e1, e2]
        exact hlop
      | succ i => exact h2 i r z (by simpa using hi) (by simpa using hz)
    rw [runT] at h
    split at h
    · rename_i x k L' c hst
      exact key x k L' (LOp.of (n := n) hst h.1) h.2
    · obtain ⟨x, k, L', hlop, hr⟩ := h
      exact key x k L' (hlop n) hr
  | (o, some (lo, hi)) :: rest, fr, ks, Ls, us, ds, hl, h => by
    have key : ∀ (x : V) (t : Option V) (us' : List V), YOp P ops o ⟨frAt ks ks.length fr, Ls.getD ks.length []⟩ x → allP (ks.length - lo) lo (fun p => tAt P ops o ⟨frAt ks p fr, Ls.getD p []⟩ x t) →
        runT P ops ov rest (putM fr o.dst lo x) ks Ls us' (if ks.length < hi then ⟨o, fr, x, ks.length, hi, t⟩ :: ds else ds) K →
        ∃ tr frE ks1 Ls1, TrM ((o, some (lo, hi)) :: rest) fr ks.length tr frE (ks ++ ks1).length ∧ (∀ (i : Nat) (r : Rec) (z : Oper × Option (Nat × Nat)), tr[i]? = some r → ((o, some (lo, hi)) :: rest)[i]? = some z → SemM P n ops (ks ++ ks1) (fun p => (Ls ++ Ls1).getD p []) r z.1) ∧
          dAllT P ops (ks ++ ks1) (Ls ++ Ls1) ds ∧ K frE (ks ++ ks1) (Ls ++ Ls1) := by
      intro x t us' hc ha hr
      obtain ⟨tr, frE, ks1, Ls1, h1, h2, h3, h4⟩ := runT_tr rest _ _ _ us' _ hl hr
      have hds : dAllT P ops (ks ++ ks1) (Ls ++ Ls1) ds := by
        split at h3
        · exact h3.2
        · exact h3
      refine ⟨⟨fr, x, lo, hi, false, ks.length⟩ :: tr, frE, ks1, Ls1, .quiet h1, ?_, hds, h4⟩
      intro i r z hi' hz
      cases i with
      | zero =>
        simp only [List.getElem?_cons_zero, Option.some.injEq] at hi' hz
        subst hi'; subst hz
        refine ⟨(fun h => by cases h), fun _ p hp1 hp2 => ?_⟩
        simp only at hp1 hp2 ⊢
        rcases Nat.lt_trichotomy p ks.length with hlt | heq | hgt
        · rw [frAt_pre (by omega), getD_pre (by omega)]
          exact tAt_sound (allP_at ha p hp1 (by omega))
        · subst heq
          rw [frAt_pre (by omega), getD_pre (by omega)]
          exact hc
        · rw [if_pos (by omega)] at h3
          exact tAt_sound (allP_at h3.1 p (by simp only; omega) (by simp only; omega))
      | succ i => exact h2 i r z (by simpa using hi') (by simpa using hz)
    cases hcall : isTold ov o with
    | true =>
      cases us with
      | nil => rw [runT, if_pos hcall] at h; exact h.elim
      | cons u us' =>
        rw [runT, if_pos hcall] at h
        split at h
        · rename_i x c hcv
          exact key x (some u) us' (tv_sound hcv h.1) h.2.1 h.2.2
        · exact h.elim
    | false =>
      rw [runT.eq_def] at h
      simp only [hcall, Bool.false_eq_true, if_false] at h
      split at h
      · rename_i x c hqv
        exact key x none us (qv_sound hqv h.1) h.2.1 h.2.2
      · exact h.elim
theorem AWP.regionT0 {id : Nat} {l : List Oper} {s : St} (rg : List (Option (Nat × Nat))) (ov : List Nat) (us : List V) (hm : P.follows .mixedOrders = true) (ok : okM n l rg = true)
    (h : runT P l.toArray ov (l.zip rg) (s.fr.map fun e => (e.1, 0, e.2)) [] [s.L] us [] (fun fr ks Ls => Q .normal ⟨frAt ks ks.length fr, Ls.getD ks.length []⟩)) : AWP P n (.region id l.toArray true) s Q := by
  intro fo m a w _ g
  simp only [okM, Bool.and_eq_true, beq_iff_eq, decide_eq_true_eq, List.all_eq_true] at ok
  obtain ⟨⟨⟨⟨⟨⟨o1, o2⟩, o3⟩, o4⟩, o5⟩, o6⟩, o7⟩ := ok
  obtain ⟨tr, frE, ks, Ls, h1, h2, -, h4⟩ := runT_tr (n := n) (l.zip rg) _ [] [s.L] us [] rfl h
  simp only [List.nil_append, List.length_nil] at h1 h2 h4
  refine wpIn_region_any hm ?_
  have := any_orderM (P := P) (n := n) (Q := Q) (l := l) (rg := rg) (lds := loudsOf rg) (ks := ks) (Ls := fun p => ([s.L] ++ Ls).getD p []) o3 h1 (fun i r o hr ho => by
      have hil := (List.getElem?_eq_some_iff.1 ho).1
      exact h2 i r (o, rg[i]'(by omega)) hr (by rw [List.getElem?_zip_eq_some]; exact ⟨ho, List.getElem?_eq_getElem (by omega)⟩))
    o1 o2 o4 o5 o6 (fun o ho t ht => by simpa using o7 o ho t ht) rfl h4 (fo := fo) (m0 := m) (w0 := w)
    (fun e he => by obtain ⟨x, hx, rfl⟩ := List.mem_map.1 he; exact (g.fr x.1 x.2 hx).1) (fun e he => by obtain ⟨x, hx, rfl⟩ := List.mem_map.1 he; rfl)
    l.toArray.size m 0 (Array.replicate l.toArray.size false) (List.range l.length) a { w with drawn := w.drawn + 1 } (by simp) (fun i hi _ => by simpa using hi) ?_
  · exact this
  · have st : Step w (own m) { w with drawn := w.drawn + 1 } (own m) := ⟨rfl, rfl, rfl, Nat.le_refl _, fun _ _ _ => rfl, fun _ _ h => h⟩
    have mono : ∀ {v : Value} {x : V}, RelV w (OO fo m) m v x → RelV { w with drawn := w.drawn + 1 } (OO fo m) m v x := fun h => h.mono st.keep (fun _ _ h => h) (fun _ _ h => h)
    have hfalse : ∀ j, (Array.replicate l.toArray.size false).getD j false = false := by intro j; simp [Array.getD]
    refine ⟨g.size, g.defers, g.inv.grown (Nat.le_refl _) (fun _ _ => rfl), st, by simp, Nat.zero_le _, ?_, ?_, ?_, ?_, ?_, ?_⟩
    · intro q j _; rw [hfalse]; simp
    · intro j r _ hb; rw [hfalse] at hb; cases hb
    · intro j o r d _ _ _ hb; rw [hfalse] at hb; cases hb
    · intro t _
      rw [killR_self (Nat.zero_le _)]
      have : (getM t (s.fr.map fun e => (e.1, 0, e.2))).2 = s.get t := by
        unfold St.get
        generalize s.fr = fr
        induction fr with
        | nil => rfl
        | cons e fr ih =>
          obtain ⟨k, x⟩ := e
          simp only [List.map_cons, getM, getF]
          split
          · rfl
          · exact ih
      rw [this]
      exact mono (get_rel g t)
    · intro e he _
      obtain ⟨x, hx, rfl⟩ := List.mem_map.1 he
      rw [killR_self (Nat.zero_le _)]
      exact mono (g.fr x.1 x.2 hx).2
    · intro j o _ hb; rw [hfalse] at hb; cases hb
theorem AWP.regionT {id : Nat} {l : List Oper} {s : St} (rg : List (Option (Nat × Nat))) (ov : List Nat) (us : List V) (hm : P.follows .mixedOrders = true) (ok : okM n l rg = true)
    (h : runT P l.toArray ov (l.zip rg) (s.fr.map fun e => (e.1, 0, e.2)) [] [s.L] us [] (fun fr ks Ls => ∀ bs, Q .normal (St.opn bs ⟨frAt ks ks.length fr, Ls.getD ks.length []⟩))) : AWP P n (.region id l.toArray true) s Q :=
  AWP.opened (AWP.regionT0 rg ov us hm ok h)
attribute [simp] runT tv tAt dAllT isTold
end
end Go.Ab

namespace Go.Ab
section
variable {P : Program} {n : Nat}
theorem le_foldr_max : ∀ (l : List Nat) (x : Nat), x ∈ l → x ≤ l.foldr max 0
  | [], _, h => by cases h
  | y :: l, x, h => by
    rcases List.mem_cons.1 h with rfl | h
    · simp only [List.foldr_cons]; omega
    · have := le_foldr_max l x h; simp only [List.foldr_cons]; omega
theorem yop_fresh {ops : Array Oper} {o : Oper} {s : St} {ys : List (List D)} {ty : TypeId} {k : Nat} (hg : o.guard = none)
    (h : ∀ fo m (ρ : Operand → Value) w, Inv fo m s.L w → (∀ z, z ∈ o.op.operands → RelV w (OO fo m) m (ρ z) (s.ev z)) →
      ∃ v w', (execOp ρ o).run P w = .ok (.value v) w' ∧ Grows w w' ∧ (RelD w' (OO fo m) v (.sl ys) ∨
        ((∀ b, blk v b → w.heap.size ≤ b) ∧ ∀ h, h ∉ keys s.L → (Res.row ty k (dd ys)).Holds w' (OO fo (mset m h v)) (mset m h v) v))) : YOp P ops o s (.d (.sl ys)) := by
  intro fo m a w hi hs next Q' kk
  rw [if_pos (by simp [Region.wanted, hg])]
  obtain ⟨v, w', hrun, gr, hor⟩ := h fo m a.eval w hi (fun z hz => eval_of_slots hi.glob (fun t ht => hs t (looks_operand (by rw [← ht]; exact hz))))
  refine owp_val hrun (.inl rfl) (kk v w' ?_ (hi.grown gr.size gr.block) ⟨gr.os, gr.tape, gr.output, gr.size, fun b hb _ => gr.block b hb, fun b _ h => h⟩)
  rcases hor with hd | ⟨hb, hh⟩
  · exact .d _ _ hd
  · have hn : (keys s.L).foldr max 0 + 1 ∉ keys s.L := fun hm => by have := le_foldr_max _ _ hm; omega
    have hi' := hi.new hn gr.size gr.block hb (hh _ hn)
    refine .d _ _ (row_data' (ty := ty) (k := k) hi' (by simp [List.lookup]) (mset_same _ _) (fun b ho => ?_) (fun b hv ho => ?_))
    · rcases ho with ⟨i, x, hx, hbx⟩ | hf
      · exact .inl ⟨i, x, mset_sub hi hn v i x hx, hbx⟩
      · exact .inr hf
    · have h1 := hb b hv
      rcases ho with ⟨i, x, hx, hbx⟩ | hf
      · have := hi.lt hx hbx; omega
      · have := hi.folt b hf; omega
theorem yop_append0 {ops : Array Oper} {dst : Option Tmp} {t t2 : TypeId} {so xo : Operand} {ty : TypeId} {pos : String} {after : Array Edge} {k by_ : Nat} {e : TypeId} {z : List Value} {s : St} {ys : List (List D)}
    (ht : tySl P t = some (e, k, by_, z)) (ht2 : tySrc P t2 = true) (hs : s.ev so = .kn (fun v => ∃ ao, v = .slice ao 0 0)) (hx : srcV s.L (s.ev xo) = some (dd ys)) (hk : 0 < k ∧ 0 < by_) (hys : ∀ y ∈ ys, y.length = k)
    (hb : ys.length * by_ ≤ 140737488355328) :
    YOp P ops ⟨dst, .call { callee := .builtin .append, args := #[so, xo], argTypes := #[t, t2] }, ty, pos, after, none⟩ s (.d (.sl ys)) := by
  refine yop_fresh (ty := e) (k := k) rfl ?_
  intro fo m ρ w hi hr
  obtain ⟨i, zv, hu, hiI, hz, hsize, hbytes, hzl, hzs, hone⟩ := tySl_spec ht
  obtain ⟨d2, hu2, hd2⟩ := tySrc_spec ht2
  have hso := hr so (by simp [Op.operands, Call.operands])
  rw [hs] at hso
  obtain ⟨ao, hnil⟩ : ∃ ao, ρ so = .slice ao 0 0 := kn_inv hso
  have hrx := hr xo (by simp [Op.operands, Call.operands])
  have hys' : ∀ y ∈ dd ys, y.length = k := by
    intro y hy
    obtain ⟨q, hq, rfl⟩ := List.mem_map.1 hy
    rw [List.length_map]; exact hys q hq
  obtain ⟨news, src, hnr⟩ := srcV_sound (P := P) hi hrx hx hk.1 hys'
  have hlen : (dd ys).length = ys.length := by simp [dd]
  have hlm : (dd ys).length ≤ maxLen := by rw [hlen]; exact maxLen_of hk.2 hb
  have hexec : ∀ {v' : Value} {w' : World}, (Builtin.append_ #[t, t2] ty #[ρ so, ρ xo]).run P w = .ok v' w' →
      (execOp ρ ⟨dst, .call { callee := .builtin .append, args := #[so, xo], argTypes := #[t, t2] }, ty, pos, after, none⟩).run P w = .ok (.value v') w' := by
    intro v' w' hr
    simp [execOp, resolve, invoke, builtin, hr]
  by_cases hy0 : dd ys = []
  · rw [hy0] at src
    have hn0 : news = [] := List.eq_nil_of_length_eq_zero (by simpa using src.len)
    subst hn0
    have hrun : (Builtin.append_ #[t, t2] ty #[ρ so, ρ xo]).run P w = .ok (.slice ao 0 0) w := by
      obtain ⟨q1, q2⟩ := src.run w rfl
      simp only [List.length_nil] at q1 q2
      rw [hnil]
      rcases hd2 with ⟨e2, rfl⟩ | rfl <;> cases ao <;> simp [Builtin.append_, run_underlying hu, run_underlying hu2, sizeOf, typeInfo, hiI, hsize, q1, q2, storeCells]
    have hy : ys = [] := by simpa [dd] using hy0
    subst hy
    exact ⟨_, w, hexec hrun, Grows.refl w, .inl (.sl ao 0 0 [] 0 0 0 (fun _ _ => undef) rfl (by omega) (by simp [maxLen]) (by omega) (by simp) (by omega) (by simp))⟩
  · have hpos := List.length_pos_iff.2 hy0
    have hrun := run_append_grow' (P := P) (ty := ty) (ao := ao) (sLen := 0) (sCap := 0) (olds := []) hu hu2 hd2 hiI hsize hz src Src.empty (by omega) (by simp only [maxLen] at hlm; omega) (by rw [hbytes]; exact growslice_fits (by omega) (by rw [hlen]; simpa using hb))
    have hge := grownCap_ge w (0 + (dd ys).length) 0 e
    have hcm := grownCap_le_maxLen w (0 + (dd ys).length) 0 e (by omega)
    have hnb : ∀ b, blk (.slice (some ⟨w.heap.size, 0, none⟩) (0 + (dd ys).length) (grownCap w (0 + (dd ys).length) 0 e)) b → w.heap.size ≤ b := by
      intro b hb; simp [blk, blk1] at hb; omega
    have hgr : Grows w (w.drew.alloc (.cells (#[] ++ news.toArray ++ Builtin.zeroCells zv.cells (grownCap w (0 + (dd ys).length) 0 e - (0 + (dd ys).length))) e)) := by
      have := Grows.alloc w.drew (.cells (#[] ++ news.toArray ++ Builtin.zeroCells zv.cells (grownCap w (0 + (dd ys).length) 0 e - (0 + (dd ys).length))) e)
      exact ⟨this.os, this.tape, this.output, this.size, this.block⟩
    rw [← hnil] at hrun
    refine ⟨_, _, hexec hrun, hgr, .inr ⟨hnb, fun h hn => ?_⟩⟩
    have := grown_holds (w := w) (O := OO fo m) (m := m) (e := e) (k := k) (zv := zv) (z := z) (olds := []) (news := news) (xs := []) (ys := dd ys) (cap := grownCap w (0 + (dd ys).length) 0 e) hzl hzs hone hk.1 (by simp) src.len (by simp) src.one (by simp) hys'
        (by simp) hnr (by simpa using hge) hcm (w0 := w) (fr := w.drew.alloc (.cells (#[] ++ news.toArray ++ Builtin.zeroCells zv.cells (grownCap w (0 + (dd ys).length) 0 e - (0 + (dd ys).length))) e))
        (heap_alloc_new w.drew (.cells (#[] ++ news.toArray ++ Builtin.zeroCells zv.cells (grownCap w (0 + (dd ys).length) 0 e - (0 + (dd ys).length))) e))
        (O' := OO fo (mset m h (.slice (some ⟨w.heap.size, 0, none⟩) (0 + (dd ys).length) (grownCap w (0 + (dd ys).length) 0 e)))) (m' := mset m h (.slice (some ⟨w.heap.size, 0, none⟩) (0 + (dd ys).length) (grownCap w (0 + (dd ys).length) 0 e)))
        (fun u c hu => RelV.mono (w := w) (O := OO fo m) ⟨hgr.size, fun b hb _ => hgr.block b hb⟩ (OO_new hi hnb) (mset_sub hi hn _) hu)
    simpa using this
theorem yop_build0 {ops : Array Oper} {dst : Option Tmp} {t : TypeId} {ty : TypeId} {pos : String} {after : Array Edge} {k by_ : Nat} {e : TypeId} {z : List Value} {s : St} (ht : tySl P t = some (e, k, by_, z)) :
    YOp P ops ⟨dst, .buildSlice t 0 #[], ty, pos, after, none⟩ s (.kn (fun v => ∃ ao, v = .slice ao 0 0)) := by
  intro fo m a w hi hs next Q' kk
  rw [if_pos (by simp [Region.wanted])]
  obtain ⟨i, zv, hu, hiI, hz, hsize, hbytes, hzl, hzs, hone⟩ := tySl_spec ht
  have gr := Grows.alloc w (.cells #[] e)
  have hrun : (execOp a.eval ⟨dst, .buildSlice t 0 #[], ty, pos, after, none⟩).run P w = .ok (.value (.slice (some ⟨w.heap.size, 0, none⟩) 0 0)) (w.alloc (.cells #[] e)) := by
    have hps : Instr.fill (fun i => some (i * k, k)) #[] [] = some #[] := rfl
    simp [execOp, Instr.buildSlice, run_underlying hu, sizeOf, typeInfo, hiI, hsize, newRow, hps, Array.range_zero']
  exact owp_val hrun (.inl rfl) (kk _ _ (.kn _ _ ⟨_, rfl⟩) (hi.grown gr.size gr.block) ⟨gr.os, gr.tape, gr.output, gr.size, fun b hb _ => gr.block b hb, fun b _ h => h⟩)
theorem yop_make {ops : Array Oper} {dst : Option Tmp} {t : TypeId} {lo co : Operand} {ty : TypeId} {pos : String} {after : Array Edge} {k by_ : Nat} {e : TypeId} {z : List Value} {kl kc : IntKind} {l c : Int} {s : St}
    (ht : tySl P t = some (e, k, by_, z)) (hl : s.ev lo = .d (.v (.int kl l))) (hc : s.ev co = .d (.v (.int kc c))) (hk : 0 < k)
    (h0 : 0 ≤ l ∧ l ≤ c) (hb : c ≤ maxLen ∧ by_ * c.toNat ≤ 140737488355328) :
    YOp P ops ⟨dst, .makeSlice t lo co, ty, pos, after, none⟩ s (.d (.sl (List.replicate l.toNat (z.map D.v)))) := by
  refine yop_fresh (ty := e) (k := k) rfl ?_
  intro fo m ρ w hi hr
  obtain ⟨i, zv, hu, hiI, hz, hsize, hbytes, hzl, hzs, hone⟩ := tySl_spec ht
  have hel := hr lo (by simp [Op.operands])
  have hec := hr co (by simp [Op.operands])
  rw [hl] at hel
  rw [hc] at hec
  have hcm : c.toNat ≤ maxLen := by omega
  have hb' : (i.bytes : Int) * c ≤ 281474976710656 := by
    have e1 : (c.toNat : Int) = c := Int.toNat_of_nonneg (by omega)
    have e2 : ((by_ * c.toNat : Nat) : Int) ≤ 140737488355328 := by omega
    rw [Int.natCast_mul, e1, ← hbytes] at e2
    omega
  have hrun := run_make (P := P) w t e i zv hu hiI hz kl kc l c h0.1 h0.2 hb' (by simp only [maxLen] at hb; omega)
  rw [hsize] at hrun
  have hx : ∀ b, blk (.slice (some ⟨w.heap.size, 0, none⟩) l.toNat c.toNat) b → w.heap.size ≤ b := by intro b hb; simp [blk, blk1] at hb; omega
  refine ⟨_, _, ?_, Grows.alloc w (.cells (madeCells zv.cells (c.toNat * k)) e), .inr ⟨hx, fun h hn => ?_⟩⟩
  · simp [execOp, hel.v_inv, hec.v_inv, hrun]
  · have hdd : dd (List.replicate l.toNat (z.map D.v)) = List.replicate l.toNat (z.map fun x => V.d (.v x)) := by simp [dd]
    rw [hdd]
    refine .inr ⟨w.heap.size, 0, c.toNat, madeCells zv.cells (c.toNat * k), by simp, heap_alloc_new w _, by simp; omega, hcm, by simp [madeCells], ?_, ?_, ?_⟩
    · intro q x hq
      have := List.mem_of_getElem? hq
      rw [List.mem_replicate] at this
      rw [this.2]; simp [← hzl, hzs]
    · intro j u hu'
      have hj : j < c.toNat * k := by have := (Array.getElem?_eq_some_iff.1 hu').1; simpa [madeCells] using this
      rw [madeCells_get hzs hk hj] at hu'
      exact hone u (by rw [← hzl]; exact List.mem_of_getElem? (by rw [Array.getElem?_toList]; exact hu'))
    · intro p q x y u hx' hy hu'
      have hp := (List.getElem?_eq_some_iff.1 hx').1
      simp at hp
      have := List.mem_of_getElem? hx'
      rw [List.mem_replicate] at this
      obtain ⟨_, rfl⟩ := this
      have hq : q < k := by have := (List.getElem?_eq_some_iff.1 hy).1; simpa [← hzl, hzs] using this
      have hpc : (p + 1) * k ≤ c.toNat * k := Nat.mul_le_mul_right _ (by omega)
      rw [Nat.add_mul, Nat.one_mul] at hpc
      rw [Nat.zero_add, madeCells_get hzs hk (by omega), Nat.mul_comm p k, Nat.mul_add_mod, Nat.mod_eq_of_lt hq] at hu'
      exact rel_vals hone q u y (by rw [← hzl, Array.getElem?_toList]; exact hu') hy
end
end Go.Ab

namespace Go.Ab
def D.deep : Nat → D → D
  | 0, x => x.nn
  | k + 1, .sl ys => .sl (ys.map (·.map (D.deep k)))
  | _ + 1, x => x.nn
theorem RelD.deep {w : World} {O : Nat → Prop} : ∀ (k : Nat) {x : Value} {y : D}, RelD w O x y → RelD w O x (y.deep k)
  | 0, x, y, h => h.nn
  | k + 1, x, .v z, h => by rw [D.deep]; exact h.nn; simp
  | k + 1, x, .ifc t a cs, h => by rw [D.deep]; exact h.nn; simp
  | k + 1, x, .sl ys, h => by
    rw [D.deep]
    cases h with
    | sl a n cap xs k' b off f hn hcap hmax ha hk hc hr =>
      refine .sl a n cap _ k' b off f (by simpa using hn) hcap hmax ha ?_ hc ?_
      · intro i x hx
        rw [List.getElem?_map] at hx
        obtain ⟨z, hz, rfl⟩ := Option.map_eq_some_iff.1 hx
        rw [List.length_map]; exact hk i z hz
      · intro i j x y hx hy
        rw [List.getElem?_map] at hx
        obtain ⟨z, hz, rfl⟩ := Option.map_eq_some_iff.1 hx
        rw [List.getElem?_map] at hy
        obtain ⟨u, hu, rfl⟩ := Option.map_eq_some_iff.1 hy
        exact (hr i j z u hz hu).deep k
def V.deep1 (k : Nat) : V → V
  | .d y => .d (y.deep k)
  | v => v
def V.deep (k : Nat) : V → V
  | .d y => .d (y.deep k)
  | .agg cs => .agg (cs.map (V.deep1 k))
  | v => v
theorem RelV.deep1 {w : World} {O : Nat → Prop} {m : Nat → Option Value} (k : Nat) {x : Value} {y : V} (h : RelV w O m x y) : RelV w O m x (y.deep1 k) := by
  unfold V.deep1
  split
  · exact .d _ _ (h.d_inv.deep k)
  · exact h
theorem RelV.deep {w : World} {O : Nat → Prop} {m : Nat → Option Value} (k : Nat) {x : Value} {y : V} (h : RelV w O m x y) : RelV w O m x (y.deep k) := by
  unfold V.deep
  split
  · exact .d _ _ (h.d_inv.deep k)
  · cases h with
    | agg vs cs hs h1 h =>
      refine .agg vs _ (by simpa using hs) h1 ?_
      intro j x y hx hy
      rw [List.getElem?_map] at hy
      obtain ⟨z, hz, rfl⟩ := Option.map_eq_some_iff.1 hy
      exact (h j x z hx hz).deep1 k
  · exact h
theorem ACalls.deep (k : Nat) {P : Program} {f : FuncId} {args args' : List V} {L : Heap} {R : AE → Heap → Prop} (h : ACalls P f args' L R) (ha : args.map (V.deep k) = args') : ACalls P f args L R := by
  intro fo m w xs hi hx
  refine h fo m w xs hi ⟨by rw [hx.1, ← ha, List.length_map], ?_⟩
  intro j x y h1 h2
  rw [← ha, List.getElem?_map] at h2
  obtain ⟨z, hz, rfl⟩ := Option.map_eq_some_iff.1 h2
  exact (hx.2 j x z h1 hz).deep k
theorem Pure.deep (k : Nat) {P : Program} {f : FuncId} {args args' : List V} {x : V} (h : Pure P f args' x) (ha : args.map (V.deep k) = args') (ho : V.ons [] args = true) : Pure P f args x :=
  ⟨h.en, ho, h.rn, h.calls.deep k ha⟩
def Res.deep (k : Nat) : Res → Res
  | .box b t cs => .box b t (cs.map (V.deep1 k))
  | r => r
def St.deep (k : Nat) (s : St) : St := ⟨s.fr.map fun p => (p.1, p.2.deep k), s.L.map fun p => (p.1, p.2.deep k)⟩
theorem Wk.deep (k : Nat) {n : Nat} {s s' : St} (h : s.deep k = s') : Wk n s s' := by
  subst h
  intro fo m a w g
  have hi := g.inv
  have hk : keys (St.deep k s).L = keys s.L := by simp [keys, St.deep, Function.comp_def]
  refine ⟨m, ⟨g.size, ?_, ⟨by rw [hk]; exact hi.nodup, fun h x hx => by rw [hk]; exact hi.dom h x hx, hi.apart, hi.others, hi.folt, ?_, hi.glob⟩, g.defers⟩, Step.refl w _⟩
  · intro t x hx
    obtain ⟨p, hp, he⟩ := List.mem_map.1 hx
    simp only [Prod.mk.injEq] at he
    obtain ⟨rfl, rfl⟩ := he
    obtain ⟨h1, h2⟩ := g.fr p.1 p.2 hp
    exact ⟨h1, h2.deep k⟩
  · intro h r hr
    obtain ⟨p, hp, he⟩ := List.mem_map.1 hr
    simp only [Prod.mk.injEq] at he
    obtain ⟨rfl, rfl⟩ := he
    obtain ⟨x, hx, hh⟩ := hi.holds p.1 p.2 hp
    refine ⟨x, hx, ?_⟩
    generalize p.2 = q at hh
    cases q with
    | row ty k xs => exact hh
    | env A => exact hh
    | mp es => exact hh
    | box b ty cs =>
      obtain ⟨bb, h0, cur, e, hb, hs, h1, h2⟩ := hh
      refine ⟨bb, h0, cur, e, hb, by simpa using hs, ?_, ?_⟩
      · exact h1
      · intro j v z hv hz
        rw [List.getElem?_map] at hz
        obtain ⟨y, hy, rfl⟩ := Option.map_eq_some_iff.1 hz
        exact (h2 j v y hv hy).deep1 k
end Go.Ab

namespace Go.Ab
open Go.Proofs
abbrev insD (l : List GIns) : V := .d (.sl (l.map GIns.enc))
abbrev intD (n : Int) : V := .d (.v (.int .i64 n))
abbrev boolD (b : Bool) : V := .d (.v (.bool b))
def opI (l : List GIns) (k : Int) : Int := if k < 0 ∨ (l.length : Int) ≤ k then 0 else (l[k.toNat]?.getD GIns.zero).Op
theorem at29_ok (l : List GIns) (hl : l.length ≤ 1000000000000) (k : Int) : Pure Tryz.prog 302 [insD l, intD k] (intD (opI l k)) := by
  unfold opI
  refine Pure.run Tryz.func302 rfl (by simp [Tryz.f302]) ?_; simp [-cB, Tryz.f302]
  repeat' (first
    | (with_reducible refine And.intro ?_ ?_)
    | (refine condC_split (fun h => ?_) (fun h => ?_) <;> (try simp at h) <;> (try simp [-cB, *]))
    | (with_reducible intro _))
  all_goals (try omega)
theorem swap29_ok (l : List GIns) (hl : l.length ≤ 1000000000000) (k n : Nat) (hk : k + n ≤ l.length) (x : List GIns) (hx : x.length ≤ 1000000000000) : Pure Tryz.prog 304 [insD l, intD k, intD n, insD x] (insD (swapM l k n x)) := by
  unfold swapM
  refine Pure.run Tryz.func304 rfl (by simp [Tryz.f304]) ?_; simp [-cB, Tryz.f304]
  have e : ((k : Int) + n).toNat = k + n := by omega
  rw [e, inR_i64]
  refine ⟨by omega, ⟨fun y hy => ?_, by omega⟩, by omega, by omega, by omega, ⟨fun y hy => ?_, by omega⟩, ?_⟩
  · obtain ⟨z, _, rfl⟩ := List.mem_map.1 (List.mem_of_mem_take hy); rfl
  · obtain ⟨z, _, rfl⟩ := List.mem_map.1 (List.mem_of_mem_take (List.mem_of_mem_drop hy)); rfl
  · rw [List.take_of_length_le (by simp)]
theorem push29_ok (n : Int) : Pure Tryz.prog 318 [intD n] (insD (pushI n)) := by
  unfold pushI
  refine Pure.run Tryz.func318 rfl (by simp [Tryz.f318]) ?_; simp [-cB, Tryz.f318]
  repeat' (first
    | (with_reducible refine And.intro ?_ ?_)
    | (refine condC_split (fun h => ?_) (fun h => ?_) <;> (try simp at h) <;> (try simp [-cB, *]))
    | (refine AOps.pureC rfl (refWrap_ok _) rfl rfl (by simp) rfl ?_ <;> (try simp [-cB, *]))
    | (refine AOps.lendC rfl (refWrap_ok _) rfl (by simp) rfl rfl (by simp) rfl ?_ <;> (try simp [-cB, *]))
    | (refine AOps.pureG rfl (fun h => refWrap_ok _) rfl (by first | rfl | (simp; rfl)) (by simp) (by simp) rfl ?_ <;> (try simp [-cB, *]))
    | (with_reducible intro _))
  rfl
theorem opI_nat (l : List GIns) (k j : Nat) : opI l ((k : Int) + j) = opA (l.drop k) j := by
  unfold opI opA
  rw [List.getElem?_drop]
  by_cases h : k + j < l.length
  · rw [if_neg (by omega), show ((k : Int) + j).toNat = k + j by omega, List.getElem?_eq_getElem h]; rfl
  · rw [if_pos (by omega), List.getElem?_eq_none (by omega)]; rfl
theorem opI_0 (l : List GIns) (k : Nat) : opI l k = opA (l.drop k) 0 := by have := opI_nat l k 0; simpa using this
theorem opI_1 (l : List GIns) (k : Nat) : opI l ((k : Int) + 1) = opA (l.drop k) 1 := opI_nat l k 1
theorem opI_2 (l : List GIns) (k : Nat) : opI l ((k : Int) + 2) = opA (l.drop k) 2 := opI_nat l k 2
theorem opA_lt {l : List GIns} {k j : Nat} (h : opA (l.drop k) j ≠ 0) : k + j < l.length := by
  unfold opA at h
  rw [List.getElem?_drop] at h
  by_cases h2 : k + j < l.length
  · exact h2
  · rw [List.getElem?_eq_none (by omega)] at h; exact (h rfl).elim
theorem argA_get (l : List GIns) (k j : Nat) : (l[k + j]?.getD GIns.zero).Arg = argA (l.drop k) j := by
  unfold argA
  rw [List.getElem?_drop]
  cases l[k + j]? <;> rfl
def moreT (l : List GIns) (o : Option (List GIns)) : V := .tup [insD (o.getD l), boolD o.isSome]
def reckL (l : List GIns) (k : Nat) : Option (List GIns) := (reckM (l.drop k)).map fun y => swapM l k y.1 y.2
set_option maxHeartbeats 2000000 in
theorem reckoned29_ok (l : List GIns) (hl : l.length ≤ 100000000000) (k : Nat) (hk : k ≤ l.length) : Pure Tryz.prog 299 [insD l, intD k] (moreT l (reckL l k)) := by
  have hat := fun n => at29_ok l (by omega) n
  have e0 := opI_0 l k
  have e1 := opI_1 l k
  have e2 := opI_2 l k
  have a0 := argA_get l k 0
  have a1 := argA_get l k 1
  have a2 := argA_get l k 2
  have l0 := opA_lt (l := l) (k := k) (j := 0)
  have l1 := opA_lt (l := l) (k := k) (j := 1)
  have l2 := opA_lt (l := l) (k := k) (j := 2)
  have hb := (refBin_ok GWorld.zero (argA (l.drop k) 2) (argA (l.drop k) 0) (argA (l.drop k) 1)).deep 0 (args := [.agg [.d (.v (.slice none 0 0)), .d (.v (.slice none 0 0)), .d (.v (.slice none 0 0)), .d (.v (.slice none 0 0)), .d (.v (.slice none 0 0)), .d (.v (.slice none 0 0)), .d (.v (.slice none 0 0)), .d (.v (.int .u64 0)), intD 0, intD 0, intD 0, intD 0, intD 0], intD (argA (l.drop k) 2), intD (argA (l.drop k) 0), intD (argA (l.drop k) 1)]) (by rfl) (by rfl)
  have b0 : ∀ h : k < l.length, (l[k]'h).Arg = argA (l.drop k) 0 := fun h => by rw [← argA_get l k 0]; simp [h]
  have b1 : ∀ h : k + 1 < l.length, (l[k + 1]'h).Arg = argA (l.drop k) 1 := fun h => by rw [← argA_get l k 1]; simp [h]
  have b2 : ∀ h : k + 2 < l.length, (l[k + 2]'h).Arg = argA (l.drop k) 2 := fun h => by rw [← argA_get l k 2]; simp [h]
  obtain ⟨R, hR⟩ : ∃ R, moreT l (reckL l k) = R := ⟨_, rfl⟩
  have hRon : V.on [] R = true := by rw [← hR]; rfl
  rw [hR]
  obtain ⟨p, hp⟩ : ∃ p, binR GWorld.zero (argA (l.drop k) 2) (argA (l.drop k) 0) (argA (l.drop k) 1) = p := ⟨_, rfl⟩
  rw [hp] at hb
  unfold pr2 at hb
  simp only [Nat.add_zero] at a0 l0
  have c1 : ((k : Int) + 1).toNat = k + 1 := by omega
  have c2 : ((k : Int) + 2).toNat = k + 2 := by omega
  have i1 : inR .i64 ((k : Int) + 1) := by rw [inR_i64]; omega
  have i2 : inR .i64 ((k : Int) + 2) := by rw [inR_i64]; omega
  have hs3 : ∀ x : List GIns, x.length ≤ 1000 → k + 3 ≤ l.length → Pure Tryz.prog 304 [insD l, intD k, intD 3, insD x] (insD (swapM l k 3 x)) := fun x hx h => swap29_ok l (by omega) k 3 h x (by omega)
  have hs2 : ∀ x : List GIns, x.length ≤ 1000 → k + 2 ≤ l.length → Pure Tryz.prog 304 [insD l, intD k, intD 2, insD x] (insD (swapM l k 2 x)) := fun x hx h => swap29_ok l (by omega) k 2 h x (by omega)
  refine Pure.run Tryz.func299 rfl (by simp [Tryz.f299, hRon]) ?_; simp [-cB, Tryz.f299, hRon]
  repeat' (first
    | (with_reducible refine And.intro ?_ ?_)
    | (refine condC_split (fun h => ?_) (fun h => ?_) <;> (try simp at h) <;> (try simp [-cB, *]))
    | (refine AOps.pureC rfl (hat _) rfl rfl (by simp) rfl ?_ <;> (try simp [-cB, *]))
    | (refine AOps.pureC rfl (push29_ok _) rfl rfl (by simp) rfl ?_ <;> (try simp [-cB, *]))
    | (refine AOps.pureC rfl (refNeg_ok _) rfl rfl (by simp) rfl ?_ <;> (try simp [-cB, *]))
    | (refine AOps.pureC rfl (refNot_ok _) rfl rfl (by simp) rfl ?_ <;> (try simp [-cB, *]))
    | (refine AOps.pureC rfl (hs2 _ ?_ ?_) rfl rfl (by simp) rfl ?_ <;> (try simp [-cB, *]))
    | (refine AOps.lendC rfl (hat _) rfl (by simp) rfl rfl (by simp) rfl ?_ <;> (try simp [-cB, *]))
    | (refine AOps.lendC rfl (push29_ok _) rfl (by simp) rfl rfl (by simp) rfl ?_ <;> (try simp [-cB, *]))
    | (refine AOps.lendC rfl (refNeg_ok _) rfl (by simp) rfl rfl (by simp) rfl ?_ <;> (try simp [-cB, *]))
    | (refine AOps.lendC rfl (refNot_ok _) rfl (by simp) rfl rfl (by simp) rfl ?_ <;> (try simp [-cB, *]))
    | (refine AOps.lendC rfl (hs2 _ ?_ ?_) rfl (by simp) rfl rfl (by simp) rfl ?_ <;> (try simp [-cB, *]))
    | (refine AOps.pureG rfl (fun h => hat _) rfl (by first | rfl | (simp; rfl)) (by simp) (by simp) rfl ?_ <;> (try simp [-cB, *]))
    | (refine AOps.pureG rfl (fun h => push29_ok _) rfl (by first | rfl | (simp; rfl)) (by simp) (by simp) rfl ?_ <;> (try simp [-cB, *]))
    | (refine AOps.pureG rfl (fun h => refNeg_ok _) rfl (by first | rfl | (simp; rfl)) (by simp) (by simp) rfl ?_ <;> (try simp [-cB, *]))
    | (refine AOps.pureG rfl (fun h => refNot_ok _) rfl (by first | rfl | (simp; rfl)) (by simp) (by simp) rfl ?_ <;> (try simp [-cB, *]))
    | (refine AOps.pureG rfl (fun h => hs2 _ ?_ ?_) rfl (by first | rfl | (simp; rfl)) (by simp) (by simp) rfl ?_ <;> (try simp [-cB, *]))
    | (with_reducible intro _))
  all_goals first
    | omega
    | (simp [pushI]; done)
    | (rw [inR_i64]; unfold tru; split <;> omega)
    | (rw [← hR]; simp [moreT, reckL, reckM, notM, *]; done)
    | (rw [← hR]; simp_all [moreT, reckL, reckM, notM]; done)
    | (have hx : reckM (l.drop k) = none := by (unfold reckM; grind)
       rw [← hR]; simp [moreT, reckL, hx]; done)
    | skip
  refine AWP.regionD [.tup [intD p.1, intD p.2]] Tryz.mixed (by kernel_rfl) (by rfl) ?_
  simp [-cB, hb.ok, *]
  repeat' (first
    | (with_reducible refine And.intro ?_ ?_)
    | (refine condC_split (fun h => ?_) (fun h => ?_) <;> (try simp at h) <;> (try simp [-cB, *]))
    | (refine AOps.pureC rfl (push29_ok _) rfl rfl (by simp) rfl ?_ <;> (try simp [-cB, *]))
    | (refine AOps.pureC rfl (hs3 _ ?_ ?_) rfl rfl (by simp) rfl ?_ <;> (try simp [-cB, *]))
    | (refine AOps.pureC rfl (hat _) rfl rfl (by simp) rfl ?_ <;> (try simp [-cB, *]))
    | (refine AOps.pureC rfl (refNeg_ok _) rfl rfl (by simp) rfl ?_ <;> (try simp [-cB, *]))
    | (refine AOps.pureC rfl (refNot_ok _) rfl rfl (by simp) rfl ?_ <;> (try simp [-cB, *]))
    | (refine AOps.pureC rfl (hs2 _ ?_ ?_) rfl rfl (by simp) rfl ?_ <;> (try simp [-cB, *]))
    | (refine AOps.lendC rfl (push29_ok _) rfl (by simp) rfl rfl (by simp) rfl ?_ <;> (try simp [-cB, *]))
    | (refine AOps.lendC rfl (hs3 _ ?_ ?_) rfl (by simp) rfl rfl (by simp) rfl ?_ <;> (try simp [-cB, *]))
    | (refine AOps.lendC rfl (hat _) rfl (by simp) rfl rfl (by simp) rfl ?_ <;> (try simp [-cB, *]))
    | (refine AOps.lendC rfl (refNeg_ok _) rfl (by simp) rfl rfl (by simp) rfl ?_ <;> (try simp [-cB, *]))
    | (refine AOps.lendC rfl (refNot_ok _) rfl (by simp) rfl rfl (by simp) rfl ?_ <;> (try simp [-cB, *]))
    | (refine AOps.lendC rfl (hs2 _ ?_ ?_) rfl (by simp) rfl rfl (by simp) rfl ?_ <;> (try simp [-cB, *]))
    | (refine AOps.pureG rfl (fun h => push29_ok _) rfl (by first | rfl | (simp; rfl)) (by simp) (by simp) rfl ?_ <;> (try simp [-cB, *]))
    | (refine AOps.pureG rfl (fun h => hs3 _ ?_ ?_) rfl (by first | rfl | (simp; rfl)) (by simp) (by simp) rfl ?_ <;> (try simp [-cB, *]))
    | (refine AOps.pureG rfl (fun h => hat _) rfl (by first | rfl | (simp; rfl)) (by simp) (by simp) rfl ?_ <;> (try simp [-cB, *]))
    | (refine AOps.pureG rfl (fun h => refNeg_ok _) rfl (by first | rfl | (simp; rfl)) (by simp) (by simp) rfl ?_ <;> (try simp [-cB, *]))
    | (refine AOps.pureG rfl (fun h => refNot_ok _) rfl (by first | rfl | (simp; rfl)) (by simp) (by simp) rfl ?_ <;> (try simp [-cB, *]))
    | (refine AOps.pureG rfl (fun h => hs2 _ ?_ ?_) rfl (by first | rfl | (simp; rfl)) (by simp) (by simp) rfl ?_ <;> (try simp [-cB, *]))
    | (with_reducible intro _))
  all_goals first
    | omega
    | (simp [pushI]; done)
    | (rw [inR_i64]; unfold tru; split <;> omega)
    | (rw [← hR]; simp [moreT, reckL, reckM, notM, *]; done)
    | (rw [← hR]; simp_all [moreT, reckL, reckM, notM]; done)
    | trace_state
end Go.Ab

namespace Go.Ab
open Go.Proofs
theorem takeWhile_len {α : Type} {p : α → Bool} : ∀ (r : List α) (i : Nat), (∀ x ∈ r.take i, p x = true) → (∀ x, r[i]? = some x → p x = false) → i ≤ r.length → (r.takeWhile p).length = i
  | [], i, _, _, h => by simp at h; simp [h]
  | x :: r, 0, _, h, _ => by
    have := h x rfl
    rw [List.takeWhile_cons, if_neg (by simp [this])]; rfl
  | x :: r, i + 1, h1, h2, h3 => by
    rw [List.takeWhile_cons, if_pos (h1 x (by simp))]
    simp only [List.length_cons]
    rw [takeWhile_len r i (fun y hy => h1 y (by simp [hy])) (fun y hy => h2 y (by simpa using hy)) (by simpa using h3)]
def labI (l : List GIns) (n : Int) : Int := match l.findIdx? (fun i => decide (i.Op = 38) && decide (i.Arg = n)) with
  | some k => k
  | none => -1
theorem take_mem_snoc {α : Type} {l : List α} {i : Nat} {x y : α} (h : l[i]? = some x) (hy : y ∈ l.take (i + 1)) : y ∈ l.take i ∨ y = x := by
  rw [List.take_add_one] at hy
  rcases List.mem_append.1 hy with h1 | h1
  · exact Or.inl h1
  · rw [h] at h1; simp at h1; exact Or.inr h1
theorem where29_ok (l : List GIns) (hl : l.length ≤ 100000000000) (n : Int) : Pure Tryz.prog 320 [insD l, intD n] (intD (labI l n)) := by
  refine Pure.run Tryz.func320 rfl (by simp [Tryz.f320]) ?_; simp [-cB, Tryz.f320]
  refine AWP.loopS [0, 1, 5] l.length (fun i => [(5, intD i)]) (fun _ => []) (fun i => ∀ y ∈ l.take i, (decide (y.Op = 38) && decide (y.Arg = n)) = false) (by rfl) (by simp) ?_
  intro i hi hH
  rcases Nat.lt_or_eq_of_le hi with hlt | heq
  · have hx : l[i]? = some l[i] := List.getElem?_eq_getElem hlt
    have h64 : inR .i64 ((i : Int) + 1) := by rw [inR_i64]; omega
    by_cases hp : (decide (l[i].Op = 38) && decide (l[i].Arg = n)) = true
    · have hv : labI l n = i := by
        unfold labI
        have : l.findIdx? (fun i => decide (i.Op = 38) && decide (i.Arg = n)) = some i := by
          rw [List.findIdx?_eq_some_iff_getElem]
          refine ⟨hlt, hp, fun j hj => ?_⟩
          have hjl : j < l.length := by omega
          have := hH l[j] (List.mem_take_iff_getElem.2 ⟨j, by omega, rfl⟩)
          simpa using this
        rw [this]
      rw [Bool.and_eq_true, decide_eq_true_eq, decide_eq_true_eq] at hp
      simp [hlt, hp.1, hp.2, hv]
    · have hn : ∀ y ∈ l.take (i + 1), (decide (y.Op = 38) && decide (y.Arg = n)) = false := by
        intro y hy
        rcases take_mem_snoc hx hy with h | rfl
        · exact hH y h
        · simpa using hp
      simp [-cB, hlt, h64]
      refine condC_split (fun h => ?_) (fun h => ?_)
      · exact (hp h).elim
      · simp [-cB, h64, hlt]
        exact fun y hy => by simpa using hn y hy
  · have hv : labI l n = -1 := by
      unfold labI
      have : l.findIdx? (fun i => decide (i.Op = 38) && decide (i.Arg = n)) = none := by
        rw [List.findIdx?_eq_none_iff]
        intro y hy
        exact hH y (by rw [heq, List.take_length]; exact hy)
      rw [this]
    simp [heq, hv]
theorem behind29_ok (l : List GIns) (hl : l.length ≤ 100000000000) (k : Nat) (hk : k ≤ l.length) : Pure Tryz.prog 319 [insD l, intD k] (intD ((k + ((l.drop k).takeWhile isLab).length : Nat) : Int)) := by
  refine Pure.run Tryz.func319 rfl (by simp [Tryz.f319]) ?_; simp [-cB, Tryz.f319]
  refine AWP.loopS [0, 1] (l.length - k) (fun i => [(1, intD ((k + i : Nat) : Int))]) (fun _ => []) (fun i => ∀ y ∈ (l.drop k).take i, isLab y = true) (by rfl) (by simp) ?_
  intro i hi hH
  have h64 : inR .i64 ((k : Int) + i + 1) := by rw [inR_i64]; omega
  have ht : ((k : Int) + i).toNat = k + i := by omega
  by_cases hlt : k + i < l.length
  · have hlt' : (k : Int) + i < l.length := by omega
    have hx : (l.drop k)[i]? = some l[k + i] := by rw [List.getElem?_drop, List.getElem?_eq_getElem hlt]
    have hgd : l[k + i]?.getD GIns.zero = l[k + i] := by rw [List.getElem?_eq_getElem hlt]; rfl
    have h0 : 0 ≤ (k : Int) + i := by omega
    by_cases hp : l[k + i].Op = 38
    · have hn : ∀ y ∈ (l.drop k).take (i + 1), isLab y = true := by
        intro y hy
        rcases take_mem_snoc hx hy with h | rfl
        · exact hH y h
        · simp [isLab, hp]
      simp [hlt', ht, hp, h64, h0, hlt]
      exact ⟨by omega, by omega, hn⟩
    · have hv : ((l.drop k).takeWhile isLab).length = i := takeWhile_len _ i hH (fun x hx' => by rw [hx] at hx'; cases hx'; simp [isLab, hp]) (by simp; omega)
      simp [hlt', ht, hp, h0, hlt, hv]
  · have hlt' : ¬ (k : Int) + i < l.length := by omega
    have hv : ((l.drop k).takeWhile isLab).length = i := takeWhile_len _ i hH (fun x hx' => by rw [List.getElem?_drop, List.getElem?_eq_none (by omega)] at hx'; cases hx') (by simp; omega)
    simp [hlt', hv]
theorem asked29_ok (l : List GIns) (hl : l.length ≤ 100000000000) (n : Int) : Pure Tryz.prog 303 [insD l, intD n] (boolD (askedL l n)) := by
  refine Pure.run Tryz.func303 rfl (by simp [Tryz.f303]) ?_; simp [-cB, Tryz.f303]
  refine AWP.loopS [0, 1, 5] l.length (fun i => [(5, intD i)]) (fun _ => []) (fun i => askedL (l.take i) n = false) (by rfl) (by simp [askedL]) ?_
  intro i hi hH
  rcases Nat.lt_or_eq_of_le hi with hlt | heq
  · have hx : l[i]? = some l[i] := List.getElem?_eq_getElem hlt
    have h64 : inR .i64 ((i : Int) + 1) := by rw [inR_i64]; omega
    by_cases hp : (l[i].Op = 24 ∨ l[i].Op = 25) ∧ l[i].Arg = n
    · have hv : askedL l n = true := by
        unfold askedL
        refine List.any_eq_true.2 ⟨l[i], List.getElem_mem hlt, ?_⟩
        simp [hp.1, hp.2]
      rcases hp.1 with h | h
      · simp [hlt, h, hp.2, hv]
      · simp [hlt, h, hp.2, hv]
    · have hn : askedL (l.take (i + 1)) n = false := by
        unfold askedL at hH ⊢
        rw [List.take_add_one, hx, List.any_append, hH]
        simp only [Option.toList, List.any_cons, List.any_nil, Bool.or_false, Bool.false_or, Bool.and_eq_false_iff, Bool.or_eq_false_iff, decide_eq_false_iff_not]
        by_cases h : l[i].Op = 24 ∨ l[i].Op = 25
        · exact Or.inr fun h2 => hp ⟨h, h2⟩
        · exact Or.inl (by omega)
      simp [-cB, hlt, h64]
      refine condC_split (fun h => ?_) (fun h => ?_)
      · exact (hp (by simpa using h)).elim
      · simp [-cB, h64, hlt]
        exact hn
  · have hv : askedL l n = false := by rw [heq, List.take_length] at hH; exact hH
    simp [heq, hv]
end Go.Ab

namespace Go.Ab
open Go.Proofs
def knownL (l : List GIns) (k : Nat) : Option (List GIns) := (knownM (l.drop k)).map fun y => swapM l k y.1 y.2
set_option maxHeartbeats 2000000 in
theorem known29_ok (l : List GIns) (hl : l.length ≤ 100000000000) (k : Nat) (hk : k ≤ l.length) : Pure Tryz.prog 300 [insD l, intD k] (moreT l (knownL l k)) := by
  have hat := fun n => at29_ok l (by omega) n
  have e0 := opI_0 l k
  have e1 := opI_1 l k
  have e2 := opI_2 l k
  have l0 := opA_lt (l := l) (k := k) (j := 0)
  have l1 := opA_lt (l := l) (k := k) (j := 1)
  have l2 := opA_lt (l := l) (k := k) (j := 2)
  have b0 : ∀ h : k < l.length, (l[k]'h).Arg = argA (l.drop k) 0 := fun h => by have := argA_get l k 0; rw [← this]; simp [h]
  have b1 : ∀ h : k + 1 < l.length, (l[k + 1]'h).Arg = argA (l.drop k) 1 := fun h => by rw [← argA_get l k 1]; simp [h]
  obtain ⟨R, hR⟩ : ∃ R, moreT l (knownL l k) = R := ⟨_, rfl⟩
  have hRon : V.on [] R = true := by rw [← hR]; rfl
  rw [hR]
  simp only [Nat.add_zero] at l0
  have c1 : ((k : Int) + 1).toNat = k + 1 := by omega
  have i1 : inR .i64 ((k : Int) + 1) := by rw [inR_i64]; omega
  have i2 : inR .i64 ((k : Int) + 2) := by rw [inR_i64]; omega
  have hs2 : ∀ x : List GIns, x.length ≤ 1000 → k + 2 ≤ l.length → Pure Tryz.prog 304 [insD l, intD k, intD 2, insD x] (insD (swapM l k 2 x)) := fun x hx h => swap29_ok l (by omega) k 2 h x (by omega)
  have hs0 : k + 2 ≤ l.length → Pure Tryz.prog 304 [insD l, intD k, intD 2, .d (.v (.slice none 0 0))] (insD (swapM l k 2 [])) := fun h => (hs2 [] (by simp) h).deep 0 (by rfl) (by rfl)
  refine Pure.run Tryz.func300 rfl (by simp [Tryz.f300, hRon]) ?_; simp [-cB, Tryz.f300, hRon]
  repeat' (first
    | (with_reducible refine And.intro ?_ ?_)
    | (refine condC_split (fun h => ?_) (fun h => ?_) <;> (try simp at h) <;> (try simp [-cB, *]))
    | (refine AOps.pureC rfl (hat _) rfl rfl (by simp) rfl ?_ <;> (try simp [-cB, *]))
    | (refine AOps.pureC rfl (refWrap_ok _) rfl rfl (by simp) rfl ?_ <;> (try simp [-cB, *]))
    | (refine AOps.pureC rfl (hs0 ?_) rfl rfl (by simp) rfl ?_ <;> (try simp [-cB, *]))
    | (refine AOps.lendC rfl (hat _) rfl (by simp) rfl rfl (by simp) rfl ?_ <;> (try simp [-cB, *]))
    | (refine AOps.lendC rfl (refWrap_ok _) rfl (by simp) rfl rfl (by simp) rfl ?_ <;> (try simp [-cB, *]))
    | (refine AOps.lendC rfl (hs0 ?_) rfl (by simp) rfl rfl (by simp) rfl ?_ <;> (try simp [-cB, *]))
    | (refine AOps.pureG rfl (fun h => hat _) rfl (by first | rfl | (simp; rfl)) (by simp) (by simp) rfl ?_ <;> (try simp [-cB, *]))
    | (refine AOps.pureG rfl (fun h => refWrap_ok _) rfl (by first | rfl | (simp; rfl)) (by simp) (by simp) rfl ?_ <;> (try simp [-cB, *]))
    | (refine AOps.pureG rfl (fun h => hs0 ?_) rfl (by first | rfl | (simp; rfl)) (by simp) (by simp) rfl ?_ <;> (try simp [-cB, *]))
    | (with_reducible intro _))
  all_goals first
    | omega
    | (rw [← hR]; simp [moreT, knownL, knownM, *]; done)
    | (rw [← hR]; simp_all [moreT, knownL, knownM]; done)
    | (have hx : knownM (l.drop k) = none := by (unfold knownM; grind)
       rw [← hR]; simp [moreT, knownL, hx]; done)
    | skip
  refine AOps.weaken (Wk.freeze 54 (ys := [(⟨24, argA (l.drop k) 1⟩ : GIns)].map GIns.enc) rfl) ?_
  have hk2 : k + 2 ≤ l.length := by
    have := l1 (by omega)
    omega
  simp [-cB]
  refine AOps.pureC rfl (hs2 [⟨24, argA (l.drop k) 1⟩] (by simp) hk2) rfl rfl (by simp) rfl ?_
  simp [-cB]
  rw [← hR]; simp [moreT, knownL, knownM, *]
end Go.Ab

namespace Go.Ab
open Go.Proofs
def goesR (l r : List GIns) : Option (Nat × Nat × List GIns) :=
  if endsOp (opA r 0) ∧ 0 < deadN r.tail then some (1, deadN r.tail, [])
  else if opA r 0 = 24 ∨ opA r 0 = 25 then
    (if opA r 0 = 24 ∧ (r.tail.takeWhile isLab).any (fun i => decide (i.Arg = argA r 0)) = true then some (0, 1, [])
     else (farM l r).map fun x => (0, 1, x))
  else none
def goesL (l : List GIns) (k : Nat) : Option (List GIns) := (goesR l (l.drop k)).map fun y => swapM l (k + y.1) y.2.1 y.2.2
theorem after_labI {l : List GIns} {n : Int} : (labI l n = -1 ∧ after l n = none) ∨ (∃ p : Nat, p < l.length ∧ labI l n = p ∧ after l n = some (l.drop (p + 1)) ∧ isLab (l[p]?.getD GIns.zero) = true) := by
  induction l with
  | nil => exact Or.inl ⟨rfl, rfl⟩
  | cons i l ih =>
    unfold labI after
    rw [List.findIdx?_cons]
    by_cases h : i.Op = 38 ∧ i.Arg = n
    · rw [if_pos (by simp [h]), if_pos h]
      exact Or.inr ⟨0, by simp, rfl, rfl, by simp [isLab, h.1]⟩
    · rw [if_neg (by simpa using h), if_neg h]
      unfold labI at ih
      rcases ih with ⟨h1, h2⟩ | ⟨p, h1, h2, h3, h4⟩
      · left
        refine ⟨?_, h2⟩
        cases hf : l.findIdx? (fun i => decide (i.Op = 38) && decide (i.Arg = n)) with
        | none => rfl
        | some k => rw [hf] at h1; simp only at h1; omega
      · right
        refine ⟨p + 1, by simpa using h1, ?_, by rw [h3]; rfl, by simpa using h4⟩
        cases hf : l.findIdx? (fun i => decide (i.Op = 38) && decide (i.Arg = n)) with
        | none => rw [hf] at h2; simp only at h2; omega
        | some k => rw [hf] at h2; simp only at h2 ⊢; simp only [Option.map_some]; omega
theorem dropWhile_drop {α : Type} (p : α → Bool) (l : List α) : l.dropWhile p = l.drop (l.takeWhile p).length := by
  have h := List.takeWhile_append_dropWhile (p := p) (l := l)
  conv => rhs; rw [← h]
  rw [List.drop_append_of_le_length (by simp [h])]
  simp [h]
theorem behind_label {l : List GIns} {p : Nat} (h : p < l.length) (hl : isLab (l[p]?.getD GIns.zero) = true) : (l.drop (p + 1)).dropWhile isLab = l.drop (p + ((l.drop p).takeWhile isLab).length) := by
  rw [dropWhile_drop, List.drop_drop]
  congr 1
  have e : l.drop p = l[p] :: l.drop (p + 1) := List.drop_eq_getElem_cons h
  rw [List.getElem?_eq_getElem h] at hl
  rw [e, List.takeWhile_cons, if_pos (by simpa using hl)]
  simp only [List.length_cons]; omega
theorem dropWhile_head {α : Type} {p : α → Bool} : ∀ {l : List α} {x : α} {r : List α}, l.dropWhile p = x :: r → p x = false
  | [], x, r, h => by simp at h
  | y :: l, x, r, h => by
    rw [List.dropWhile_cons] at h
    split at h
    · exact dropWhile_head h
    · rename_i hy
      simp only [List.cons.injEq] at h
      rw [← h.1]; simpa using hy
theorem dead_facts (l : List GIns) (k : Nat) (hk : k ≤ l.length) : k + deadN (l.drop k) ≤ l.length ∧ (∀ i, i < deadN (l.drop k) → k + i < l.length ∧ ¬ (l[k + i]?.getD GIns.zero).Op = 38) ∧ (k + deadN (l.drop k) < l.length → (l[k + deadN (l.drop k)]?.getD GIns.zero).Op = 38) := by
  have h := take_while_len (fun i => !isLab i) (l.drop k)
  have hlen := congrArg List.length h
  rw [List.length_append, List.length_drop, List.length_drop, List.length_drop] at hlen
  have hle : deadN (l.drop k) ≤ l.length - k := by unfold deadN; omega
  refine ⟨by omega, fun i hi => ?_, fun hlt => ?_⟩
  · have h1 : k + i < l.length := by omega
    refine ⟨h1, ?_⟩
    have h2 := takeWhile_all (fun i => !isLab i) (l.drop k)
    have h3 : (l.drop k)[i]? = ((l.drop k).takeWhile fun i => !isLab i)[i]? := by
      conv => lhs; rw [h]
      rw [List.getElem?_append_left hi]
    rw [List.getElem?_drop] at h3
    have h4 := h2 _ (List.getElem_mem hi)
    have h9 : ((l.drop k).takeWhile fun i => !isLab i)[i]? = some _ := List.getElem?_eq_getElem hi
    rw [h3, h9]
    simp only [isLab, Bool.not_eq_true', decide_eq_false_iff_not] at h4
    exact of_decide_eq_false h4
  · have h5 := dropWhile_drop (fun i => !isLab i) (l.drop k)
    have h6 : (l.drop k).dropWhile (fun i => !isLab i) = l.drop (k + deadN (l.drop k)) := by rw [h5, List.drop_drop]; rfl
    have h7 : l.drop (k + deadN (l.drop k)) = l[k + deadN (l.drop k)] :: l.drop (k + deadN (l.drop k) + 1) := List.drop_eq_getElem_cons hlt
    rw [h7] at h6
    have h8 := dropWhile_head h6
    rw [List.getElem?_eq_getElem hlt]
    simp only [isLab, Bool.not_eq_false', decide_eq_true_eq] at h8
    exact h8
theorem lab_facts (l : List GIns) (k : Nat) (hk : k ≤ l.length) : k + ((l.drop k).takeWhile isLab).length ≤ l.length ∧ (∀ i (h : i < ((l.drop k).takeWhile isLab).length), k + i < l.length ∧ ((l.drop k).takeWhile isLab)[i] = l[k + i]?.getD GIns.zero) := by
  have h := take_while_len isLab (l.drop k)
  have hlen := congrArg List.length h
  rw [List.length_append, List.length_drop, List.length_drop, List.length_drop] at hlen
  refine ⟨by omega, fun i hi => ?_⟩
  have h1 : k + i < l.length := by omega
  refine ⟨h1, ?_⟩
  have h3 : (l.drop k)[i]? = ((l.drop k).takeWhile isLab)[i]? := by
    conv => lhs; rw [h]
    rw [List.getElem?_append_left hi]
  rw [List.getElem?_drop, List.getElem?_eq_getElem hi] at h3
  rw [h3]; rfl
set_option maxHeartbeats 4000000 in
theorem rest29 (l : List GIns) (hl : l.length ≤ 10000000000) (k : Nat) (hk : k < l.length) (o0 : Int) (ho : opA (l.drop k) 0 = o0) (hj : o0 = 24 ∧ deadN (l.drop (k + 1)) = 0 ∨ o0 = 25) : Pure Tryz.prog 301 [insD l, intD k] (moreT l (goesL l k)) := by
  have hat := fun n => at29_ok l (by omega) n
  have e0 := opI_0 l k
  obtain ⟨R, hR⟩ : ∃ R, moreT l (goesL l k) = R := ⟨_, rfl⟩
  have hRon : V.on [] R = true := by rw [← hR]; rfl
  rw [hR]
  have i1 : inR .i64 ((k : Int) + 1) := by rw [inR_i64]; omega
  have b0 : (l[k]?.getD GIns.zero).Arg = argA (l.drop k) 0 := argA_get l k 0
  have b00 : (l[k]'hk).Arg = argA (l.drop k) 0 := by have := argA_get l k 0; rw [← this]; simp [hk]
  have htl : (l.drop k).tail = l.drop (k + 1) := by rw [List.tail_drop]
  have hs1 : ∀ x : List GIns, x.length ≤ 1000 → Pure Tryz.prog 304 [insD l, intD k, intD 1, insD x] (insD (swapM l k 1 x)) := fun x hx => swap29_ok l (by omega) k 1 (by omega) x (by omega)
  have hs0 : Pure Tryz.prog 304 [insD l, intD k, intD 1, .d (.v (.slice none 0 0))] (insD (swapM l k 1 [])) := (hs1 [] (by simp)).deep 0 (by rfl) (by rfl)
  have hbe : Pure Tryz.prog 319 [insD l, intD ((k : Int) + 1)] (intD (((k + 1 : Nat) + ((l.drop (k + 1)).takeWhile isLab).length : Nat) : Int)) := behind29_ok l (by omega) (k + 1) (by omega)
  rw [ho] at e0
  obtain ⟨D, hD⟩ : ∃ D, deadN (l.drop (k + 1)) = D := ⟨_, rfl⟩
  have hdf := dead_facts l (k + 1) (by omega)
  rw [hD] at hdf hj
  obtain ⟨hd0, hd1, hd2⟩ := hdf
  have hgR : goesR l (l.drop k) = (if endsOp o0 ∧ 0 < D then some (1, D, []) else if o0 = 24 ∨ o0 = 25 then
    (if o0 = 24 ∧ ((l.drop (k + 1)).takeWhile isLab).any (fun i => decide (i.Arg = argA (l.drop k) 0)) = true then some (0, 1, [])
     else (farM l (l.drop k)).map fun x => (0, 1, x)) else none) := by
    unfold goesR; rw [ho, htl, hD]
  obtain ⟨T, hT⟩ : ∃ T, (l.drop (k + 1)).takeWhile isLab = T := ⟨_, rfl⟩
  rw [hT] at hgR hbe
  have hTf := lab_facts l (k + 1) (by omega)
  rw [hT] at hTf
  obtain ⟨ht0, ht1⟩ := hTf
  have hwh := where29_ok l (by omega) (argA (l.drop k) 0)
  have hbq := fun (p : Nat) (hp : p ≤ l.length) => behind29_ok l (by omega) p hp
  have hnd : ¬ (endsOp o0 ∧ 0 < D) := by
    rcases hj with h | h
    · omega
    · unfold endsOp; omega
  have hgR2 : goesL l k = if o0 = 24 ∧ T.any (fun i => decide (i.Arg = argA (l.drop k) 0)) = true then some (swapM l k 1 []) else (farM l (l.drop k)).map fun x => swapM l k 1 x := by
    unfold goesL
    rw [hgR, if_neg hnd, if_pos (by omega)]
    split
    · rfl
    · rw [Option.map_map]; rfl
  clear hgR
  obtain ⟨M, hM⟩ : ∃ M, T.findIdx (fun i => decide (i.Arg = argA (l.drop k) 0)) = M := ⟨_, rfl⟩
  have hM1 : o0 = 24 → ∀ j (h : j < M), ∃ h2 : j < T.length, (T[j]'h2).Arg ≠ argA (l.drop k) 0 := by
    intro _ j hj
    have h1 : M ≤ T.length := by rw [← hM]; exact List.findIdx_le_length
    refine ⟨by omega, ?_⟩
    have := List.not_of_lt_findIdx (p := fun i : GIns => decide (i.Arg = argA (l.drop k) 0)) (xs := T) (i := j) (by rw [hM]; exact hj)
    simpa using this
  have hM2 : o0 = 24 → ∀ (h : M < T.length), (T[M]'h).Arg = argA (l.drop k) 0 := by
    intro _ h
    have h2 : T.findIdx (fun i => decide (i.Arg = argA (l.drop k) 0)) < T.length := by rw [hM]; exact h
    have := List.findIdx_getElem (p := fun i : GIns => decide (i.Arg = argA (l.drop k) 0)) (xs := T) (w := h2)
    simp only [hM] at this
    simpa using this
  have hMle : M ≤ T.length := by rw [← hM]; exact List.findIdx_le_length
  have hM4 : o0 = 24 → (M < T.length → T.any (fun i => decide (i.Arg = argA (l.drop k) 0)) = true) ∧ (T.any (fun i => decide (i.Arg = argA (l.drop k) 0)) = true → M < T.length) := by
    intro _
    rw [← hM, List.findIdx_lt_length]
    simp
  refine Pure.run Tryz.func301 rfl (by simp [Tryz.f301, hRon]) ?_; simp [-cB, Tryz.f301, hRon]
  repeat' (first
    | (with_reducible refine And.intro ?_ ?_)
    | (refine condC_split (fun h => ?_) (fun h => ?_) <;> (try simp at h) <;> (try simp [-cB, *]))
    | (refine AOps.pureC rfl (hat _) rfl rfl (by simp) rfl ?_ <;> (try simp [-cB, *]))
    | (refine AOps.pureC rfl (hbe) rfl rfl (by simp) rfl ?_ <;> (try simp [-cB, *]))
    | (refine AOps.lendC rfl (hat _) rfl (by simp) rfl rfl (by simp) rfl ?_ <;> (try simp [-cB, *]))
    | (refine AOps.lendC rfl (hbe) rfl (by simp) rfl rfl (by simp) rfl ?_ <;> (try simp [-cB, *]))
    | (refine AOps.pureG rfl (fun h => hat _) rfl (by first | rfl | (simp; rfl)) (by simp) (by simp) rfl ?_ <;> (try simp [-cB, *]))
    | (refine AOps.pureG rfl (fun h => hbe) rfl (by first | rfl | (simp; rfl)) (by simp) (by simp) rfl ?_ <;> (try simp [-cB, *]))
    | (with_reducible intro _))
  all_goals (try (exfalso; omega))
  refine AWP.loopS [0, 1, 6, 7] 0 (fun i => [(7, intD ((k + 1 + i : Nat) : Int))]) (fun _ => []) (fun _ => True) (by rfl) (by simp) ?_
  intro i hi _
  obtain rfl : i = 0 := by omega
  have hD0 : D = 0 := by omega
  have j12 : ((k : Int) + 1).toNat = k + 1 := by omega
  have j0 : 0 ≤ (k : Int) + 1 := by omega
  have h24 : o0 = 24 := by omega
  by_cases hx : k + 1 < l.length
  have j11 := hd2 (by omega)
  rw [hD0] at j11
  have j6 : (l[k + 1]'hx).Op = 38 := by rw [Nat.add_zero, List.getElem?_eq_getElem hx] at j11; exact j11
  have j13 : (k : Int) + 1 < l.length := by omega
  have j6b : ((l[k + 1]'hx).Op != 38) = false := by simp [j6]
  simp [-cB, j0, j12, j13, hx, j6b, i1, h24]
  refine AOps.pureC rfl (hbe) rfl rfl (by simp) rfl ?_
  simp [-cB, i1]
  rotate_left
  have j13 : ¬ (k : Int) + 1 < l.length := by omega
  simp [-cB, j0, j12, j13, hx, i1, h24]
  refine AOps.pureC rfl (hbe) rfl rfl (by simp) rfl ?_
  simp [-cB, i1]
  rotate_left
  refine AWP.loopS [0, 1, 6, 8, 9] 0 (fun i => [(9, intD ((k + 1 + i : Nat) : Int))]) (fun _ => []) (fun _ => True) (by rfl) (by simp) ?_
  intro i2 hi2 _
  obtain rfl : i2 = 0 := by omega
  have h25 : o0 = 25 := by omega
  have hnany : ¬ (o0 = 24 ∧ T.any (fun i => decide (i.Arg = argA (l.drop k) 0)) = true) := by omega
  rw [if_neg hnany] at hgR2
  simp [-cB, h25]
  rotate_left
  refine AWP.loopS [0, 1, 6, 8, 9] M (fun i => [(9, intD ((k + 1 + i : Nat) : Int))]) (fun _ => []) (fun _ => True) (by rfl) (by simp) ?_
  intro i2 hi2 _
  have q1 : ((k : Int) + 1 + i2).toNat = k + 1 + i2 := by omega
  have q0 : 0 ≤ (k : Int) + 1 + i2 := by omega
  have q2 : inR .i64 ((k : Int) + 1 + i2 + 1) := by rw [inR_i64]; omega
  rcases Nat.lt_or_eq_of_le hi2 with hlt2 | heq2
  · obtain ⟨hM3a, hM3b⟩ := hM1 h24 i2 hlt2
    have hT3 := ht1 i2 hM3a
    have q3 : ((k : Int) + 1 + i2 < (k : Int) + 1 + T.length) := by omega
    have q4 : k + 1 + i2 < l.length := hT3.1
    have q5 : (l[k + 1 + i2]'q4).Arg ≠ argA (l.drop k) 0 := by
      have := hM3b
      rw [hT3.2, List.getElem?_eq_getElem q4] at this
      exact this
    simp [-cB, q0, q1, q2, q3, q4]
    refine AWP.regionD [] Tryz.mixed (by kernel_rfl) (by rfl) ?_
    simp [-cB, q0, q1, q2, q3, q4, hk, b00, q5]
    omega
  subst heq2
  by_cases hMT : i2 < T.length
  · have hT3 := ht1 i2 hMT
    have q3 : ((k : Int) + 1 + i2 < (k : Int) + 1 + T.length) := by omega
    have q4 : k + 1 + i2 < l.length := hT3.1
    have q5 : (l[k + 1 + i2]'q4).Arg = argA (l.drop k) 0 := by
      have := hM2 h24 hMT
      rw [hT3.2, List.getElem?_eq_getElem q4] at this
      exact this
    have hany : T.any (fun i => decide (i.Arg = argA (l.drop k) 0)) = true := (hM4 h24).1 hMT
    rw [if_pos ⟨h24, hany⟩] at hgR2
    simp [-cB, q0, q1, q2, q3, q4]
    refine AWP.regionD [] Tryz.mixed (by kernel_rfl) (by rfl) ?_
    simp [-cB, q0, q1, q2, q3, q4, hk, b00, q5]
    refine AOps.pureC rfl (hs0) rfl rfl (by simp) rfl ?_
    simp [-cB]
    rw [← hR, hgR2]; simp [moreT]
  have hnany : ¬ (o0 = 24 ∧ T.any (fun i => decide (i.Arg = argA (l.drop k) 0)) = true) := fun h => hMT ((hM4 h24).2 h.2)
  rw [if_neg hnany] at hgR2
  have q3 : ¬ ((k : Int) + 1 + i2 < (k : Int) + 1 + T.length) := by omega
  simp [-cB, q0, q1, q2, q3]
  rotate_left
  refine AWP.loopS [0, 1, 6, 8, 9] M (fun i => [(9, intD ((k + 1 + i : Nat) : Int))]) (fun _ => []) (fun _ => True) (by rfl) (by simp) ?_
  intro i2 hi2 _
  have q1 : ((k : Int) + 1 + i2).toNat = k + 1 + i2 := by omega
  have q0 : 0 ≤ (k : Int) + 1 + i2 := by omega
  have q2 : inR .i64 ((k : Int) + 1 + i2 + 1) := by rw [inR_i64]; omega
  rcases Nat.lt_or_eq_of_le hi2 with hlt2 | heq2
  · obtain ⟨hM3a, hM3b⟩ := hM1 h24 i2 hlt2
    have hT3 := ht1 i2 hM3a
    have q3 : ((k : Int) + 1 + i2 < (k : Int) + 1 + T.length) := by omega
    have q4 : k + 1 + i2 < l.length := hT3.1
    have q5 : (l[k + 1 + i2]'q4).Arg ≠ argA (l.drop k) 0 := by
      have := hM3b
      rw [hT3.2, List.getElem?_eq_getElem q4] at this
      exact this
    simp [-cB, q0, q1, q2, q3, q4]
    refine AWP.regionD [] Tryz.mixed (by kernel_rfl) (by rfl) ?_
    simp [-cB, q0, q1, q2, q3, q4, hk, b00, q5]
    omega
  subst heq2
  by_cases hMT : i2 < T.length
  · have hT3 := ht1 i2 hMT
    have q3 : ((k : Int) + 1 + i2 < (k : Int) + 1 + T.length) := by omega
    have q4 : k + 1 + i2 < l.length := hT3.1
    have q5 : (l[k + 1 + i2]'q4).Arg = argA (l.drop k) 0 := by
      have := hM2 h24 hMT
      rw [hT3.2, List.getElem?_eq_getElem q4] at this
      exact this
    have hany : T.any (fun i => decide (i.Arg = argA (l.drop k) 0)) = true := (hM4 h24).1 hMT
    rw [if_pos ⟨h24, hany⟩] at hgR2
    simp [-cB, q0, q1, q2, q3, q4]
    refine AWP.regionD [] Tryz.mixed (by kernel_rfl) (by rfl) ?_
    simp [-cB, q0, q1, q2, q3, q4, hk, b00, q5]
    refine AOps.pureC rfl (hs0) rfl rfl (by simp) rfl ?_
    simp [-cB]
    rw [← hR, hgR2]; simp [moreT]
  have hnany : ¬ (o0 = 24 ∧ T.any (fun i => decide (i.Arg = argA (l.drop k) 0)) = true) := fun h => hMT ((hM4 h24).2 h.2)
  rw [if_neg hnany] at hgR2
  have q3 : ¬ ((k : Int) + 1 + i2 < (k : Int) + 1 + T.length) := by omega
  simp [-cB, q0, q1, q2, q3]
  rotate_left
  all_goals
    simp [-cB, hk, b00]
    refine AOps.pureC rfl (hwh) rfl rfl (by simp) rfl ?_
    simp [-cB]
    rcases after_labI (l := l) (n := argA (l.drop k) 0) with ⟨w1, w2⟩ | ⟨p, w0, w1, w2, w3⟩
    · have hf : farM l (l.drop k) = none := by unfold farM; rw [w2]
      rw [hf] at hgR2
      simp [-cB, w1]
      rw [← hR, hgR2]; simp [moreT]
    have w4 : ¬ (p : Int) < 0 := by omega
    have hbp := hbq p (by omega)
    have hbl := behind_label w0 w3
    obtain ⟨Q, hQ⟩ : ∃ Q, p + ((l.drop p).takeWhile isLab).length = Q := ⟨_, rfl⟩
    rw [hQ] at hbp hbl
    have hQl : Q ≤ l.length := by
      have := (lab_facts l p (by omega)).1
      omega
    have hatQ := hat (Q : Int)
    rw [opI_0] at hatQ
    have hf : farM l (l.drop k) = if opA (l.drop Q) 0 = 24 ∧ argA (l.drop Q) 0 ≠ argA (l.drop k) 0 then some [⟨opA (l.drop k) 0, argA (l.drop Q) 0⟩] else none := by
      unfold farM; rw [w2]; simp only [hbl]
    rw [ho] at hf
    have hQ0 := opA_lt (l := l) (k := Q) (j := 0)
    simp only [Nat.add_zero] at hQ0
    have hbQ : ∀ h : Q < l.length, (l[Q]'h).Arg = argA (l.drop Q) 0 := fun h => by have := argA_get l Q 0; rw [← this]; simp [h]
    simp [-cB, w1, w4]
    refine AOps.pureC rfl (hbp) rfl rfl (by simp) rfl ?_
    simp [-cB]
    refine AWP.regionD [intD (opA (l.drop Q) 0)] Tryz.mixed (by kernel_rfl) (by rfl) ?_
    by_cases q24 : opA (l.drop Q) 0 = 24
    · have qlt : Q < l.length := hQ0 (by omega)
      have hbQ' := hbQ qlt
      rw [q24] at hatQ
      by_cases qa : argA (l.drop Q) 0 = argA (l.drop k) 0
      · rw [if_neg (by simp [qa])] at hf
        rw [hf] at hgR2
        simp [-cB, hatQ.ok, hbQ', hk, b00, q24, qa, qlt]
        rw [← hR, hgR2]; simp [moreT]
      · rw [if_pos ⟨q24, qa⟩] at hf
        rw [hf] at hgR2
        have qab : (argA (l.drop Q) 0 != argA (l.drop k) 0) = true := by simpa using qa
        simp [-cB, hatQ.ok, hbQ', hk, b00, q24, qab, qlt]
        first
          | refine AOps.weaken (Wk.freeze 136 (ys := [(⟨o0, argA (l.drop Q) 0⟩ : GIns)].map GIns.enc) rfl) ?_
          | refine AOps.weaken (Wk.freeze 136 (ys := [(⟨24, argA (l.drop Q) 0⟩ : GIns)].map GIns.enc) rfl) ?_
          | refine AOps.weaken (Wk.freeze 136 (ys := [(⟨25, argA (l.drop Q) 0⟩ : GIns)].map GIns.enc) rfl) ?_
        simp [-cB]
        first
          | refine AOps.pureC rfl (hs1 [⟨o0, argA (l.drop Q) 0⟩] (by simp)) rfl rfl (by simp) rfl ?_
          | refine AOps.pureC rfl (hs1 [⟨24, argA (l.drop Q) 0⟩] (by simp)) rfl rfl (by simp) rfl ?_
          | refine AOps.pureC rfl (hs1 [⟨25, argA (l.drop Q) 0⟩] (by simp)) rfl rfl (by simp) rfl ?_
        simp [-cB]
        rw [← hR, hgR2]; simp [moreT, *]
    · rw [if_neg (fun h => q24 h.1)] at hf
      rw [hf] at hgR2
      simp [-cB, hatQ.ok, hk, b00, q24]
      rw [← hR, hgR2]; simp [moreT]
set_option maxHeartbeats 4000000 in
theorem goes29_ok (l : List GIns) (hl : l.length ≤ 10000000000) (k : Nat) (hk : k < l.length) : Pure Tryz.prog 301 [insD l, intD k] (moreT l (goesL l k)) := by
  have hat := fun n => at29_ok l (by omega) n
  have e0 := opI_0 l k
  obtain ⟨R, hR⟩ : ∃ R, moreT l (goesL l k) = R := ⟨_, rfl⟩
  have hRon : V.on [] R = true := by rw [← hR]; rfl
  rw [hR]
  have i1 : inR .i64 ((k : Int) + 1) := by rw [inR_i64]; omega
  have b0 : (l[k]?.getD GIns.zero).Arg = argA (l.drop k) 0 := argA_get l k 0
  have b00 : (l[k]'hk).Arg = argA (l.drop k) 0 := by have := argA_get l k 0; rw [← this]; simp [hk]
  have htl : (l.drop k).tail = l.drop (k + 1) := by rw [List.tail_drop]
  have hs1 : ∀ x : List GIns, x.length ≤ 1000 → Pure Tryz.prog 304 [insD l, intD k, intD 1, insD x] (insD (swapM l k 1 x)) := fun x hx => swap29_ok l (by omega) k 1 (by omega) x (by omega)
  have hs0 : Pure Tryz.prog 304 [insD l, intD k, intD 1, .d (.v (.slice none 0 0))] (insD (swapM l k 1 [])) := (hs1 [] (by simp)).deep 0 (by rfl) (by rfl)
  have hbe : Pure Tryz.prog 319 [insD l, intD ((k : Int) + 1)] (intD (((k + 1 : Nat) + ((l.drop (k + 1)).takeWhile isLab).length : Nat) : Int)) := behind29_ok l (by omega) (k + 1) (by omega)
  generalize ho : opA (l.drop k) 0 = o0 at *
  obtain ⟨D, hD⟩ : ∃ D, deadN (l.drop (k + 1)) = D := ⟨_, rfl⟩
  have hdf := dead_facts l (k + 1) (by omega)
  rw [hD] at hdf
  obtain ⟨hd0, hd1, hd2⟩ := hdf
  have hgR : goesR l (l.drop k) = (if endsOp o0 ∧ 0 < D then some (1, D, []) else if o0 = 24 ∨ o0 = 25 then
    (if o0 = 24 ∧ ((l.drop (k + 1)).takeWhile isLab).any (fun i => decide (i.Arg = argA (l.drop k) 0)) = true then some (0, 1, [])
     else (farM l (l.drop k)).map fun x => (0, 1, x)) else none) := by
    unfold goesR; rw [ho, htl, hD]
  obtain ⟨T, hT⟩ : ∃ T, (l.drop (k + 1)).takeWhile isLab = T := ⟨_, rfl⟩
  rw [hT] at hgR hbe
  have hTf := lab_facts l (k + 1) (by omega)
  rw [hT] at hTf
  obtain ⟨ht0, ht1⟩ := hTf
  have hwh := where29_ok l (by omega) (argA (l.drop k) 0)
  have hbq := fun (p : Nat) (hp : p ≤ l.length) => behind29_ok l (by omega) p hp
  by_cases hend : endsOp o0
  · have hor : (((o0 = 24 ∨ o0 = 27) ∨ o0 = 28) ∨ o0 = 29) ∨ o0 = 30 := by unfold endsOp at hend; omega
    by_cases hd : 0 < D
    · have hres : R = .tup [insD (swapM l (k + 1) D []), boolD true] := by
        rw [← hR]; unfold goesL; rw [hgR, if_pos ⟨hend, hd⟩]; rfl
      have hsw : Pure Tryz.prog 304 [insD l, intD ((k : Int) + 1), intD D, .d (.v (.slice none 0 0))] (insD (swapM l (k + 1) D [])) := (swap29_ok l (by omega) (k + 1) D (by omega) [] (by simp)).deep 0 (by rfl) (by rfl)
      clear hR hgR
      subst hres
      refine Pure.run Tryz.func301 rfl (by simp [Tryz.f301]) ?_; simp [-cB, Tryz.f301]
      repeat' (first
        | (with_reducible refine And.intro ?_ ?_)
        | (refine condC_split (fun h => ?_) (fun h => ?_) <;> (try simp at h) <;> (try simp [-cB, *]))
        | (refine AOps.pureC rfl (hat _) rfl rfl (by simp) rfl ?_ <;> (try simp [-cB, *]))
        | (refine AOps.lendC rfl (hat _) rfl (by simp) rfl rfl (by simp) rfl ?_ <;> (try simp [-cB, *]))
        | (refine AOps.pureG rfl (fun h => hat _) rfl (by first | rfl | (simp; rfl)) (by simp) (by simp) rfl ?_ <;> (try simp [-cB, *]))
        | (with_reducible intro _))
      all_goals (try (exfalso; omega))
      refine AWP.loopS [0, 1, 6, 7] D (fun i => [(7, intD ((k + 1 + i : Nat) : Int))]) (fun _ => []) (fun _ => True) (by rfl) (by simp) ?_
      intro i hi _
      have j1 : ((k : Int) + 1 + i).toNat = k + 1 + i := by omega
      have j2 : inR .i64 ((k : Int) + 1 + i + 1) := by rw [inR_i64]; omega
      have j0 : 0 ≤ (k : Int) + 1 + i := by omega
      rcases Nat.lt_or_eq_of_le hi with hlt | heq
      · have j3 := hd1 i hlt
        have j4 : (k : Int) + 1 + i < l.length := by omega
        have j5 : k + 1 + i < l.length := by omega
        have j6 : ¬ (l[k + 1 + i]'j5).Op = 38 := by have := j3.2; rw [List.getElem?_eq_getElem j5] at this; exact this
        have j6b : (l[k + 1 + i].Op != 38) = true := by simpa using j6
        simp [-cB, j0, j1, j2, j4, j5, j6b]
        omega
      · subst heq
        have j7 : inR .i64 ((k : Int) + 1 + i - k) := by rw [inR_i64]; omega
        have j8 : inR .i64 ((k : Int) + 1 + i - k - 1) := by rw [inR_i64]; omega
        have j9 : (k : Int) + 1 + i - k - 1 = i := by omega
        have j10 : (k : Int) + 1 < (k : Int) + 1 + i := by omega
        by_cases hx : k + 1 + i < l.length
        · have j11 := hd2 hx
          have j12 : (k : Int) + 1 + i < l.length := by omega
          have j6 : (l[k + 1 + i]'hx).Op = 38 := by rw [List.getElem?_eq_getElem hx] at j11; exact j11
          simp [-cB, j0, j1, j12, hx, j6, i1, j7, j8, j9, j10, hd]
          refine ⟨by rw [inR_i64]; omega, ?_⟩
          refine AOps.pureC rfl (hsw) rfl rfl (by simp) rfl ?_
          simp
        · have j12 : ¬ (k : Int) + 1 + i < l.length := by omega
          simp [-cB, j0, j1, j12, i1, j7, j8, j9, j10, hd]
          refine ⟨by rw [inR_i64]; omega, ?_⟩
          refine AOps.pureC rfl (hsw) rfl rfl (by simp) rfl ?_
          simp
    · -- nothing is left out: a jump goes on, the others do not
      have hD0 : D = 0 := by omega
      have hnd : ¬ (endsOp o0 ∧ 0 < D) := by omega
      by_cases h24 : o0 = 24
      · rw [← hR]
        exact rest29 l hl k hk o0 ho (Or.inl ⟨h24, by rw [hD]; exact hD0⟩)
      · have hres : R = .tup [insD l, boolD false] := by
          rw [← hR]; unfold goesL; rw [hgR, if_neg hnd, if_neg (by omega)]; rfl
        clear hgR hR
        subst hres
        have h25 : ¬ o0 = 25 := by omega
        refine Pure.run Tryz.func301 rfl (by simp [Tryz.f301]) ?_; simp [-cB, Tryz.f301]
        repeat' (first
          | (with_reducible refine And.intro ?_ ?_)
          | (refine condC_split (fun h => ?_) (fun h => ?_) <;> (try simp at h) <;> (try simp [-cB, *]))
          | (refine AOps.pureC rfl (hat _) rfl rfl (by simp) rfl ?_ <;> (try simp [-cB, *]))
          | (refine AOps.lendC rfl (hat _) rfl (by simp) rfl rfl (by simp) rfl ?_ <;> (try simp [-cB, *]))
          | (refine AOps.pureG rfl (fun h => hat _) rfl (by first | rfl | (simp; rfl)) (by simp) (by simp) rfl ?_ <;> (try simp [-cB, *]))
          | (with_reducible intro _))
        all_goals (try (exfalso; omega))
        refine AWP.loopS [0, 1, 6, 7] 0 (fun i => [(7, intD ((k + 1 + i : Nat) : Int))]) (fun _ => []) (fun _ => True) (by rfl) (by simp) ?_
        intro i hi _
        obtain rfl : i = 0 := by omega
        have j12 : ((k : Int) + 1).toNat = k + 1 := by omega
        have j0 : 0 ≤ (k : Int) + 1 := by omega
        by_cases hx : k + 1 < l.length
        · have j11 := hd2 (by omega)
          rw [hD0] at j11
          have j6 : (l[k + 1]'hx).Op = 38 := by rw [Nat.add_zero, List.getElem?_eq_getElem hx] at j11; exact j11
          have j13 : (k : Int) + 1 < l.length := by omega
          have j6b : ((l[k + 1]'hx).Op != 38) = false := by simp [j6]
          simp [-cB, j0, j12, j13, hx, j6b, i1]
          refine condC_split (fun h => ?_) (fun h => ?_)
          · simp
          · simp at h; omega
        · have j13 : ¬ (k : Int) + 1 < l.length := by omega
          simp [-cB, j0, j12, j13, hx, i1]
          refine condC_split (fun h => ?_) (fun h => ?_)
          · simp
          · simp at h; omega
  · have hor : ¬ ((((o0 = 24 ∨ o0 = 27) ∨ o0 = 28) ∨ o0 = 29) ∨ o0 = 30) := by unfold endsOp at hend; omega
    have hnd : ¬ (endsOp o0 ∧ 0 < D) := fun h => hend h.1
    by_cases h25 : o0 = 25
    · rw [← hR]
      exact rest29 l hl k hk o0 ho (Or.inr h25)
    · have hres : R = .tup [insD l, boolD false] := by
        rw [← hR]; unfold goesL; rw [hgR, if_neg hnd, if_neg (by omega)]; rfl
      clear hgR hR
      subst hres
      refine Pure.run Tryz.func301 rfl (by simp [Tryz.f301]) ?_; simp [-cB, Tryz.f301]
      repeat' (first
        | (with_reducible refine And.intro ?_ ?_)
        | (refine condC_split (fun h => ?_) (fun h => ?_) <;> (try simp at h) <;> (try simp [-cB, *]))
        | (refine AOps.pureC rfl (hat _) rfl rfl (by simp) rfl ?_ <;> (try simp [-cB, *]))
        | (refine AOps.lendC rfl (hat _) rfl (by simp) rfl rfl (by simp) rfl ?_ <;> (try simp [-cB, *]))
        | (refine AOps.pureG rfl (fun h => hat _) rfl (by first | rfl | (simp; rfl)) (by simp) (by simp) rfl ?_ <;> (try simp [-cB, *]))
        | (with_reducible intro _))
      all_goals (exfalso; omega)
theorem betterR_eq (l r : List GIns) : betterR l r = match reckM r with
  | some y => some (0, y.1, y.2)
  | none => match knownM r with
    | some y => some (0, y.1, y.2)
    | none => match goesR l r with
      | some y => some y
      | none => if opA r 0 = 38 ∧ askedL l (argA r 0) = false then some (0, 1, []) else none := by
  unfold betterR goesR
  cases reckM r with
  | some y => rfl
  | none =>
    cases knownM r with
    | some y => rfl
    | none =>
      simp only
      by_cases h1 : endsOp (opA r 0) ∧ 0 < deadN r.tail
      · rw [if_pos h1, if_pos h1]
      · rw [if_neg h1, if_neg h1]
        by_cases h2 : opA r 0 = 24 ∨ opA r 0 = 25
        · rw [if_pos h2, if_pos h2]
          have h3 : ¬ (opA r 0 = 38 ∧ askedL l (argA r 0) = false) := by omega
          rw [if_neg h3]
          split
          · rfl
          · cases (farM l r).map fun x => (0, 1, x) <;> rfl
        · rw [if_neg h2, if_neg h2]
set_option maxHeartbeats 2000000 in
theorem better29_ok (l : List GIns) (hl : l.length ≤ 10000000000) (k : Nat) (hk : k < l.length) : Pure Tryz.prog 271 [insD l, intD k] (moreT l (betterM l k)) := by
  have h1 := reckoned29_ok l (by omega) k (by omega)
  have h2 := known29_ok l (by omega) k (by omega)
  have h3 := goes29_ok l hl k hk
  have hat := at29_ok l (by omega) k
  rw [opI_0] at hat
  have hak := asked29_ok l (by omega) (argA (l.drop k) 0)
  have b00 : (l[k]'hk).Arg = argA (l.drop k) 0 := by have := argA_get l k 0; rw [← this]; simp [hk]
  have hs0 : Pure Tryz.prog 304 [insD l, intD k, intD 1, .d (.v (.slice none 0 0))] (insD (swapM l k 1 [])) := (swap29_ok l (by omega) k 1 (by omega) [] (by simp)).deep 0 (by rfl) (by rfl)
  have hB : betterM l k = match reckL l k with
    | some y => some y
    | none => match knownL l k with
      | some y => some y
      | none => match goesL l k with
        | some y => some y
        | none => if opA (l.drop k) 0 = 38 ∧ askedL l (argA (l.drop k) 0) = false then some (swapM l k 1 []) else none := by
    unfold betterM reckL knownL goesL
    rw [betterR_eq]
    cases reckM (l.drop k) with
    | some y => rfl
    | none =>
      cases knownM (l.drop k) with
      | some y => rfl
      | none =>
        cases goesR l (l.drop k) with
        | some y => rfl
        | none =>
          simp only [Option.map_none]
          split <;> rfl
  rw [hB]
  cases hr : reckL l k with
  | some y =>
    rw [hr] at h1
    unfold moreT at h1 ⊢
    refine Pure.run Tryz.func271 rfl (by simp [Tryz.f271]) ?_; simp [-cB, Tryz.f271]
    refine AOps.pureC rfl (h1) rfl rfl (by simp) rfl ?_
    simp
  | none =>
    rw [hr] at h1
    cases hkn : knownL l k with
    | some y =>
      rw [hkn] at h2
      unfold moreT at h1 h2 ⊢
      refine Pure.run Tryz.func271 rfl (by simp [Tryz.f271]) ?_; simp [-cB, Tryz.f271]
      refine AOps.pureC rfl (h1) rfl rfl (by simp) rfl ?_
      simp [-cB]
      refine AOps.pureC rfl (h2) rfl rfl (by simp) rfl ?_
      simp
    | none =>
      rw [hkn] at h2
      cases hg : goesL l k with
      | some y =>
        rw [hg] at h3
        unfold moreT at h1 h2 h3 ⊢
        refine Pure.run Tryz.func271 rfl (by simp [Tryz.f271]) ?_; simp [-cB, Tryz.f271]
        refine AOps.pureC rfl (h1) rfl rfl (by simp) rfl ?_
        simp [-cB]
        refine AOps.pureC rfl (h2) rfl rfl (by simp) rfl ?_
        simp [-cB]
        refine AOps.pureC rfl (h3) rfl rfl (by simp) rfl ?_
        simp
      | none =>
        rw [hg] at h3
        by_cases h38 : opA (l.drop k) 0 = 38
        · rw [h38] at hat
          cases ha : askedL l (argA (l.drop k) 0) with
          | true =>
            rw [ha] at hak
            unfold moreT at h1 h2 h3 ⊢
            simp only [h38, true_and, reduceCtorEq, if_false]
            refine Pure.run Tryz.func271 rfl (by simp [Tryz.f271]) ?_; simp [-cB, Tryz.f271]
            repeat' (first
              | (with_reducible refine And.intro ?_ ?_)
              | (refine condC_split (fun h => ?_) (fun h => ?_) <;> (try simp at h) <;> (try simp [-cB, *]))
              | (refine AOps.pureC rfl (h1) rfl rfl (by simp) rfl ?_ <;> (try simp [-cB, *]))
              | (refine AOps.pureC rfl (h2) rfl rfl (by simp) rfl ?_ <;> (try simp [-cB, *]))
              | (refine AOps.pureC rfl (h3) rfl rfl (by simp) rfl ?_ <;> (try simp [-cB, *]))
              | (refine AOps.pureC rfl (hat) rfl rfl (by simp) rfl ?_ <;> (try simp [-cB, *]))
              | (refine AOps.pureC rfl (hak) rfl rfl (by simp) rfl ?_ <;> (try simp [-cB, *]))
              | (refine AOps.lendC rfl (h1) rfl (by simp) rfl rfl (by simp) rfl ?_ <;> (try simp [-cB, *]))
              | (refine AOps.lendC rfl (h2) rfl (by simp) rfl rfl (by simp) rfl ?_ <;> (try simp [-cB, *]))
              | (refine AOps.lendC rfl (h3) rfl (by simp) rfl rfl (by simp) rfl ?_ <;> (try simp [-cB, *]))
              | (refine AOps.lendC rfl (hat) rfl (by simp) rfl rfl (by simp) rfl ?_ <;> (try simp [-cB, *]))
              | (refine AOps.lendC rfl (hak) rfl (by simp) rfl rfl (by simp) rfl ?_ <;> (try simp [-cB, *]))
              | (refine AOps.pureG rfl (fun h => h1) rfl (by first | rfl | (simp; rfl)) (by simp) (by simp) rfl ?_ <;> (try simp [-cB, *]))
              | (refine AOps.pureG rfl (fun h => h2) rfl (by first | rfl | (simp; rfl)) (by simp) (by simp) rfl ?_ <;> (try simp [-cB, *]))
              | (refine AOps.pureG rfl (fun h => h3) rfl (by first | rfl | (simp; rfl)) (by simp) (by simp) rfl ?_ <;> (try simp [-cB, *]))
              | (refine AOps.pureG rfl (fun h => hat) rfl (by first | rfl | (simp; rfl)) (by simp) (by simp) rfl ?_ <;> (try simp [-cB, *]))
              | (refine AOps.pureG rfl (fun h => hak) rfl (by first | rfl | (simp; rfl)) (by simp) (by simp) rfl ?_ <;> (try simp [-cB, *]))
              | (with_reducible intro _))
          | false =>
            rw [ha] at hak
            unfold moreT at h1 h2 h3 ⊢
            simp only [h38, true_and, if_true]
            refine Pure.run Tryz.func271 rfl (by simp [Tryz.f271]) ?_; simp [-cB, Tryz.f271]
            repeat' (first
              | (with_reducible refine And.intro ?_ ?_)
              | (refine condC_split (fun h => ?_) (fun h => ?_) <;> (try simp at h) <;> (try simp [-cB, *]))
              | (refine AOps.pureC rfl (h1) rfl rfl (by simp) rfl ?_ <;> (try simp [-cB, *]))
              | (refine AOps.pureC rfl (h2) rfl rfl (by simp) rfl ?_ <;> (try simp [-cB, *]))
              | (refine AOps.pureC rfl (h3) rfl rfl (by simp) rfl ?_ <;> (try simp [-cB, *]))
              | (refine AOps.pureC rfl (hat) rfl rfl (by simp) rfl ?_ <;> (try simp [-cB, *]))
              | (refine AOps.pureC rfl (hak) rfl rfl (by simp) rfl ?_ <;> (try simp [-cB, *]))
              | (refine AOps.pureC rfl (hs0) rfl rfl (by simp) rfl ?_ <;> (try simp [-cB, *]))
              | (refine AOps.lendC rfl (h1) rfl (by simp) rfl rfl (by simp) rfl ?_ <;> (try simp [-cB, *]))
              | (refine AOps.lendC rfl (h2) rfl (by simp) rfl rfl (by simp) rfl ?_ <;> (try simp [-cB, *]))
              | (refine AOps.lendC rfl (h3) rfl (by simp) rfl rfl (by simp) rfl ?_ <;> (try simp [-cB, *]))
              | (refine AOps.lendC rfl (hat) rfl (by simp) rfl rfl (by simp) rfl ?_ <;> (try simp [-cB, *]))
              | (refine AOps.lendC rfl (hak) rfl (by simp) rfl rfl (by simp) rfl ?_ <;> (try simp [-cB, *]))
              | (refine AOps.lendC rfl (hs0) rfl (by simp) rfl rfl (by simp) rfl ?_ <;> (try simp [-cB, *]))
              | (refine AOps.pureG rfl (fun h => h1) rfl (by first | rfl | (simp; rfl)) (by simp) (by simp) rfl ?_ <;> (try simp [-cB, *]))
              | (refine AOps.pureG rfl (fun h => h2) rfl (by first | rfl | (simp; rfl)) (by simp) (by simp) rfl ?_ <;> (try simp [-cB, *]))
              | (refine AOps.pureG rfl (fun h => h3) rfl (by first | rfl | (simp; rfl)) (by simp) (by simp) rfl ?_ <;> (try simp [-cB, *]))
              | (refine AOps.pureG rfl (fun h => hat) rfl (by first | rfl | (simp; rfl)) (by simp) (by simp) rfl ?_ <;> (try simp [-cB, *]))
              | (refine AOps.pureG rfl (fun h => hak) rfl (by first | rfl | (simp; rfl)) (by simp) (by simp) rfl ?_ <;> (try simp [-cB, *]))
              | (refine AOps.pureG rfl (fun h => hs0) rfl (by first | rfl | (simp; rfl)) (by simp) (by simp) rfl ?_ <;> (try simp [-cB, *]))
              | (with_reducible intro _))
        · unfold moreT at h1 h2 h3 ⊢
          simp only [h38, false_and, if_false]
          refine Pure.run Tryz.func271 rfl (by simp [Tryz.f271]) ?_; simp [-cB, Tryz.f271]
          have hag := fun n => asked29_ok l (by omega) n
          repeat' (first
            | (with_reducible refine And.intro ?_ ?_)
            | (refine condC_split (fun h => ?_) (fun h => ?_) <;> (try simp at h) <;> (try simp [-cB, *]))
            | (refine AOps.pureC rfl (h1) rfl rfl (by simp) rfl ?_ <;> (try simp [-cB, *]))
            | (refine AOps.pureC rfl (h2) rfl rfl (by simp) rfl ?_ <;> (try simp [-cB, *]))
            | (refine AOps.pureC rfl (h3) rfl rfl (by simp) rfl ?_ <;> (try simp [-cB, *]))
            | (refine AOps.pureC rfl (hat) rfl rfl (by simp) rfl ?_ <;> (try simp [-cB, *]))
            | (refine AOps.pureC rfl (hag _) rfl rfl (by simp) rfl ?_ <;> (try simp [-cB, *]))
            | (refine AOps.lendC rfl (h1) rfl (by simp) rfl rfl (by simp) rfl ?_ <;> (try simp [-cB, *]))
            | (refine AOps.lendC rfl (h2) rfl (by simp) rfl rfl (by simp) rfl ?_ <;> (try simp [-cB, *]))
            | (refine AOps.lendC rfl (h3) rfl (by simp) rfl rfl (by simp) rfl ?_ <;> (try simp [-cB, *]))
            | (refine AOps.lendC rfl (hat) rfl (by simp) rfl rfl (by simp) rfl ?_ <;> (try simp [-cB, *]))
            | (refine AOps.lendC rfl (hag _) rfl (by simp) rfl rfl (by simp) rfl ?_ <;> (try simp [-cB, *]))
            | (refine AOps.pureG rfl (fun h => h1) rfl (by first | rfl | (simp; rfl)) (by simp) (by simp) rfl ?_ <;> (try simp [-cB, *]))
            | (refine AOps.pureG rfl (fun h => h2) rfl (by first | rfl | (simp; rfl)) (by simp) (by simp) rfl ?_ <;> (try simp [-cB, *]))
            | (refine AOps.pureG rfl (fun h => h3) rfl (by first | rfl | (simp; rfl)) (by simp) (by simp) rfl ?_ <;> (try simp [-cB, *]))
            | (refine AOps.pureG rfl (fun h => hat) rfl (by first | rfl | (simp; rfl)) (by simp) (by simp) rfl ?_ <;> (try simp [-cB, *]))
            | (refine AOps.pureG rfl (fun h => hag _) rfl (by first | rfl | (simp; rfl)) (by simp) (by simp) rfl ?_ <;> (try simp [-cB, *]))
            | (with_reducible intro _))
end Go.Ab

namespace Go.Ab
open Go.Proofs
theorem swapM_len {l : List GIns} {k n : Nat} {x : List GIns} (h : k + n ≤ l.length) (hx : x.length ≤ n) : (swapM l k n x).length ≤ l.length := by
  unfold swapM
  simp only [List.length_append, List.length_take, List.length_drop]
  omega
theorem opA_drop {l : List GIns} {k j : Nat} (h : opA (l.drop k) j ≠ 0) : k + j < l.length := opA_lt h
theorem betterR_len {l : List GIns} {k : Nat} {y : Nat × Nat × List GIns} (h : betterR l (l.drop k) = some y) : k + y.1 + y.2.1 ≤ l.length ∧ y.2.2.length ≤ y.2.1 := by
  rw [betterR_eq] at h
  cases hr : reckM (l.drop k) with
  | some z =>
    rw [hr] at h
    simp only [Option.some.injEq] at h; subst h
    unfold reckM at hr
    split at hr
    · rename_i hc
      have := opA_drop (l := l) (k := k) (j := 2) (by omega)
      simp only [Option.some.injEq] at hr; subst hr
      exact ⟨by simp only; omega, by simp [pushI]⟩
    · split at hr
      · cases hr
      · have h1 : opA (l.drop k) 1 ≠ 0 → k + 1 < l.length := opA_drop
        split at hr
        · simp only [Option.some.injEq] at hr; subst hr
          exact ⟨by simp only; omega, by simp [pushI]⟩
        · split at hr
          · simp only [Option.some.injEq] at hr; subst hr
            exact ⟨by simp only; omega, by simp [pushI]⟩
          · split at hr
            · simp only [Option.some.injEq] at hr; subst hr
              exact ⟨by simp only; omega, by simp [pushI]⟩
            · cases hr
  | none =>
    rw [hr] at h
    simp only at h
    cases hk : knownM (l.drop k) with
    | some z =>
      rw [hk] at h
      simp only [Option.some.injEq] at h; subst h
      unfold knownM at hk
      have h1 : opA (l.drop k) 1 ≠ 0 → k + 1 < l.length := opA_drop
      split at hk
      · simp only [Option.some.injEq] at hk; subst hk
        exact ⟨by simp only; omega, by simp⟩
      · split at hk
        · split at hk
          · simp only [Option.some.injEq] at hk; subst hk
            exact ⟨by simp only; omega, by simp⟩
          · simp only [Option.some.injEq] at hk; subst hk
            exact ⟨by simp only; omega, by simp⟩
        · split at hk
          · simp only [Option.some.injEq] at hk; subst hk
            exact ⟨by simp only; omega, by simp⟩
          · cases hk
    | none =>
      rw [hk] at h
      simp only at h
      have h0 : opA (l.drop k) 0 ≠ 0 → k + 0 < l.length := opA_drop
      cases hg : goesR l (l.drop k) with
      | some z =>
        rw [hg] at h
        simp only [Option.some.injEq] at h; subst h
        unfold goesR at hg
        split at hg
        · rename_i hc
          simp only [Option.some.injEq] at hg; subst hg
          have : k < l.length := by have := hc.1; unfold endsOp at this; omega
          have hd := (dead_facts l (k + 1) (by omega)).1
          rw [List.tail_drop]
          exact ⟨by simp only; omega, by simp⟩
        · split at hg
          · split at hg
            · simp only [Option.some.injEq] at hg; subst hg
              exact ⟨by simp only; omega, by simp⟩
            · obtain ⟨x, hx, rfl⟩ := Option.map_eq_some_iff.1 hg
              unfold farM at hx
              split at hx
              · cases hx
              · split at hx
                · simp only [Option.some.injEq] at hx; subst hx
                  exact ⟨by simp only; omega, by simp⟩
                · cases hx
          · cases hg
      | none =>
        rw [hg] at h
        simp only at h
        split at h
        · simp only [Option.some.injEq] at h; subst h
          exact ⟨by simp only; omega, by simp⟩
        · cases h
theorem betterM_len {l l' : List GIns} {k : Nat} (h : betterM l k = some l') : l'.length ≤ l.length := by
  obtain ⟨y, hy, rfl⟩ := Option.map_eq_some_iff.1 h
  have := betterR_len hy
  exact swapM_len (by omega) this.2
theorem onceM_len {l l' : List GIns} {n k : Nat} (h : onceM l n k = some l') : l'.length ≤ l.length := by
  obtain ⟨j, _, _, hj⟩ := onceM_some _ _ h
  exact betterM_len hj
theorem onceM_none {l : List GIns} : ∀ (n k : Nat), (∀ j, k ≤ j → j < k + n → betterM l j = none) → onceM l n k = none
  | 0, k, _ => rfl
  | n + 1, k, h => by
    rw [onceM, h k (by omega) (by omega)]
    exact onceM_none n (k + 1) (fun j h1 h2 => h j (by omega) (by omega))
theorem onceM_first {l x : List GIns} {j : Nat} (hx : betterM l j = some x) : ∀ (n k : Nat), k ≤ j → j < k + n → (∀ i, k ≤ i → i < j → betterM l i = none) → onceM l n k = some x
  | 0, k, h1, h2, _ => by omega
  | n + 1, k, h1, h2, h3 => by
    rw [onceM]
    by_cases e : k = j
    · rw [e, hx]
    · rw [h3 k (by omega) (by omega)]
      exact onceM_first hx n (k + 1) (by omega) (by omega) (fun i h4 h5 => h3 i (by omega) h5)
theorem once29_ok (l : List GIns) (hl : l.length ≤ 10000000000) : Pure Tryz.prog 214 [insD l] (moreT l (onceM l l.length 0)) := by
  obtain ⟨R, hR⟩ : ∃ R, moreT l (onceM l l.length 0) = R := ⟨_, rfl⟩
  have hRon : V.on [] R = true := by rw [← hR]; rfl
  rw [hR]
  refine Pure.run Tryz.func214 rfl (by simp [Tryz.f214, hRon]) ?_; simp [-cB, Tryz.f214, hRon]
  refine AWP.loopS [0, 4] l.length (fun i => [(4, intD i)]) (fun _ => []) (fun i => ∀ j, j < i → betterM l j = none) (by rfl) (by simp) ?_
  intro i hi hH
  rcases Nat.lt_or_eq_of_le hi with hlt | heq
  · have hb := better29_ok l hl i hlt
    have h64 : inR .i64 ((i : Int) + 1) := by rw [inR_i64]; omega
    have hlt' : (i : Int) < l.length := by omega
    cases hm : betterM l i with
    | some x =>
      rw [hm] at hb
      have ho := onceM_first hm l.length 0 (by omega) (by omega) (fun j _ h => hH j h)
      unfold moreT at hb
      simp [-cB, hlt]
      refine AOps.pureC rfl (hb) rfl rfl (by simp) rfl ?_
      simp
      rw [← hR, ho]; rfl
    | none =>
      rw [hm] at hb
      unfold moreT at hb
      simp [-cB, hlt]
      refine AOps.pureC rfl (hb) rfl rfl (by simp) rfl ?_
      simp [h64, hlt]
      intro j hj
      by_cases e : j = i
      · rw [e]; exact hm
      · exact hH j (by omega)
  · have ho := onceM_none l.length 0 (fun j _ h => hH j (by omega))
    simp [heq]
    rw [← hR, ho]; rfl
theorem allM_fix {l : List GIns} (h : onceM l l.length 0 = none) : ∀ n, allM n l = l
  | 0 => rfl
  | n + 1 => by rw [allM, h]
theorem allM_succ : ∀ (n : Nat) (l : List GIns), allM (n + 1) l = (onceM (allM n l) (allM n l).length 0).getD (allM n l)
  | 0, l => by
    rw [allM, allM]
    cases onceM l l.length 0 <;> rfl
  | n + 1, l => by
    rw [allM]
    cases h : onceM l l.length 0 with
    | none => simp only; rw [allM_fix h, h]; rfl
    | some x =>
      simp only
      rw [allM_succ n x]
      conv => rhs; rw [allM, h]
theorem allM_len : ∀ (n : Nat) (l : List GIns), (allM n l).length ≤ l.length
  | 0, l => Nat.le_refl _
  | n + 1, l => by
    rw [allM]
    cases h : onceM l l.length 0 with
    | none => exact Nat.le_refl _
    | some x => exact Nat.le_trans (allM_len n x) (onceM_len h)
theorem all29_ok (l : List GIns) (hl : l.length ≤ 10000000000) : Pure Tryz.prog 148 [insD l] (insD (peepM l)) := by
  have h16 : inR .i64 (16 * (l.length : Int)) := by rw [inR_i64]; omega
  refine Pure.run Tryz.func148 rfl (by simp [Tryz.f148]) ?_; simp [-cB, Tryz.f148]
  simp [-cB, h16]
  refine AWP.loopS [0, 3, 4] (16 * l.length) (fun i => [(0, insD (allM i l)), (4, intD i)]) (fun _ => []) (fun _ => True) (by rfl) (by simp [allM]) ?_
  intro i hi _
  have ho := once29_ok (allM i l) (by have := allM_len i l; omega)
  have hs := allM_succ i l
  rcases Nat.lt_or_eq_of_le hi with hlt | heq
  · have hlt' : (i : Int) < 16 * (l.length : Int) := by omega
    have h64 : inR .i64 ((i : Int) + 1) := by rw [inR_i64]; omega
    cases hm : onceM (allM i l) (allM i l).length 0 with
    | some x =>
      rw [hm] at ho hs
      unfold moreT at ho
      simp [-cB, hlt']
      refine AOps.pureC rfl (ho) rfl rfl (by simp) rfl ?_
      simp [h64]
      refine ⟨by omega, ?_⟩
      rw [hs]; rfl
    | none =>
      rw [hm] at ho
      unfold moreT at ho
      have hp : peepM l = allM i l := by
        unfold peepM
        have : ∀ k, allM (i + k) l = allM i l := by
          intro k
          induction k with
          | zero => rfl
          | succ k ih => rw [← Nat.add_assoc, allM_succ, ih, hm]; rfl
        have h2 := this (16 * l.length - i)
        rw [show i + (16 * l.length - i) = 16 * l.length by omega] at h2
        exact h2
      simp [-cB, hlt']
      refine AOps.pureC rfl (ho) rfl rfl (by simp) rfl ?_
      simp [hp]
  · have hp : peepM l = allM i l := by unfold peepM; rw [heq]
    have hlt' : ¬ (i : Int) < 16 * (l.length : Int) := by omega
    simp [hlt', hp]
end Go.Ab

namespace Go.Ab
open Go.Proofs
theorem among27_ok (n : Int) (l : List Int) (hl : l.length ≤ 1000000) : Pure Tryz.prog 166 [intD n, .d (.sl (encI l))] (boolD (l.contains n)) := by
  refine Pure.run Tryz.func166 rfl (by simp [Tryz.f166]) ?_; simp [-cB, Tryz.f166]
  refine AWP.loopS [0, 1, 5] l.length (fun i => [(5, intD i)]) (fun _ => []) (fun i => (l.take i).contains n = false) (by rfl) (by simp [encI]) ?_
  intro i hi hH
  rcases Nat.lt_or_eq_of_le hi with hlt | heq
  · have hx : l[i]? = some l[i] := List.getElem?_eq_getElem hlt
    have h64 : inR .i64 ((i : Int) + 1) := by rw [inR_i64]; omega
    by_cases hp : l[i] = n
    · have hv : l.contains n = true := by simp only [List.contains_iff_mem]; exact hp ▸ List.getElem_mem hlt
      have hv2 : n ∈ l := by simpa using hv
      simp [hlt, hp, hv2]
    · have hn : (l.take (i + 1)).contains n = false := by
        rw [List.take_add_one, hx]
        simp only [Option.toList, List.contains_append, hH, Bool.false_or]
        simpa using fun h => hp h.symm
      have hpb : (l[i] == n) = false := by simpa using hp
      simp [hlt, hp, h64]
      simpa using hn
  · have hv : l.contains n = false := by rw [heq, List.take_length] at hH; exact hH
    simp [heq]
    simpa using hv
theorem has27_ok (n : Int) : Pure Tryz.prog 113 [intD n] (boolD (hasA n)) := by
  have h := among27_ok n [1, 3, 4, 5, 6, 7, 8, 12, 13, 14, 15, 16, 19, 21, 24, 25, 26, 32, 33, 38] (by simp)
  unfold hasA
  refine Pure.run Tryz.func113 rfl (by simp [Tryz.f113]) ?_; simp [-cB, Tryz.f113]
  refine AOps.weaken (Wk.freeze 4 (ys := encI [1, 3, 4, 5, 6, 7, 8, 12, 13, 14, 15, 16, 19, 21, 24, 25, 26, 32, 33, 38]) rfl) ?_
  simp [-cB]
  refine AOps.pureC rfl (h) rfl rfl (by simp) rfl ?_
  simp
theorem bytes27_ok (n : Int) : Pure Tryz.prog 114 [intD n] (intD (bytesM n)) := by
  unfold bytesM
  by_cases h0 : n = 0
  · subst h0
    refine Pure.run Tryz.func114 rfl (by simp [Tryz.f114]) ?_; simp [-cB, Tryz.f114]
  · by_cases h1 : -128 ≤ n ∧ n ≤ 127
    · refine Pure.run Tryz.func114 rfl (by simp [Tryz.f114]) ?_; simp [-cB, Tryz.f114]
      repeat' (first
        | (with_reducible refine And.intro ?_ ?_)
        | (refine condC_split (fun h => ?_) (fun h => ?_) <;> (try simp at h) <;> (try simp [-cB, *]))
        | (with_reducible intro _))
      all_goals (try omega)
    · refine Pure.run Tryz.func114 rfl (by simp [Tryz.f114]) ?_; simp [-cB, Tryz.f114]
      repeat' (first
        | (with_reducible refine And.intro ?_ ?_)
        | (refine condC_split (fun h => ?_) (fun h => ?_) <;> (try simp at h) <;> (try simp [-cB, *]))
        | (with_reducible intro _))
      all_goals (try omega)
theorem jumps30_ok (i : GIns) : Pure Tryz.prog 210 [.agg (i.enc.map .d)] (boolD (jmp i.Op)) := by
  unfold jmp
  refine Pure.run Tryz.func210 rfl (by simp [Tryz.f210]) ?_; simp [-cB, Tryz.f210]
def labN (l : List GIns) (k : Nat) (n : Int) : Int := labI (l.take k) n
theorem stands30_ok (l : List GIns) (hl : l.length ≤ 100000000000) (k : Nat) (hk : k ≤ l.length) (n : Int) : Pure Tryz.prog 268 [insD l, intD k, intD n] (intD (labN l k n)) := by
  refine Pure.run Tryz.func268 rfl (by simp [Tryz.f268]) ?_; simp [-cB, Tryz.f268]
  refine AWP.loopS [0, 1, 2, 7] k (fun i => [(7, intD i)]) (fun _ => []) (fun i => ∀ y ∈ l.take i, (decide (y.Op = 38) && decide (y.Arg = n)) = false) (by rfl) (by simp) ?_
  intro i hi hH
  rcases Nat.lt_or_eq_of_le hi with hlt' | heq
  · have hlt : i < l.length := by omega
    have hx : l[i]? = some l[i] := List.getElem?_eq_getElem hlt
    have hxk : (l.take k)[i]? = some l[i] := by rw [List.getElem?_take, if_pos hlt']; exact hx
    have h64 : inR .i64 ((i : Int) + 1) := by rw [inR_i64]; omega
    have hki : (i : Int) < k := by omega
    by_cases hp : (decide (l[i].Op = 38) && decide (l[i].Arg = n)) = true
    · have hv : labN l k n = i := by
        unfold labN labI
        have : (l.take k).findIdx? (fun i => decide (i.Op = 38) && decide (i.Arg = n)) = some i := by
          rw [List.findIdx?_eq_some_iff_getElem]
          refine ⟨by simp; omega, by simpa using hp, fun j hj => ?_⟩
          have hjl : j < l.length := by omega
          have := hH l[j] (List.mem_take_iff_getElem.2 ⟨j, by omega, rfl⟩)
          simpa using this
        rw [this]
      rw [Bool.and_eq_true, decide_eq_true_eq, decide_eq_true_eq] at hp
      simp [hlt, hki, hp.1, hp.2, hv]
    · have hn : ∀ y ∈ l.take (i + 1), (decide (y.Op = 38) && decide (y.Arg = n)) = false := by
        intro y hy
        rcases take_mem_snoc hx hy with h | rfl
        · exact hH y h
        · simpa using hp
      simp [-cB, hlt, hki, h64]
      refine condC_split (fun h => ?_) (fun h => ?_)
      · exact (hp h).elim
      · simp [-cB, h64, hlt]
        exact ⟨by omega, fun y hy => by simpa using hn y hy⟩
  · have hv : labN l k n = -1 := by
      unfold labN labI
      have : (l.take k).findIdx? (fun i => decide (i.Op = 38) && decide (i.Arg = n)) = none := by
        rw [List.findIdx?_eq_none_iff]
        intro y hy
        exact hH y (by rw [heq]; exact hy)
      rw [this]
    simp [heq, hv]
end Go.Ab

namespace Go.Ab
open Go.Proofs
def encY (l : List Int) : List (List D) := l.map fun c => [.v (.int .u8 c)]
@[simp] theorem encY_length (l : List Int) : (encY l).length = l.length := by simp [encY]
@[simp] theorem encY_append (a b : List Int) : encY a ++ encY b = encY (a ++ b) := by simp [encY]
abbrev bytD (l : List Int) : V := .d (.sl (encY l))
theorem wrapU8 (n : Int) : IntKind.wrap .u8 n = n % 256 := by
  unfold IntKind.wrap
  simp [IntKind.signed, IntKind.bits]
theorem argE_bd (i : GIns) : -32768 ≤ argE i ∧ argE i ≤ 32767 := by
  unfold argE
  split
  · exact wrapM_bd _
  · omega
theorem encode27_ok (i : GIns) : Pure Tryz.prog 211 [.agg (i.enc.map .d)] (bytD (encM i)) := by
  obtain ⟨o, a⟩ := i
  by_cases ho : o < 1 ∨ 38 ≤ o
  · have hv : encM ⟨o, a⟩ = [] := by unfold encM; rw [if_pos ho]
    rw [hv]
    refine Pure.run Tryz.func211 rfl (by simp [Tryz.f211, GIns.enc]) ?_; simp [-cB, Tryz.f211, GIns.enc]
    repeat' (first
      | (with_reducible refine And.intro ?_ ?_)
      | (refine condC_split (fun h => ?_) (fun h => ?_) <;> (try simp at h) <;> (try simp [-cB, *, GIns.enc]))
      | (with_reducible intro _))
    all_goals (first | rfl | omega)
  · have h1 := argE_bd ⟨o, a⟩
    have hv : encM ⟨o, a⟩ = encK o (argE ⟨o, a⟩) (bytesM (argE ⟨o, a⟩)) := by unfold encM; rw [if_neg ho]
    rw [hv]
    have hw := refWrap_ok a
    have hh := has27_ok o
    obtain ⟨n, hn⟩ : ∃ n, argE ⟨o, a⟩ = n := ⟨_, rfl⟩
    rw [hn] at h1 ⊢
    unfold argE at hn
    simp only at hn
    have hl1 : ¬ o < 1 := by omega
    have hl2 : ¬ 38 ≤ o := by omega
    have e1 : inR .i64 (4 * o) := by rw [inR_i64]; omega
    have e4 : inR .i64 (4 * o + 1) := by rw [inR_i64]; omega
    have e5 : inR .i64 (4 * o + 2) := by rw [inR_i64]; omega
    have e6 : (4 * o) % 256 = 4 * o := by omega
    have e7 : (4 * o + 1) % 256 = 4 * o + 1 := by omega
    have e8 : (4 * o + 2) % 256 = 4 * o + 2 := by omega
    have hb27 := bytes27_ok n
    have hb := bytesM_le n
    obtain ⟨k, hk⟩ : ∃ k, bytesM n = k := ⟨_, rfl⟩
    rw [hk] at hb hb27 ⊢
    have hgo : Pure Tryz.prog 113 [intD o] (boolD false) ∧ n = 0 ∨ Pure Tryz.prog 113 [intD o] (boolD true) ∧ wrapM a = n := by
      cases hA : hasA o
      · left; rw [hA] at hh hn; exact ⟨hh, by simpa using hn.symm⟩
      · right; rw [hA] at hh hn; exact ⟨hh, by simpa using hn⟩
    have e64 : inR .i64 (n + 65536) := by rw [inR_i64]; omega
    have q1 : 0 ≤ n → n.tdiv 256 = n / 256 := fun h => Int.tdiv_eq_ediv_of_nonneg h
    have q2 : 0 ≤ n + 65536 := by omega
    have q3 : (n + 65536).tdiv 256 = (n + 65536) / 256 := Int.tdiv_eq_ediv_of_nonneg q2
    have q4 : (n + 65536) / 256 % 256 = n / 256 % 256 := by omega
    have q5 : 0 ≤ n → n.tmod 256 = n % 256 := fun h => Int.tmod_eq_emod_of_nonneg h
    have q6 : (n + 65536).tmod 256 = n % 256 := by rw [Int.tmod_eq_emod_of_nonneg q2]; omega
    clear hh hv
    have hk3 : k = 0 ∨ k = 1 ∨ k = 2 := by omega
    rcases hk3 with rfl | rfl | rfl
    · have hn0 : n = 0 := by unfold bytesM at hk; split at hk; assumption; split at hk <;> omega
      subst hn0
      have hbk : Pure Tryz.prog 114 [intD 0] (intD 0) := hb27
      clear hb27 hb hk q1 q2 q3 q4 q5 q6
      rcases hgo with ⟨hh, _⟩ | ⟨hh, hw2⟩
      · have e9 : True := trivial
        refine Pure.run Tryz.func211 rfl (by simp [Tryz.f211, hl1, hl2, GIns.enc]) ?_; simp [-cB, Tryz.f211, hl1, hl2, GIns.enc]
        intro bs
        refine AOps.pureC rfl (hw) rfl rfl (by simp) rfl ?_
        simp [-cB]
        refine AOps.pureC rfl (hh) rfl rfl (by simp) rfl ?_
        simp [-cB, e1]
        refine AWP.regionM0 [some (0, 0), some (0, 0), some (0, 0), some (0, 0), some (0, 0), some (0, 0), some (0, 0), none, some (1, 1)] [intD 0] Tryz.mixed (by kernel_rfl) ?_
        simp [-cB, e1, e6, hbk.ok, wrapU8, e9]
        refine AOps.pureC rfl (hbk) rfl rfl (by simp) rfl ?_
        simp [-cB, wrapU8, e9]
        refine AOps.pureC rfl (hbk) rfl rfl (by simp) rfl ?_
        simp [wrapU8, e9, encY, encK, argB]
      · have e9 : True := trivial
        rw [hw2] at hw
        refine Pure.run Tryz.func211 rfl (by simp [Tryz.f211, hl1, hl2, GIns.enc]) ?_; simp [-cB, Tryz.f211, hl1, hl2, GIns.enc]
        intro bs
        refine AOps.pureC rfl (hw) rfl rfl (by simp) rfl ?_
        simp [-cB]
        refine AOps.pureC rfl (hh) rfl rfl (by simp) rfl ?_
        simp [-cB, e1]
        refine AWP.regionM0 [some (0, 0), some (0, 0), some (0, 0), some (0, 0), some (0, 0), some (0, 0), some (0, 0), none, some (1, 1)] [intD 0] Tryz.mixed (by kernel_rfl) ?_
        simp [-cB, e1, e6, hbk.ok, wrapU8, e9]
        refine AOps.pureC rfl (hbk) rfl rfl (by simp) rfl ?_
        simp [-cB, wrapU8, e9]
        refine AOps.pureC rfl (hbk) rfl rfl (by simp) rfl ?_
        simp [wrapU8, e9, encY, encK, argB]
    · have hbk : Pure Tryz.prog 114 [intD n] (intD 1) := hb27
      have hnz : n ≠ 0 := by rintro rfl; simp [bytesM] at hk
      clear hb27 hb hk
      rcases hgo with ⟨hh, hn0⟩ | ⟨hh, hw2⟩
      · exact absurd hn0 hnz
      · rw [hw2] at hw
        by_cases hs : n < 0
        · clear q1 q5
          refine Pure.run Tryz.func211 rfl (by simp [Tryz.f211, hl1, hl2, GIns.enc]) ?_; simp [-cB, Tryz.f211, hl1, hl2, GIns.enc]
          intro bs
          refine AOps.pureC rfl (hw) rfl rfl (by simp) rfl ?_
          simp [-cB]
          refine AOps.pureC rfl (hh) rfl rfl (by simp) rfl ?_
          simp [-cB, e1]
          refine AWP.regionM0 [some (0, 0), some (0, 0), some (0, 0), some (0, 0), some (0, 0), some (0, 0), some (0, 0), none, some (1, 1)] [intD 1] Tryz.mixed (by kernel_rfl) ?_
          simp [-cB, e1, e4, e5, e7, hbk.ok, wrapU8, hs, e64, q6]
          refine AOps.pureC rfl (hbk) rfl rfl (by simp) rfl ?_
          simp [-cB, wrapU8, hs, e64, q6]
          refine AOps.pureC rfl (hbk) rfl rfl (by simp) rfl ?_
          simp [wrapU8, hs, e64, q6, encY, encK, argB]
        · have q5' := q5 (by omega)
          clear q1 q5
          refine Pure.run Tryz.func211 rfl (by simp [Tryz.f211, hl1, hl2, GIns.enc]) ?_; simp [-cB, Tryz.f211, hl1, hl2, GIns.enc]
          intro bs
          refine AOps.pureC rfl (hw) rfl rfl (by simp) rfl ?_
          simp [-cB]
          refine AOps.pureC rfl (hh) rfl rfl (by simp) rfl ?_
          simp [-cB, e1]
          refine AWP.regionM0 [some (0, 0), some (0, 0), some (0, 0), some (0, 0), some (0, 0), some (0, 0), some (0, 0), none, some (1, 1)] [intD 1] Tryz.mixed (by kernel_rfl) ?_
          simp [-cB, e1, e4, e5, e7, hbk.ok, wrapU8, hs, q5']
          refine AOps.pureC rfl (hbk) rfl rfl (by simp) rfl ?_
          simp [-cB, wrapU8, hs, q5']
          refine AOps.pureC rfl (hbk) rfl rfl (by simp) rfl ?_
          simp [wrapU8, hs, q5', encY, encK, argB]
    · have hbk : Pure Tryz.prog 114 [intD n] (intD 2) := hb27
      have hnz : n ≠ 0 := by rintro rfl; simp [bytesM] at hk
      clear hb27 hb hk
      rcases hgo with ⟨hh, hn0⟩ | ⟨hh, hw2⟩
      · exact absurd hn0 hnz
      · rw [hw2] at hw
        by_cases hs : n < 0
        · clear q1 q5
          refine Pure.run Tryz.func211 rfl (by simp [Tryz.f211, hl1, hl2, GIns.enc]) ?_; simp [-cB, Tryz.f211, hl1, hl2, GIns.enc]
          intro bs
          refine AOps.pureC rfl (hw) rfl rfl (by simp) rfl ?_
          simp [-cB]
          refine AOps.pureC rfl (hh) rfl rfl (by simp) rfl ?_
          simp [-cB, e1]
          refine AWP.regionM0 [some (0, 0), some (0, 0), some (0, 0), some (0, 0), some (0, 0), some (0, 0), some (0, 0), none, some (1, 1)] [intD 2] Tryz.mixed (by kernel_rfl) ?_
          simp [-cB, e1, e4, e5, e8, hbk.ok, wrapU8, hs, e64, q6, q3, q4]
          refine AOps.pureC rfl (hbk) rfl rfl (by simp) rfl ?_
          simp [-cB, wrapU8, hs, e64, q6, q3, q4]
          refine AOps.pureC rfl (hbk) rfl rfl (by simp) rfl ?_
          simp [wrapU8, hs, e64, q6, q3, q4, encY, encK, argB]
          rw [wrap64 (by rw [inR_i64]; omega), q4]
        · have q5' := q5 (by omega)
          have q1' := q1 (by omega)
          clear q1 q5
          refine Pure.run Tryz.func211 rfl (by simp [Tryz.f211, hl1, hl2, GIns.enc]) ?_; simp [-cB, Tryz.f211, hl1, hl2, GIns.enc]
          intro bs
          refine AOps.pureC rfl (hw) rfl rfl (by simp) rfl ?_
          simp [-cB]
          refine AOps.pureC rfl (hh) rfl rfl (by simp) rfl ?_
          simp [-cB, e1]
          refine AWP.regionM0 [some (0, 0), some (0, 0), some (0, 0), some (0, 0), some (0, 0), some (0, 0), some (0, 0), none, some (1, 1)] [intD 2] Tryz.mixed (by kernel_rfl) ?_
          simp [-cB, e1, e4, e5, e8, hbk.ok, wrapU8, hs, q5', q1']
          refine AOps.pureC rfl (hbk) rfl rfl (by simp) rfl ?_
          simp [-cB, wrapU8, hs, q5', q1']
          refine AOps.pureC rfl (hbk) rfl rfl (by simp) rfl ?_
          simp [wrapU8, hs, q5', q1', encY, encK, argB]
          rw [wrap64 (by rw [inR_i64]; omega)]
theorem fits30_ok (n : Int) : Pure Tryz.prog 270 [intD n] (intD (fitsM n)) := by
  have hi := refIs_ok n
  have he := encode27_ok ⟨24, n⟩
  have hf : fitsM n = if int16B n then bytesM n else 3 := rfl
  have hbd := bytesM_le n
  have hI : int16 n = int16B n := by simp [int16, int16B, fromB]
  rw [hI] at hi
  obtain ⟨F, hF⟩ : ∃ F, fitsM n = F := ⟨_, rfl⟩
  rw [hF] at hf ⊢
  by_cases h : int16B n = true
  · have hn : -32768 ≤ n ∧ n ≤ 32767 := by simpa [int16B] using h
    rw [h] at hi hf
    simp only [if_true] at hf
    have hlen : (encM ⟨24, n⟩).length = 1 + F := by
      have hA : hasA 24 = true := by decide
      rw [hf]
      simp only [encM, argE, hA, if_true, wrapM_id hn]
      rw [if_neg (by omega)]
      simp only [encK, List.length_cons, argB_len n _ hbd]; omega
    refine Pure.run Tryz.func270 rfl (by simp [Tryz.f270, GIns.enc]) ?_; simp [-cB, Tryz.f270, GIns.enc]
    refine AOps.pureC rfl (hi) rfl rfl (by simp) rfl ?_
    simp [GIns.enc]
    refine AOps.pureC rfl (he) rfl rfl (by simp) rfl ?_
    simp [hlen]
    exact ⟨by rw [inR_i64]; omega, by omega⟩
  · have h' : int16B n = false := by simpa using h
    rw [h'] at hi hf
    simp at hf
    refine Pure.run Tryz.func270 rfl (by simp [Tryz.f270, GIns.enc]) ?_; simp [-cB, Tryz.f270, GIns.enc]
    refine AOps.pureC rfl (hi) rfl rfl (by simp) rfl ?_
    simp [hf]
theorem jump30_ok (o n : Int) (k : Nat) (ho : 1 ≤ o ∧ o < 38) (hk : k ≤ 2) : Pure Tryz.prog 212 [intD o, intD n, intD k] (bytD (encK o n k)) := by
  have e1 : inR .i64 (4 * o) := by rw [inR_i64]; omega
  have e2 : inR .i64 (4 * o + 1) := by rw [inR_i64]; omega
  have e3 : inR .i64 (4 * o + 2) := by rw [inR_i64]; omega
  have e6 : (4 * o) % 256 = 4 * o := by omega
  have e7 : (4 * o + 1) % 256 = 4 * o + 1 := by omega
  have e8 : (4 * o + 2) % 256 = 4 * o + 2 := by omega
  have hk3 : k = 0 ∨ k = 1 ∨ k = 2 := by omega
  rcases hk3 with rfl | rfl | rfl
  · refine Pure.run Tryz.func212 rfl (by simp [Tryz.f212, e1, e6, wrapU8]) ?_; simp [-cB, Tryz.f212, e1, e6, wrapU8]
    simp [encY, encK, argB]
  · refine Pure.run Tryz.func212 rfl (by simp [Tryz.f212, e1, e2, e7, wrapU8]) ?_; simp [-cB, Tryz.f212, e1, e2, e7, wrapU8]
    simp [encY, encK, argB]
  · refine Pure.run Tryz.func212 rfl (by simp [Tryz.f212, e1, e3, e8, wrapU8]) ?_; simp [-cB, Tryz.f212, e1, e3, e8, wrapU8]
    simp [encY, encK, argB]
    show n.fdiv 256 % 256 = _
    rw [Int.fdiv_eq_ediv_of_nonneg _ (by decide)]
end Go.Ab

namespace Go.Ab
section
variable {P : Program} {n : Nat} {s : St} {Q : AX → St → Prop} {L : Heap}
def plainD : D → Bool
  | .v _ => true
  | _ => false
theorem row_plain {ty : TypeId} {k : Nat} {ys : List (List D)} {w : World} {O O' : Nat → Prop} {m m' : Nat → Option Value} {x : Value} (h : (Res.row ty k (dd ys)).Holds w O m x) (hp : ys.all (fun y => y.all plainD) = true) :
    (Res.row ty k (dd ys)).Holds w O' m' x := by
  rcases h with h | ⟨b, off, cap, cur, h1, h2, h3, h4, h5, h6, h7, h8⟩
  · exact .inl h
  · refine .inr ⟨b, off, cap, cur, h1, h2, h3, h4, h5, h6, h7, fun i j x y v hx hy hv => ?_⟩
    refine scal_rel (h8 i j x y v hx hy hv) ?_
    rw [dd_get] at hx
    obtain ⟨y0, hy0, rfl⟩ := Option.map_eq_some_iff.1 hx
    rw [List.getElem?_map] at hy
    obtain ⟨z, hz, rfl⟩ := Option.map_eq_some_iff.1 hy
    have := List.all_eq_true.1 (List.all_eq_true.1 hp y0 (List.mem_of_getElem? hy0)) z (List.mem_of_getElem? hz)
    cases z with
    | v u => rfl
    | sl xs => cases this
    | ifc t ag cs => cases this
theorem AOps.lendO {ops : Array Oper} {o : Oper} {rest : List Oper} {c : Call} {f : FuncId} {args args' : List V} {ty : TypeId} {kc : Nat} {ys : List (List D)} (h : Nat) (hop : o.op = .call c)
    (hf : ACalls P f args' [] (fun r L' => ∃ g, r = .ret (.rv g) ∧ L' = [(g, .row ty kc (dd ys))])) (he : enters P f = true) (hc : callee s.ev c = some (f, args)) (ha : V.fzs s.L args = args') (ho : V.ons [] args' = true)
    (hs : ys.all (fun y => y.all plainD) = true) (hg : o.guard = none) (hd : ∀ d, o.dst = some d → d < n) (hr : dstsOk n rest = true) (hn : h ∉ keys s.L)
    (k : ∀ bs, runC P ops rest (St.put { s with L := (h, .row ty kc (dd ys)) :: s.L } o.dst (.rv h)) bs [] (KK P n ops Q)) : AOps P n ops (o :: rest) s Q := by
  subst ha
  intro fo m0 w0 m a w st g
  unfold wpListIn
  rw [if_pos (by simp [Region.wanted, hg])]
  obtain ⟨xs, h1, h2⟩ := call_enters (P := P) (w := w) (m := m) (O := OO fo m) hop hc he (fun z _ => eval_rel g z)
  have hi := g.inv
  refine owp_leads h1 ?_
  have hrel : RelVs w (OO fo noneM) noneM xs (V.fzs s.L args) := by
    refine ⟨by rw [fzs_len]; exact h2.1, fun j v y hv hy => ?_⟩
    have hyo := ons_mem ho y (List.mem_of_getElem? hy)
    rw [fzs_get] at hy
    obtain ⟨z, hz, rfl⟩ := Option.map_eq_some_iff.1 hy
    exact (fz_rel hi (h2.2 j v z hv hz) hyo).mono (Keep.refl w _) (fun b _ hb => hb.elim (fun h => (noneM_own b h).elim) id) (fun _ _ e => e)
  refine (hf fo noneM w xs (hi.none_ fun b hb => .inr hb) hrel).mono ?_
  rintro e w' ⟨m1, r, L', ⟨gg, rfl, rfl⟩, he', hi', st'⟩
  cases e with
  | returned v =>
    simp only [Ends] at he'
    have hv : m1 gg = some v ∧ v.oneCell' = true := by
      cases he' with
      | rv _ _ e e1 => exact ⟨e, e1⟩
    obtain ⟨z, hz, hzh⟩ := hi'.holds gg (.row ty kc (dd ys)) (by simp)
    rw [hv.1] at hz
    obtain rfl := Option.some.inj hz
    have gr : Grows w w' := ⟨st'.os, st'.tape, st'.output, st'.size, fun b hb => st'.block b hb (noneM_own b)⟩
    obtain ⟨g', stt⟩ := g.new gr hn (x := v) (r := .row ty kc (dd ys)) (fun b hb => by
      by_cases hlt : b < w.heap.size
      · exact (noneM_own b (st'.owned b hlt ⟨gg, v, hv.1, hb⟩)).elim
      · omega) (row_plain hzh hs)
    exact (runC_sound rest _ [] hr k) fo m0 w0 _ _ w' (st.trans stt) (g'.put hd (.rv h v (mset_same _ _) hv.2))
  | panicked ch => simp only [Ends] at he'
  | outgrown => simp only [Ends] at he'
end
end Go.Ab

namespace Go.Ab
open Go.Proofs
def szI (z : Zl) : List Int := z.map fun p => (p.2 : Int)
def atL (z : Zl) (n : Nat) : List Int := (List.range n).map fun i => (lenZ (z.take i) : Int)
theorem atL_succ (z : Zl) (n : Nat) : atL z (n + 1) = atL z n ++ [(lenZ (z.take n) : Int)] := by
  unfold atL; rw [List.range_succ, List.map_append]; rfl
theorem atL_len (z : Zl) (n : Nat) : (atL z n).length = n := by simp [atL]
theorem atL_get (z : Zl) {n k : Nat} (h : k < n) : (atL z n)[k]? = some (lenZ (z.take k) : Int) := by
  simp [atL, h]
theorem lenP_eq (p : GIns × Nat) : lenP p = if jmp p.1.Op = true then 1 + p.2 else (encM p.1).length := by
  unfold lenP
  split
  · rename_i h
    rw [h]
    have : encM p.1 = [] := by unfold encM; rw [if_pos (by omega)]
    rw [this]
    simp [jmp]
  · rfl
theorem encM_len (i : GIns) : (encM i).length ≤ 3 := by
  unfold encM
  split
  · simp
  · have := bytesM_le (argE i)
    simp only [encK, List.length_cons, argB_len _ _ this]; omega
theorem lenP_le (p : GIns × Nat) (h : p.2 ≤ 3) : lenP p ≤ 4 := by
  rw [lenP_eq]
  have := encM_len p.1
  split <;> omega
theorem lenZ_le : ∀ (z : Zl), (∀ p ∈ z, p.2 ≤ 3) → lenZ z ≤ 4 * z.length
  | [], _ => by simp [lenZ]
  | p :: z, h => by
    have h1 := lenZ_le z (fun q hq => h q (by simp [hq]))
    have h2 := lenP_le p (h p (by simp))
    simp only [lenZ, List.map_cons, List.sum_cons, List.length_cons] at h1 ⊢
    omega
theorem lenZ_succ (z : Zl) (i : Nat) (h : i < z.length) : lenZ (z.take (i + 1)) = lenZ (z.take i) + lenP z[i] := by
  unfold lenZ
  rw [List.take_add_one, List.getElem?_eq_getElem h]
  simp only [Option.toList, List.map_append, List.sum_append, List.map_cons, List.map_nil, List.sum_cons, List.sum_nil, Nat.add_zero]
theorem places30_new (z : Zl) (hz : z.length ≤ 1000000000) (h3 : ∀ p ∈ z, p.2 ≤ 3) :
    ACalls Tryz.prog 209 [insD (z.map Prod.fst), .d (.sl (encI (szI z)))] [] (fun r L => ∃ g, r = .ret (.rv g) ∧ L = [(g, .row 3 1 (dd (encI (atL z (z.length + 1)))))]) := by
  refine ACalls.runX [4] [1000] Tryz.func209 rfl (by simp [Tryz.f209]) ?_; simp [-cB, Tryz.f209]
  refine AWP.weaken (Wk.own' (t := 6) (h := 1000) (k := 1) (ty := 3) (by rfl) (by simp [keys])) ?_
  refine AWP.loopS [0, 1, 5, 6, 7] z.length (fun i => [(5, intD (lenZ (z.take i))), (7, intD i)]) (fun i => [(1000, .row 3 1 (dd (encI (atL z i))))]) (fun _ => True) (by rfl) (by simp [atL, lenZ]) ?_
  intro i hi hH
  have hb : lenZ (z.take i) ≤ 4 * i := by
    have := lenZ_le (z.take i) (fun p hp => h3 p (List.mem_of_mem_take hp))
    rw [List.length_take] at this; omega
  have hal := atL_len z i
  have hae := atL_succ z i
  rcases Nat.lt_or_eq_of_le hi with hlt | heq
  · have hx : z[i]? = some z[i] := List.getElem?_eq_getElem hlt
    have h64 : inR .i64 ((i : Int) + 1) := by rw [inR_i64]; omega
    have hls := lenZ_succ z i hlt
    have hlp := lenP_eq z[i]
    have hel := encM_len z[i].1
    have hp3 := h3 z[i] (List.getElem_mem hlt)
    have hj := jumps30_ok z[i].1
    have he := encode27_ok z[i].1
    have e1 : inR .i64 ((lenZ (z.take i) : Int) + 1) := by rw [inR_i64]; omega
    have e2 : inR .i64 ((lenZ (z.take i) : Int) + 1 + (z[i].2 : Int)) := by rw [inR_i64]; omega
    have e3 : inR .i64 ((lenZ (z.take i) : Int) + ((encM z[i].1).length : Int)) := by rw [inR_i64]; omega
    cases hjm : jmp z[i].1.Op with
    | true =>
      rw [hjm] at hj hlp
      simp only [if_true] at hlp
      have hsz : (szI z)[i]? = some (z[i].2 : Int) := by simp [szI, hx]
      simp [-cB, hlt, hx, hal]
      refine ⟨by omega, ?_⟩
      refine AOps.pureC rfl (hj) rfl rfl (by simp) rfl ?_
      simp [-cB, hlt, hx, hal, e1, e2, h64, hsz, szI, hae, hls, hlp]
      omega
    | false =>
      rw [hjm] at hj hlp
      simp only [Bool.false_eq_true, if_false] at hlp
      simp [-cB, hlt, hx, hal]
      refine ⟨by omega, ?_⟩
      refine AOps.pureC rfl (hj) rfl rfl (by simp) rfl ?_
      simp [-cB, hlt, hx, hal]
      refine AOps.pureC rfl (he) rfl rfl (by simp) rfl ?_
      simp [hlt, hx, e3, h64, hae, hls, hlp]
  · subst heq
    simp [hal, hae]
    omega
theorem places30_ok (z : Zl) (hz : z.length ≤ 1000000000) (h3 : ∀ p ∈ z, p.2 ≤ 3) :
    Pure Tryz.prog 209 [insD (z.map Prod.fst), .d (.sl (encI (szI z)))] (.d (.sl (encI (atL z (z.length + 1))))) := by
  refine Pure.run Tryz.func209 rfl (by simp [Tryz.f209]) ?_; simp [-cB, Tryz.f209]
  refine AWP.weaken (Wk.own' (t := 6) (h := 1000) (k := 1) (ty := 3) (by rfl) (by simp [keys])) ?_
  refine AWP.loopS [0, 1, 5, 6, 7] z.length (fun i => [(5, intD (lenZ (z.take i))), (7, intD i)]) (fun i => [(1000, .row 3 1 (dd (encI (atL z i))))]) (fun _ => True) (by rfl) (by simp [atL, lenZ]) ?_
  intro i hi hH
  have hb : lenZ (z.take i) ≤ 4 * i := by
    have := lenZ_le (z.take i) (fun p hp => h3 p (List.mem_of_mem_take hp))
    rw [List.length_take] at this; omega
  have hal := atL_len z i
  have hae := atL_succ z i
  rcases Nat.lt_or_eq_of_le hi with hlt | heq
  · have hx : z[i]? = some z[i] := List.getElem?_eq_getElem hlt
    have h64 : inR .i64 ((i : Int) + 1) := by rw [inR_i64]; omega
    have hls := lenZ_succ z i hlt
    have hlp := lenP_eq z[i]
    have hel := encM_len z[i].1
    have hp3 := h3 z[i] (List.getElem_mem hlt)
    have hj := jumps30_ok z[i].1
    have he := encode27_ok z[i].1
    have e1 : inR .i64 ((lenZ (z.take i) : Int) + 1) := by rw [inR_i64]; omega
    have e2 : inR .i64 ((lenZ (z.take i) : Int) + 1 + (z[i].2 : Int)) := by rw [inR_i64]; omega
    have e3 : inR .i64 ((lenZ (z.take i) : Int) + ((encM z[i].1).length : Int)) := by rw [inR_i64]; omega
    cases hjm : jmp z[i].1.Op with
    | true =>
      rw [hjm] at hj hlp
      simp only [if_true] at hlp
      have hsz : (szI z)[i]? = some (z[i].2 : Int) := by simp [szI, hx]
      simp [-cB, hlt, hx, hal]
      refine ⟨by omega, ?_⟩
      refine AOps.pureC rfl (hj) rfl rfl (by simp) rfl ?_
      simp [-cB, hlt, hx, hal, e1, e2, h64, hsz, szI, hae, hls, hlp]
      omega
    | false =>
      rw [hjm] at hj hlp
      simp only [Bool.false_eq_true, if_false] at hlp
      simp [-cB, hlt, hx, hal]
      refine ⟨by omega, ?_⟩
      refine AOps.pureC rfl (hj) rfl rfl (by simp) rfl ?_
      simp [-cB, hlt, hx, hal]
      refine AOps.pureC rfl (he) rfl rfl (by simp) rfl ?_
      simp [hlt, hx, e3, h64, hae, hls, hlp]
  · subst heq
    simp [hal, hae]
    omega
end Go.Ab

namespace Go.Ab
open Go.Proofs
theorem labAt_find : ∀ (z : Zl) (n : Int), labAt z n = ((z.map Prod.fst).findIdx? (fun i => decide (i.Op = 38) && decide (i.Arg = n))).map (fun k => lenZ (z.take k))
  | [], n => rfl
  | p :: z, n => by
    rw [labAt, List.map_cons, List.findIdx?_cons, labAt_find z n]
    by_cases h : p.1.Op = 38 ∧ p.1.Arg = n
    · have hb : (decide (p.1.Op = 38) && decide (p.1.Arg = n)) = true := by simpa using h
      rw [if_pos h, if_pos hb]
      rfl
    · have hb : ¬ (decide (p.1.Op = 38) && decide (p.1.Arg = n)) = true := by simpa using h
      rw [if_neg h, if_neg hb, Option.map_map, Option.map_map]
      congr 1
theorem labAt_labN {z : Zl} {n : Int} {m : Nat} (h : labAt z n = some m) : ∃ k, k < z.length ∧ labN (z.map Prod.fst) (z.map Prod.fst).length n = (k : Nat) ∧ m = lenZ (z.take k) := by
  rw [labAt_find] at h
  obtain ⟨k, hk, rfl⟩ := Option.map_eq_some_iff.1 h
  refine ⟨k, ?_, ?_, rfl⟩
  · have := List.findIdx?_eq_some_iff_getElem.1 hk
    obtain ⟨h1, _⟩ := this
    simpa using h1
  · unfold labN labI
    rw [List.take_length, hk]
theorem far30_ok (z : Zl) (hz : z.length ≤ 1000000000) (h3 : ∀ p ∈ z, p.2 ≤ 3) (i : Nat) (hi : i < z.length) (hl : (labAt z z[i].1.Arg).isSome) :
    Pure Tryz.prog 213 [insD (z.map Prod.fst), .d (.sl (encI (atL z (z.length + 1)))), intD i] (intD (farZ z z[i].1.Arg (lenZ (z.take (i + 1))))) := by
  obtain ⟨m, hm⟩ := Option.isSome_iff_exists.1 hl
  obtain ⟨k, hk, hn, hmk⟩ := labAt_labN hm
  have hst := stands30_ok (z.map Prod.fst) (by simp; omega) (z.map Prod.fst).length (by omega) z[i].1.Arg
  rw [hn] at hst
  have hF : farZ z z[i].1.Arg (lenZ (z.take (i + 1))) = (m : Int) - (lenZ (z.take (i + 1)) : Int) := by unfold farZ; rw [hm]; rfl
  rw [hF]
  have g1 := atL_get z (n := z.length + 1) (k := k) (by omega)
  have g2 := atL_get z (n := z.length + 1) (k := i + 1) (by omega)
  have b1 := lenZ_le (z.take k) (fun p hp => h3 p (List.mem_of_mem_take hp))
  have b2 := lenZ_le (z.take (i + 1)) (fun p hp => h3 p (List.mem_of_mem_take hp))
  rw [List.length_take] at b1 b2
  have h64 : inR .i64 ((i : Int) + 1) := by rw [inR_i64]; omega
  have h65 : inR .i64 ((m : Int) - (lenZ (z.take (i + 1)) : Int)) := by rw [inR_i64]; omega
  have hx : z[i]? = some z[i] := List.getElem?_eq_getElem hi
  have hal := atL_len z (z.length + 1)
  rw [← hmk] at g1
  have hst2 := hst.ok
  simp only [List.length_map] at hst2
  refine Pure.run Tryz.func213 rfl (by simp [Tryz.f213]) ?_; simp [-cB, Tryz.f213]
  refine AWP.regionM0 [some (0, 0), some (0, 0), some (0, 0), some (0, 0), some (0, 0), some (0, 0), some (0, 0), some (0, 0), some (0, 0), some (0, 0), some (0, 0), some (0, 0), some (0, 0), some (0, 0), some (0, 0), some (0, 0), some (0, 0), some (0, 0), some (0, 0)] [intD k] Tryz.mixed (by kernel_rfl) ?_
  simp [hst2, hx, h64, h65, g1, g2, hal, hi]
  have g3 := (List.getElem?_eq_some_iff.1 g2).2
  exact ⟨by omega, by omega, by rw [g3]; exact h65, g3⟩
theorem szI_get (z : Zl) {i : Nat} (h : i < z.length) : (szI z)[i]? = some (z[i].2 : Int) := by
  simp [szI, List.getElem?_eq_getElem h]
theorem passM_add : ∀ (a b i : Nat) (z : Zl) (x : Bool), passM (a + b) i z x = passM b (i + a) (passM a i z x).1 (passM a i z x).2
  | 0, b, i, z, x => by simp [passM]
  | a + 1, b, i, z, x => by
    rw [show a + 1 + b = (a + b) + 1 by omega, passM, passM]
    cases growI z i with
    | none => simp only; rw [passM_add a b (i + 1) z x, show i + (a + 1) = i + 1 + a by omega]
    | some z' => simp only; rw [passM_add a b (i + 1) z' true, show i + (a + 1) = i + 1 + a by omega]
theorem passM_snoc (n : Nat) (z : Zl) (x : Bool) : passM (n + 1) 0 z x = match growI (passM n 0 z x).1 n with
    | some z' => (z', true)
    | none => passM n 0 z x := by
  rw [passM_add n 1 0 z x, Nat.zero_add, passM]
  cases growI (passM n 0 z x).1 n with
  | none => rfl
  | some z' => rfl
end Go.Ab

namespace Go.Ab
open Go.Proofs
def itZ (z : Zl) : Nat → Zl
  | 0 => z
  | k + 1 => (passM (itZ z k).length 0 (itZ z k) false).1
theorem itZ_shift (z : Zl) : ∀ k, itZ z (k + 1) = itZ (itZ z 1) k
  | 0 => rfl
  | k + 1 => by rw [itZ, itZ_shift z k]; rfl
theorem sizesM_it : ∀ (g : Nat) (z z' : Zl), sizesM g z = some z' → ∃ N, (∀ k, k < N → (passM (itZ z k).length 0 (itZ z k) false).2 = true) ∧ (passM (itZ z N).length 0 (itZ z N) false).2 = false ∧ z' = itZ z (N + 1)
  | 0, z, z', h => by cases h
  | g + 1, z, z', h => by
    rw [sizesM] at h
    split at h
    · rename_i hb
      obtain ⟨N, h1, h2, h3⟩ := sizesM_it g _ _ h
      refine ⟨N + 1, fun k hk => ?_, ?_, ?_⟩
      · cases k with
        | zero => exact hb
        | succ k => rw [itZ_shift]; exact h1 k (by omega)
      · rw [itZ_shift]; exact h2
      · rw [itZ_shift]; exact h3
    · rename_i hb
      simp only [Option.some.injEq] at h
      exact ⟨0, fun k hk => by omega, (by simpa using hb : (passM z.length 0 z false).2 = false), h.symm⟩
theorem itZ_ok (z : Zl) (h : ∀ p ∈ z, szOk p) : ∀ k, (itZ z k).map Prod.fst = z.map Prod.fst ∧ ∀ p ∈ itZ z k, szOk p
  | 0 => ⟨rfl, h⟩
  | k + 1 => by
    obtain ⟨h1, h2⟩ := itZ_ok z h k
    obtain ⟨a1, a2, _⟩ := passM_ok (itZ z k).length 0 (itZ z k) false h2
    exact ⟨a1.trans h1, a2⟩
theorem zipZ_fst (l : List GIns) : (zipZ l).map Prod.fst = l := by unfold zipZ; rw [List.map_map]; exact List.map_id l
theorem zipZ_ok (l : List GIns) : ∀ p ∈ zipZ l, szOk p := by
  intro p hp
  unfold zipZ at hp
  obtain ⟨i, _, rfl⟩ := List.mem_map.1 hp
  exact ⟨by simp, fun _ => by simp⟩
theorem szI_zip (l : List GIns) : szI (zipZ l) = List.replicate l.length 0 := by
  unfold szI zipZ
  rw [List.map_map]
  have h : ((fun p : GIns × Nat => (p.2 : Int)) ∘ fun i : GIns => (i, 0)) = fun _ => (0 : Int) := rfl
  rw [h, List.map_const']
theorem growI_jmp {z : Zl} {i : Nat} (hi : i < z.length) (h : jmp z[i].1.Op = false) : growI z i = none := by
  unfold growI
  rw [List.getElem?_eq_getElem hi]
  simp [h]
theorem szI_set (z : Zl) (i : Nat) (x : GIns) (n : Nat) : szI (z.set i (x, n)) = (szI z).set i (n : Int) := by
  simp [szI, List.map_set]
theorem fst_get {a b : Zl} (h : a.map Prod.fst = b.map Prod.fst) {i : Nat} (ha : i < a.length) (hb : i < b.length) : a[i].1 = b[i].1 := by
  have := congrArg (fun l => l[i]?) h
  simp only [List.getElem?_map, List.getElem?_eq_getElem ha, List.getElem?_eq_getElem hb, Option.map_some, Option.some.injEq] at this
  exact this
theorem sizes30_ok (l : List GIns) (hl : l.length ≤ 1000000000) (z' : Zl) (hz : sizesM (3 * l.length + 1) (zipZ l) = some z') (hlab : ∀ i ∈ l, jmp i.Op = true → (labsL l).contains i.Arg = true) :
    Pure Tryz.prog 208 [insD l] (.d (.sl (encI (szI z')))) := by
  obtain ⟨N, hN1, hN2, rfl⟩ := sizesM_it _ _ _ hz
  have hit := itZ_ok (zipZ l) (zipZ_ok l)
  simp only [zipZ_fst] at hit
  have hlen : ∀ k, (itZ (zipZ l) k).length = l.length := fun k => by simpa using congrArg List.length (hit k).1
  refine Pure.run Tryz.func208 rfl (by simp [Tryz.f208]) ?_; simp [-cB, Tryz.f208]
  refine ⟨⟨by simp [maxLen]; omega, by omega⟩, ?_⟩
  refine AWP.weaken (Wk.ren 9 5002 (by simp [keys])) ?_
  refine AWP.loopS [0, 3, 4] (N + 1) (fun k => [(4, boolD (decide (k ≤ N)))]) (fun k => [(5002, .row 3 1 (dd (encI (szI (itZ (zipZ l) k)))))]) (fun k => k ≤ N + 1) (by rfl) (by simp [itZ, szI_zip]) ?_
  intro k hk hH
  rcases Nat.lt_or_eq_of_le hk with hkl | rfl
  · have hkN : k ≤ N := by omega
    obtain ⟨hf, hok⟩ := hit k
    have hzl := hlen k
    have hnext : itZ (zipZ l) (k + 1) = (passM l.length 0 (itZ (zipZ l) k) false).1 := by rw [itZ, hzl]
    have hnb : decide (k + 1 ≤ N) = (passM l.length 0 (itZ (zipZ l) k) false).2 := by
      rcases Nat.lt_or_eq_of_le hkN with h | rfl
      · have := hN1 k h
        rw [hzl] at this
        rw [this]; simp; omega
      · rw [hzl] at hN2
        rw [hN2]; simp
    obtain ⟨z, hzz⟩ : ∃ z, itZ (zipZ l) k = z := ⟨_, rfl⟩
    rw [hzz] at hf hok hzl hnext hnb ⊢
    clear hN1 hN2 hz hit hlen hzz
    simp [-cB, hkN]
    refine AWP.loopS [0, 3, 4, 5] l.length (fun j => [(4, boolD (passM j 0 z false).2), (5, intD j)]) (fun j => [(5002, .row 3 1 (dd (encI (szI (passM j 0 z false).1))))]) (fun _ => True) (by rfl) (by simp [passM]) ?_
    intro j hj _
    obtain ⟨q1, q2, _⟩ := passM_ok j 0 z false hok
    rw [hf] at q1
    rcases Nat.lt_or_eq_of_le hj with hlt | rfl
    · have hsn := passM_snoc j z false
      obtain ⟨zj, hzj⟩ : ∃ y, (passM j 0 z false).1 = y := ⟨_, rfl⟩
      obtain ⟨bj, hbj⟩ : ∃ y, (passM j 0 z false).2 = y := ⟨_, rfl⟩
      have hpe : passM j 0 z false = (zj, bj) := by rw [← hzj, ← hbj]
      rw [hpe] at hsn
      rw [hzj] at q1 q2
      have hzl2 : zj.length = l.length := by simpa using congrArg List.length q1
      have hjz : j < zj.length := by omega
      have hlj : l[j]? = some zj[j].1 := by rw [← q1, List.getElem?_map, List.getElem?_eq_getElem hjz]; rfl
      have hlj2 : l[j] = zj[j].1 := by
        rw [List.getElem?_eq_getElem hlt] at hlj
        exact Option.some.inj hlj
      have h3 : ∀ p ∈ zj, p.2 ≤ 3 := fun p hp => (q2 p hp).1
      have hjj := jumps30_ok zj[j].1
      have h64 : inR .i64 ((j : Int) + 1) := by rw [inR_i64]; omega
      simp only at hsn
      cases hjm : jmp zj[j].1.Op with
      | false =>
        rw [growI_jmp hjz hjm] at hsn
        simp only at hsn
        rw [hjm] at hjj
        simp [-cB, hlt, hlj2, hpe, hsn]
        refine AOps.pureC rfl (hjj) rfl rfl (by simp) rfl ?_
        simp [-cB, hlt, hlj2, hpe, hsn, h64]
      | true =>
        rw [hjm] at hjj
        have hmem : zj[j].1.Arg ∈ labsL (zj.map Prod.fst) := by
          rw [q1]
          have := hlab zj[j].1 (List.mem_of_getElem? hlj) hjm
          simpa using this
        have hpl := places30_new zj (by omega) h3
        have hfa := far30_ok zj (by omega) h3 j hjz (labAt_some _ _ hmem)
        rw [q1, hzl2] at hpl
        rw [q1, hzl2] at hfa
        have hfi := fits30_ok (farZ zj zj[j].1.Arg (lenZ (zj.take (j + 1))))
        have hg : growI zj j = if zj[j].2 < fitsM (farZ zj zj[j].1.Arg (lenZ (zj.take (j + 1)))) then some (zj.set j (zj[j].1, fitsM (farZ zj zj[j].1.Arg (lenZ (zj.take (j + 1)))))) else none := by
          unfold growI
          rw [List.getElem?_eq_getElem hjz]
          simp [hjm]
        have hsg := szI_get zj hjz
        have hsl : (szI zj).length = l.length := by simp [szI, hzl2]
        have hsg2 : (szI zj)[j]'(by omega) = (zj[j].2 : Int) := (List.getElem?_eq_some_iff.1 hsg).2
        have hss := szI_set zj j
        obtain ⟨n, hn⟩ : ∃ n, fitsM (farZ zj zj[j].1.Arg (lenZ (zj.take (j + 1)))) = n := ⟨_, rfl⟩
        rw [hn] at hfi hg
        simp [-cB, hlt, hlj2, hpe, hsn]
        refine AOps.pureC rfl (hjj) rfl rfl (by simp) rfl ?_
        simp [-cB, hlt, hlj2, hpe, hsn, h64]
        refine AOps.lendO 1000 rfl hpl (by kernel_rfl) rfl (by simp) (by simp) (by simp [encI, plainD]) rfl (by simp) rfl (by simp [keys]) ?_
        simp [-cB, hlt, hlj2, hpe, hsn, h64]
        refine AOps.lendC rfl (hfa) rfl (by simp) rfl rfl (by simp) rfl ?_
        simp [-cB, hlt, hlj2, hpe, hsn, h64]
        refine AOps.pureC rfl (hfi) rfl rfl (by simp) rfl ?_
        by_cases hc : zj[j].2 < n
        · rw [if_pos hc] at hg
          rw [hg] at hsn
          have hc' : ((zj[j].2 : Nat) : Int) < (n : Nat) := by omega
          simp [hlt, hlj2, hpe, hsn, h64, hsg, hsg2, hsl, hc, hc', hss]
        · rw [if_neg hc] at hg
          rw [hg] at hsn
          have hc' : ¬ ((zj[j].2 : Nat) : Int) < (n : Nat) := by omega
          simp [hlt, hlj2, hpe, hsn, h64, hsg, hsg2, hsl, hc, hc']
    · simp [-cB]
      rw [hnb, hnext]
      exact ⟨hkl, ⟨rfl, rfl⟩, hkN⟩
  · simp
    intro h
    omega
end Go.Ab

namespace Go.Ab
open Go.Proofs
def blkS (S : ByteArray) (i : Nat) : Bool := (S.data[i]?.getD 0).toNat == 32
def stS (S : ByteArray) : Nat → Nat × ByteArray
  | 0 => (0, ⟨#[]⟩)
  | i + 1 => if blkS S i then ((stS S i).1 + 1, ⟨#[]⟩) else ((stS S i).1, (stS S i).2 ++ S.extract i (i + 1))
theorem stS_le (S : ByteArray) : ∀ i, (stS S i).1 ≤ i
  | 0 => Nat.le_refl _
  | i + 1 => by
    have := stS_le S i
    rw [stS]
    split <;> simp only <;> omega
theorem stS_sz (S : ByteArray) : ∀ i, (stS S i).2.size ≤ i
  | 0 => Nat.le_refl _
  | i + 1 => by
    have := stS_sz S i
    rw [stS]
    split
    · exact Nat.zero_le _
    · simp only [ByteArray.size_append, ByteArray.size_extract]; omega
def nameR (S : ByteArray) (o : Int) : Nat → Nat → ByteArray
  | 0, _ => ⟨#[]⟩
  | n + 1, i => if blkS S i = true ∧ ((stS S i).1 : Int) = o ∧ 0 < o then (stS S i).2 else nameR S o n (i + 1)
def cntB (S : ByteArray) : Nat → Nat → Nat
  | 0, _ => 0
  | n + 1, i => (if blkS S i then 1 else 0) + cntB S n (i + 1)
def chkB (S : ByteArray) : Nat → Nat → Bool → Bool → Bool
  | 0, _, _, _ => true
  | n + 1, i, e, z => if blkS S i then (z || !e) && chkB S n (i + 1) true false else chkB S n (i + 1) false z
theorem nameR_none {S : ByteArray} {o : Int} : ∀ (n i : Nat), o ≤ 0 ∨ ((stS S i).1 + cntB S n i : Nat) ≤ o → nameR S o n i = ⟨#[]⟩
  | 0, i, h => rfl
  | n + 1, i, h => by
    rw [nameR]
    rw [cntB] at h
    rw [if_neg]
    · refine nameR_none n (i + 1) ?_
      rcases h with h | h
      · exact .inl h
      · right
        rw [stS]
        split
        · rename_i hb
          rw [if_pos hb] at h
          simp only; omega
        · rename_i hb
          rw [if_neg hb] at h
          simp only; omega
    · rintro ⟨h1, h2, h3⟩
      rcases h with h | h
      · omega
      · rw [if_pos h1] at h
        omega
theorem nameR_some {S : ByteArray} {o : Int} : ∀ (n i : Nat) (e z : Bool), i + n ≤ S.size → chkB S n i e z = true → (e = false → (stS S i).2.size ≠ 0) → (z = false → 0 < (stS S i).1) → (z = true → (stS S i).1 = 0) → 0 < o → ((stS S i).1 : Int) ≤ o → o < ((stS S i).1 + cntB S n i : Nat) → (nameR S o n i).size ≠ 0
  | 0, i, e, z, hn, hc, he, hz, hz2, h0, h1, h2 => by simp [cntB] at h2; omega
  | n + 1, i, e, z, hn, hc, he, hz, hz2, h0, h1, h2 => by
    rw [nameR]
    rw [chkB] at hc
    rw [cntB] at h2
    by_cases hb : blkS S i = true
    · rw [if_pos hb] at hc h2
      simp only [Bool.and_eq_true, Bool.or_eq_true, Bool.not_eq_true'] at hc
      by_cases ho : ((stS S i).1 : Int) = o
      · rw [if_pos ⟨hb, ho, h0⟩]
        rcases hc.1 with h | h
        · have := hz2 h; omega
        · exact he h
      · rw [if_neg (fun h => ho h.2.1)]
        have hs : stS S (i + 1) = ((stS S i).1 + 1, ⟨#[]⟩) := by rw [stS, if_pos hb]
        refine nameR_some n (i + 1) true false (by omega) hc.2 (fun h => by cases h) (fun _ => by rw [hs]; simp) (fun h => by cases h) h0 ?_ ?_
        · rw [hs]; simp only; omega
        · rw [hs]; simp only; omega
    · rw [if_neg hb] at hc h2
      rw [if_neg (fun h => hb h.1)]
      have hs : stS S (i + 1) = ((stS S i).1, (stS S i).2 ++ S.extract i (i + 1)) := by rw [stS, if_neg hb]
      refine nameR_some n (i + 1) false z (by omega) hc (fun _ => ?_) (fun h => by rw [hs]; exact hz h) (fun h => by rw [hs]; exact hz2 h) h0 ?_ ?_
      · rw [hs]
        simp only [ByteArray.size_append, ByteArray.size_extract]
        omega
      · rw [hs]; exact h1
      · rw [hs]; simp only; omega
theorem name27_ok (o : Int) : ∃ R : ByteArray, Pure Tryz.prog 269 [intD o] (.d (.v (.string R))) ∧ (R.size = 0 ↔ o < 1 ∨ 38 < o) := by
  obtain ⟨S, hS⟩ : ∃ S : ByteArray, S = { data := #[32, 112, 117, 115, 104, 32, 112, 111, 112, 32, 103, 108, 111, 98, 97, 108, 32, 112, 117, 116, 103, 108, 111, 98, 97, 108, 32, 108, 111, 99, 97, 108, 32, 112, 117, 116, 108, 111, 99, 97, 108, 32, 115, 101, 108, 102, 32, 98, 105, 110, 32, 110, 101, 103, 32, 110, 111, 116, 32, 116, 101, 115, 116, 32, 104, 97, 115, 32, 112, 114, 111, 112, 32, 112, 117, 116, 32, 115, 101, 116, 32, 117, 110, 115, 101, 116, 32, 109, 111, 118, 101, 32, 114, 101, 109, 111, 118, 101, 32, 116, 114, 101, 101, 32, 114, 97, 110, 100, 111, 109, 32, 116, 101, 120, 116, 32, 110, 117, 109, 32, 116, 105, 116, 108, 101, 32, 106, 117, 109, 112, 32, 122, 101, 114, 111, 32, 99, 97, 108, 108, 32, 114, 101, 116, 117, 114, 110, 32, 115, 116, 111, 112, 32, 119, 105, 110, 32, 108, 111, 115, 101, 32, 97, 119, 97, 114, 100, 32, 115, 116, 97, 114, 116, 32, 104, 97, 108, 116, 32, 116, 114, 97, 118, 101, 108, 32, 108, 111, 111, 107, 32, 108, 105, 115, 116, 32, 116, 105, 99, 107, 32, 108, 97, 98, 101, 108, 32] } := ⟨_, rfl⟩
  have hz : S.size = 207 := by rw [hS]; rfl
  have hk : chkB S 207 0 true true = true := by rw [hS]; decide +kernel
  have hc : cntB S 207 0 = 39 := by rw [hS]; decide +kernel
  refine ⟨nameR S o 207 0, ?_, ?_⟩
  · obtain ⟨R, hR⟩ : ∃ R, nameR S o 207 0 = R := ⟨_, rfl⟩
    rw [hR]
    refine Pure.run Tryz.func269 rfl (by simp [Tryz.f269]) ?_; simp [-cB, Tryz.f269]
    rw [← hS]
    clear hS hk hc
    refine AWP.loopS [0, 3, 4, 5] 207 (fun i => [(3, intD (stS S i).1), (4, .d (.v (.string (stS S i).2))), (5, intD i)]) (fun _ => []) (fun i => nameR S o (207 - i) i = R) (by rfl) (by simp [stS, hR]) ?_
    intro i hi hH
    rcases Nat.lt_or_eq_of_le hi with hlt | heq
    · have hlt' : (i : Int) < 207 := by omega
      have hltz : i < S.size := by omega
      have h64 : inR .i64 ((i : Int) + 1) := by rw [inR_i64]; omega
      have hst : stS S (i + 1) = if blkS S i then ((stS S i).1 + 1, ⟨#[]⟩) else ((stS S i).1, (stS S i).2 ++ S.extract i (i + 1)) := rfl
      rw [show 207 - i = (207 - (i + 1)) + 1 by omega, nameR] at hH
      have hbe : blkS S i = (S.data[i].toNat == 32) := by
        unfold blkS
        rw [Array.getElem?_eq_getElem hltz]
        rfl
      have hn1 : 207 - (i + 1) = 206 - i := by omega
      have h65 : inR .i64 (((stS S i).1 : Int) + 1) → True := fun _ => trivial
      have hcb : (stS S i).1 ≤ i := stS_le S i
      have h66 : inR .i64 (((stS S i).1 : Int) + 1) := by rw [inR_i64]; omega
      cases hb : blkS S i with
      | true =>
        rw [hb] at hst hH hbe
        simp only [if_true] at hst
        simp only [true_and] at hH
        have hbn : ((S.data[i].toNat : Int) != 32) = false := by
          have : S.data[i].toNat = 32 := by simpa using hbe.symm
          simp [this]
        by_cases ho : ((stS S i).1 : Int) = o ∧ 0 < o
        · rw [if_pos ho] at hH
          simp [-cB, hlt, hlt', hltz, hbn, ho.1, ho.2, hH]
        · rw [if_neg ho] at hH
          by_cases ho1 : ((stS S i).1 : Int) = o
          · have ho2 : ¬ 0 < o := fun h => ho ⟨ho1, h⟩
            simp [hlt, hlt', hltz, hbn, ho1, ho2, h64, hst, hH]
            rw [ho1] at h66
            exact ⟨h66, by rw [← hn1]; exact hH⟩
          · simp [hlt, hlt', hltz, hbn, ho1, h64, h66, hst, hH]
            rw [← hn1]; exact hH
      | false =>
        rw [hb] at hst hH hbe
        simp only [Bool.false_eq_true, if_false, false_and] at hst hH
        have hbn : ((S.data[i].toNat : Int) != 32) = true := by
          have : S.data[i].toNat ≠ 32 := by simpa using hbe.symm
          simp; omega
        simp [hlt, hlt', hltz, hbn, h64, hst, hH]
        have hsz := stS_sz S i
        exact ⟨⟨by omega, by omega⟩, by omega, by rw [← hn1]; exact hH⟩
    · subst heq
      have : nameR S o 0 207 = R := hH
      simp
      exact this
  · constructor
    · intro h
      by_cases hh : o < 1 ∨ 38 < o
      · exact hh
      · exact absurd h (nameR_some 207 0 true true (by omega) hk (fun h => by cases h) (fun h => by cases h) (fun _ => rfl) (by omega) (by simp [stS]; omega) (by rw [hc]; simp [stS]; omega))
    · intro h
      rw [nameR_none 207 0 (by rw [hc]; simp [stS]; omega)]
      rfl
end Go.Ab

namespace Go.Ab
open Go.Proofs
theorem labN_iff (l : List GIns) (k : Nat) (n : Int) : -1 ≤ labN l k n ∧ (0 ≤ labN l k n ↔ (labsL (l.take k)).contains n = true) := by
  unfold labN labI
  cases h : (l.take k).findIdx? (fun i => decide (i.Op = 38) && decide (i.Arg = n)) with
  | none =>
    refine ⟨Int.le_refl _, ⟨fun h => by simp at h, fun hc => ?_⟩⟩
    rw [List.findIdx?_eq_none_iff] at h
    have : n ∈ labsL (l.take k) := by simpa using hc
    obtain ⟨i, hi, h38, ha⟩ := mem_labsL.1 this
    have := h i hi
    simp [h38, ha] at this
  | some j =>
    refine ⟨by simp only; omega, ⟨fun _ => ?_, fun _ => by simp only; omega⟩⟩
    obtain ⟨h1, h2, _⟩ := List.findIdx?_eq_some_iff_getElem.1 h
    have : n ∈ labsL (l.take k) := mem_labsL.2 ⟨_, List.getElem_mem h1, by simpa using h2⟩
    simpa using this
set_option maxHeartbeats 2000000 in
theorem wrong30_ok (l : List GIns) (hl : l.length ≤ 100000000000) (i : Nat) (hi : i < l.length) : Pure Tryz.prog 207 [insD l, intD i] (intD (wrongI l (l.take i) l[i])) := by
  obtain ⟨x, hx⟩ : ∃ x, l[i] = x := ⟨_, rfl⟩
  rw [hx]
  have hxi : l[i]? = some x := by rw [List.getElem?_eq_getElem hi, hx]
  have hs1 := stands30_ok l hl l.length (Nat.le_refl _) x.Arg
  have hs2 := stands30_ok l hl i (by omega) x.Arg
  obtain ⟨p1, p2⟩ := labN_iff l l.length x.Arg
  obtain ⟨q1, q2⟩ := labN_iff l i x.Arg
  rw [List.take_length] at p2
  obtain ⟨R, hR, hRz⟩ := name27_ok x.Op
  have hh := has27_ok x.Op
  have hI := refIs_ok x.Arg
  have hIb : int16 x.Arg = int16B x.Arg := by simp [int16, int16B, fromB]
  rw [hIb] at hI
  have hj := jumps30_ok x
  obtain ⟨W, hW⟩ : ∃ W, wrongI l (l.take i) x = W := ⟨_, rfl⟩
  have hWd := hW
  unfold wrongI at hWd
  rw [hW]
  obtain ⟨A, hA⟩ : ∃ A, labN l l.length x.Arg = A := ⟨_, rfl⟩
  obtain ⟨B, hB⟩ : ∃ B, labN l i x.Arg = B := ⟨_, rfl⟩
  rw [hA] at hs1 p1 p2
  rw [hB] at hs2 q1 q2
  obtain ⟨o, a⟩ := x
  simp only at hs1 hs2 hR hRz hh hI hWd p2 q2
  have hRe : R.size = 0 → R = ⟨#[]⟩ := fun h => by
    obtain ⟨d⟩ := R
    congr 1
    exact Array.eq_empty_of_size_eq_zero h
  cases hjm : jmp o with
  | true =>
    have h38 : o ≠ 38 := fun h => by rw [h] at hjm; cases hjm
    simp only [hjm] at hj hWd
    by_cases hc : A < 0
    · have hc2 : (labsL l).contains a = false := by
        cases h : (labsL l).contains a with
        | false => rfl
        | true => have := p2.2 h; omega
      rw [if_pos ⟨trivial, hc2⟩] at hWd
      clear p2 q2 hRz hRe hW hA hB
      refine Pure.run Tryz.func207 rfl (by simp [Tryz.f207]) ?_; simp [-cB, Tryz.f207]
      intro bs
      simp [-cB, hx, hi, GIns.enc]
      repeat' (first
        | (with_reducible refine And.intro ?_ ?_)
        | (refine condC_split (fun h => ?_) (fun h => ?_) <;> (try simp at h) <;> (try simp [-cB, *, hx, hi, hc, h38, GIns.enc, hWd]))
        | (refine AOps.pureC rfl (hj) rfl rfl (by simp) rfl ?_ <;> (try simp [-cB, *, hx, hi, hc, h38, GIns.enc, hWd]))
        | (refine AOps.pureC rfl (hs1) rfl rfl (by simp) rfl ?_ <;> (try simp [-cB, *, hx, hi, hc, h38, GIns.enc, hWd]))
        | (refine AOps.pureC rfl (hs2) rfl rfl (by simp) rfl ?_ <;> (try simp [-cB, *, hx, hi, hc, h38, GIns.enc, hWd]))
        | (refine AOps.pureC rfl (hR) rfl rfl (by simp) rfl ?_ <;> (try simp [-cB, *, hx, hi, hc, h38, GIns.enc, hWd]))
        | (refine AOps.pureC rfl (hh) rfl rfl (by simp) rfl ?_ <;> (try simp [-cB, *, hx, hi, hc, h38, GIns.enc, hWd]))
        | (refine AOps.pureC rfl (hI) rfl rfl (by simp) rfl ?_ <;> (try simp [-cB, *, hx, hi, hc, h38, GIns.enc, hWd]))
        | (refine AOps.lendC rfl (hj) rfl (by simp) rfl rfl (by simp) rfl ?_ <;> (try simp [-cB, *, hx, hi, hc, h38, GIns.enc, hWd]))
        | (refine AOps.lendC rfl (hs1) rfl (by simp) rfl rfl (by simp) rfl ?_ <;> (try simp [-cB, *, hx, hi, hc, h38, GIns.enc, hWd]))
        | (refine AOps.lendC rfl (hs2) rfl (by simp) rfl rfl (by simp) rfl ?_ <;> (try simp [-cB, *, hx, hi, hc, h38, GIns.enc, hWd]))
        | (refine AOps.lendC rfl (hR) rfl (by simp) rfl rfl (by simp) rfl ?_ <;> (try simp [-cB, *, hx, hi, hc, h38, GIns.enc, hWd]))
        | (refine AOps.lendC rfl (hh) rfl (by simp) rfl rfl (by simp) rfl ?_ <;> (try simp [-cB, *, hx, hi, hc, h38, GIns.enc, hWd]))
        | (refine AOps.lendC rfl (hI) rfl (by simp) rfl rfl (by simp) rfl ?_ <;> (try simp [-cB, *, hx, hi, hc, h38, GIns.enc, hWd]))
        | (refine AOps.pureG rfl (fun h => hj) rfl (by first | rfl | (simp; rfl)) (by simp) (by simp) rfl ?_ <;> (try simp [-cB, *, hx, hi, hc, h38, GIns.enc, hWd]))
        | (refine AOps.pureG rfl (fun h => hs1) rfl (by first | rfl | (simp; rfl)) (by simp) (by simp) rfl ?_ <;> (try simp [-cB, *, hx, hi, hc, h38, GIns.enc, hWd]))
        | (refine AOps.pureG rfl (fun h => hs2) rfl (by first | rfl | (simp; rfl)) (by simp) (by simp) rfl ?_ <;> (try simp [-cB, *, hx, hi, hc, h38, GIns.enc, hWd]))
        | (refine AOps.pureG rfl (fun h => hR) rfl (by first | rfl | (simp; rfl)) (by simp) (by simp) rfl ?_ <;> (try simp [-cB, *, hx, hi, hc, h38, GIns.enc, hWd]))
        | (refine AOps.pureG rfl (fun h => hh) rfl (by first | rfl | (simp; rfl)) (by simp) (by simp) rfl ?_ <;> (try simp [-cB, *, hx, hi, hc, h38, GIns.enc, hWd]))
        | (refine AOps.pureG rfl (fun h => hI) rfl (by first | rfl | (simp; rfl)) (by simp) (by simp) rfl ?_ <;> (try simp [-cB, *, hx, hi, hc, h38, GIns.enc, hWd]))
        | (with_reducible intro _))
      all_goals omega
    · have hc2 : ¬ (labsL l).contains a = false := by
        have := p2.1 (by omega)
        simp only [this]; simp
      rw [if_neg (fun h => hc2 h.2), if_neg (fun h => h38 h.1), if_pos (Or.inr trivial)] at hWd
      clear p2 q2 hRz hRe hW hA hB
      refine Pure.run Tryz.func207 rfl (by simp [Tryz.f207]) ?_; simp [-cB, Tryz.f207]
      intro bs
      simp [-cB, hx, hi, GIns.enc]
      repeat' (first
        | (with_reducible refine And.intro ?_ ?_)
        | (refine condC_split (fun h => ?_) (fun h => ?_) <;> (try simp at h) <;> (try simp [-cB, *, hx, hi, hc, h38, GIns.enc, hWd]))
        | (refine AOps.pureC rfl (hj) rfl rfl (by simp) rfl ?_ <;> (try simp [-cB, *, hx, hi, hc, h38, GIns.enc, hWd]))
        | (refine AOps.pureC rfl (hs1) rfl rfl (by simp) rfl ?_ <;> (try simp [-cB, *, hx, hi, hc, h38, GIns.enc, hWd]))
        | (refine AOps.pureC rfl (hs2) rfl rfl (by simp) rfl ?_ <;> (try simp [-cB, *, hx, hi, hc, h38, GIns.enc, hWd]))
        | (refine AOps.pureC rfl (hR) rfl rfl (by simp) rfl ?_ <;> (try simp [-cB, *, hx, hi, hc, h38, GIns.enc, hWd]))
        | (refine AOps.pureC rfl (hh) rfl rfl (by simp) rfl ?_ <;> (try simp [-cB, *, hx, hi, hc, h38, GIns.enc, hWd]))
        | (refine AOps.pureC rfl (hI) rfl rfl (by simp) rfl ?_ <;> (try simp [-cB, *, hx, hi, hc, h38, GIns.enc, hWd]))
        | (refine AOps.lendC rfl (hj) rfl (by simp) rfl rfl (by simp) rfl ?_ <;> (try simp [-cB, *, hx, hi, hc, h38, GIns.enc, hWd]))
        | (refine AOps.lendC rfl (hs1) rfl (by simp) rfl rfl (by simp) rfl ?_ <;> (try simp [-cB, *, hx, hi, hc, h38, GIns.enc, hWd]))
        | (refine AOps.lendC rfl (hs2) rfl (by simp) rfl rfl (by simp) rfl ?_ <;> (try simp [-cB, *, hx, hi, hc, h38, GIns.enc, hWd]))
        | (refine AOps.lendC rfl (hR) rfl (by simp) rfl rfl (by simp) rfl ?_ <;> (try simp [-cB, *, hx, hi, hc, h38, GIns.enc, hWd]))
        | (refine AOps.lendC rfl (hh) rfl (by simp) rfl rfl (by simp) rfl ?_ <;> (try simp [-cB, *, hx, hi, hc, h38, GIns.enc, hWd]))
        | (refine AOps.lendC rfl (hI) rfl (by simp) rfl rfl (by simp) rfl ?_ <;> (try simp [-cB, *, hx, hi, hc, h38, GIns.enc, hWd]))
        | (refine AOps.pureG rfl (fun h => hj) rfl (by first | rfl | (simp; rfl)) (by simp) (by simp) rfl ?_ <;> (try simp [-cB, *, hx, hi, hc, h38, GIns.enc, hWd]))
        | (refine AOps.pureG rfl (fun h => hs1) rfl (by first | rfl | (simp; rfl)) (by simp) (by simp) rfl ?_ <;> (try simp [-cB, *, hx, hi, hc, h38, GIns.enc, hWd]))
        | (refine AOps.pureG rfl (fun h => hs2) rfl (by first | rfl | (simp; rfl)) (by simp) (by simp) rfl ?_ <;> (try simp [-cB, *, hx, hi, hc, h38, GIns.enc, hWd]))
        | (refine AOps.pureG rfl (fun h => hR) rfl (by first | rfl | (simp; rfl)) (by simp) (by simp) rfl ?_ <;> (try simp [-cB, *, hx, hi, hc, h38, GIns.enc, hWd]))
        | (refine AOps.pureG rfl (fun h => hh) rfl (by first | rfl | (simp; rfl)) (by simp) (by simp) rfl ?_ <;> (try simp [-cB, *, hx, hi, hc, h38, GIns.enc, hWd]))
        | (refine AOps.pureG rfl (fun h => hI) rfl (by first | rfl | (simp; rfl)) (by simp) (by simp) rfl ?_ <;> (try simp [-cB, *, hx, hi, hc, h38, GIns.enc, hWd]))
        | (with_reducible intro _))
      all_goals omega
  | false =>
    simp only [hjm, Bool.false_eq_true, false_and, if_false, or_false] at hj hWd
    by_cases h38 : o = 38
    · subst h38
      by_cases hc : 0 ≤ B
      · have hc2 := q2.1 hc
        rw [if_pos ⟨rfl, hc2⟩] at hWd
        clear p2 q2 hRz hRe hW hA hB
        refine Pure.run Tryz.func207 rfl (by simp [Tryz.f207]) ?_; simp [-cB, Tryz.f207]
        intro bs
        simp [-cB, hx, hi, GIns.enc]
        repeat' (first
          | (with_reducible refine And.intro ?_ ?_)
          | (refine condC_split (fun h => ?_) (fun h => ?_) <;> (try simp at h) <;> (try simp [-cB, *, hx, hi, hc, GIns.enc, hWd]))
          | (refine AOps.pureC rfl (hj) rfl rfl (by simp) rfl ?_ <;> (try simp [-cB, *, hx, hi, hc, GIns.enc, hWd]))
          | (refine AOps.pureC rfl (hs1) rfl rfl (by simp) rfl ?_ <;> (try simp [-cB, *, hx, hi, hc, GIns.enc, hWd]))
          | (refine AOps.pureC rfl (hs2) rfl rfl (by simp) rfl ?_ <;> (try simp [-cB, *, hx, hi, hc, GIns.enc, hWd]))
          | (refine AOps.pureC rfl (hR) rfl rfl (by simp) rfl ?_ <;> (try simp [-cB, *, hx, hi, hc, GIns.enc, hWd]))
          | (refine AOps.pureC rfl (hh) rfl rfl (by simp) rfl ?_ <;> (try simp [-cB, *, hx, hi, hc, GIns.enc, hWd]))
          | (refine AOps.pureC rfl (hI) rfl rfl (by simp) rfl ?_ <;> (try simp [-cB, *, hx, hi, hc, GIns.enc, hWd]))
          | (refine AOps.lendC rfl (hj) rfl (by simp) rfl rfl (by simp) rfl ?_ <;> (try simp [-cB, *, hx, hi, hc, GIns.enc, hWd]))
          | (refine AOps.lendC rfl (hs1) rfl (by simp) rfl rfl (by simp) rfl ?_ <;> (try simp [-cB, *, hx, hi, hc, GIns.enc, hWd]))
          | (refine AOps.lendC rfl (hs2) rfl (by simp) rfl rfl (by simp) rfl ?_ <;> (try simp [-cB, *, hx, hi, hc, GIns.enc, hWd]))
          | (refine AOps.lendC rfl (hR) rfl (by simp) rfl rfl (by simp) rfl ?_ <;> (try simp [-cB, *, hx, hi, hc, GIns.enc, hWd]))
          | (refine AOps.lendC rfl (hh) rfl (by simp) rfl rfl (by simp) rfl ?_ <;> (try simp [-cB, *, hx, hi, hc, GIns.enc, hWd]))
          | (refine AOps.lendC rfl (hI) rfl (by simp) rfl rfl (by simp) rfl ?_ <;> (try simp [-cB, *, hx, hi, hc, GIns.enc, hWd]))
          | (refine AOps.pureG rfl (fun h => hj) rfl (by first | rfl | (simp; rfl)) (by simp) (by simp) rfl ?_ <;> (try simp [-cB, *, hx, hi, hc, GIns.enc, hWd]))
          | (refine AOps.pureG rfl (fun h => hs1) rfl (by first | rfl | (simp; rfl)) (by simp) (by simp) rfl ?_ <;> (try simp [-cB, *, hx, hi, hc, GIns.enc, hWd]))
          | (refine AOps.pureG rfl (fun h => hs2) rfl (by first | rfl | (simp; rfl)) (by simp) (by simp) rfl ?_ <;> (try simp [-cB, *, hx, hi, hc, GIns.enc, hWd]))
          | (refine AOps.pureG rfl (fun h => hR) rfl (by first | rfl | (simp; rfl)) (by simp) (by simp) rfl ?_ <;> (try simp [-cB, *, hx, hi, hc, GIns.enc, hWd]))
          | (refine AOps.pureG rfl (fun h => hh) rfl (by first | rfl | (simp; rfl)) (by simp) (by simp) rfl ?_ <;> (try simp [-cB, *, hx, hi, hc, GIns.enc, hWd]))
          | (refine AOps.pureG rfl (fun h => hI) rfl (by first | rfl | (simp; rfl)) (by simp) (by simp) rfl ?_ <;> (try simp [-cB, *, hx, hi, hc, GIns.enc, hWd]))
          | (with_reducible intro _))
        all_goals (try omega)
      · have hc2 : ¬ (labsL (l.take i)).contains a = true := fun h => hc (q2.2 h)
        rw [if_neg (fun h => hc2 h.2), if_pos rfl] at hWd
        clear p2 q2 hRz hRe hW hA hB
        refine Pure.run Tryz.func207 rfl (by simp [Tryz.f207]) ?_; simp [-cB, Tryz.f207]
        intro bs
        simp [-cB, hx, hi, GIns.enc]
        repeat' (first
          | (with_reducible refine And.intro ?_ ?_)
          | (refine condC_split (fun h => ?_) (fun h => ?_) <;> (try simp at h) <;> (try simp [-cB, *, hx, hi, hc, GIns.enc, hWd]))
          | (refine AOps.pureC rfl (hj) rfl rfl (by simp) rfl ?_ <;> (try simp [-cB, *, hx, hi, hc, GIns.enc, hWd]))
          | (refine AOps.pureC rfl (hs1) rfl rfl (by simp) rfl ?_ <;> (try simp [-cB, *, hx, hi, hc, GIns.enc, hWd]))
          | (refine AOps.pureC rfl (hs2) rfl rfl (by simp) rfl ?_ <;> (try simp [-cB, *, hx, hi, hc, GIns.enc, hWd]))
          | (refine AOps.pureC rfl (hR) rfl rfl (by simp) rfl ?_ <;> (try simp [-cB, *, hx, hi, hc, GIns.enc, hWd]))
          | (refine AOps.pureC rfl (hh) rfl rfl (by simp) rfl ?_ <;> (try simp [-cB, *, hx, hi, hc, GIns.enc, hWd]))
          | (refine AOps.pureC rfl (hI) rfl rfl (by simp) rfl ?_ <;> (try simp [-cB, *, hx, hi, hc, GIns.enc, hWd]))
          | (refine AOps.lendC rfl (hj) rfl (by simp) rfl rfl (by simp) rfl ?_ <;> (try simp [-cB, *, hx, hi, hc, GIns.enc, hWd]))
          | (refine AOps.lendC rfl (hs1) rfl (by simp) rfl rfl (by simp) rfl ?_ <;> (try simp [-cB, *, hx, hi, hc, GIns.enc, hWd]))
          | (refine AOps.lendC rfl (hs2) rfl (by simp) rfl rfl (by simp) rfl ?_ <;> (try simp [-cB, *, hx, hi, hc, GIns.enc, hWd]))
          | (refine AOps.lendC rfl (hR) rfl (by simp) rfl rfl (by simp) rfl ?_ <;> (try simp [-cB, *, hx, hi, hc, GIns.enc, hWd]))
          | (refine AOps.lendC rfl (hh) rfl (by simp) rfl rfl (by simp) rfl ?_ <;> (try simp [-cB, *, hx, hi, hc, GIns.enc, hWd]))
          | (refine AOps.lendC rfl (hI) rfl (by simp) rfl rfl (by simp) rfl ?_ <;> (try simp [-cB, *, hx, hi, hc, GIns.enc, hWd]))
          | (refine AOps.pureG rfl (fun h => hj) rfl (by first | rfl | (simp; rfl)) (by simp) (by simp) rfl ?_ <;> (try simp [-cB, *, hx, hi, hc, GIns.enc, hWd]))
          | (refine AOps.pureG rfl (fun h => hs1) rfl (by first | rfl | (simp; rfl)) (by simp) (by simp) rfl ?_ <;> (try simp [-cB, *, hx, hi, hc, GIns.enc, hWd]))
          | (refine AOps.pureG rfl (fun h => hs2) rfl (by first | rfl | (simp; rfl)) (by simp) (by simp) rfl ?_ <;> (try simp [-cB, *, hx, hi, hc, GIns.enc, hWd]))
          | (refine AOps.pureG rfl (fun h => hR) rfl (by first | rfl | (simp; rfl)) (by simp) (by simp) rfl ?_ <;> (try simp [-cB, *, hx, hi, hc, GIns.enc, hWd]))
          | (refine AOps.pureG rfl (fun h => hh) rfl (by first | rfl | (simp; rfl)) (by simp) (by simp) rfl ?_ <;> (try simp [-cB, *, hx, hi, hc, GIns.enc, hWd]))
          | (refine AOps.pureG rfl (fun h => hI) rfl (by first | rfl | (simp; rfl)) (by simp) (by simp) rfl ?_ <;> (try simp [-cB, *, hx, hi, hc, GIns.enc, hWd]))
          | (with_reducible intro _))
        all_goals (try omega)
    · rw [if_neg (fun h => h38 h.1), if_neg h38] at hWd
      by_cases hn : o < 1 ∨ 38 < o
      · rw [if_pos (hn.elim Or.inl (fun h => Or.inr (Or.inl h)))] at hWd
        have hR0 := hRe (hRz.2 hn)
        subst hR0
        clear p2 q2 hRz hRe hW hA hB
        refine Pure.run Tryz.func207 rfl (by simp [Tryz.f207]) ?_; simp [-cB, Tryz.f207]
        intro bs
        simp [-cB, hx, hi, GIns.enc]
        repeat' (first
          | (with_reducible refine And.intro ?_ ?_)
          | (refine condC_split (fun h => ?_) (fun h => ?_) <;> (try simp at h) <;> (try simp [-cB, *, hx, hi, h38, GIns.enc, hWd]))
          | (refine AOps.pureC rfl (hj) rfl rfl (by simp) rfl ?_ <;> (try simp [-cB, *, hx, hi, h38, GIns.enc, hWd]))
          | (refine AOps.pureC rfl (hs1) rfl rfl (by simp) rfl ?_ <;> (try simp [-cB, *, hx, hi, h38, GIns.enc, hWd]))
          | (refine AOps.pureC rfl (hs2) rfl rfl (by simp) rfl ?_ <;> (try simp [-cB, *, hx, hi, h38, GIns.enc, hWd]))
          | (refine AOps.pureC rfl (hR) rfl rfl (by simp) rfl ?_ <;> (try simp [-cB, *, hx, hi, h38, GIns.enc, hWd]))
          | (refine AOps.pureC rfl (hh) rfl rfl (by simp) rfl ?_ <;> (try simp [-cB, *, hx, hi, h38, GIns.enc, hWd]))
          | (refine AOps.pureC rfl (hI) rfl rfl (by simp) rfl ?_ <;> (try simp [-cB, *, hx, hi, h38, GIns.enc, hWd]))
          | (refine AOps.lendC rfl (hj) rfl (by simp) rfl rfl (by simp) rfl ?_ <;> (try simp [-cB, *, hx, hi, h38, GIns.enc, hWd]))
          | (refine AOps.lendC rfl (hs1) rfl (by simp) rfl rfl (by simp) rfl ?_ <;> (try simp [-cB, *, hx, hi, h38, GIns.enc, hWd]))
          | (refine AOps.lendC rfl (hs2) rfl (by simp) rfl rfl (by simp) rfl ?_ <;> (try simp [-cB, *, hx, hi, h38, GIns.enc, hWd]))
          | (refine AOps.lendC rfl (hR) rfl (by simp) rfl rfl (by simp) rfl ?_ <;> (try simp [-cB, *, hx, hi, h38, GIns.enc, hWd]))
          | (refine AOps.lendC rfl (hh) rfl (by simp) rfl rfl (by simp) rfl ?_ <;> (try simp [-cB, *, hx, hi, h38, GIns.enc, hWd]))
          | (refine AOps.lendC rfl (hI) rfl (by simp) rfl rfl (by simp) rfl ?_ <;> (try simp [-cB, *, hx, hi, h38, GIns.enc, hWd]))
          | (refine AOps.pureG rfl (fun h => hj) rfl (by first | rfl | (simp; rfl)) (by simp) (by simp) rfl ?_ <;> (try simp [-cB, *, hx, hi, h38, GIns.enc, hWd]))
          | (refine AOps.pureG rfl (fun h => hs1) rfl (by first | rfl | (simp; rfl)) (by simp) (by simp) rfl ?_ <;> (try simp [-cB, *, hx, hi, h38, GIns.enc, hWd]))
          | (refine AOps.pureG rfl (fun h => hs2) rfl (by first | rfl | (simp; rfl)) (by simp) (by simp) rfl ?_ <;> (try simp [-cB, *, hx, hi, h38, GIns.enc, hWd]))
          | (refine AOps.pureG rfl (fun h => hR) rfl (by first | rfl | (simp; rfl)) (by simp) (by simp) rfl ?_ <;> (try simp [-cB, *, hx, hi, h38, GIns.enc, hWd]))
          | (refine AOps.pureG rfl (fun h => hh) rfl (by first | rfl | (simp; rfl)) (by simp) (by simp) rfl ?_ <;> (try simp [-cB, *, hx, hi, h38, GIns.enc, hWd]))
          | (refine AOps.pureG rfl (fun h => hI) rfl (by first | rfl | (simp; rfl)) (by simp) (by simp) rfl ?_ <;> (try simp [-cB, *, hx, hi, h38, GIns.enc, hWd]))
          | (with_reducible intro _))
        all_goals (try omega)
      · have hR0 : R ≠ ⟨#[]⟩ := fun h => hn (hRz.1 (by rw [h]; rfl))
        have hR1 : ¬ R.toList = [] := fun h => by
          rw [ByteArray.toList_eq] at h
          have h2 : R.data = #[] := by simpa using h
          exact hR0 (by cases R; simp only at h2; rw [h2])
        cases hA0 : hasA o with
        | false =>
          simp only [hA0] at hh hWd
          by_cases ha : a = 0
          · subst ha
            have hI0 : int16B 0 = true := by decide
            rw [if_neg (by rintro (h | h | ⟨_, h⟩ | h); exact hn (Or.inl h); exact hn (Or.inr h); exact h rfl; rw [hI0] at h; cases h)] at hWd
            simp only [hI0] at hI
            clear p2 q2 hRz hRe hW hA hB
            subst hWd
            refine Pure.run Tryz.func207 rfl (by simp [Tryz.f207]) ?_; simp [-cB, Tryz.f207]
            intro bs
            simp [-cB, hx, hi, GIns.enc]
            repeat' (first
              | (with_reducible refine And.intro ?_ ?_)
              | (refine condC_split (fun h => ?_) (fun h => ?_) <;> (try simp at h) <;> (try simp [-cB, *, hx, hi, h38, hR0, hR1, GIns.enc]))
              | (refine AOps.pureC rfl (hj) rfl rfl (by simp) rfl ?_ <;> (try simp [-cB, *, hx, hi, h38, hR0, hR1, GIns.enc]))
              | (refine AOps.pureC rfl (hs1) rfl rfl (by simp) rfl ?_ <;> (try simp [-cB, *, hx, hi, h38, hR0, hR1, GIns.enc]))
              | (refine AOps.pureC rfl (hs2) rfl rfl (by simp) rfl ?_ <;> (try simp [-cB, *, hx, hi, h38, hR0, hR1, GIns.enc]))
              | (refine AOps.pureC rfl (hR) rfl rfl (by simp) rfl ?_ <;> (try simp [-cB, *, hx, hi, h38, hR0, hR1, GIns.enc]))
              | (refine AOps.pureC rfl (hh) rfl rfl (by simp) rfl ?_ <;> (try simp [-cB, *, hx, hi, h38, hR0, hR1, GIns.enc]))
              | (refine AOps.pureC rfl (hI) rfl rfl (by simp) rfl ?_ <;> (try simp [-cB, *, hx, hi, h38, hR0, hR1, GIns.enc]))
              | (refine AOps.lendC rfl (hj) rfl (by simp) rfl rfl (by simp) rfl ?_ <;> (try simp [-cB, *, hx, hi, h38, hR0, hR1, GIns.enc]))
              | (refine AOps.lendC rfl (hs1) rfl (by simp) rfl rfl (by simp) rfl ?_ <;> (try simp [-cB, *, hx, hi, h38, hR0, hR1, GIns.enc]))
              | (refine AOps.lendC rfl (hs2) rfl (by simp) rfl rfl (by simp) rfl ?_ <;> (try simp [-cB, *, hx, hi, h38, hR0, hR1, GIns.enc]))
              | (refine AOps.lendC rfl (hR) rfl (by simp) rfl rfl (by simp) rfl ?_ <;> (try simp [-cB, *, hx, hi, h38, hR0, hR1, GIns.enc]))
              | (refine AOps.lendC rfl (hh) rfl (by simp) rfl rfl (by simp) rfl ?_ <;> (try simp [-cB, *, hx, hi, h38, hR0, hR1, GIns.enc]))
              | (refine AOps.lendC rfl (hI) rfl (by simp) rfl rfl (by simp) rfl ?_ <;> (try simp [-cB, *, hx, hi, h38, hR0, hR1, GIns.enc]))
              | (refine AOps.pureG rfl (fun h => hj) rfl (by first | rfl | (simp; rfl)) (by simp) (by simp) rfl ?_ <;> (try simp [-cB, *, hx, hi, h38, hR0, hR1, GIns.enc]))
              | (refine AOps.pureG rfl (fun h => hs1) rfl (by first | rfl | (simp; rfl)) (by simp) (by simp) rfl ?_ <;> (try simp [-cB, *, hx, hi, h38, hR0, hR1, GIns.enc]))
              | (refine AOps.pureG rfl (fun h => hs2) rfl (by first | rfl | (simp; rfl)) (by simp) (by simp) rfl ?_ <;> (try simp [-cB, *, hx, hi, h38, hR0, hR1, GIns.enc]))
              | (refine AOps.pureG rfl (fun h => hR) rfl (by first | rfl | (simp; rfl)) (by simp) (by simp) rfl ?_ <;> (try simp [-cB, *, hx, hi, h38, hR0, hR1, GIns.enc]))
              | (refine AOps.pureG rfl (fun h => hh) rfl (by first | rfl | (simp; rfl)) (by simp) (by simp) rfl ?_ <;> (try simp [-cB, *, hx, hi, h38, hR0, hR1, GIns.enc]))
              | (refine AOps.pureG rfl (fun h => hI) rfl (by first | rfl | (simp; rfl)) (by simp) (by simp) rfl ?_ <;> (try simp [-cB, *, hx, hi, h38, hR0, hR1, GIns.enc]))
              | (with_reducible intro _))
            all_goals (try omega)
          · rw [if_pos (Or.inr (Or.inr (Or.inl ⟨trivial, ha⟩)))] at hWd
            clear p2 q2 hRz hRe hW hA hB
            subst hWd
            refine Pure.run Tryz.func207 rfl (by simp [Tryz.f207]) ?_; simp [-cB, Tryz.f207]
            intro bs
            simp [-cB, hx, hi, GIns.enc]
            repeat' (first
              | (with_reducible refine And.intro ?_ ?_)
              | (refine condC_split (fun h => ?_) (fun h => ?_) <;> (try simp at h) <;> (try simp [-cB, *, hx, hi, h38, hR0, ha, hR1, GIns.enc]))
              | (refine AOps.pureC rfl (hj) rfl rfl (by simp) rfl ?_ <;> (try simp [-cB, *, hx, hi, h38, hR0, ha, hR1, GIns.enc]))
              | (refine AOps.pureC rfl (hs1) rfl rfl (by simp) rfl ?_ <;> (try simp [-cB, *, hx, hi, h38, hR0, ha, hR1, GIns.enc]))
              | (refine AOps.pureC rfl (hs2) rfl rfl (by simp) rfl ?_ <;> (try simp [-cB, *, hx, hi, h38, hR0, ha, hR1, GIns.enc]))
              | (refine AOps.pureC rfl (hR) rfl rfl (by simp) rfl ?_ <;> (try simp [-cB, *, hx, hi, h38, hR0, ha, hR1, GIns.enc]))
              | (refine AOps.pureC rfl (hh) rfl rfl (by simp) rfl ?_ <;> (try simp [-cB, *, hx, hi, h38, hR0, ha, hR1, GIns.enc]))
              | (refine AOps.pureC rfl (hI) rfl rfl (by simp) rfl ?_ <;> (try simp [-cB, *, hx, hi, h38, hR0, ha, hR1, GIns.enc]))
              | (refine AOps.lendC rfl (hj) rfl (by simp) rfl rfl (by simp) rfl ?_ <;> (try simp [-cB, *, hx, hi, h38, hR0, ha, hR1, GIns.enc]))
              | (refine AOps.lendC rfl (hs1) rfl (by simp) rfl rfl (by simp) rfl ?_ <;> (try simp [-cB, *, hx, hi, h38, hR0, ha, hR1, GIns.enc]))
              | (refine AOps.lendC rfl (hs2) rfl (by simp) rfl rfl (by simp) rfl ?_ <;> (try simp [-cB, *, hx, hi, h38, hR0, ha, hR1, GIns.enc]))
              | (refine AOps.lendC rfl (hR) rfl (by simp) rfl rfl (by simp) rfl ?_ <;> (try simp [-cB, *, hx, hi, h38, hR0, ha, hR1, GIns.enc]))
              | (refine AOps.lendC rfl (hh) rfl (by simp) rfl rfl (by simp) rfl ?_ <;> (try simp [-cB, *, hx, hi, h38, hR0, ha, hR1, GIns.enc]))
              | (refine AOps.lendC rfl (hI) rfl (by simp) rfl rfl (by simp) rfl ?_ <;> (try simp [-cB, *, hx, hi, h38, hR0, ha, hR1, GIns.enc]))
              | (refine AOps.pureG rfl (fun h => hj) rfl (by first | rfl | (simp; rfl)) (by simp) (by simp) rfl ?_ <;> (try simp [-cB, *, hx, hi, h38, hR0, ha, hR1, GIns.enc]))
              | (refine AOps.pureG rfl (fun h => hs1) rfl (by first | rfl | (simp; rfl)) (by simp) (by simp) rfl ?_ <;> (try simp [-cB, *, hx, hi, h38, hR0, ha, hR1, GIns.enc]))
              | (refine AOps.pureG rfl (fun h => hs2) rfl (by first | rfl | (simp; rfl)) (by simp) (by simp) rfl ?_ <;> (try simp [-cB, *, hx, hi, h38, hR0, ha, hR1, GIns.enc]))
              | (refine AOps.pureG rfl (fun h => hR) rfl (by first | rfl | (simp; rfl)) (by simp) (by simp) rfl ?_ <;> (try simp [-cB, *, hx, hi, h38, hR0, ha, hR1, GIns.enc]))
              | (refine AOps.pureG rfl (fun h => hh) rfl (by first | rfl | (simp; rfl)) (by simp) (by simp) rfl ?_ <;> (try simp [-cB, *, hx, hi, h38, hR0, ha, hR1, GIns.enc]))
              | (refine AOps.pureG rfl (fun h => hI) rfl (by first | rfl | (simp; rfl)) (by simp) (by simp) rfl ?_ <;> (try simp [-cB, *, hx, hi, h38, hR0, ha, hR1, GIns.enc]))
              | (with_reducible intro _))
            all_goals (try omega)
        | true =>
          simp only [hA0] at hh
          cases hI0 : int16B a with
          | true =>
            rw [hA0, hI0, if_neg (by rintro (h | h | ⟨h, _⟩ | h); exact hn (Or.inl h); exact hn (Or.inr h); cases h; cases h)] at hWd
            simp only [hI0] at hI
            clear p2 q2 hRz hRe hW hA hB
            subst hWd
            refine Pure.run Tryz.func207 rfl (by simp [Tryz.f207]) ?_; simp [-cB, Tryz.f207]
            intro bs
            simp [-cB, hx, hi, GIns.enc]
            repeat' (first
              | (with_reducible refine And.intro ?_ ?_)
              | (refine condC_split (fun h => ?_) (fun h => ?_) <;> (try simp at h) <;> (try simp [-cB, *, hx, hi, h38, hR0, hR1, GIns.enc]))
              | (refine AOps.pureC rfl (hj) rfl rfl (by simp) rfl ?_ <;> (try simp [-cB, *, hx, hi, h38, hR0, hR1, GIns.enc]))
              | (refine AOps.pureC rfl (hs1) rfl rfl (by simp) rfl ?_ <;> (try simp [-cB, *, hx, hi, h38, hR0, hR1, GIns.enc]))
              | (refine AOps.pureC rfl (hs2) rfl rfl (by simp) rfl ?_ <;> (try simp [-cB, *, hx, hi, h38, hR0, hR1, GIns.enc]))
              | (refine AOps.pureC rfl (hR) rfl rfl (by simp) rfl ?_ <;> (try simp [-cB, *, hx, hi, h38, hR0, hR1, GIns.enc]))
              | (refine AOps.pureC rfl (hh) rfl rfl (by simp) rfl ?_ <;> (try simp [-cB, *, hx, hi, h38, hR0, hR1, GIns.enc]))
              | (refine AOps.pureC rfl (hI) rfl rfl (by simp) rfl ?_ <;> (try simp [-cB, *, hx, hi, h38, hR0, hR1, GIns.enc]))
              | (refine AOps.lendC rfl (hj) rfl (by simp) rfl rfl (by simp) rfl ?_ <;> (try simp [-cB, *, hx, hi, h38, hR0, hR1, GIns.enc]))
              | (refine AOps.lendC rfl (hs1) rfl (by simp) rfl rfl (by simp) rfl ?_ <;> (try simp [-cB, *, hx, hi, h38, hR0, hR1, GIns.enc]))
              | (refine AOps.lendC rfl (hs2) rfl (by simp) rfl rfl (by simp) rfl ?_ <;> (try simp [-cB, *, hx, hi, h38, hR0, hR1, GIns.enc]))
              | (refine AOps.lendC rfl (hR) rfl (by simp) rfl rfl (by simp) rfl ?_ <;> (try simp [-cB, *, hx, hi, h38, hR0, hR1, GIns.enc]))
              | (refine AOps.lendC rfl (hh) rfl (by simp) rfl rfl (by simp) rfl ?_ <;> (try simp [-cB, *, hx, hi, h38, hR0, hR1, GIns.enc]))
              | (refine AOps.lendC rfl (hI) rfl (by simp) rfl rfl (by simp) rfl ?_ <;> (try simp [-cB, *, hx, hi, h38, hR0, hR1, GIns.enc]))
              | (refine AOps.pureG rfl (fun h => hj) rfl (by first | rfl | (simp; rfl)) (by simp) (by simp) rfl ?_ <;> (try simp [-cB, *, hx, hi, h38, hR0, hR1, GIns.enc]))
              | (refine AOps.pureG rfl (fun h => hs1) rfl (by first | rfl | (simp; rfl)) (by simp) (by simp) rfl ?_ <;> (try simp [-cB, *, hx, hi, h38, hR0, hR1, GIns.enc]))
              | (refine AOps.pureG rfl (fun h => hs2) rfl (by first | rfl | (simp; rfl)) (by simp) (by simp) rfl ?_ <;> (try simp [-cB, *, hx, hi, h38, hR0, hR1, GIns.enc]))
              | (refine AOps.pureG rfl (fun h => hR) rfl (by first | rfl | (simp; rfl)) (by simp) (by simp) rfl ?_ <;> (try simp [-cB, *, hx, hi, h38, hR0, hR1, GIns.enc]))
              | (refine AOps.pureG rfl (fun h => hh) rfl (by first | rfl | (simp; rfl)) (by simp) (by simp) rfl ?_ <;> (try simp [-cB, *, hx, hi, h38, hR0, hR1, GIns.enc]))
              | (refine AOps.pureG rfl (fun h => hI) rfl (by first | rfl | (simp; rfl)) (by simp) (by simp) rfl ?_ <;> (try simp [-cB, *, hx, hi, h38, hR0, hR1, GIns.enc]))
              | (with_reducible intro _))
            all_goals (try omega)
          | false =>
            rw [if_pos (Or.inr (Or.inr (Or.inr hI0)))] at hWd
            simp only [hI0] at hI
            clear p2 q2 hRz hRe hW hA hB
            subst hWd
            refine Pure.run Tryz.func207 rfl (by simp [Tryz.f207]) ?_; simp [-cB, Tryz.f207]
            intro bs
            simp [-cB, hx, hi, GIns.enc]
            repeat' (first
              | (with_reducible refine And.intro ?_ ?_)
              | (refine condC_split (fun h => ?_) (fun h => ?_) <;> (try simp at h) <;> (try simp [-cB, *, hx, hi, h38, hR0, hR1, GIns.enc]))
              | (refine AOps.pureC rfl (hj) rfl rfl (by simp) rfl ?_ <;> (try simp [-cB, *, hx, hi, h38, hR0, hR1, GIns.enc]))
              | (refine AOps.pureC rfl (hs1) rfl rfl (by simp) rfl ?_ <;> (try simp [-cB, *, hx, hi, h38, hR0, hR1, GIns.enc]))
              | (refine AOps.pureC rfl (hs2) rfl rfl (by simp) rfl ?_ <;> (try simp [-cB, *, hx, hi, h38, hR0, hR1, GIns.enc]))
              | (refine AOps.pureC rfl (hR) rfl rfl (by simp) rfl ?_ <;> (try simp [-cB, *, hx, hi, h38, hR0, hR1, GIns.enc]))
              | (refine AOps.pureC rfl (hh) rfl rfl (by simp) rfl ?_ <;> (try simp [-cB, *, hx, hi, h38, hR0, hR1, GIns.enc]))
              | (refine AOps.pureC rfl (hI) rfl rfl (by simp) rfl ?_ <;> (try simp [-cB, *, hx, hi, h38, hR0, hR1, GIns.enc]))
              | (refine AOps.lendC rfl (hj) rfl (by simp) rfl rfl (by simp) rfl ?_ <;> (try simp [-cB, *, hx, hi, h38, hR0, hR1, GIns.enc]))
              | (refine AOps.lendC rfl (hs1) rfl (by simp) rfl rfl (by simp) rfl ?_ <;> (try simp [-cB, *, hx, hi, h38, hR0, hR1, GIns.enc]))
              | (refine AOps.lendC rfl (hs2) rfl (by simp) rfl rfl (by simp) rfl ?_ <;> (try simp [-cB, *, hx, hi, h38, hR0, hR1, GIns.enc]))
              | (refine AOps.lendC rfl (hR) rfl (by simp) rfl rfl (by simp) rfl ?_ <;> (try simp [-cB, *, hx, hi, h38, hR0, hR1, GIns.enc]))
              | (refine AOps.lendC rfl (hh) rfl (by simp) rfl rfl (by simp) rfl ?_ <;> (try simp [-cB, *, hx, hi, h38, hR0, hR1, GIns.enc]))
              | (refine AOps.lendC rfl (hI) rfl (by simp) rfl rfl (by simp) rfl ?_ <;> (try simp [-cB, *, hx, hi, h38, hR0, hR1, GIns.enc]))
              | (refine AOps.pureG rfl (fun h => hj) rfl (by first | rfl | (simp; rfl)) (by simp) (by simp) rfl ?_ <;> (try simp [-cB, *, hx, hi, h38, hR0, hR1, GIns.enc]))
              | (refine AOps.pureG rfl (fun h => hs1) rfl (by first | rfl | (simp; rfl)) (by simp) (by simp) rfl ?_ <;> (try simp [-cB, *, hx, hi, h38, hR0, hR1, GIns.enc]))
              | (refine AOps.pureG rfl (fun h => hs2) rfl (by first | rfl | (simp; rfl)) (by simp) (by simp) rfl ?_ <;> (try simp [-cB, *, hx, hi, h38, hR0, hR1, GIns.enc]))
              | (refine AOps.pureG rfl (fun h => hR) rfl (by first | rfl | (simp; rfl)) (by simp) (by simp) rfl ?_ <;> (try simp [-cB, *, hx, hi, h38, hR0, hR1, GIns.enc]))
              | (refine AOps.pureG rfl (fun h => hh) rfl (by first | rfl | (simp; rfl)) (by simp) (by simp) rfl ?_ <;> (try simp [-cB, *, hx, hi, h38, hR0, hR1, GIns.enc]))
              | (refine AOps.pureG rfl (fun h => hI) rfl (by first | rfl | (simp; rfl)) (by simp) (by simp) rfl ?_ <;> (try simp [-cB, *, hx, hi, h38, hR0, hR1, GIns.enc]))
              | (with_reducible intro _))
            all_goals (try omega)
end Go.Ab

namespace Go.Ab
open Go.Proofs
theorem codeP_enc {w : Zl} {k : Nat} {p : GIns × Nat} (h : jmp p.1.Op = false) : codeP w k p = encM p.1 := by
  unfold codeP
  split
  · rename_i h38
    unfold encM; rw [if_pos (by omega)]
  · rw [if_neg (by rw [h]; simp)]
theorem codeP_jmp {w : Zl} {k : Nat} {p : GIns × Nat} (h : jmp p.1.Op = true) : codeP w k p = encK p.1.Op (farZ w p.1.Arg (k + lenP p)) p.2 := by
  unfold codeP
  rw [if_neg (fun h38 => by rw [h38] at h; cases h), if_pos h]
theorem codeZ_succ (w z : Zl) (i : Nat) (h : i < z.length) : codeZ w 0 (z.take (i + 1)) = codeZ w 0 (z.take i) ++ codeP w (lenZ (z.take i)) z[i] := by
  rw [List.take_add_one, List.getElem?_eq_getElem h, codeZ_app]
  simp [codeZ]
theorem codeP_le (w : Zl) (k : Nat) (p : GIns × Nat) : (codeP w k p).length ≤ 3 := by
  by_cases h : jmp p.1.Op = true
  · rw [codeP_jmp h, encK, List.length_cons]
    have : (argB (farZ w p.1.Arg (k + lenP p)) p.2).length ≤ 2 := by
      match p.2 with
      | 0 => simp [argB]
      | 1 => simp [argB]
      | n + 2 => simp [argB]
    omega
  · rw [codeP_enc (by simpa using h)]; exact encM_len _
theorem codeZ_le (w : Zl) : ∀ (k : Nat) (z : Zl), (codeZ w k z).length ≤ 3 * z.length
  | k, [] => by simp [codeZ]
  | k, p :: z => by
    have := codeZ_le w (k + lenP p) z
    have := codeP_le w k p
    rw [codeZ, List.length_append, List.length_cons]; omega
theorem jmp_op {o : Int} (h : jmp o = true) : 1 ≤ o ∧ o < 38 := by
  unfold jmp at h
  simp only [Bool.or_eq_true, decide_eq_true_eq] at h
  omega
theorem wrongF_lab {l : List GIns} (h : wrongF l [] l = 0) : ∀ i ∈ l, jmp i.Op = true → (labsL l).contains i.Arg = true := by
  intro i hi hj
  obtain ⟨b, c, hbc⟩ := List.append_of_mem hi
  have := wrongF_ok [] l h b i c hbc
  unfold wrongI at this
  split at this
  · omega
  · rename_i hn
    cases hc : (labsL l).contains i.Arg with
    | true => rfl
    | false => exact absurd ⟨hj, hc⟩ hn
theorem encY_one (l : List Int) : ∀ x ∈ encY l, x.length = 1 := by
  intro x hx
  obtain ⟨c, _, rfl⟩ := List.mem_map.1 hx
  rfl
theorem assemble30_ok (l : List GIns) (hl : l.length ≤ 1000000000) : Pure Tryz.prog 147 [insD l] (.tup [bytD (asmM l).1, intD (asmM l).2]) := by
  obtain ⟨c, hc⟩ : ∃ c, asmM l = c := ⟨_, rfl⟩
  have hw0 : wrongM l = wrongF l (l.take 0) (l.drop 0) := rfl
  obtain ⟨E, hE⟩ : ∃ E, wrongM l = E := ⟨_, rfl⟩
  rw [hE] at hw0
  obtain ⟨z, hz, hf, h3, _⟩ := sizesM_ok (3 * l.length + 1) (zipZ l) (zipZ_ok l) (by simp [zipZ]; omega)
  rw [zipZ_fst] at hf
  have hzl : z.length = l.length := by simpa using congrArg List.length hf
  have hsz := sizes30_ok l hl z hz
  have h33 : ∀ p ∈ z, p.2 ≤ 3 := fun p hp => (h3 p hp).1
  have hpl := places30_ok z (by omega) h33
  rw [hf, hzl] at hpl
  have hal := atL_len z (l.length + 1)
  have hag := atL_get z (n := l.length + 1) (k := l.length) (by omega)
  have hag2 : (atL z (l.length + 1))[l.length]'(by omega) = (lenZ z : Int) := by
    rw [List.getElem?_eq_getElem (by omega)] at hag
    rw [Option.some.inj hag, ← hzl, List.take_length]
  have hcd := hc
  unfold asmM at hcd
  rw [hE, hz] at hcd
  simp only at hcd
  rw [hc]
  refine Pure.run Tryz.func147 rfl (by simp [Tryz.f147]) ?_; simp [-cB, Tryz.f147]
  refine AWP.loopS [0, 4] l.length (fun i => [(4, intD i)]) (fun _ => []) (fun i => wrongF l (l.take i) (l.drop i) = E) (by rfl) (by simpa using hw0.symm) ?_
  intro i hi hH
  rcases Nat.lt_or_eq_of_le hi with hlt | heq
  · have h64 : inR .i64 ((i : Int) + 1) := by rw [inR_i64]; omega
    have hwr := wrong30_ok l (by omega) i hlt
    have hdr : l.drop i = l[i] :: l.drop (i + 1) := by rw [← List.getElem_cons_drop]
    have htk : l.take i ++ [l[i]] = l.take (i + 1) := by rw [List.take_add_one, List.getElem?_eq_getElem hlt]; rfl
    rw [hdr, wrongF, htk] at hH
    by_cases hw : wrongI l (l.take i) l[i] = 0
    · rw [if_pos hw] at hH
      rw [hw] at hwr
      simp [-cB, hlt]
      refine AOps.pureC rfl (hwr) rfl rfl (by simp) rfl ?_
      simp [hlt, h64, hH]
    · rw [if_neg hw] at hH
      rw [hH] at hwr hw
      rw [if_pos hw] at hcd
      simp [-cB, hlt]
      refine AOps.pureC rfl (hwr) rfl rfl (by simp) rfl ?_
      simp [hlt, hw, ← hcd]
      rfl
  · have hE0 : E = 0 := by
      rw [heq, List.take_length, List.drop_length, wrongF] at hH
      exact hH.symm
    have hlab := wrongF_lab (l := l) (by rw [← hE0]; exact hE)
    have hsz := hsz hlab
    rw [hE0] at hcd
    simp at hcd
    simp [-cB, heq]
    refine AOps.pureC rfl (hsz) rfl rfl (by simp) rfl ?_
    simp
    refine AOps.pureC rfl (hpl) rfl rfl (by simp) rfl ?_
    have hcast : (65536 : Int) < (lenZ z : Int) ↔ 65536 < lenZ z := by omega
    by_cases hL : 65536 < lenZ z
    · rw [if_pos hL] at hcd
      simp [hal, hag2, hL, hcast, ← hcd]
      rfl
    · rw [if_neg hL] at hcd
      simp [hal, hag2, hL, hcast]
      clear hH hE hw0 hz hag hag2
      refine AWP.weaken (Wk.own' (t := 8) (h := 1000) (k := 1) (ty := 5) (by rfl) (by simp [keys])) ?_
      refine AWP.loopS [0, 6, 7, 8, 9] l.length (fun i => [(9, intD i)]) (fun i => [(1000, .row 5 1 (dd (encY (codeZ z 0 (z.take i)))))]) (fun i => ∀ p ∈ z.take i, (jmp p.1.Op && decide (p.2 = 3)) = false) (by rfl) (by simp [codeZ, encY]) ?_
      intro j hj hJ
      have hcl := codeZ_le z 0 (z.take j)
      rw [List.length_take] at hcl
      rcases Nat.lt_or_eq_of_le hj with hlt | heq2
      · have hjz : j < z.length := by omega
        have h64 : inR .i64 ((j : Int) + 1) := by rw [inR_i64]; omega
        have hlj : l[j] = z[j].1 := by
          have := fst_get (a := z) (b := zipZ l) (by rw [hf, zipZ_fst]) hjz (by simp [zipZ]; omega)
          rw [this]; simp [zipZ]
        have hjj := jumps30_ok z[j].1
        have hcs := codeZ_succ z z j hjz
        have hsg := szI_get z hjz
        have hsl : (szI z).length = l.length := by simp [szI, hzl]
        have hsg2 : (szI z)[j]'(by omega) = (z[j].2 : Int) := (List.getElem?_eq_some_iff.1 hsg).2
        have hp3 := h33 z[j] (List.getElem_mem hjz)
        have hsnoc : (jmp z[j].1.Op && decide (z[j].2 = 3)) = false → ∀ p ∈ z.take (j + 1), (jmp p.1.Op && decide (p.2 = 3)) = false := by
          intro h p hp
          rcases take_mem_snoc (List.getElem?_eq_getElem hjz) hp with h' | rfl
          · exact hJ p h'
          · exact h
        cases hjm : jmp z[j].1.Op with
        | false =>
          rw [hjm] at hjj hsnoc
          have he := encode27_ok z[j].1
          have hel := encM_len z[j].1
          rw [codeP_enc hjm] at hcs
          simp [-cB, hlt, hlj]
          refine AOps.pureC rfl (hjj) rfl rfl (by simp) rfl ?_
          simp [-cB, hlt, hlj]
          refine AOps.pureC rfl (he) rfl rfl (by simp) rfl ?_
          simp [hlt, h64, hcs]
          exact ⟨⟨encY_one _, by omega⟩, fun a b hab hja => by have := hsnoc rfl (a, b) hab; simpa [hja] using this⟩
        | true =>
          rw [hjm] at hjj hsnoc
          simp [-cB, hlt, hlj]
          refine AOps.pureC rfl (hjj) rfl rfl (by simp) rfl ?_
          by_cases h3 : z[j].2 = 3
          · simp [hlt, hlj, hsl, hsg2, h3]
            have hany : (z.any fun p => jmp p.1.Op && decide (p.2 = 3)) = true := List.any_eq_true.2 ⟨z[j], List.getElem_mem hjz, by simp [hjm, h3]⟩
            rw [hany] at hcd
            simp at hcd
            rw [← hcd]
            exact ⟨rfl, rfl⟩
          · have h3' : ¬ ((z[j].2 : Nat) : Int) = 3 := by omega
            have hfa := far30_ok z (by omega) h33 j hjz (labAt_some _ _ (by rw [hf]; have := hlab z[j].1 (by rw [← hlj]; exact List.getElem_mem hlt) hjm; simpa using this))
            rw [hf, hzl] at hfa
            rw [codeP_jmp hjm, ← lenZ_succ z j hjz] at hcs
            have hjp := jump30_ok z[j].1.Op (farZ z z[j].1.Arg (lenZ (z.take (j + 1)))) z[j].2 (jmp_op hjm) (by omega)
            simp [hlt, hlj, hsl, hsg2, h3']
            refine AWP.regionM0 [some (0, 0), some (0, 0), some (0, 0), some (0, 0), some (0, 0), some (0, 0), some (0, 0), some (0, 0), some (0, 0), some (0, 0), some (0, 0), some (0, 0), some (0, 0), some (0, 0), some (0, 0), none, some (1, 1)] [intD (farZ z z[j].1.Arg (lenZ (z.take (j + 1)))), bytD (encK z[j].1.Op (farZ z z[j].1.Arg (lenZ (z.take (j + 1)))) z[j].2)] Tryz.mixed (by kernel_rfl) ?_
            simp [hlt, hlj, hsl, hsg2, h3', hfa.ok, hjp.ok, hcs, h64]
            have hkl : (encK z[j].1.Op (farZ z z[j].1.Arg (lenZ (z.take (j + 1)))) z[j].2).length ≤ 3 := by
              have := codeP_le z (lenZ (z.take j)) z[j]
              rw [codeP_jmp hjm, ← lenZ_succ z j hjz] at this
              exact this
            exact ⟨⟨encY_one _, by omega⟩, fun a b hab hja => by have := hsnoc (by simp [h3]) (a, b) hab; simpa [hja] using this⟩
      · have hnone : (z.any fun p => jmp p.1.Op && decide (p.2 = 3)) = false := by
          rw [List.any_eq_false]
          intro p hp
          rw [heq2, ← hzl, List.take_length] at hJ
          rw [hJ p hp]; simp
        rw [hnone] at hcd
        simp at hcd
        simp [heq2, ← hcd]
        rw [← hzl, List.take_length]
end Go.Ab

namespace Go.Ab
open Go.Proofs
theorem bound_logic {t : GTables} {locals : Int} {e : GExpr} (h : boundM t locals e false = true) (hk : e.Kind = 6) : ∃ a b, e.Args = [a, b] := by
  rw [boundM_eq, Bool.and_eq_true] at h
  have h1 := h.1
  simp [boundK, hk, bareM] at h1
  have hl : e.Args.length = 2 := by omega
  generalize e.Args = l at hl
  match l, hl with
  | [a, b], _ => exact ⟨a, b, rfl⟩
theorem bound_mem {t : GTables} {locals : Int} {e x : GExpr} {said : Bool} (h : boundM t locals e said = true) (hx : x ∈ e.Args) : boundM t locals x false = true := by
  rw [boundM_eq, Bool.and_eq_true, boundsM_all, List.all_eq_true] at h
  exact h.2 x hx
def genT (r : List GIns × Int) : V := .tup [.d (.sl (r.1.map GIns.enc)), .d (.v (.int .i64 r.2))]
theorem refExprs_of (l : List GExpr) (hl : l.length ≤ 2199023255488) (n : Int) (hn : 0 ≤ n ∧ n + 2 * szEs l ≤ 1000000000)
    (ih : ∀ (i : Nat) (h : i < l.length) (m : Int), 0 ≤ m ∧ m + 2 * szE l[i] ≤ 1000000000 → Pure Tryz.prog 321 [.agg (l[i].enc.map .d), .d (.v (.int .i64 m))] (genT (genE l[i] m))) :
    Pure Tryz.prog 327 [.d (.sl (l.map GExpr.enc)), .d (.v (.int .i64 n))] (genT (genEs l n)) := by
  have hbd := fun i => genEs_bd (l.take i) (fun x _ m => genE_bd x m) n
  have hszs : ∀ i, szEs (l.take i) ≤ szEs l := fun i => by
    have := szEs_app (l.take i) (l.drop i); rw [List.take_append_drop] at this; omega
  unfold genT
  refine Pure.run Tryz.func327 rfl (by simp [Tryz.f327]) ?_; simp [Tryz.f327]
  refine AWP.weaken (Wk.nil' (t := 6) rfl) ?_
  refine AWP.loopS [0, 1, 6, 7] l.length (fun i => [(1, .d (.v (.int .i64 (genEs (l.take i) n).2))), (6, .d (.sl ((genEs (l.take i) n).1.map GIns.enc))), (7, .d (.v (.int .i64 i)))]) (fun _ => []) (fun _ => True) (by rfl) (by simp [genEs]) ?_
  intro i hi _
  rcases Nat.lt_or_eq_of_le hi with hlt | rfl
  · have hge : l[i]? = some l[i] := List.getElem?_eq_getElem hlt
    have htk : List.take (i + 1) l = List.take i l ++ [l[i]] := by rw [List.take_add_one, hge]; rfl
    have hS := ih i hlt
    have hsn := genEs_snoc (l.take i) l[i] n
    have hsz := szEs_app (l.take i) [l[i]]
    rw [← htk] at hsn hsz
    simp only [szEs] at hsz
    have h0 := hszs (i + 1)
    have h1 := hbd i
    have h2 := genE_bd l[i] (genEs (l.take i) n).2
    generalize hE : l[i] = x at *
    generalize hM : genEs (l.take i) n = k at *
    generalize hM' : genEs (l.take (i + 1)) n = k' at *
    obtain ⟨k1, k2⟩ := k
    simp only at hsn h1 h2
    have a4 : inR .i64 ((i : Int) + 1) := by rw [inR_i64]; omega
    simp [hlt, hge, hE]
    have hC := hS k2 ⟨by omega, by omega⟩
    generalize genE x k2 = q at *
    obtain ⟨q1, q2⟩ := q
    unfold genT at hC
    simp only at h2 hsn hC
    refine AOps.pureC rfl (hC) (by simp) rfl (by simp) rfl ?_
    simp
    refine AOps.pureC rfl (join_ok k1 q1 (by omega) (by omega)) (by simp) rfl (by simp) rfl ?_
    simp [hM', hsn, a4, hlt]
  · simp
theorem refExpr_ok (t : GTables) (locals : Int) (e : GExpr) (he : e.wf) (hb : boundM t locals e false = true) (n : Int) (hn : 0 ≤ n ∧ n + 2 * szE e ≤ 1000000000) :
    Pure Tryz.prog 321 [.agg (e.enc.map .d), .d (.v (.int .i64 n))] (genT (genE e n)) := by
  obtain ⟨N, hN⟩ : ∃ N, SizeOf.sizeOf e < N := ⟨_, Nat.lt_succ_self _⟩
  induction N generalizing e n with
  | zero => omega
  | succ N ih =>
    have hw := (GExpr.wf_iff e).1 he
    have hlen : e.Args.length ≤ 2199023255488 := by omega
    have hsub : ∀ x ∈ e.Args, ∀ m : Int, 0 ≤ m ∧ m + 2 * szE x ≤ 1000000000 → Pure Tryz.prog 321 [.agg (x.enc.map .d), .d (.v (.int .i64 m))] (genT (genE x m)) := fun x hx m hm =>
      ih x (hw.2.2.2.2.2 _ hx) (bound_mem hb hx) m hm (by have := GExpr.lt_of_mem hx; omega)
    have hz := szE_eq e
    by_cases hk : e.Kind = 6
    · obtain ⟨a, b, hA⟩ := bound_logic hb hk
      have hSa := hsub a (by simp [hA])
      have hSb := hsub b (by simp [hA])
      rw [hA] at hz
      simp only [szEs] at hz
      have ba := genE_bd a (n + 2)
      have bb := genE_bd b (genE a (n + 2)).2
      have a1 : inR .i64 (n + 2) := by rw [inR_i64]; omega
      have a2 : inR .i64 (n + 1) := by rw [inR_i64]; omega
      have hz' := fun L => (zero_ok n).ok L
      have hl1 := fun m L => (label_ok m).ok L
      have hl2 := fun m L => (jump_ok m).ok L
      have hl3 := fun a b L => (code_ok a b).ok L
      have ca := hSa (n + 2) ⟨by omega, by omega⟩
      by_cases ho : e.Op = 1
      · rw [genE_or e a b [] n hk ho hA]
        generalize genE a (n + 2) = p at *
        obtain ⟨p1, p2⟩ := p
        have cb := hSb p2 ⟨by omega, by omega⟩
        generalize genE b p2 = q at *
        obtain ⟨q1, q2⟩ := q
        unfold genT at ca cb ⊢
        simp only at ba bb ca cb ⊢
        refine Pure.run Tryz.func321 rfl (by simp [Tryz.f321]) ?_; simp [Tryz.f321, hk, ho]
        intro bs
        simp [hA, a1]
        refine AOps.pureC rfl (ca) (by simp) rfl (by simp) rfl ?_
        simp [hA, a1, a2, ho]
        refine AOps.pureC rfl (cb) (by simp) rfl (by simp) rfl ?_
        simp [hA, a1, a2, ho]
        refine AOps.pureC rfl (zero_ok n) (by simp) rfl (by simp) rfl ?_
        simp [hA, a1, a2, ho]
        refine AOps.weaken (Wk.freeze 48 (ys := ([GIns.mk 25 n]).map _) rfl) ?_
        simp
        refine AOps.pureC rfl (join_ok (p1) [GIns.mk 25 n] (by first | omega | (simp <;> omega)) (by simp)) (by simp) rfl (by simp) rfl ?_
        simp [hA, a1, a2, ho]
        refine AOps.pureC rfl (code_ok 1 1) (by simp) rfl (by simp) rfl ?_
        simp [hA, a1, a2, ho]
        refine AOps.pureC rfl (jump_ok (n+1)) (by simp) rfl (by simp) rfl ?_
        simp [hA, a1, a2, ho]
        refine AOps.pureC rfl (label_ok n) (by simp) rfl (by simp) rfl ?_
        simp [hA, a1, a2, ho]
        refine AOps.weaken (Wk.freeze 60 (ys := ([GIns.mk 1 1, GIns.mk 24 (n+1), GIns.mk 38 n]).map _) rfl) ?_
        simp
        refine AOps.pureC rfl (join_ok (p1 ++ [GIns.mk 25 n]) [GIns.mk 1 1, GIns.mk 24 (n+1), GIns.mk 38 n] (by first | omega | (simp <;> omega)) (by simp)) (by simp) rfl (by simp) rfl ?_
        simp [hA, a1, a2, ho]
        refine AOps.pureC rfl (join_ok (p1 ++ [GIns.mk 25 n] ++ [GIns.mk 1 1, GIns.mk 24 (n+1), GIns.mk 38 n]) q1 (by first | omega | (simp <;> omega)) (by omega)) (by simp) rfl (by simp) rfl ?_
        simp [hA, a1, a2, ho]
        refine AOps.pureC rfl (code_ok 11 0) (by simp) rfl (by simp) rfl ?_
        simp [hA, a1, a2, ho]
        refine AOps.pureC rfl (label_ok (n+1)) (by simp) rfl (by simp) rfl ?_
        simp [hA, a1, a2, ho]
        refine AOps.weaken (Wk.freeze 69 (ys := ([GIns.mk 11 0, GIns.mk 38 (n+1)]).map _) rfl) ?_
        simp
        refine AOps.pureC rfl (join_ok (p1 ++ [GIns.mk 25 n] ++ [GIns.mk 1 1, GIns.mk 24 (n+1), GIns.mk 38 n] ++ q1) [GIns.mk 11 0, GIns.mk 38 (n+1)] (by first | omega | (simp <;> omega)) (by simp)) (by simp) rfl (by simp) rfl ?_
        simp [hA, a1, a2, ho]
      · by_cases ho' : e.Op = 2
        · rw [genE_and e a b [] n hk ho' hA]
          generalize genE a (n + 2) = p at *
          obtain ⟨p1, p2⟩ := p
          have cb := hSb p2 ⟨by omega, by omega⟩
          generalize genE b p2 = q at *
          obtain ⟨q1, q2⟩ := q
          unfold genT at ca cb ⊢
          simp only at ba bb ca cb ⊢
          refine Pure.run Tryz.func321 rfl (by simp [Tryz.f321]) ?_; simp [Tryz.f321, hk, ho']
          intro bs
          simp [hA, a1]
          refine AOps.pureC rfl (ca) (by simp) rfl (by simp) rfl ?_
          simp [hA, a1, a2, ho']
          refine AOps.pureC rfl (cb) (by simp) rfl (by simp) rfl ?_
          simp [hA, a1, a2, ho']
          refine AOps.pureC rfl (zero_ok n) (by simp) rfl (by simp) rfl ?_
          simp [hA, a1, a2, ho']
          refine AOps.weaken (Wk.freeze 48 (ys := ([GIns.mk 25 n]).map _) rfl) ?_
          simp
          refine AOps.pureC rfl (join_ok (p1) [GIns.mk 25 n] (by first | omega | (simp <;> omega)) (by simp)) (by simp) rfl (by simp) rfl ?_
          simp [hA, a1, a2, ho']
          refine AOps.pureC rfl (join_ok (p1 ++ [GIns.mk 25 n]) q1 (by first | omega | (simp <;> omega)) (by omega)) (by simp) rfl (by simp) rfl ?_
          simp [hA, a1, a2, ho']
          refine AOps.pureC rfl (code_ok 11 0) (by simp) rfl (by simp) rfl ?_
          simp [hA, a1, a2, ho']
          refine AOps.pureC rfl (jump_ok (n+1)) (by simp) rfl (by simp) rfl ?_
          simp [hA, a1, a2, ho']
          refine AOps.pureC rfl (label_ok n) (by simp) rfl (by simp) rfl ?_
          simp [hA, a1, a2, ho']
          refine AOps.pureC rfl (code_ok 1 0) (by simp) rfl (by simp) rfl ?_
          simp [hA, a1, a2, ho']
          refine AOps.pureC rfl (label_ok (n+1)) (by simp) rfl (by simp) rfl ?_
          simp [hA, a1, a2, ho']
          refine AOps.weaken (Wk.freeze 85 (ys := ([GIns.mk 11 0, GIns.mk 24 (n+1), GIns.mk 38 n, GIns.mk 1 0, GIns.mk 38 (n+1)]).map _) rfl) ?_
          simp
          refine AOps.pureC rfl (join_ok (p1 ++ [GIns.mk 25 n] ++ q1) [GIns.mk 11 0, GIns.mk 24 (n+1), GIns.mk 38 n, GIns.mk 1 0, GIns.mk 38 (n+1)] (by first | omega | (simp <;> omega)) (by simp)) (by simp) rfl (by simp) rfl ?_
          simp [hA, a1, a2, ho']
        · have hL : ¬ logicE e := by simp [logicE, hk, ho, ho']
          rw [genE_plain e n hL]
          have hz := szE_eq e
          have bd := genEs_bd e.Args (fun x _ m => genE_bd x m) n
          have hc := refExprs_of e.Args hlen n ⟨by omega, by omega⟩ (fun i h m hm => hsub _ (List.getElem_mem h) m hm)
          generalize genEs e.Args n = p at *
          obtain ⟨p1, p2⟩ := p
          unfold genT at hc ⊢
          simp only at bd hc ⊢
          refine Pure.run Tryz.func321 rfl (by simp [Tryz.f321]) ?_; simp [Tryz.f321, hk, ho, ho']
          intro bs
          refine AOps.pureC rfl (hc) (by simp) rfl (by simp) rfl ?_
          simp
          refine AOps.pureC rfl (own_ok e) (by simp) rfl (by simp) rfl ?_
          simp
          refine AOps.weaken (Wk.freeze 98 (ys := ([ownM e]).map _) rfl) ?_
          simp
          refine AOps.pureC rfl (join_ok p1 [ownM e] (by omega) (by simp)) (by simp) rfl (by simp) rfl ?_
          simp
    · have hL : ¬ logicE e := by simp [logicE, hk]
      rw [genE_plain e n hL]
      have hz := szE_eq e
      have bd := genEs_bd e.Args (fun x _ m => genE_bd x m) n
      have hc := refExprs_of e.Args hlen n ⟨by omega, by omega⟩ (fun i h m hm => hsub _ (List.getElem_mem h) m hm)
      generalize genEs e.Args n = p at *
      obtain ⟨p1, p2⟩ := p
      unfold genT at hc ⊢
      simp only at bd hc ⊢
      refine Pure.run Tryz.func321 rfl (by simp [Tryz.f321]) ?_; simp [Tryz.f321, hk]
      intro bs
      refine AOps.pureC rfl (hc) (by simp) rfl (by simp) rfl ?_
      simp
      refine AOps.pureC rfl (own_ok e) (by simp) rfl (by simp) rfl ?_
      simp
      refine AOps.weaken (Wk.freeze 98 (ys := ([ownM e]).map _) rfl) ?_
      simp
      refine AOps.pureC rfl (join_ok p1 [ownM e] (by omega) (by simp)) (by simp) rfl (by simp) rfl ?_
      simp
end Go.Ab

namespace Go.Ab
open Go.Proofs
end Go.Ab

namespace Go.Ab
open Go.Proofs
end Go.Ab

namespace Go.Ab
open Go.Proofs
end Go.Ab

namespace Go.Ab
open Go.Proofs
end Go.Ab

namespace Go.Ab
open Go.Proofs
end Go.Ab

namespace Go.Ab
open Go.Proofs
end Go.Ab

namespace Go.Ab
open Go.Proofs
theorem bound_said {t : GTables} {locals : Int} {e : GExpr} (h : boundM t locals e true = true) (h1 : e.Kind ≠ 19) (h2 : e.Kind ≠ 13) : boundM t locals e false = true := by
  rw [boundM_eq] at h ⊢
  simpa [boundK, h1, h2] using h
end Go.Ab

namespace Go.Ab
open Go.Proofs
@[simp] theorem GStmt.Kind_mk (k n : Int) (s : ByteArray) (a : List GExpr) (b c : List GStmt) : (GStmt.mk k n s a b c).Kind = k := rfl
@[simp] theorem GStmt.Num_mk (k n : Int) (s : ByteArray) (a : List GExpr) (b c : List GStmt) : (GStmt.mk k n s a b c).Num = n := rfl
@[simp] theorem GStmt.Name_mk (k n : Int) (s : ByteArray) (a : List GExpr) (b c : List GStmt) : (GStmt.mk k n s a b c).Name = s := rfl
@[simp] theorem GStmt.Args_mk (k n : Int) (s : ByteArray) (a : List GExpr) (b c : List GStmt) : (GStmt.mk k n s a b c).Args = a := rfl
@[simp] theorem GStmt.Body_mk (k n : Int) (s : ByteArray) (a : List GExpr) (b c : List GStmt) : (GStmt.mk k n s a b c).Body = b := rfl
@[simp] theorem GStmt.Else_mk (k n : Int) (s : ByteArray) (a : List GExpr) (b c : List GStmt) : (GStmt.mk k n s a b c).Else = c := rfl
theorem GStmt.lt_body (s : GStmt) : SizeOf.sizeOf s.Body < SizeOf.sizeOf s := by
  cases s; simp only [GStmt.Body_mk, GStmt.mk.sizeOf_spec]; omega
theorem GStmt.lt_else (s : GStmt) : SizeOf.sizeOf s.Else < SizeOf.sizeOf s := by
  cases s; simp only [GStmt.Else_mk, GStmt.mk.sizeOf_spec]; omega
mutual
def szS : GStmt → Nat
  | .mk _ _ _ a b c => 1 + szEs a + szB b + szB c
def szB : List GStmt → Nat
  | [] => 0
  | s :: l => szS s + szB l
end
theorem szS_eq (s : GStmt) : szS s = 1 + szEs s.Args + szB s.Body + szB s.Else := by cases s; rw [szS]; rfl
end Go.Ab

namespace Go.Ab
open Go.Proofs
end Go.Ab

namespace Go.Ab
open Go.Proofs
set_option maxRecDepth 40000
set_option maxHeartbeats 4000000
def hasM (s : GStmt) (named : Bool) (args : Int) (body other : Bool) : Bool :=
  decide ((s.Args.length : Int) = args) && (body || decide (s.Body.length = 0)) && (other || decide (s.Else.length = 0)) && (named || (s.Name.toList.isEmpty && decide (s.Num = 0)))
def shapeM (s : GStmt) : Bool × Bool :=
  if s.Kind = 1 then (hasM s false s.Args.length false false && amongM s.Args.length 1 8, false)
  else if s.Kind = 2 ∨ s.Kind = 3 ∨ s.Kind = 5 ∨ s.Kind = 6 ∨ s.Kind = 17 ∨ s.Kind = 23 then (hasM s true 1 false false, true)
  else if s.Kind = 4 then (hasM s true 2 false false, true)
  else if s.Kind = 7 then (hasM s false 2 false false, false)
  else if s.Kind = 8 ∨ s.Kind = 12 ∨ s.Kind = 16 ∨ s.Kind = 20 ∨ s.Kind = 22 ∨ s.Kind = 19 then (hasM s false 1 false false, false)
  else if s.Kind = 9 then (hasM s false 1 true true, false)
  else if s.Kind = 10 then (hasM s false 1 true false, false)
  else if s.Kind = 11 then (hasM s true 1 true false, true)
  else if s.Kind = 18 then (hasM s true 0 false false, true)
  else if s.Kind = 13 ∨ s.Kind = 14 ∨ s.Kind = 15 ∨ s.Kind = 21 then (hasM s false 0 false false, false)
  else (false, false)
def thereM (t : GTables) (s : GStmt) (locals : Int) : Bool :=
  if s.Name.toList.isEmpty then
    if s.Kind = 2 ∨ s.Kind = 3 then decide (0 ≤ s.Num) && decide (s.Num < locals)
    else if s.Kind = 11 then decide (0 ≤ s.Num) && decide (s.Num < locals - 1) && decide (1 < locals)
    else if s.Kind = 23 then amongM s.Num 0 (t.Globals.length - 1)
    else if s.Kind = 4 then amongM s.Num 0 (t.Props.length - 1)
    else if s.Kind = 5 ∨ s.Kind = 6 then decide (0 ≤ s.Num) && decide (s.Num < t.Flags)
    else if s.Kind = 17 ∨ s.Kind = 18 then amongM s.Num 0 (t.Daemons.length - 1)
    else true
  else false
theorem has_ok (s : GStmt) (named : Bool) (args : Int) (body other : Bool) : Pure Tryz.prog 264 [.agg (s.enc.map .d), .d (.v (.bool named)), .d (.v (.int .i64 args)), .d (.v (.bool body)), .d (.v (.bool other))] (.d (.v (.bool (hasM s named args body other)))) := by
  refine Pure.run Tryz.func264 rfl (by simp [Tryz.f264]) ?_; simp [Tryz.f264]
  refine ⟨?_, ?_, ?_, ?_, ?_⟩
  any_goals (simp +contextual; done)
  have e : s.Name.toList.isEmpty = decide (s.Name.toList = []) := by cases s.Name.toList <;> simp
  rw [hasM, e, show decide (s.Num = 0) = (s.Num == 0) from rfl]; simp
theorem shape_ok (s : GStmt) : Pure Tryz.prog 204 [.agg (s.enc.map .d)] (.tup [.d (.v (.bool (shapeM s).1)), .d (.v (.bool (shapeM s).2))]) := by
  refine Pure.run Tryz.func204 rfl (by simp [Tryz.f204]) ?_; simp [-cB, Tryz.f204]
  repeat' (first
    | (with_reducible refine And.intro ?_ ?_)
    | (refine condC_split (fun h => ?_) (fun h => ?_) <;> (try simp at h) <;> (try simp [-cB, *]))
    | (refine AOps.pureC rfl (has_ok s _ _ _ _) rfl rfl (by simp) rfl ?_ <;> (try simp [-cB, *]))
    | (refine AOps.pureC rfl (among_ok _ _ _) rfl rfl (by simp) rfl ?_ <;> (try simp [-cB, *]))
    | (refine AOps.lendC rfl (has_ok s _ _ _ _) rfl (by simp) rfl rfl (by simp) rfl ?_ <;> (try simp [-cB, *]))
    | (refine AOps.lendC rfl (among_ok _ _ _) rfl (by simp) rfl rfl (by simp) rfl ?_ <;> (try simp [-cB, *]))
    | (refine AOps.pureG rfl (fun h => has_ok s _ _ _ _) rfl (by first | rfl | (simp; rfl)) (by simp) (by simp) rfl ?_ <;> (try simp [-cB, *]))
    | (refine AOps.pureG rfl (fun h => among_ok _ _ _) rfl (by first | rfl | (simp; rfl)) (by simp) (by simp) rfl ?_ <;> (try simp [-cB, *]))
    | (with_reducible intro _))
  all_goals first | (simp [shapeM, *]; done) | trace_state
theorem there_min (t : GTables) (s : GStmt) (hk : s.Kind = 11) (hn : s.Name.toList = []) : Pure Tryz.prog 205 [.agg (t.enc.map .d), .agg (s.enc.map .d), .d (.v (.int .i64 (-9223372036854775808)))] (.d (.v (.bool false))) := by
  refine Pure.runA Tryz.func205 rfl (by simp [Tryz.f205]) ?_
  refine AWP.seqK ?_
  simp [Tryz.f205]
  intro bs
  refine AWP.seqK ?_
  simp [hn]
  refine AWP.seq (AWP.seqK ?_)
  simp [hk]
  refine AWP.block (AWP.seqK ?_)
  simp
  refine AWP.cond rfl (fun h => by simp at h) (fun _ => ?_)
  refine AWP.seqK ?_
  simp
  refine AWP.cond rfl (fun _ => ?_) (fun h => by simp at h)
  refine AWP.seq (AWP.regionS (AOps.stop 7 [] (by rfl) ?_))
  simp
  refine AOps.subG (a := -9223372036854775808) (b := 1) rfl (by rfl) (by simp) (by simp) (by simp) ?_
  refine runC_sound _ _ [] (by rfl) ?_
  simp
  refine AWP.ret ?_
  simp
theorem there_ok (t : GTables) (ht : t.wf) (s : GStmt) (locals : Int) (hl : inR .i64 locals) : Pure Tryz.prog 205 [.agg (t.enc.map .d), .agg (s.enc.map .d), .d (.v (.int .i64 locals))] (.d (.v (.bool (thereM t s locals)))) := by
  have b1 := GTables.wl_Globals ht
  have b2 := GTables.wl_Props ht
  have b3 := GTables.wl_Daemons ht
  by_cases hm : (s.Kind = 11 ∧ s.Name.toList = []) ∧ locals = -9223372036854775808
  · obtain ⟨⟨hk, hn⟩, rfl⟩ := hm
    exact (there_min t s hk hn).eq rfl (by simp [thereM, hk, hn])
  have hlo : s.Kind = 11 → s.Name.toList = [] → inR .i64 (locals - 1) := fun h1 h2 => by
    rw [inR_i64] at hl ⊢
    have : ¬ locals = -9223372036854775808 := fun h => hm ⟨⟨h1, h2⟩, h⟩
    omega
  clear hm
  refine Pure.run Tryz.func205 rfl (by simp [Tryz.f205]) ?_; simp [-cB, Tryz.f205]
  repeat' (first
    | (with_reducible refine And.intro ?_ ?_)
    | (refine condC_split (fun h => ?_) (fun h => ?_) <;> (try simp at h) <;> (try simp [-cB, *]))
    | (refine AOps.pureC rfl (among_ok _ _ _) rfl rfl (by simp) rfl ?_ <;> (try simp [-cB, *]))
    | (refine AOps.lendC rfl (among_ok _ _ _) rfl (by simp) rfl rfl (by simp) rfl ?_ <;> (try simp [-cB, *]))
    | (refine AOps.pureG rfl (fun h => among_ok _ _ _) rfl (by first | rfl | (simp; rfl)) (by simp) (by simp) rfl ?_ <;> (try simp [-cB, *]))
    | (with_reducible intro _))
  all_goals first | assumption | (exact hlo (by assumption) (by assumption)) | (rw [inR_i64]; omega) | (simp [thereM, *]; done) | trace_state
end Go.Ab

namespace Go.Ab
open Go.Proofs
set_option maxRecDepth 40000
set_option maxHeartbeats 4000000
def greaterM (a b : Int) : Int := if b < a then a else b
theorem greater_ok (a b : Int) : Pure Tryz.prog 262 [.d (.v (.int .i64 a)), .d (.v (.int .i64 b))] (.d (.v (.int .i64 (greaterM a b)))) := by
  refine Pure.run Tryz.func262 rfl (by simp [Tryz.f262]) ?_; simp [-cB, Tryz.f262]
  repeat' (first
    | (with_reducible refine And.intro ?_ ?_)
    | (refine condC_split (fun h => ?_) (fun h => ?_) <;> (try simp at h) <;> (try simp [-cB, *]))
    | (with_reducible intro _))
  all_goals simp [greaterM, *] <;> omega
mutual
def deepS : GStmt → Int → Int → Int
  | .mk _ _ _ a b c, m, n => greaterM (deepsM a m n) (greaterM (if b.isEmpty then 0 else (if 1 < m then deepSs b (m - 1) 0 else 0) + 1) (if c.isEmpty then 0 else (if 1 < m then deepSs c (m - 1) 0 else 0) + 1))
def deepSs : List GStmt → Int → Int → Int
  | [], _, n => n
  | s :: l, m, n => deepSs l m (deepS s m n)
end
def deepB (l : List GStmt) (m : Int) : Int := if l.isEmpty then 0 else (if 1 < m then deepSs l (m - 1) 0 else 0) + 1
theorem deepS_eq (s : GStmt) (m n : Int) : deepS s m n = greaterM (deepsM s.Args m n) (greaterM (deepB s.Body m) (deepB s.Else m)) := by cases s; rw [deepS]; rfl
theorem deepSs_snoc (l : List GStmt) (s : GStmt) (m n : Int) : deepSs (l ++ [s]) m n = deepS s m (deepSs l m n) := by
  induction l generalizing n with
  | nil => simp only [List.nil_append, deepSs]
  | cons x l ih => simp only [List.cons_append, deepSs]; exact ih _
theorem deepSs_bd : ∀ (N : Nat) (l : List GStmt), SizeOf.sizeOf l < N → ∀ m n : Int, 1 ≤ m → 0 ≤ n → n ≤ m → 0 ≤ deepSs l m n ∧ deepSs l m n ≤ m := by
  intro N
  induction N with
  | zero => intro l h; omega
  | succ N ih =>
    intro l h m n h1 h2 h3
    cases l with
    | nil => rw [deepSs]; omega
    | cons s l =>
      rw [deepSs]
      have hs : SizeOf.sizeOf s < N := by simp only [List.cons.sizeOf_spec] at h; omega
      have hb := GStmt.lt_body s
      have he := GStmt.lt_else s
      have hB : ∀ l' : List GStmt, SizeOf.sizeOf l' < N → 0 ≤ deepB l' m ∧ deepB l' m ≤ m := fun l' hl => by
        unfold deepB
        split
        · omega
        · split
          · have := ih l' hl (m - 1) 0 (by omega) (by omega) (by omega); omega
          · omega
      have b1 := hB s.Body (by omega)
      have b2 := hB s.Else (by omega)
      have b3 := deepsM_le s.Args m n h1 h2 h3
      refine ih l (by simp only [List.cons.sizeOf_spec] at h; omega) m _ h1 ?_ ?_
      · rw [deepS_eq]; unfold greaterM; repeat' split
        all_goals omega
      · rw [deepS_eq]; unfold greaterM; repeat' split
        all_goals omega
theorem deepsM_max (l : List GExpr) (x : GExpr) (m n : Int) : deepsM (l ++ [x]) m n = greaterM (deepsM l m n) (deepM x m) := by
  rw [deepsM_snoc]; unfold greaterM; split <;> split <;> omega
theorem deepB_ok (l : List GStmt) (hl : ∀ s ∈ l, s.wf) (hlen : l.length * 104 ≤ 140737488351232) (m : Int) (hm : 1 ≤ m ∧ m ≤ 1000000000000) : Pure Tryz.prog 203 [.d (.sl (l.map GStmt.enc)), .d (.v (.int .i64 m))] (.d (.v (.int .i64 (deepB l m)))) := by
  obtain ⟨n, hn⟩ : ∃ n, SizeOf.sizeOf l < n := ⟨_, Nat.lt_succ_self _⟩
  induction n generalizing l m with
  | zero => omega
  | succ n ih =>
    have hsub : ∀ s ∈ l, (∀ m, 1 ≤ m ∧ m ≤ 1000000000000 → Pure Tryz.prog 203 [.d (.sl (s.Body.map GStmt.enc)), .d (.v (.int .i64 m))] (.d (.v (.int .i64 (deepB s.Body m))))) ∧
        (∀ m, 1 ≤ m ∧ m ≤ 1000000000000 → Pure Tryz.prog 203 [.d (.sl (s.Else.map GStmt.enc)), .d (.v (.int .i64 m))] (.d (.v (.int .i64 (deepB s.Else m))))) := by
      intro s hs
      have hw := hl s hs
      have h1 := List.sizeOf_lt_of_mem hs
      have h2 := GStmt.lt_body s
      have h3 := GStmt.lt_else s
      exact ⟨fun m hm => ih s.Body (GStmt.wf_Body hw) (GStmt.wl_Body hw) m hm (by omega), fun m hm => ih s.Else (GStmt.wf_Else hw) (GStmt.wl_Else hw) m hm (by omega)⟩
    by_cases hE : l = []
    · subst hE
      refine Pure.run Tryz.func203 rfl (by simp [Tryz.f203]) ?_; simp [Tryz.f203]
      rfl
    have hD : deepB l m = (if 1 < m then deepSs l (m - 1) 0 else 0) + 1 := by unfold deepB; simp [hE]
    rw [hD]
    have hG := fun a b L => (greater_ok a b).ok L
    have hBd := fun pre => deepSs_bd _ pre (Nat.lt_succ_self _) (m - 1) 0
    refine Pure.run Tryz.func203 rfl (by simp [Tryz.f203]) ?_; simp [Tryz.f203]
    simp [hE]
    refine ⟨fun h1 => ?_, fun h1 => ?_⟩
    · refine AWP.loopL [1, 5, 15, 16, 17] l (fun pre => [(5, .d (.v (.int .i64 (deepSs pre (m - 1) 0)))), (17, .d (.v (.int .i64 pre.length)))]) (fun _ => []) (fun _ => True) (by rfl) (by omega) (by simp [deepSs]) ?_ ?_
      · rintro pre s post hsp - hlt hge a4
        have hS := hsub s (by rw [hsp]; simp)
        have hws := hl s (by rw [hsp]; simp)
        have hwa := GStmt.wl_Args hws
        have hsn := deepSs_snoc pre s (m - 1) 0
        rw [deepS_eq] at hsn
        have hb := hBd pre (by omega) (by omega) (by omega)
        generalize deepSs pre (m - 1) 0 = v at *
        simp [hlt, hge]
        intro bs
        refine AWP.loopL [1, 5, 7, 15, 16, 17, 22, 23, 24] s.Args (fun pre => [(5, .d (.v (.int .i64 (deepsM pre (m - 1) v)))), (24, .d (.v (.int .i64 pre.length)))]) (fun _ => []) (fun _ => True) (by rfl) (by omega) (by simp [deepsM]) ?_ ?_
        · rintro pre' e post' hsp2 - hlt2 hge2 b4
          have hsn2 := deepsM_max pre' e (m - 1) v
          have a1 : inR .i64 (m - 1) := by rw [inR_i64]; omega
          have hwe := GStmt.wf_Args hws e (by rw [hsp2]; simp)
          simp [hlt2, hge2, a1]
          intro bs2
          refine AOps.pureC rfl (deep_ok e hwe (m - 1) ⟨by omega, by omega⟩) (by simp) rfl (by simp) rfl ?_
          simp
          refine AOps.pureC rfl (greater_ok _ _) rfl rfl (by simp) rfl ?_
          simp [b4, hsn2]
        · intro _
          have c1 := (hS.1 (m - 1) ⟨by omega, by omega⟩).ok
          have c2 := (hS.2 (m - 1) ⟨by omega, by omega⟩).ok
          have a1 : inR .i64 (m - 1) := by rw [inR_i64]; omega
          simp
          refine AWP.regionD [.d (.v (.int .i64 (deepB s.Body (m - 1)))), .d (.v (.int .i64 (deepB s.Else (m - 1)))), .d (.v (.int .i64 (greaterM (deepB s.Body (m - 1)) (deepB s.Else (m - 1))))), .d (.v (.int .i64 (greaterM (deepsM s.Args (m - 1) v) (greaterM (deepB s.Body (m - 1)) (deepB s.Else (m - 1))))))] Tryz.mixed (by kernel_rfl) (by rfl) ?_
          simp [c1, c2, a1, a4, hG, hsn]
      · intro _
        have hb := hBd l (by omega) (by omega) (by omega)
        simp [h1]
        rw [inR_i64]; omega
    · rw [if_neg (by omega)]; exact ⟨by rw [inR_i64]; omega, rfl⟩
theorem depthB_ok (l : List GStmt) (hl : ∀ s ∈ l, s.wf) (hlen : l.length * 104 ≤ 140737488351232) : Pure Tryz.prog 145 [.d (.sl (l.map GStmt.enc))] (.d (.v (.int .i64 (deepB l 65)))) := by
  refine Pure.run Tryz.func145 rfl (by simp [Tryz.f145]) ?_; simp [Tryz.f145]
  refine AOps.pureC rfl (deepB_ok l hl hlen 65 (by omega)) (by simp) rfl (by simp) rfl ?_
  simp
end Go.Ab
