/-
  The engine, part L: the regions of parts M and O, as a function for simp.
-/
import Derived.Test.YticchnalleplcaaAbO
set_option linter.unusedSimpArgs false
set_option linter.unusedVariables false
namespace Go.Ab

section
variable {P : Program} {n : Nat} {Q : AX → St → Prop}

def qv (P : Program) (ops : Array Oper) (s : St) (o : Oper) : Option (V × Prop) :=
  match guardV ops s o with
  | some none => q2 P s.ev s.L o
  | some (some g) => some (.gd g (gval (q2 P (gρ s o) s.L o)), g = true → gcon (q2 P (gρ s o) s.L o) ∧ gU s o)
  | none => none

def cv (P : Program) (ops : Array Oper) (s : St) (o : Oper) (u : V) : Option (V × Prop) :=
  match guardV ops s o with
  | some none => some (u, CallC P s o u)
  | some (some g) => some (.gd g u, g = true → CallG P s o u)
  | none => none

theorem qv_sound {ops : Array Oper} {s : St} {o : Oper} {x : V} {c : Prop} (h : qv P ops s o = some (x, c)) (hc : c) : YOp P ops o s x := by
  unfold qv at h
  split at h
  · rename_i hg
    exact yop_plain (guardV_none hg) (.of_Q (q2_sound h hc))
  · rename_i g hg
    simp only [Option.some.injEq, Prod.mk.injEq] at h
    obtain ⟨rfl, rfl⟩ := h
    refine yop_guard hg (fun hb => ?_)
    obtain ⟨k1, k2⟩ := hc hb
    obtain ⟨c', h3, h4⟩ := gcon_sound k1
    exact ⟨_, gρ_rel k2, .of_Q (q2_sound h3 h4)⟩
  · cases h

theorem cv_sound {ops : Array Oper} {s : St} {o : Oper} {u x : V} {c : Prop} (h : cv P ops s o u = some (x, c)) (hc : c) : YOp P ops o s x := by
  unfold cv at h
  split at h
  · rename_i hg
    simp only [Option.some.injEq, Prod.mk.injEq] at h
    obtain ⟨rfl, rfl⟩ := h
    exact yop_plain (guardV_none hg) (CallC.opT hc)
  · rename_i g hg
    simp only [Option.some.injEq, Prod.mk.injEq] at h
    obtain ⟨rfl, rfl⟩ := h
    exact yop_guard hg (fun hb => CallG.opT (hc hb))
  · cases h

def allP : Nat → Nat → (Nat → Prop) → Prop
  | 0, _, _ => True
  | k + 1, p, f => f p ∧ allP k (p + 1) f

theorem allP_at {f : Nat → Prop} : ∀ {k p : Nat}, allP k p f → ∀ i, p ≤ i → i < p + k → f i
  | 0, p, _, i, h1, h2 => by omega
  | k + 1, p, h, i, h1, h2 => by
    rcases Nat.lt_or_ge p i with hlt | hge
    · exact allP_at h.2 i (by omega) (by omega)
    · obtain rfl : p = i := by omega
      exact h.1

/-- A quiet operation, asked again in another phase. -/
structure Dfr where
  o : Oper
  fr : FrM
  x : V
  lo : Nat
  hi : Nat
  told : Option V

def qAt (P : Program) (ops : Array Oper) (o : Oper) (s : St) (x : V) : Option V → Prop
  | some u => match cv P ops s o u with
    | some (x', c) => x' = x ∧ c
    | none => False
  | none => match qv P ops s o with
    | some (x', c) => x' = x ∧ c
    | none => False

theorem qAt_sound {ops : Array Oper} {s : St} {o : Oper} {x : V} {t : Option V} (h : qAt P ops o s x t) : YOp P ops o s x := by
  cases t with
  | some u =>
    simp only [qAt] at h
    split at h
    · rename_i x' c hc; obtain ⟨rfl, h⟩ := h; exact cv_sound hc h
    · exact h.elim
  | none =>
    simp only [qAt] at h
    split at h
    · rename_i x' c hc; obtain ⟨rfl, h⟩ := h; exact qv_sound hc h
    · exact h.elim

def dAll (P : Program) (ops : Array Oper) (ks : List (Option Nat)) (Ls : List Heap) : List Dfr → Prop
  | [] => True
  | d :: ds => allP (d.hi - d.lo) (d.lo + 1) (fun p => qAt P ops d.o ⟨frAt ks p d.fr, Ls.getD p []⟩ d.x d.told) ∧ dAll P ops ks Ls ds

/-- A call that changes what is owned: what it does is told. -/
def EffM (P : Program) (ops : Array Oper) (o : Oper) (s : St) (K : V → Option Nat → Heap → Prop) : Prop := ∃ x k L', (∀ n, LOp P n ops o s.fr s.L k x L') ∧ K x k L'
theorem EffM.intro {ops : Array Oper} {o : Oper} {s : St} {K : V → Option Nat → Heap → Prop} {x : V} {k : Option Nat} {L' : Heap} (h : ∀ n, LOp P n ops o s.fr s.L k x L') (hk : K x k L') : EffM P ops o s K := ⟨x, k, L', h, hk⟩

def runM (P : Program) (ops : Array Oper) : List (Oper × Option (Nat × Nat)) → FrM → List (Option Nat) → List Heap → List V → List Dfr → (FrM → List (Option Nat) → List Heap → Prop) → Prop
  | [], fr, ks, Ls, _, ds, K => dAll P ops ks Ls ds ∧ K fr ks Ls
  | (o, none) :: rest, fr, ks, Ls, us, ds, K =>
    match lv P ops ⟨frAt ks ks.length fr, Ls.getD ks.length []⟩ o with
    | some (x, k, L', c) => c ∧ runM P ops rest (putM fr o.dst (ks.length + 1) x) (ks ++ [k]) (Ls ++ [L']) us ds K
    | none => EffM P ops o ⟨frAt ks ks.length fr, Ls.getD ks.length []⟩ fun x k L' => runM P ops rest (putM fr o.dst (ks.length + 1) x) (ks ++ [k]) (Ls ++ [L']) us ds K
  | (o, some (lo, hi)) :: rest, fr, ks, Ls, us, ds, K =>
    if isCall o then
      match us with
      | [] => False
      | u :: us' => match cv P ops ⟨frAt ks ks.length fr, Ls.getD ks.length []⟩ o u with
        | some (x, c) => c ∧ allP (ks.length - lo) lo (fun p => qAt P ops o ⟨frAt ks p fr, Ls.getD p []⟩ x (some u)) ∧
            runM P ops rest (putM fr o.dst lo x) ks Ls us' (if ks.length < hi then ⟨o, fr, x, ks.length, hi, some u⟩ :: ds else ds) K
        | none => False
    else
      match qv P ops ⟨frAt ks ks.length fr, Ls.getD ks.length []⟩ o with
      | some (x, c) => c ∧ allP (ks.length - lo) lo (fun p => qAt P ops o ⟨frAt ks p fr, Ls.getD p []⟩ x none) ∧
          runM P ops rest (putM fr o.dst lo x) ks Ls us (if ks.length < hi then ⟨o, fr, x, ks.length, hi, none⟩ :: ds else ds) K
      | none => False

theorem getD_pre {Ls Ls' : List Heap} {p : Nat} (h : p < Ls.length) : (Ls ++ Ls').getD p [] = Ls.getD p [] := by
  simp [List.getD_eq_getElem?_getD, List.getElem?_append_left h]

theorem runM_tr {ops : Array Oper} {K : FrM → List (Option Nat) → List Heap → Prop} : ∀ (l : List (Oper × Option (Nat × Nat))) (fr : FrM) (ks : List (Option Nat)) (Ls : List Heap) (us : List V) (ds : List Dfr), Ls.length = ks.length + 1 → runM P ops l fr ks Ls us ds K →
    ∃ tr frE ks1 Ls1, TrM l fr ks.length tr frE (ks ++ ks1).length ∧ (∀ (i : Nat) (r : Rec) (z : Oper × Option (Nat × Nat)), tr[i]? = some r → l[i]? = some z → SemM P n ops (ks ++ ks1) (fun p => (Ls ++ Ls1).getD p []) r z.1) ∧
      dAll P ops (ks ++ ks1) (Ls ++ Ls1) ds ∧ K frE (ks ++ ks1) (Ls ++ Ls1)
  | [], fr, ks, Ls, us, ds, hl, h => by
    refine ⟨[], fr, [], [], ?_, by simp, ?_, ?_⟩
    · simp only [List.append_nil]; exact .nil fr ks.length
    · simpa using h.1
    · simpa using h.2
  | (o, none) :: rest, fr, ks, Ls, us, ds, hl, h => by
    have key : ∀ (x : V) (k : Option Nat) (L' : Heap), LOp P n ops o (frAt ks ks.length fr) (Ls.getD ks.length []) k x L' → runM P ops rest (putM fr o.dst (ks.length + 1) x) (ks ++ [k]) (Ls ++ [L']) us ds K →
        ∃ tr frE ks1 Ls1, TrM ((o, none) :: rest) fr ks.length tr frE (ks ++ ks1).length ∧ (∀ (i : Nat) (r : Rec) (z : Oper × Option (Nat × Nat)), tr[i]? = some r → ((o, none) :: rest)[i]? = some z → SemM P n ops (ks ++ ks1) (fun p => (Ls ++ Ls1).getD p []) r z.1) ∧
          dAll P ops (ks ++ ks1) (Ls ++ Ls1) ds ∧ K frE (ks ++ ks1) (Ls ++ Ls1) := by
      intro x k L' hlop hr
      obtain ⟨tr, frE, ks1, Ls1, h1, h2, h3, h4⟩ := runM_tr rest _ _ _ us ds (by simp [hl]) hr
      rw [List.append_assoc] at h1 h3 h4
      simp only [List.append_assoc, List.length_append, List.length_cons, List.length_nil] at h1 h2 h3 h4
      refine ⟨⟨fr, x, 0, 0, true, ks.length⟩ :: tr, frE, _, _, .loud (by simpa [Nat.add_comm 1] using h1), ?_, h3, h4⟩
      intro i r z hi hz
      cases i with
      | zero =>
        simp only [List.getElem?_cons_zero, Option.some.injEq] at hi hz
        subst hi; subst hz
        refine ⟨fun _ => ⟨by simp, ?_⟩, (fun h => by cases h)⟩
        simp only
        rw [frAt_pre (Nat.le_refl _), getD_pre (by omega)]
        have e1 : (ks ++ ([k] ++ ks1)).getD ks.length none = k := by
          simp [List.getD_eq_getElem?_getD]
        have e2 : (Ls ++ ([L'] ++ Ls1)).getD (ks.length + 1) [] = L' := by
          simp [List.getD_eq_getElem?_getD, ← hl]
        rw [e1, e2]
        exact hlop
      | succ i => exact h2 i r z (by simpa using hi) (by simpa using hz)
    rw [runM] at h
    split at h
    · rename_i x k L' c hst
      exact key x k L' (LOp.of (n := n) hst h.1) h.2
    · obtain ⟨x, k, L', hlop, hr⟩ := h
      exact key x k L' (hlop n) hr
  | (o, some (lo, hi)) :: rest, fr, ks, Ls, us, ds, hl, h => by
    have key : ∀ (x : V) (t : Option V) (us' : List V), YOp P ops o ⟨frAt ks ks.length fr, Ls.getD ks.length []⟩ x → allP (ks.length - lo) lo (fun p => qAt P ops o ⟨frAt ks p fr, Ls.getD p []⟩ x t) →
        runM P ops rest (putM fr o.dst lo x) ks Ls us' (if ks.length < hi then ⟨o, fr, x, ks.length, hi, t⟩ :: ds else ds) K →
        ∃ tr frE ks1 Ls1, TrM ((o, some (lo, hi)) :: rest) fr ks.length tr frE (ks ++ ks1).length ∧ (∀ (i : Nat) (r : Rec) (z : Oper × Option (Nat × Nat)), tr[i]? = some r → ((o, some (lo, hi)) :: rest)[i]? = some z → SemM P n ops (ks ++ ks1) (fun p => (Ls ++ Ls1).getD p []) r z.1) ∧
          dAll P ops (ks ++ ks1) (Ls ++ Ls1) ds ∧ K frE (ks ++ ks1) (Ls ++ Ls1) := by
      intro x t us' hc ha hr
      obtain ⟨tr, frE, ks1, Ls1, h1, h2, h3, h4⟩ := runM_tr rest _ _ _ us' _ hl hr
      have hds : dAll P ops (ks ++ ks1) (Ls ++ Ls1) ds := by
        split at h3
        · exact h3.2
        · exact h3
      refine ⟨⟨fr, x, lo, hi, false, ks.length⟩ :: tr, frE, ks1, Ls1, .quiet h1, ?_, hds, h4⟩
      intro i r z hi' hz
      cases i with
      | zero =>
        simp only [List.getElem?_cons_zero, Option.some.injEq] at hi' hz
        subst hi'; subst hz
        refine ⟨(fun h => by cases h), fun _ p hp1 hp2 => ?_⟩
        simp only at hp1 hp2 ⊢
        rcases Nat.lt_trichotomy p ks.length with hlt | heq | hgt
        · rw [frAt_pre (by omega), getD_pre (by omega)]
          exact qAt_sound (allP_at ha p hp1 (by omega))
        · subst heq
          rw [frAt_pre (by omega), getD_pre (by omega)]
          exact hc
        · rw [if_pos (by omega)] at h3
          exact qAt_sound (allP_at h3.1 p (by simp only; omega) (by simp only; omega))
      | succ i => exact h2 i r z (by simpa using hi') (by simpa using hz)
    cases hcall : isCall o with
    | true =>
      cases us with
      | nil => rw [runM, if_pos hcall] at h; exact h.elim
      | cons u us' =>
        rw [runM, if_pos hcall] at h
        split at h
        · rename_i x c hcv
          exact key x (some u) us' (cv_sound hcv h.1) h.2.1 h.2.2
        · exact h.elim
    | false =>
      rw [runM.eq_def] at h
      simp only [hcall, Bool.false_eq_true, if_false] at h
      split at h
      · rename_i x c hqv
        exact key x none us (qv_sound hqv h.1) h.2.1 h.2.2
      · exact h.elim

/-- A region that draws its order; rg: for each operation the phases in which it may come, none for one that changes what is owned. -/
theorem AWP.regionM0 {id : Nat} {l : List Oper} {s : St} (rg : List (Option (Nat × Nat))) (us : List V) (hm : P.follows .mixedOrders = true) (ok : okM n l rg = true)
    (h : runM P l.toArray (l.zip rg) (s.fr.map fun e => (e.1, 0, e.2)) [] [s.L] us [] (fun fr ks Ls => Q .normal ⟨frAt ks ks.length fr, Ls.getD ks.length []⟩)) : AWP P n (.region id l.toArray true) s Q := by
  intro fo m a w g
  simp only [okM, Bool.and_eq_true, beq_iff_eq, decide_eq_true_eq, List.all_eq_true] at ok
  obtain ⟨⟨⟨⟨⟨⟨o1, o2⟩, o3⟩, o4⟩, o5⟩, o6⟩, o7⟩ := ok
  obtain ⟨tr, frE, ks, Ls, h1, h2, -, h4⟩ := runM_tr (n := n) (l.zip rg) _ [] [s.L] us [] rfl h
  simp only [List.nil_append, List.length_nil] at h1 h2 h4
  refine wp_region_any hm ?_
  have := any_orderM (P := P) (n := n) (Q := Q) (l := l) (rg := rg) (lds := loudsOf rg) (ks := ks) (Ls := fun p => ([s.L] ++ Ls).getD p []) o3 h1 (fun i r o hr ho => by
      have hil := (List.getElem?_eq_some_iff.1 ho).1
      exact h2 i r (o, rg[i]'(by omega)) hr (by rw [List.getElem?_zip_eq_some]; exact ⟨ho, List.getElem?_eq_getElem (by omega)⟩))
    o1 o2 o4 o5 o6 (fun o ho t ht => by simpa using o7 o ho t ht) rfl h4 (fo := fo) (m0 := m) (w0 := w)
    (fun e he => by obtain ⟨x, hx, rfl⟩ := List.mem_map.1 he; exact (g.fr x.1 x.2 hx).1) (fun e he => by obtain ⟨x, hx, rfl⟩ := List.mem_map.1 he; rfl)
    l.toArray.size m 0 (Array.replicate l.toArray.size false) (List.range l.length) a { w with drawn := w.drawn + 1 } (by simp) (fun i hi _ => by simpa using hi) ?_
  · exact this
  · have st : Step w (own m) { w with drawn := w.drawn + 1 } (own m) := ⟨rfl, rfl, rfl, Nat.le_refl _, fun _ _ _ => rfl, fun _ _ h => h⟩
    have mono : ∀ {v : Value} {x : V}, RelV w (OO fo m) m v x → RelV { w with drawn := w.drawn + 1 } (OO fo m) m v x := fun h => h.mono st.keep (fun _ _ h => h) (fun _ _ h => h)
    have hfalse : ∀ j, (Array.replicate l.toArray.size false).getD j false = false := by intro j; simp [Array.getD]
    refine ⟨g.size, g.defers, g.inv.grown (Nat.le_refl _) (fun _ _ => rfl), st, by simp, Nat.zero_le _, ?_, ?_, ?_, ?_, ?_, ?_⟩
    · intro q j _; rw [hfalse]; simp
    · intro j r _ hb; rw [hfalse] at hb; cases hb
    · intro j o r d _ _ _ hb; rw [hfalse] at hb; cases hb
    · intro t _
      rw [killR_self (Nat.zero_le _)]
      have : (getM t (s.fr.map fun e => (e.1, 0, e.2))).2 = s.get t := by
        unfold St.get
        generalize s.fr = fr
        induction fr with
        | nil => rfl
        | cons e fr ih =>
          obtain ⟨k, x⟩ := e
          simp only [List.map_cons, getM, getF]
          split
          · rfl
          · exact ih
      rw [this]
      exact mono (get_rel g t)
    · intro e he _
      obtain ⟨x, hx, rfl⟩ := List.mem_map.1 he
      rw [killR_self (Nat.zero_le _)]
      exact mono (g.fr x.1 x.2 hx).2
    · intro j o _ hb; rw [hfalse] at hb; cases hb

/-! ### New memory whose place was not told -/

def opnR (bs : Nat → Nat) (h : Nat) : Res → Res
  | .box 0 ty cs => .box (bs h + 1) ty cs
  | r => r
def St.opn (bs : Nat → Nat) (s : St) : St := ⟨s.fr, s.L.map fun p => (p.1, opnR bs p.1 p.2)⟩
@[simp] theorem opnR_row (bs : Nat → Nat) (h : Nat) (ty : TypeId) (k : Nat) (xs : List (List V)) : opnR bs h (.row ty k xs) = .row ty k xs := rfl
@[simp] theorem opnR_box (bs : Nat → Nat) (h b : Nat) (ty : TypeId) (cs : List V) : opnR bs h (.box (b + 1) ty cs) = .box (b + 1) ty cs := rfl
@[simp] theorem opnR_box0 (bs : Nat → Nat) (h : Nat) (ty : TypeId) (cs : List V) : opnR bs h (.box 0 ty cs) = .box (bs h + 1) ty cs := rfl

theorem G.opn {fo : Nat → Prop} {m : Nat → Option Value} {s : St} {a : Act} {w : World} (g : G fo n m s a w) : ∃ bs, G fo n m (s.opn bs) a w := by
  let bs : Nat → Nat := fun h => match m h with
    | some (.pointer (some x)) => x.block
    | _ => 0
  have hi := g.inv
  have hk : keys (St.opn bs s).L = keys s.L := by simp [keys, St.opn, Function.comp_def]
  refine ⟨bs, g.size, g.fr, ⟨by rw [hk]; exact hi.nodup, fun h x hx => by rw [hk]; exact hi.dom h x hx, hi.apart, hi.others, hi.folt, ?_⟩, g.defers⟩
  intro h r hr
  obtain ⟨p, hp, he⟩ := List.mem_map.1 hr
  simp only [Prod.mk.injEq] at he
  obtain ⟨rfl, rfl⟩ := he
  obtain ⟨x, hx, hh⟩ := hi.holds p.1 p.2 hp
  refine ⟨x, hx, ?_⟩
  generalize hq : p.2 = q at hh
  cases q with
  | row ty k xs => exact hh
  | box b ty cs =>
    cases b with
    | succ b => exact hh
    | zero =>
      obtain ⟨bb, _, cur, rfl, h1⟩ := hh
      refine ⟨bb, .inr ?_, cur, rfl, h1⟩
      simp only [bs, hx]

theorem AWP.opened {c : Code} {s : St} (h : AWP P n c s (fun x s' => ∀ bs, Q x (s'.opn bs))) : AWP P n c s Q := by
  intro fo m a w g
  refine Code.wp_mono (fun e a1 w1 hp => ?_) (h fo m a w g)
  obtain ⟨m', x, s', hq, g', he, st⟩ := hp
  obtain ⟨bs, g2⟩ := g'.opn
  exact ⟨m', x, s'.opn bs, hq bs, g2, he, st⟩

/-- A region that draws its order; rg: for each operation the phases in which it may come, none for one that changes what is owned. -/
theorem AWP.regionM {id : Nat} {l : List Oper} {s : St} (rg : List (Option (Nat × Nat))) (us : List V) (hm : P.follows .mixedOrders = true) (ok : okM n l rg = true)
    (h : runM P l.toArray (l.zip rg) (s.fr.map fun e => (e.1, 0, e.2)) [] [s.L] us [] (fun fr ks Ls => ∀ bs, Q .normal (St.opn bs ⟨frAt ks ks.length fr, Ls.getD ks.length []⟩))) : AWP P n (.region id l.toArray true) s Q :=
  AWP.opened (AWP.regionM0 rg us hm ok h)

attribute [simp] St.opn runM lv qv cv qAt dAll allP killOf frAt killR kO putM delM loudM
end
end Go.Ab
