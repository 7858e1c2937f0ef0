/-
  The engine, part M: regions that draw their order, with operations that change what is owned: these come in one order; the others serve in each of the phases between them.
-/
import Derived.Test.YticchnalleplcaaAbN
set_option linter.unusedSimpArgs false
set_option linter.unusedVariables false
namespace Go.Ab

section
variable {P : Program} {n : Nat} {Q : AX → St → Prop}

/-- What a loud operation does, whatever else the frame holds. -/
def LOp (P : Program) (n : Nat) (ops : Array Oper) (o : Oper) (fr : List (Nat × V)) (L : Heap) (k : Option Nat) (x : V) (L' : Heap) : Prop :=
  ∀ fr2, (∀ t, t ∈ o.looksAt ops → getF t fr2 = getF t fr) → ∀ fo m a w, G fo n m ⟨fr2, L⟩ a w →
    (Region.wanted o (yielded ops a.tmps) = true ∧ ∀ (next : Act → World → Prop) (Q' : Exit → Act → World → Prop),
      (∀ v w' m', RelV w' (OO fo m') m' v x → G fo n m' ⟨killO k fr2, L'⟩ a w' → Step w (own m) w' (own m') → next (a.put o.dst v) w') → o.wp P a w next Q') ∨
    (Region.wanted o (yielded ops a.tmps) = false ∧ k = none ∧ L' = L ∧ RelV w (OO fo m) m undef x)

theorem LOp.run {o : Oper} {fo : Nat → Prop} {m m' : Nat → Option Value} {a : Act} {w w' : World} {x : V} {s' : St} {nx : Next} {v : Value} (hrun : (execOp a.eval o).run P w = .ok nx w') (hnx : nx = .value v ∨ (nx = .skip ∧ v = undef))
    (hr : RelV w' (OO fo m') m' v x) (g' : G fo n m' s' a w') (st : Step w (own m) w' (own m')) (next : Act → World → Prop) (Q' : Exit → Act → World → Prop)
    (k : ∀ v w' m', RelV w' (OO fo m') m' v x → G fo n m' s' a w' → Step w (own m) w' (own m') → next (a.put o.dst v) w') : o.wp P a w next Q' := by
  have := k v w' m' hr g' st
  unfold Oper.wp
  rw [hrun]
  rcases hnx with rfl | ⟨rfl, rfl⟩
  · exact this
  · exact this

/-- A loud operation as a function: its value, the handle that is renewed, the resources behind it, the condition. -/
def lv (P : Program) (ops : Array Oper) (s : St) (o : Oper) : Option (V × Option Nat × Heap × Prop) :=
  match guardV ops s o with
  | some none => match stepL P s o 0 with
    | some (x, s', c) => some (x, killOf s o, s'.L, loudM o = true ∧ c)
    | none => none
  | some (some true) => match stepL P (unO s o) o 0 with
    | some (x, s', c) => some (.gd true x, killOf (unO s o) o, s'.L, loudM o = true ∧ uncs s o.op.operands.toList ∧ c)
    | none => none
  | some (some false) => some (.gd false .any, none, s.L, True)
  | none => none

theorem killOf_congr {s s2 : St} {o : Oper} (he : ∀ z, z ∈ o.op.operands → s2.ev z = s.ev z) : killOf s2 o = killOf s o := by
  obtain ⟨dst, op, ty, pos, after, guard⟩ := o
  unfold killOf
  cases op <;> try rfl
  · rename_i t x lo hi mx
    cases mx with
    | none => simp only; rw [he x (by simp [Op.operands])]
    | some _ => rfl
  · rename_i c
    simp only
    split
    · rename_i so xo h1
      rw [he so (by simp only [Op.operands, Call.operands, Array.mem_append]; right; rw [← Array.mem_toList_iff, h1]; simp)]
    · rfl

theorem LOp.of {ops : Array Oper} {o : Oper} {s : St} {x : V} {k : Option Nat} {L' : Heap} {c : Prop} (h : lv P ops s o = some (x, k, L', c)) (hc : c) : LOp P n ops o s.fr s.L k x L' := by
  intro fr2 he fo m a w g
  have he' : ∀ z, z ∈ o.op.operands → St.ev ⟨fr2, s.L⟩ z = s.ev z := by
    intro z hz
    cases z with
    | tmp t => exact he t (looks_operand hz)
    | const v => rfl
    | global g => rfl
    | func f => rfl
  have hs : ∀ t, t ∈ o.looksAt ops → RelV w (OO fo m) m (a.tmps.getD t undef) (s.get t) := by
    intro t ht
    have := get_rel g t
    unfold St.get at this ⊢
    rw [← he t ht]; exact this
  unfold lv at h
  split at h
  · rename_i hg
    split at h
    · rename_i x' s' c' hst
      simp only [Option.some.injEq, Prod.mk.injEq] at h
      obtain ⟨rfl, rfl, rfl, rfl⟩ := h
      obtain ⟨nx, v, w', m', x1, s1, hrun, hnx, ⟨rfl, rfl⟩, hr, g', st⟩ := stepL_sound0 (n := n) (stepL_frame hc.1 hst fr2 he') hc.2 fo m a w g
      exact .inl ⟨by simp [Region.wanted, guardV_none hg], LOp.run hrun hnx hr g' st⟩
    · cases h
  · rename_i hg
    split at h
    · rename_i x' s' c' hst
      simp only [Option.some.injEq, Prod.mk.injEq] at h
      obtain ⟨rfl, rfl, rfl, rfl⟩ := h
      obtain ⟨hm, hu, hc⟩ := hc
      -- the same in the frame that stands
      have hget : ∀ t, t ∈ opSlots o → St.get ⟨fr2, s.L⟩ t = s.get t := by
        intro t ht
        obtain ⟨z, hz, hze⟩ := List.mem_filterMap.1 ht
        have hzt : z = .tmp t := by
          cases z with
          | tmp u => simp only [Option.some.injEq] at hze; rw [hze]
          | _ => simp at hze
        subst hzt
        exact he' _ (by simpa using hz)
      have hE : unE ⟨fr2, s.L⟩ o = unE s o := by
        unfold unE
        have : ∀ l : List Nat, (∀ t ∈ l, St.get ⟨fr2, s.L⟩ t = s.get t) → (l.filterMap fun t => match St.get ⟨fr2, s.L⟩ t with | .gd _ x => some (t, x) | _ => none) = l.filterMap fun t => match s.get t with | .gd _ x => some (t, x) | _ => none := by
          intro l
          induction l with
          | nil => intro _; rfl
          | cons t l ih =>
            intro hl
            simp only [List.filterMap_cons]
            rw [hl t List.mem_cons_self, ih (fun t ht => hl t (List.mem_cons_of_mem _ ht))]
        exact this _ hget
      have hu2 : uncs ⟨fr2, s.L⟩ o.op.operands.toList := by
        have : ∀ l : List Operand, (∀ z ∈ l, St.ev ⟨fr2, s.L⟩ z = s.ev z) → uncs s l → uncs ⟨fr2, s.L⟩ l := by
          intro l
          induction l with
          | nil => intro _ _; trivial
          | cons z l ih =>
            intro hl h
            exact ⟨by rw [hl z List.mem_cons_self]; exact h.1, ih (fun z hz => hl z (List.mem_cons_of_mem _ hz)) h.2⟩
        exact this _ (fun z hz => he' z (by simpa using hz)) hu
      have he2 : ∀ z, z ∈ o.op.operands → St.ev ⟨unE s o ++ fr2, s.L⟩ z = (unO s o).ev z := by
        intro z hz
        cases z with
        | const v => rfl
        | global g => rfl
        | func f => rfl
        | tmp t =>
          have ht := he t (looks_operand hz)
          show getF t (unE s o ++ fr2) = getF t (unE s o ++ s.fr)
          generalize unE s o = l
          induction l with
          | nil => exact ht
          | cons p l ih =>
            obtain ⟨q, y⟩ := p
            simp only [List.cons_append, getF]
            split
            · rfl
            · exact ih
      have g2 : G fo n m ⟨unE s o ++ fr2, s.L⟩ a w := by
        have := g.unO hu2
        unfold unO at this
        rw [hE] at this
        exact this
      obtain ⟨nx, v, w', m', x1, s1, hrun, hnx, ⟨rfl, rfl⟩, hr, g', st⟩ := stepL_sound0 (n := n) (stepL_frame hm hst (unE s o ++ fr2) he2) hc fo m a w g2
      refine .inl ⟨guard_wanted' hs hg, LOp.run (s' := ⟨killO (killOf (unO s o) o) fr2, s'.L⟩) hrun hnx (.gt _ _ hr) ⟨g'.size, fun t y hy => g'.fr t y ?_, g'.inv, g'.defers⟩ st⟩
      unfold killO at hy ⊢
      obtain ⟨p, hp, hpe⟩ := List.mem_map.1 hy
      exact List.mem_map.2 ⟨p, List.mem_append_right _ hp, hpe⟩
    · cases h
  · rename_i hg
    simp only [Option.some.injEq, Prod.mk.injEq] at h
    obtain ⟨rfl, rfl, rfl, rfl⟩ := h
    exact .inr ⟨guard_wanted' hs hg, rfl, rfl, .gf _⟩
  · cases h

/-! ### Frames with births -/

abbrev FrM := List (Nat × Nat × V)

/-- A call that is given resources, as an operation of a region that draws: its boxes stay; the one row among them has the handle r. -/
theorem LOp.call {ops : Array Oper} {o : Oper} {s : St} {c : Call} {f : FuncId} {args : List V} {L1 L1' : Heap} {x : V} (r : Nat) (hs : List Nat) (hop : o.op = .call c) (h : ACalls P f args L1 (fun r L => r = .ret x ∧ L = L1')) (hc : callee s.ev c = some (f, args)) (hg : o.guard = none)
    (he : enters P f = true) (hL : s.L.filter (fun p => hs.contains p.1) = L1)
    (ho : V.ons (keys L1) args = true ∧ L1.all (fun p => Res.on (keys L1) p.2) = true ∧ L1.all (fun p => (match p.2 with | .box (_ + 1) _ _ => true | _ => p.1 == r)) = true)
    (hb : ∀ k b ty cs, (k, Res.box (b + 1) ty cs) ∈ L1 → ∃ ty' cs', (k, Res.box (b + 1) ty' cs') ∈ L1')
    (hL2 : (s.L.filter fun p => !hs.contains p.1).all (fun p => Res.on (keys (s.L.filter fun p => !hs.contains p.1) ++ (L1.filterMap fun p => match p.2 with | .box (_ + 1) _ _ => some p.1 | _ => none)) p.2) = true)
    (hk : ∀ k ∈ keys L1', k ∉ keys (s.L.filter fun p => !hs.contains p.1)) :
    LOp P n ops o s.fr s.L (some r) x (L1' ++ s.L.filter fun p => !hs.contains p.1) := by
  intro fr2 hlook fo m a w g
  have he' : ∀ z, z ∈ o.op.operands → St.ev ⟨fr2, s.L⟩ z = s.ev z := by
    intro z hz
    cases z with
    | tmp t => exact hlook t (looks_operand hz)
    | const v => rfl
    | global g => rfl
    | func f => rfl
  have hperm : s.L.Perm (L1 ++ s.L.filter fun p => !hs.contains p.1) := by subst hL; exact (List.filter_append_perm _ s.L).symm
  refine .inl ⟨by simp [Region.wanted, hg], fun next Q' kk => ?_⟩
  refine call_core (s := ⟨fr2, s.L⟩) hop ?_ he ho.1 hperm ho.2.1 (fun p hp => List.all_eq_true.1 hL2 p hp) h ?_ g fun x' L1'' mm v w' hR hrx hinv stt hbx hkeep hO' => ?_
  · rw [← hc]
    unfold callee
    cases hcal : c.callee with
    | value fo =>
      simp only
      rw [he' fo (by rw [hop]; simp [Op.operands, Call.operands, hcal])]
      have : c.args.toList.map (St.ev ⟨fr2, s.L⟩) = c.args.toList.map s.ev := by
        apply List.map_congr_left
        intro z hz
        exact he' z (by rw [hop]; simp only [Op.operands, Call.operands, Array.mem_append]; right; exact Array.mem_toList_iff.1 hz)
      rw [this]
    | _ => rfl
  · rintro r' L1'' ⟨rfl, rfl⟩
    exact ⟨⟨_, rfl⟩, hk, hb⟩
  · obtain ⟨e, rfl⟩ := hR
    obtain rfl := AE.ret.inj e
    refine kk v w' mm hrx ⟨g.size, fun t y hy => ?_, hinv, g.defers⟩ stt
    unfold killO at hy
    obtain ⟨p, hp, hpe⟩ := List.mem_map.1 hy
    simp only [Prod.mk.injEq] at hpe
    obtain ⟨rfl, rfl⟩ := hpe
    obtain ⟨q1, q2⟩ := g.fr p.1 p.2 hp
    refine ⟨q1, (RelV.kill (m' := mm) (h := r) (fun i y hne hi => hbx i y ?_ hi) q2).mono hkeep hO' (fun _ _ e => e)⟩
    have hkey : i ∈ keys s.L := g.inv.dom i y hi
    obtain ⟨⟨i', res⟩, hmem, rfl⟩ := List.mem_map.1 hkey
    rcases List.mem_append.1 (hperm.mem_iff.1 hmem) with hm | hm
    · refine List.mem_append_right _ (List.mem_filterMap.2 ⟨_, hm, ?_⟩)
      have := List.all_eq_true.1 ho.2.2 _ hm
      cases res with
      | row _ _ _ => simp at this; exact (hne this).elim
      | box b _ _ =>
        cases b with
        | zero => simp at this; exact (hne this).elim
        | succ b => rfl
    · exact List.mem_append_left _ (List.mem_map.2 ⟨_, hm, rfl⟩)

def killR (ks : List (Option Nat)) (β p : Nat) (x : V) : V := ((ks.take p).drop β).foldl (fun x k => kO k x) x
def frAt (ks : List (Option Nat)) (p : Nat) (fr : FrM) : List (Nat × V) := fr.map fun e => (e.1, killR ks e.2.1 p e.2.2)
def getM (t : Nat) : FrM → Nat × V
  | [] => (0, .any)
  | (k, b, x) :: l => if k = t then (b, x) else getM t l
def delM (t : Nat) : FrM → FrM
  | [] => []
  | (k, b, x) :: l => if k = t then delM t l else (k, b, x) :: delM t l
def putM (fr : FrM) (t : Option Nat) (β : Nat) (x : V) : FrM :=
  match t with
  | none => fr
  | some t => (t, β, x) :: delM t fr

theorem killR_any (ks : List (Option Nat)) (β p : Nat) : killR ks β p .any = .any := by
  unfold killR
  generalize (ks.take p).drop β = l
  induction l with
  | nil => rfl
  | cons k l ih => rw [List.foldl_cons, show kO k .any = .any by cases k <;> rfl]; exact ih

theorem getF_frAt (ks : List (Option Nat)) (p t : Nat) : ∀ fr : FrM, getF t (frAt ks p fr) = killR ks (getM t fr).1 p (getM t fr).2
  | [] => (killR_any ks 0 p).symm
  | (k, b, x) :: l => by
    simp only [frAt, List.map_cons, getF, getM]
    split
    · rfl
    · exact getF_frAt ks p t l

theorem killR_succ {ks : List (Option Nat)} {β p : Nat} (hb : β ≤ p) (hp : p < ks.length) (x : V) : killR ks β (p + 1) x = kO (ks.getD p none) (killR ks β p x) := by
  unfold killR
  have e : ks.take (p + 1) = ks.take p ++ [ks.getD p none] := by
    rw [List.take_add_one, List.getElem?_eq_getElem hp]
    simp [List.getD_eq_getElem?_getD, List.getElem?_eq_getElem hp]
  rw [e, List.drop_append_of_le_length (by rw [List.length_take]; omega), List.foldl_append]
  rfl

theorem killR_self {ks : List (Option Nat)} {β p : Nat} (h : p ≤ β) (x : V) : killR ks β p x = x := by
  unfold killR
  rw [List.drop_eq_nil_of_le (by rw [List.length_take]; omega)]
  rfl

theorem killR_pre {ks ks' : List (Option Nat)} {β p : Nat} (h : p ≤ ks.length) (x : V) : killR (ks ++ ks') β p x = killR ks β p x := by
  unfold killR
  rw [List.take_append_of_le_length h]

theorem frAt_pre {ks ks' : List (Option Nat)} {p : Nat} (h : p ≤ ks.length) (fr : FrM) : frAt (ks ++ ks') p fr = frAt ks p fr := by
  unfold frAt
  apply List.map_congr_left
  intro e _
  rw [killR_pre h]

theorem getM_delM {t d : Nat} (h : t ≠ d) : ∀ l : FrM, getM t (delM d l) = getM t l
  | [] => rfl
  | (k, b, x) :: l => by
    rw [delM, getM]
    split
    · rename_i hk; subst hk; rw [if_neg (fun e => h e.symm)]; exact getM_delM h l
    · rw [getM, getM_delM h l]

theorem getM_put {fr : FrM} {o : Option Nat} {β : Nat} {x : V} {t : Nat} (h : o ≠ some t) : getM t (putM fr o β x) = getM t fr := by
  cases o with
  | none => rfl
  | some d =>
    have hne : t ≠ d := fun e => h (by rw [e])
    simp only [putM, getM]
    rw [if_neg (fun e => hne e.symm), getM_delM hne]

theorem getM_put_same {fr : FrM} {β : Nat} {x : V} {t : Nat} : getM t (putM fr (some t) β x) = (β, x) := by simp [putM, getM]

theorem mem_delM {t : Nat} {p : Nat × Nat × V} : ∀ {l : FrM}, p ∈ delM t l → p ∈ l ∧ p.1 ≠ t
  | [], h => by cases h
  | (k, b, x) :: l, h => by
    rw [delM] at h
    split at h
    · have := mem_delM h; exact ⟨List.mem_cons_of_mem _ this.1, this.2⟩
    · rename_i hk
      rcases List.mem_cons.1 h with rfl | h
      · exact ⟨List.mem_cons_self, hk⟩
      · have := mem_delM h; exact ⟨List.mem_cons_of_mem _ this.1, this.2⟩

theorem mem_putM {fr : FrM} {d : Option Nat} {β : Nat} {x : V} {p : Nat × Nat × V} (h : p ∈ putM fr d β x) : (d = some p.1 ∧ p.2 = (β, x)) ∨ (p ∈ fr ∧ d ≠ some p.1) := by
  cases d with
  | none => exact .inr ⟨h, by simp⟩
  | some d =>
    simp only [putM, List.mem_cons] at h
    rcases h with rfl | h
    · exact .inl ⟨rfl, rfl⟩
    · obtain ⟨h1, h2⟩ := mem_delM h
      exact .inr ⟨h1, fun e => h2 (Option.some.inj e).symm⟩

/-! ### The run in the text's order -/

structure Rec where
  fr : FrM
  x : V
  lo : Nat
  hi : Nat
  loud : Bool
  q : Nat

def Rec.birth (r : Rec) : Nat := if r.loud then r.q + 1 else r.lo

/-- The records of a run in the text's order. -/
inductive TrM : List (Oper × Option (Nat × Nat)) → FrM → Nat → List Rec → FrM → Nat → Prop
  | nil (fr : FrM) (q : Nat) : TrM [] fr q [] fr q
  | quiet {o : Oper} {rest : List (Oper × Option (Nat × Nat))} {fr : FrM} {q : Nat} {x : V} {lo hi : Nat} {l : List Rec} {fr' : FrM} {q' : Nat} (k : TrM rest (putM fr o.dst lo x) q l fr' q') :
      TrM ((o, some (lo, hi)) :: rest) fr q (⟨fr, x, lo, hi, false, q⟩ :: l) fr' q'
  | loud {o : Oper} {rest : List (Oper × Option (Nat × Nat))} {fr : FrM} {q : Nat} {x : V} {l : List Rec} {fr' : FrM} {q' : Nat} (k : TrM rest (putM fr o.dst (q + 1) x) (q + 1) l fr' q') :
      TrM ((o, none) :: rest) fr q (⟨fr, x, 0, 0, true, q⟩ :: l) fr' q'

theorem TrM.len {l : List (Oper × Option (Nat × Nat))} {fr fr' : FrM} {q q' : Nat} {tr : List Rec} (h : TrM l fr q tr fr' q') : tr.length = l.length := by
  induction h with
  | nil => rfl
  | quiet k ih => simp [ih]
  | loud k ih => simp [ih]

theorem TrM.get_old {l : List (Oper × Option (Nat × Nat))} {fr fr' : FrM} {q q' : Nat} {tr : List Rec} (h : TrM l fr q tr fr' q') (t : Nat) : ∀ (i : Nat) (r : Rec), tr[i]? = some r →
    (∀ (j : Nat) (o : Oper × Option (Nat × Nat)), j < i → l[j]? = some o → o.1.dst ≠ some t) → getM t r.fr = getM t fr := by
  induction h with
  | nil => intro i r h; simp at h
  | @quiet o rest fr q x lo hi l fr' q' k ih =>
    intro i r hi hn
    cases i with
    | zero => simp only [List.getElem?_cons_zero, Option.some.injEq] at hi; subst hi; rfl
    | succ i =>
      simp only [List.getElem?_cons_succ] at hi
      rw [ih i r hi (fun j o' hj ho => hn (j + 1) o' (by omega) (by simpa using ho)), getM_put (hn 0 _ (by omega) rfl)]
  | @loud o rest fr q x l fr' q' k ih =>
    intro i r hi hn
    cases i with
    | zero => simp only [List.getElem?_cons_zero, Option.some.injEq] at hi; subst hi; rfl
    | succ i =>
      simp only [List.getElem?_cons_succ] at hi
      rw [ih i r hi (fun j o' hj ho => hn (j + 1) o' (by omega) (by simpa using ho)), getM_put (hn 0 _ (by omega) rfl)]

theorem TrM.get_new {l : List (Oper × Option (Nat × Nat))} {fr fr' : FrM} {q q' : Nat} {tr : List Rec} (h : TrM l fr q tr fr' q') (t : Nat) : ∀ (i j : Nat) (r rj : Rec) (o : Oper × Option (Nat × Nat)), tr[i]? = some r → j < i → tr[j]? = some rj → l[j]? = some o → o.1.dst = some t →
    (∀ (j' : Nat) (o' : Oper × Option (Nat × Nat)), j < j' → j' < i → l[j']? = some o' → o'.1.dst ≠ some t) → getM t r.fr = (rj.birth, rj.x) := by
  induction h with
  | nil => intro i j r rj o h; simp at h
  | @quiet o rest fr q x lo hi l fr' q' k ih =>
    intro i j r rj o' hi hji hj ho hd hn
    cases i with
    | zero => omega
    | succ i =>
      simp only [List.getElem?_cons_succ] at hi
      cases j with
      | zero =>
        simp only [List.getElem?_cons_zero, Option.some.injEq] at hj ho
        subst hj; subst ho
        rw [k.get_old t i r hi (fun j' o' hj' ho' => hn (j' + 1) o' (by omega) (by omega) (by simpa using ho'))]
        simp only at hd
        rw [hd]; exact getM_put_same
      | succ j =>
        simp only [List.getElem?_cons_succ] at hj ho
        exact ih i j r rj o' hi (by omega) hj ho hd (fun j' o'' h1 h2 h3 => hn (j' + 1) o'' (by omega) (by omega) (by simpa using h3))
  | @loud o rest fr q x l fr' q' k ih =>
    intro i j r rj o' hi hji hj ho hd hn
    cases i with
    | zero => omega
    | succ i =>
      simp only [List.getElem?_cons_succ] at hi
      cases j with
      | zero =>
        simp only [List.getElem?_cons_zero, Option.some.injEq] at hj ho
        subst hj; subst ho
        rw [k.get_old t i r hi (fun j' o' hj' ho' => hn (j' + 1) o' (by omega) (by omega) (by simpa using ho'))]
        simp only at hd
        rw [hd]; exact getM_put_same
      | succ j =>
        simp only [List.getElem?_cons_succ] at hj ho
        exact ih i j r rj o' hi (by omega) hj ho hd (fun j' o'' h1 h2 h3 => hn (j' + 1) o'' (by omega) (by omega) (by simpa using h3))

theorem TrM.mem {l : List (Oper × Option (Nat × Nat))} {fr fr' : FrM} {q q' : Nat} {tr : List Rec} (h : TrM l fr q tr fr' q') : ∀ p, p ∈ fr' →
    (∃ (j : Nat) (o : Oper × Option (Nat × Nat)) (rj : Rec), l[j]? = some o ∧ o.1.dst = some p.1 ∧ tr[j]? = some rj ∧ p.2 = (rj.birth, rj.x)) ∨ (p ∈ fr ∧ ∀ (j : Nat) (o : Oper × Option (Nat × Nat)), l[j]? = some o → o.1.dst ≠ some p.1) := by
  induction h with
  | nil => intro p hp; exact .inr ⟨hp, by simp⟩
  | @quiet o rest fr q x lo hi l fr' q' k ih =>
    intro p hp
    rcases ih p hp with ⟨j, o', rj, h1, h2, h3, h4⟩ | ⟨h1, h2⟩
    · exact .inl ⟨j + 1, o', rj, by simpa using h1, h2, by simpa using h3, h4⟩
    · rcases mem_putM h1 with ⟨hd, hx⟩ | ⟨h3, h4⟩
      · exact .inl ⟨0, _, _, rfl, hd, rfl, hx⟩
      · refine .inr ⟨h3, fun j o' hj => ?_⟩
        cases j with
        | zero => simp only [List.getElem?_cons_zero, Option.some.injEq] at hj; subst hj; exact h4
        | succ j => simp only [List.getElem?_cons_succ] at hj; exact h2 j o' hj
  | @loud o rest fr q x l fr' q' k ih =>
    intro p hp
    rcases ih p hp with ⟨j, o', rj, h1, h2, h3, h4⟩ | ⟨h1, h2⟩
    · exact .inl ⟨j + 1, o', rj, by simpa using h1, h2, by simpa using h3, h4⟩
    · rcases mem_putM h1 with ⟨hd, hx⟩ | ⟨h3, h4⟩
      · exact .inl ⟨0, _, _, rfl, hd, rfl, hx⟩
      · refine .inr ⟨h3, fun j o' hj => ?_⟩
        cases j with
        | zero => simp only [List.getElem?_cons_zero, Option.some.injEq] at hj; subst hj; exact h4
        | succ j => simp only [List.getElem?_cons_succ] at hj; exact h2 j o' hj

/-- What the record of an operation says of it. -/
def SemM (P : Program) (n : Nat) (ops : Array Oper) (ks : List (Option Nat)) (Ls : Nat → Heap) (r : Rec) (o : Oper) : Prop :=
  (r.loud = true → r.q < ks.length ∧ LOp P n ops o (frAt ks r.q r.fr) (Ls r.q) (ks.getD r.q none) r.x (Ls (r.q + 1))) ∧
  (r.loud = false → ∀ p, r.lo ≤ p → p ≤ r.hi → YOp P ops o ⟨frAt ks p r.fr, Ls p⟩ r.x)

/-! ### What is asked of the order -/

def addL (xs m : List Nat) : List Nat := xs.foldl (fun m x => if m.contains x then m else x :: m) m
def ancStep (acc : List (List Nat)) (o : Oper) : List Nat := o.after.toList.foldl (fun m e => if Region.binds .any e then addL (e.on :: acc.getD e.on []) m else m) []
def ancs : List Oper → List (List Nat) → List (List Nat)
  | [], acc => acc
  | o :: r, acc => ancs r (acc ++ [ancStep acc o])

def ancOk (l : List Oper) (anc : List (List Nat)) : Bool :=
  l.zipIdx.all fun (o, i) => (anc.getD i []).all fun j => o.after.toList.any fun e => Region.binds .any e && (e.on == j || (anc.getD e.on []).contains j)

def loudsOf (rg : List (Option (Nat × Nat))) : List Nat := rg.zipIdx.filterMap fun p => if p.1.isNone then some p.2 else none

def okGo (anc : List (List Nat)) (lds : List Nat) : List (Oper × Option (Nat × Nat)) → Nat → Nat → Bool
  | [], _, q => lds.length == q
  | (o, none) :: rest, i, q => (lds[q]? == some i) && ((lds.take q).all fun j => (anc.getD i []).contains j) && okGo anc lds rest (i + 1) (q + 1)
  | (_, some (lo, hi)) :: rest, i, q => decide (lo ≤ lds.length) && !lds.contains i && ((lds.take lo).all fun j => (anc.getD i []).contains j) && ((lds.drop hi).all fun j => (anc.getD j []).contains i) && okGo anc lds rest (i + 1) q

def okM (n : Nat) (l : List Oper) (rg : List (Option (Nat × Nat))) : Bool :=
  indep l && dstsOk n l && (rg.length == l.length) && decide (loudsOf rg).Nodup && ancOk l (ancs l []) && okGo (ancs l []) (loudsOf rg) (l.zip rg) 0 0 &&
    l.all fun o => (o.looksAt l.toArray).all fun t => decide (t < n)

theorem okGo_at {anc : List (List Nat)} {lds : List Nat} {l : List (Oper × Option (Nat × Nat))} {fr fr' : FrM} {q q' : Nat} {tr : List Rec} (h : TrM l fr q tr fr' q') : ∀ i0, okGo anc lds l i0 q = true → lds.length = q' ∧
    ∀ (i : Nat) (r : Rec) (o : Oper × Option (Nat × Nat)), tr[i]? = some r → l[i]? = some o →
      (r.loud = true → lds[r.q]? = some (i0 + i) ∧ (∀ j ∈ lds.take r.q, j ∈ anc.getD (i0 + i) [])) ∧
      (r.loud = false → r.lo ≤ lds.length ∧ i0 + i ∉ lds ∧ (∀ j ∈ lds.take r.lo, j ∈ anc.getD (i0 + i) []) ∧ ∀ j ∈ lds.drop r.hi, i0 + i ∈ anc.getD j []) := by
  induction h with
  | nil fr q =>
    intro i0 h
    simp only [okGo, beq_iff_eq] at h
    exact ⟨h, by simp⟩
  | @quiet o rest fr q x lo hi l fr' q' k ih =>
    intro i0 h
    simp only [okGo, Bool.and_eq_true, decide_eq_true_eq, Bool.not_eq_true', List.all_eq_true, List.contains_eq_mem, decide_eq_false_iff_not] at h
    obtain ⟨⟨⟨⟨h1, h2⟩, h3⟩, h4⟩, h5⟩ := h
    obtain ⟨g1, g2⟩ := ih (i0 + 1) h5
    refine ⟨g1, fun i r o' hr ho => ?_⟩
    cases i with
    | zero =>
      simp only [List.getElem?_cons_zero, Option.some.injEq] at hr ho
      subst hr
      exact ⟨(fun h => by cases h), fun _ => ⟨h1, h2, h3, h4⟩⟩
    | succ i =>
      have := g2 i r o' (by simpa using hr) (by simpa using ho)
      rw [show i0 + 1 + i = i0 + (i + 1) by omega] at this
      exact this
  | @loud o rest fr q x l fr' q' k ih =>
    intro i0 h
    simp only [okGo, Bool.and_eq_true, beq_iff_eq, List.all_eq_true, List.contains_eq_mem, decide_eq_true_eq] at h
    obtain ⟨⟨h1, h2⟩, h5⟩ := h
    obtain ⟨g1, g2⟩ := ih (i0 + 1) h5
    refine ⟨g1, fun i r o' hr ho => ?_⟩
    cases i with
    | zero =>
      simp only [List.getElem?_cons_zero, Option.some.injEq] at hr ho
      subst hr; subst ho
      exact ⟨fun _ => ⟨h1, h2⟩, (fun h => by cases h)⟩
    | succ i =>
      have := g2 i r o' (by simpa using hr) (by simpa using ho)
      rw [show i0 + 1 + i = i0 + (i + 1) by omega] at this
      exact this

theorem anc_listed {l : List Oper} {anc : List (List Nat)} (hin : indep l = true) (ha : ancOk l anc = true) {listed : Array Bool}
    (hcl : ∀ (j : Nat) (o : Oper), l[j]? = some o → listed.getD j false = true → ∀ e ∈ o.after, Region.binds .any e = true → listed.getD e.on false = true) :
    ∀ (i : Nat) (o : Oper), l[i]? = some o → (∀ e ∈ o.after, Region.binds .any e = true → listed.getD e.on false = true) → ∀ j ∈ anc.getD i [], listed.getD j false = true := by
  intro i
  induction i using Nat.strongRecOn with
  | _ i ih =>
    intro o hi hr j hj
    unfold ancOk at ha
    rw [List.all_eq_true] at ha
    have := ha (o, i) (by rw [List.mem_zipIdx_iff_getElem?]; exact hi)
    simp only [List.all_eq_true] at this
    have := this j hj
    rw [List.any_eq_true] at this
    obtain ⟨e, he, h⟩ := this
    simp only [Bool.and_eq_true, Bool.or_eq_true, beq_iff_eq, List.contains_eq_mem, decide_eq_true_eq] at h
    obtain ⟨hb, h⟩ := h
    have he' : e ∈ o.after := by simpa using he
    have hle := hr e he' hb
    rcases h with rfl | h
    · exact hle
    · have hlt := (indep_at hin hi).2.1 e he' hb
      have hel : e.on < l.length := by have := (List.getElem?_eq_some_iff.1 hi).1; omega
      exact ih e.on hlt l[e.on] (List.getElem?_eq_getElem hel) (fun e' he' hb' => hcl e.on _ (List.getElem?_eq_getElem hel) hle e' he' hb') j h

end
end Go.Ab
