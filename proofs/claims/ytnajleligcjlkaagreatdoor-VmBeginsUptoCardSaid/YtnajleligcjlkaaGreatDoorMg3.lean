/-
  The texts M O L R2 Fz Y Z V T, one behind the other.
-/
import Derived.Test.YtnajleligcjlkaaGreatDoorMg2
import Derived.ChangeShapes
import Derived.DataReads
import Derived.SizedLaws
import Derived.Carry
import Derived.OpenShut
import Derived.ChangeOld
import Derived.JoinedCond
import Derived.Deep.CondSized
import Derived.Test.YtnajleligcjlkaaGreatDoorProg
import Derived.KernelRfl
set_option linter.unusedSimpArgs false
set_option linter.unusedVariables false
namespace Go.Ab
section
variable {P : Program} {n : Nat} {Q : AX → St → Prop}
def LOp (P : Program) (n : Nat) (ops : Array Oper) (o : Oper) (fr : List (Nat × V)) (L : Heap) (k : Option Nat) (x : V) (L' : Heap) : Prop :=
  ∀ fr2, (∀ t, t ∈ o.looksAt ops → getF t fr2 = getF t fr) → ∀ fo m a w, G fo n m ⟨fr2, L⟩ a w →
    (Region.wanted o (yielded ops a.tmps) = true ∧ ∀ (next : Act → World → Prop) (Q' : Exit → Act → World → Prop),
      (∀ v w' m', RelV w' (OO fo m') m' v x → G fo n m' ⟨killO k fr2, L'⟩ a w' → Step w (own m) w' (own m') → next (a.put o.dst v) w') → o.wpIn (wr fo.r) 0 P a w next Q') ∨
    (Region.wanted o (yielded ops a.tmps) = false ∧ k = none ∧ L' = L ∧ RelV w (OO fo m) m undef x)
theorem LOp.run {o : Oper} {fo : FO} {m m' : Nat → Option Value} {a : Act} {w w' : World} {x : V} {s' : St} {nx : Next} {v : Value} (hrun : (execOp a.eval o).run P w = .ok nx w') (hnx : nx = .value v ∨ (nx = .skip ∧ v = undef))
    (hr : RelV w' (OO fo m') m' v x) (g' : G fo n m' s' a w') (st : Step w (own m) w' (own m')) (next : Act → World → Prop) (Q' : Exit → Act → World → Prop)
    (k : ∀ v w' m', RelV w' (OO fo m') m' v x → G fo n m' s' a w' → Step w (own m) w' (own m') → next (a.put o.dst v) w') : o.wpIn (wr fo.r) 0 P a w next Q' := by
  have := k v w' m' hr g' st
  exact owp_val hrun hnx this
def lv (P : Program) (ops : Array Oper) (s : St) (o : Oper) : Option (V × Option Nat × Heap × Prop) :=
  match guardV ops s o with
  | some none => match stepL P s o 0 with
    | some (x, s', c) => some (x, killOf s o, s'.L, loudM o = true ∧ c)
    | none => none
  | some (some true) => match stepL P (unO s o) o 0 with
    | some (x, s', c) => some (.gd true x, killOf (unO s o) o, s'.L, loudM o = true ∧ uncs s o.op.operands.toList ∧ c)
    | none => none
  | some (some false) => some (.gd false .any, none, s.L, True)
  | none => none
theorem LOp.of {ops : Array Oper} {o : Oper} {s : St} {x : V} {k : Option Nat} {L' : Heap} {c : Prop} (h : lv P ops s o = some (x, k, L', c)) (hc : c) : LOp P n ops o s.fr s.L k x L' := by
  intro fr2 he fo m a w g
  have he' : ∀ z, z ∈ o.op.operands → St.ev ⟨fr2, s.L⟩ z = s.ev z := by
    intro z hz
    cases z with
    | tmp t => exact he t (looks_operand hz)
    | const v => rfl
    | global g => rfl
    | func f => rfl
  have hs : ∀ t, t ∈ o.looksAt ops → RelV w (OO fo m) m (a.tmps.getD t undef) (s.get t) := by
    intro t ht
    have := get_rel g t
    unfold St.get at this ⊢
    rw [← he t ht]; exact this
  unfold lv at h
  split at h
  · rename_i hg
    split at h
    · rename_i x' s' c' hst
      simp only [Option.some.injEq, Prod.mk.injEq] at h
      obtain ⟨rfl, rfl, rfl, rfl⟩ := h
      obtain ⟨nx, v, w', m', x1, s1, hrun, hnx, ⟨rfl, rfl⟩, hr, g', st⟩ := stepL_sound0 (n := n) (stepL_frame hc.1 hst fr2 he') hc.2 fo m a w g
      exact .inl ⟨by simp [Region.wanted, guardV_none hg], LOp.run hrun hnx hr g' st⟩
    · cases h
  · rename_i hg
    split at h
    · rename_i x' s' c' hst
      simp only [Option.some.injEq, Prod.mk.injEq] at h
      obtain ⟨rfl, rfl, rfl, rfl⟩ := h
      obtain ⟨hm, hu, hc⟩ := hc
      have hget : ∀ t, t ∈ opSlots o → St.get ⟨fr2, s.L⟩ t = s.get t := by
        intro t ht
        obtain ⟨z, hz, hze⟩ := List.mem_filterMap.1 ht
        have hzt : z = .tmp t := by
          cases z with
          | tmp u => simp only [Option.some.injEq] at hze; rw [hze]
          | _ => simp at hze
        subst hzt
        exact he' _ (by simpa using hz)
      have hE : unE ⟨fr2, s.L⟩ o = unE s o := by
        unfold unE
        have : ∀ l : List Nat, (∀ t ∈ l, St.get ⟨fr2, s.L⟩ t = s.get t) → (l.filterMap fun t => match St.get ⟨fr2, s.L⟩ t with | .gd _ x => some (t, x) | _ => none) = l.filterMap fun t => match s.get t with | .gd _ x => some (t, x) | _ => none := by
          intro l
          induction l with
          | nil => intro _; rfl
          | cons t l ih =>
            intro hl
            simp only [List.filterMap_cons]
            rw [hl t List.mem_cons_self, ih (fun t ht => hl t (List.mem_cons_of_mem _ ht))]
        exact this _ hget
      have hu2 : uncs ⟨fr2, s.L⟩ o.op.operands.toList := by
        have : ∀ l : List Operand, (∀ z ∈ l, St.ev ⟨fr2, s.L⟩ z = s.ev z) → uncs s l → uncs ⟨fr2, s.L⟩ l := by
          intro l
          induction l with
          | nil => intro _ _; trivial
          | cons z l ih =>
            intro hl h
            exact ⟨by rw [hl z List.mem_cons_self]; exact h.1, ih (fun z hz => hl z (List.mem_cons_of_mem _ hz)) h.2⟩
        exact this _ (fun z hz => he' z (by simpa using hz)) hu
      have he2 : ∀ z, z ∈ o.op.operands → St.ev ⟨unE s o ++ fr2, s.L⟩ z = (unO s o).ev z := by
        intro z hz
        cases z with
        | const v => rfl
        | global g => rfl
        | func f => rfl
        | tmp t =>
          have ht := he t (looks_operand hz)
          show getF t (unE s o ++ fr2) = getF t (unE s o ++ s.fr)
          generalize unE s o = l
          induction l with
          | nil => exact ht
          | cons p l ih =>
            obtain ⟨q, y⟩ := p
            simp only [List.cons_append, getF]
            split
            · rfl
            · exact ih
      have g2 : G fo n m ⟨unE s o ++ fr2, s.L⟩ a w := by
        have := g.unO hu2
        unfold unO at this
        rw [hE] at this
        exact this
      obtain ⟨nx, v, w', m', x1, s1, hrun, hnx, ⟨rfl, rfl⟩, hr, g', st⟩ := stepL_sound0 (n := n) (stepL_frame hm hst (unE s o ++ fr2) he2) hc fo m a w g2
      refine .inl ⟨guard_wanted' hs hg, LOp.run (s' := ⟨killO (killOf (unO s o) o) fr2, s'.L⟩) hrun hnx (.gt _ _ hr) ⟨g'.size, fun t y hy => g'.fr t y ?_, g'.inv, g'.defers⟩ st⟩
      unfold killO at hy ⊢
      obtain ⟨p, hp, hpe⟩ := List.mem_map.1 hy
      exact List.mem_map.2 ⟨p, List.mem_append_right _ hp, hpe⟩
    · cases h
  · rename_i hg
    simp only [Option.some.injEq, Prod.mk.injEq] at h
    obtain ⟨rfl, rfl, rfl, rfl⟩ := h
    exact .inr ⟨guard_wanted' hs hg, rfl, rfl, .gf _⟩
  · cases h
abbrev FrM := List (Nat × Nat × V)
theorem LOp.call {ops : Array Oper} {o : Oper} {s : St} {c : Call} {f : FuncId} {args : List V} {L1 L1' : Heap} {x : V} (r : Nat) (hs : List Nat) (hop : o.op = .call c) (h : ACalls P f args L1 (fun r L => r = .ret x ∧ L = L1')) (hc : callee s.ev c = some (f, args)) (hg : o.guard = none)
    (he : enters P f = true) (hL : s.L.filter (fun p => hs.contains p.1) = L1)
    (ho : V.ons (keys L1) args = true ∧ L1.all (fun p => Res.on (keys L1) p.2) = true ∧ L1.all (fun p => (match p.2 with | .box (_ + 1) _ _ => true | _ => p.1 == r)) = true)
    (hb : ∀ k b ty cs, (k, Res.box (b + 1) ty cs) ∈ L1 → ∃ ty' cs', (k, Res.box (b + 1) ty' cs') ∈ L1')
    (hL2 : (s.L.filter fun p => !hs.contains p.1).all (fun p => Res.on (keys (s.L.filter fun p => !hs.contains p.1) ++ (L1.filterMap fun p => match p.2 with | .box (_ + 1) _ _ => some p.1 | _ => none)) p.2) = true)
    (hk : ∀ k ∈ keys L1', k ∉ keys (s.L.filter fun p => !hs.contains p.1)) :
    LOp P n ops o s.fr s.L (some r) x (L1' ++ s.L.filter fun p => !hs.contains p.1) := by
  intro fr2 hlook fo m a w g
  have he' : ∀ z, z ∈ o.op.operands → St.ev ⟨fr2, s.L⟩ z = s.ev z := by
    intro z hz
    cases z with
    | tmp t => exact hlook t (looks_operand hz)
    | const v => rfl
    | global g => rfl
    | func f => rfl
  have hperm : s.L.Perm (L1 ++ s.L.filter fun p => !hs.contains p.1) := by subst hL; exact (List.filter_append_perm _ s.L).symm
  refine .inl ⟨by simp [Region.wanted, hg], fun next Q' kk => ?_⟩
  refine call_core (s := ⟨fr2, s.L⟩) hop ?_ he ho.1 hperm ho.2.1 (fun p hp => List.all_eq_true.1 hL2 p hp) h ?_ g fun x' L1'' mm v w' hR hrx hinv stt hbx hkeep hO' => ?_
  · rw [← hc]
    unfold callee
    cases hcal : c.callee with
    | value fo =>
      simp only
      rw [he' fo (by rw [hop]; simp [Op.operands, Call.operands, hcal])]
      have : c.args.toList.map (St.ev ⟨fr2, s.L⟩) = c.args.toList.map s.ev := by
        apply List.map_congr_left
        intro z hz
        exact he' z (by rw [hop]; simp only [Op.operands, Call.operands, Array.mem_append]; right; exact Array.mem_toList_iff.1 hz)
      rw [this]
    | _ => rfl
  · rintro r' L1'' ⟨rfl, rfl⟩
    exact ⟨⟨_, rfl⟩, hk, hb⟩
  · obtain ⟨e, rfl⟩ := hR
    obtain rfl := AE.ret.inj e
    refine kk v w' mm hrx ⟨g.size, fun t y hy => ?_, hinv, g.defers⟩ stt
    unfold killO at hy
    obtain ⟨p, hp, hpe⟩ := List.mem_map.1 hy
    simp only [Prod.mk.injEq] at hpe
    obtain ⟨rfl, rfl⟩ := hpe
    obtain ⟨q1, q2⟩ := g.fr p.1 p.2 hp
    refine ⟨q1, (RelV.kill (m' := mm) (h := r) (fun i y hne hi => hbx i y ?_ hi) q2).mono hkeep hO' (fun _ _ e => e)⟩
    have hkey : i ∈ keys s.L := g.inv.dom i y hi
    obtain ⟨⟨i', res⟩, hmem, rfl⟩ := List.mem_map.1 hkey
    rcases List.mem_append.1 (hperm.mem_iff.1 hmem) with hm | hm
    · refine List.mem_append_right _ (List.mem_filterMap.2 ⟨_, hm, ?_⟩)
      have := List.all_eq_true.1 ho.2.2 _ hm
      cases res with
      | row _ _ _ => simp at this; exact (hne this).elim
      | env _ => simp at this; exact (hne this).elim
      | mp _ => simp at this; exact (hne this).elim
      | box b _ _ =>
        cases b with
        | zero => simp at this; exact (hne this).elim
        | succ b => rfl
    · exact List.mem_append_left _ (List.mem_map.2 ⟨_, hm, rfl⟩)
def killR (ks : List (Option Nat)) (β p : Nat) (x : V) : V := ((ks.take p).drop β).foldl (fun x k => kO k x) x
def frAt (ks : List (Option Nat)) (p : Nat) (fr : FrM) : List (Nat × V) := fr.map fun e => (e.1, killR ks e.2.1 p e.2.2)
def getM (t : Nat) : FrM → Nat × V
  | [] => (0, .any)
  | (k, b, x) :: l => if k = t then (b, x) else getM t l
def delM (t : Nat) : FrM → FrM
  | [] => []
  | (k, b, x) :: l => if k = t then delM t l else (k, b, x) :: delM t l
def putM (fr : FrM) (t : Option Nat) (β : Nat) (x : V) : FrM :=
  match t with
  | none => fr
  | some t => (t, β, x) :: delM t fr
theorem killR_any (ks : List (Option Nat)) (β p : Nat) : killR ks β p .any = .any := by
  unfold killR
  generalize (ks.take p).drop β = l
  induction l with
  | nil => rfl
  | cons k l ih => rw [List.foldl_cons, show kO k .any = .any by cases k <;> rfl]; exact ih
theorem getF_frAt (ks : List (Option Nat)) (p t : Nat) : ∀ fr : FrM, getF t (frAt ks p fr) = killR ks (getM t fr).1 p (getM t fr).2
  | [] => (killR_any ks 0 p).symm
  | (k, b, x) :: l => by
    simp only [frAt, List.map_cons, getF, getM]
    split
    · rfl
    · exact getF_frAt ks p t l
theorem killR_succ {ks : List (Option Nat)} {β p : Nat} (hb : β ≤ p) (hp : p < ks.length) (x : V) : killR ks β (p + 1) x = kO (ks.getD p none) (killR ks β p x) := by
  unfold killR
  have e : ks.take (p + 1) = ks.take p ++ [ks.getD p none] := by
    rw [List.take_add_one, List.getElem?_eq_getElem hp]
    simp [List.getD_eq_getElem?_getD, List.getElem?_eq_getElem hp]
  rw [e, List.drop_append_of_le_length (by rw [List.length_take]; omega), List.foldl_append]
  rfl
theorem killR_self {ks : List (Option Nat)} {β p : Nat} (h : p ≤ β) (x : V) : killR ks β p x = x := by
  unfold killR
  rw [List.drop_eq_nil_of_le (by rw [List.length_take]; omega)]
  rfl
theorem killR_pre {ks ks' : List (Option Nat)} {β p : Nat} (h : p ≤ ks.length) (x : V) : killR (ks ++ ks') β p x = killR ks β p x := by
  unfold killR
  rw [List.take_append_of_le_length h]
theorem frAt_pre {ks ks' : List (Option Nat)} {p : Nat} (h : p ≤ ks.length) (fr : FrM) : frAt (ks ++ ks') p fr = frAt ks p fr := by
  unfold frAt
  apply List.map_congr_left
  intro e _
  rw [killR_pre h]
theorem getM_delM {t d : Nat} (h : t ≠ d) : ∀ l : FrM, getM t (delM d l) = getM t l
  | [] => rfl
  | (k, b, x) :: l => by
    rw [delM, getM]
    split
    · rename_i hk; subst hk; rw [if_neg (fun e => h e.symm)]; exact getM_delM h l
    · rw [getM, getM_delM h l]
theorem getM_put {fr : FrM} {o : Option Nat} {β : Nat} {x : V} {t : Nat} (h : o ≠ some t) : getM t (putM fr o β x) = getM t fr := by
  cases o with
  | none => rfl
  | some d =>
    have hne : t ≠ d := fun e => h (by rw [e])
    simp only [putM, getM]
    rw [if_neg (fun e => hne e.symm), getM_delM hne]
theorem getM_put_same {fr : FrM} {β : Nat} {x : V} {t : Nat} : getM t (putM fr (some t) β x) = (β, x) := by simp [putM, getM]
theorem mem_delM {t : Nat} {p : Nat × Nat × V} : ∀ {l : FrM}, p ∈ delM t l → p ∈ l ∧ p.1 ≠ t
  | [], h => by cases h
  | (k, b, x) :: l, h => by
    rw [delM] at h
    split at h
    · have := mem_delM h; exact ⟨List.mem_cons_of_mem _ this.1, this.2⟩
    · rename_i hk
      rcases List.mem_cons.1 h with rfl | h
      · exact ⟨List.mem_cons_self, hk⟩
      · have := mem_delM h; exact ⟨List.mem_cons_of_mem _ this.1, this.2⟩
theorem mem_putM {fr : FrM} {d : Option Nat} {β : Nat} {x : V} {p : Nat × Nat × V} (h : p ∈ putM fr d β x) : (d = some p.1 ∧ p.2 = (β, x)) ∨ (p ∈ fr ∧ d ≠ some p.1) := by
  cases d with
  | none => exact .inr ⟨h, by simp⟩
  | some d =>
    simp only [putM, List.mem_cons] at h
    rcases h with rfl | h
    · exact .inl ⟨rfl, rfl⟩
    · obtain ⟨h1, h2⟩ := mem_delM h
      exact .inr ⟨h1, fun e => h2 (Option.some.inj e).symm⟩
structure Rec where
  fr : FrM
  x : V
  lo : Nat
  hi : Nat
  loud : Bool
  q : Nat
def Rec.birth (r : Rec) : Nat := if r.loud then r.q + 1 else r.lo
inductive TrM : List (Oper × Option (Nat × Nat)) → FrM → Nat → List Rec → FrM → Nat → Prop
  | nil (fr : FrM) (q : Nat) : TrM [] fr q [] fr q
  | quiet {o : Oper} {rest : List (Oper × Option (Nat × Nat))} {fr : FrM} {q : Nat} {x : V} {lo hi : Nat} {l : List Rec} {fr' : FrM} {q' : Nat} (k : TrM rest (putM fr o.dst lo x) q l fr' q') :
      TrM ((o, some (lo, hi)) :: rest) fr q (⟨fr, x, lo, hi, false, q⟩ :: l) fr' q'
  | loud {o : Oper} {rest : List (Oper × Option (Nat × Nat))} {fr : FrM} {q : Nat} {x : V} {l : List Rec} {fr' : FrM} {q' : Nat} (k : TrM rest (putM fr o.dst (q + 1) x) (q + 1) l fr' q') :
      TrM ((o, none) :: rest) fr q (⟨fr, x, 0, 0, true, q⟩ :: l) fr' q'
theorem TrM.len {l : List (Oper × Option (Nat × Nat))} {fr fr' : FrM} {q q' : Nat} {tr : List Rec} (h : TrM l fr q tr fr' q') : tr.length = l.length := by
  induction h with
  | nil => rfl
  | quiet k ih => simp [ih]
  | loud k ih => simp [ih]
theorem TrM.get_old {l : List (Oper × Option (Nat × Nat))} {fr fr' : FrM} {q q' : Nat} {tr : List Rec} (h : TrM l fr q tr fr' q') (t : Nat) : ∀ (i : Nat) (r : Rec), tr[i]? = some r →
    (∀ (j : Nat) (o : Oper × Option (Nat × Nat)), j < i → l[j]? = some o → o.1.dst ≠ some t) → getM t r.fr = getM t fr := by
  induction h with
  | nil => intro i r h; simp at h
  | @quiet o rest fr q x lo hi l fr' q' k ih =>
    intro i r hi hn
    cases i with
    | zero => simp only [List.getElem?_cons_zero, Option.some.injEq] at hi; subst hi; rfl
    | succ i =>
      simp only [List.getElem?_cons_succ] at hi
      rw [ih i r hi (fun j o' hj ho => hn (j + 1) o' (by omega) (by simpa using ho)), getM_put (hn 0 _ (by omega) rfl)]
  | @loud o rest fr q x l fr' q' k ih =>
    intro i r hi hn
    cases i with
    | zero => simp only [List.getElem?_cons_zero, Option.some.injEq] at hi; subst hi; rfl
    | succ i =>
      simp only [List.getElem?_cons_succ] at hi
      rw [ih i r hi (fun j o' hj ho => hn (j + 1) o' (by omega) (by simpa using ho)), getM_put (hn 0 _ (by omega) rfl)]
theorem TrM.get_new {l : List (Oper × Option (Nat × Nat))} {fr fr' : FrM} {q q' : Nat} {tr : List Rec} (h : TrM l fr q tr fr' q') (t : Nat) : ∀ (i j : Nat) (r rj : Rec) (o : Oper × Option (Nat × Nat)), tr[i]? = some r → j < i → tr[j]? = some rj → l[j]? = some o → o.1.dst = some t →
    (∀ (j' : Nat) (o' : Oper × Option (Nat × Nat)), j < j' → j' < i → l[j']? = some o' → o'.1.dst ≠ some t) → getM t r.fr = (rj.birth, rj.x) := by
  induction h with
  | nil => intro i j r rj o h; simp at h
  | @quiet o rest fr q x lo hi l fr' q' k ih =>
    intro i j r rj o' hi hji hj ho hd hn
    cases i with
    | zero => omega
    | succ i =>
      simp only [List.getElem?_cons_succ] at hi
      cases j with
      | zero =>
        simp only [List.getElem?_cons_zero, Option.some.injEq] at hj ho
        subst hj; subst ho
        rw [k.get_old t i r hi (fun j' o' hj' ho' => hn (j' + 1) o' (by omega) (by omega) (by simpa using ho'))]
        simp only at hd
        rw [hd]; exact getM_put_same
      | succ j =>
        simp only [List.getElem?_cons_succ] at hj ho
        exact ih i j r rj o' hi (by omega) hj ho hd (fun j' o'' h1 h2 h3 => hn (j' + 1) o'' (by omega) (by omega) (by simpa using h3))
  | @loud o rest fr q x l fr' q' k ih =>
    intro i j r rj o' hi hji hj ho hd hn
    cases i with
    | zero => omega
    | succ i =>
      simp only [List.getElem?_cons_succ] at hi
      cases j with
      | zero =>
        simp only [List.getElem?_cons_zero, Option.some.injEq] at hj ho
        subst hj; subst ho
        rw [k.get_old t i r hi (fun j' o' hj' ho' => hn (j' + 1) o' (by omega) (by omega) (by simpa using ho'))]
        simp only at hd
        rw [hd]; exact getM_put_same
      | succ j =>
        simp only [List.getElem?_cons_succ] at hj ho
        exact ih i j r rj o' hi (by omega) hj ho hd (fun j' o'' h1 h2 h3 => hn (j' + 1) o'' (by omega) (by omega) (by simpa using h3))
theorem TrM.mem {l : List (Oper × Option (Nat × Nat))} {fr fr' : FrM} {q q' : Nat} {tr : List Rec} (h : TrM l fr q tr fr' q') : ∀ p, p ∈ fr' →
    (∃ (j : Nat) (o : Oper × Option (Nat × Nat)) (rj : Rec), l[j]? = some o ∧ o.1.dst = some p.1 ∧ tr[j]? = some rj ∧ p.2 = (rj.birth, rj.x)) ∨ (p ∈ fr ∧ ∀ (j : Nat) (o : Oper × Option (Nat × Nat)), l[j]? = some o → o.1.dst ≠ some p.1) := by
  induction h with
  | nil => intro p hp; exact .inr ⟨hp, by simp⟩
  | @quiet o rest fr q x lo hi l fr' q' k ih =>
    intro p hp
    rcases ih p hp with ⟨j, o', rj, h1, h2, h3, h4⟩ | ⟨h1, h2⟩
    · exact .inl ⟨j + 1, o', rj, by simpa using h1, h2, by simpa using h3, h4⟩
    · rcases mem_putM h1 with ⟨hd, hx⟩ | ⟨h3, h4⟩
      · exact .inl ⟨0, _, _, rfl, hd, rfl, hx⟩
      · refine .inr ⟨h3, fun j o' hj => ?_⟩
        cases j with
        | zero => simp only [List.getElem?_cons_zero, Option.some.injEq] at hj; subst hj; exact h4
        | succ j => simp only [List.getElem?_cons_succ] at hj; exact h2 j o' hj
  | @loud o rest fr q x l fr' q' k ih =>
    intro p hp
    rcases ih p hp with ⟨j, o', rj, h1, h2, h3, h4⟩ | ⟨h1, h2⟩
    · exact .inl ⟨j + 1, o', rj, by simpa using h1, h2, by simpa using h3, h4⟩
    · rcases mem_putM h1 with ⟨hd, hx⟩ | ⟨h3, h4⟩
      · exact .inl ⟨0, _, _, rfl, hd, rfl, hx⟩
      · refine .inr ⟨h3, fun j o' hj => ?_⟩
        cases j with
        | zero => simp only [List.getElem?_cons_zero, Option.some.injEq] at hj; subst hj; exact h4
        | succ j => simp only [List.getElem?_cons_succ] at hj; exact h2 j o' hj
def SemM (P : Program) (n : Nat) (ops : Array Oper) (ks : List (Option Nat)) (Ls : Nat → Heap) (r : Rec) (o : Oper) : Prop :=
  (r.loud = true → r.q < ks.length ∧ LOp P n ops o (frAt ks r.q r.fr) (Ls r.q) (ks.getD r.q none) r.x (Ls (r.q + 1))) ∧
  (r.loud = false → ∀ p, r.lo ≤ p → p ≤ r.hi → YOp P ops o ⟨frAt ks p r.fr, Ls p⟩ r.x)
def addL (xs m : List Nat) : List Nat := xs.foldl (fun m x => if m.contains x then m else x :: m) m
def ancStep (acc : List (List Nat)) (o : Oper) : List Nat := o.after.toList.foldl (fun m e => if Region.binds .any e then addL (e.on :: acc.getD e.on []) m else m) []
def ancs : List Oper → List (List Nat) → List (List Nat)
  | [], acc => acc
  | o :: r, acc => ancs r (acc ++ [ancStep acc o])
def ancOk (l : List Oper) (anc : List (List Nat)) : Bool :=
  l.zipIdx.all fun (o, i) => (anc.getD i []).all fun j => o.after.toList.any fun e => Region.binds .any e && (e.on == j || (anc.getD e.on []).contains j)
def loudsOf (rg : List (Option (Nat × Nat))) : List Nat := rg.zipIdx.filterMap fun p => if p.1.isNone then some p.2 else none
def okGo (anc : List (List Nat)) (lds : List Nat) : List (Oper × Option (Nat × Nat)) → Nat → Nat → Bool
  | [], _, q => lds.length == q
  | (o, none) :: rest, i, q => (lds[q]? == some i) && ((lds.take q).all fun j => (anc.getD i []).contains j) && okGo anc lds rest (i + 1) (q + 1)
  | (_, some (lo, hi)) :: rest, i, q => decide (lo ≤ lds.length) && !lds.contains i && ((lds.take lo).all fun j => (anc.getD i []).contains j) && ((lds.drop hi).all fun j => (anc.getD j []).contains i) && okGo anc lds rest (i + 1) q
def okM (n : Nat) (l : List Oper) (rg : List (Option (Nat × Nat))) : Bool :=
  indep l && dstsOk n l && (rg.length == l.length) && decide (loudsOf rg).Nodup && ancOk l (ancs l []) && okGo (ancs l []) (loudsOf rg) (l.zip rg) 0 0 &&
    l.all fun o => (o.looksAt l.toArray).all fun t => decide (t < n)
theorem okGo_at {anc : List (List Nat)} {lds : List Nat} {l : List (Oper × Option (Nat × Nat))} {fr fr' : FrM} {q q' : Nat} {tr : List Rec} (h : TrM l fr q tr fr' q') : ∀ i0, okGo anc lds l i0 q = true → lds.length = q' ∧
    ∀ (i : Nat) (r : Rec) (o : Oper × Option (Nat × Nat)), tr[i]? = some r → l[i]? = some o →
      (r.loud = true → lds[r.q]? = some (i0 + i) ∧ (∀ j ∈ lds.take r.q, j ∈ anc.getD (i0 + i) [])) ∧
      (r.loud = false → r.lo ≤ lds.length ∧ i0 + i ∉ lds ∧ (∀ j ∈ lds.take r.lo, j ∈ anc.getD (i0 + i) []) ∧ ∀ j ∈ lds.drop r.hi, i0 + i ∈ anc.getD j []) := by
  induction h with
  | nil fr q =>
    intro i0 h
    simp only [okGo, beq_iff_eq] at h
    exact ⟨h, by simp⟩
  | @quiet o rest fr q x lo hi l fr' q' k ih =>
    intro i0 h
    simp only [okGo, Bool.and_eq_true, decide_eq_true_eq, Bool.not_eq_true', List.all_eq_true, List.contains_eq_mem, decide_eq_false_iff_not] at h
    obtain ⟨⟨⟨⟨h1, h2⟩, h3⟩, h4⟩, h5⟩ := h
    obtain ⟨g1, g2⟩ := ih (i0 + 1) h5
    refine ⟨g1, fun i r o' hr ho => ?_⟩
    cases i with
    | zero =>
      simp only [List.getElem?_cons_zero, Option.some.injEq] at hr ho
      subst hr
      exact ⟨(fun h => by cases h), fun _ => ⟨h1, h2, h3, h4⟩⟩
    | succ i =>
      have := g2 i r o' (by simpa using hr) (by simpa using ho)
      rw [show i0 + 1 + i = i0 + (i + 1) by omega] at this
      exact this
  | @loud o rest fr q x l fr' q' k ih =>
    intro i0 h
    simp only [okGo, Bool.and_eq_true, beq_iff_eq, List.all_eq_true, List.contains_eq_mem, decide_eq_true_eq] at h
    obtain ⟨⟨h1, h2⟩, h5⟩ := h
    obtain ⟨g1, g2⟩ := ih (i0 + 1) h5
    refine ⟨g1, fun i r o' hr ho => ?_⟩
    cases i with
    | zero =>
      simp only [List.getElem?_cons_zero, Option.some.injEq] at hr ho
      subst hr; subst ho
      exact ⟨fun _ => ⟨h1, h2⟩, (fun h => by cases h)⟩
    | succ i =>
      have := g2 i r o' (by simpa using hr) (by simpa using ho)
      rw [show i0 + 1 + i = i0 + (i + 1) by omega] at this
      exact this
theorem anc_listed {l : List Oper} {anc : List (List Nat)} (hin : indep l = true) (ha : ancOk l anc = true) {listed : Array Bool}
    (hcl : ∀ (j : Nat) (o : Oper), l[j]? = some o → listed.getD j false = true → ∀ e ∈ o.after, Region.binds .any e = true → listed.getD e.on false = true) :
    ∀ (i : Nat) (o : Oper), l[i]? = some o → (∀ e ∈ o.after, Region.binds .any e = true → listed.getD e.on false = true) → ∀ j ∈ anc.getD i [], listed.getD j false = true := by
  intro i
  induction i using Nat.strongRecOn with
  | _ i ih =>
    intro o hi hr j hj
    unfold ancOk at ha
    rw [List.all_eq_true] at ha
    have := ha (o, i) (by rw [List.mem_zipIdx_iff_getElem?]; exact hi)
    simp only [List.all_eq_true] at this
    have := this j hj
    rw [List.any_eq_true] at this
    obtain ⟨e, he, h⟩ := this
    simp only [Bool.and_eq_true, Bool.or_eq_true, beq_iff_eq, List.contains_eq_mem, decide_eq_true_eq] at h
    obtain ⟨hb, h⟩ := h
    have he' : e ∈ o.after := by simpa using he
    have hle := hr e he' hb
    rcases h with rfl | h
    · exact hle
    · have hlt := (indep_at hin hi).2.1 e he' hb
      have hel : e.on < l.length := by have := (List.getElem?_eq_some_iff.1 hi).1; omega
      exact ih e.on hlt l[e.on] (List.getElem?_eq_getElem hel) (fun e' he' hb' => hcl e.on _ (List.getElem?_eq_getElem hel) hle e' he' hb') j h
end
end Go.Ab

namespace Go.Ab
section
variable {P : Program} {n : Nat} {Q : AX → St → Prop}
structure MidM (fo : FO) (m : Nat → Option Value) (m0 : Nat → Option Value) (w0 : World) (n : Nat) (l : List Oper) (lds : List Nat) (ks : List (Option Nat)) (Ls : Nat → Heap) (fr0 : FrM) (tr : List Rec) (p : Nat) (listed : Array Bool) (a : Act) (w : World) : Prop where
  size : a.tmps.size = n
  defers : a.defers = fo.D
  inv : Inv fo m (Ls p) w
  step : Step w0 (own m0) w (own m)
  lsz : listed.size = l.length
  ple : p ≤ lds.length
  louds : ∀ q j, lds[q]? = some j → (listed.getD j false = true ↔ q < p)
  born : ∀ (j : Nat) (r : Rec), tr[j]? = some r → listed.getD j false = true → r.birth ≤ p
  done : ∀ (j : Nat) (o : Oper) (r : Rec) (d : Nat), l[j]? = some o → tr[j]? = some r → o.dst = some d → listed.getD j false = true → RelV w (OO fo m) m (a.tmps.getD d undef) (killR ks r.birth p r.x)
  todo : ∀ t, (∀ (j : Nat) (o : Oper), l[j]? = some o → o.dst = some t → listed.getD j false = false) → RelV w (OO fo m) m (a.tmps.getD t undef) (killR ks (getM t fr0).1 p (getM t fr0).2)
  rest : ∀ e, e ∈ fr0 → (∀ (j : Nat) (o : Oper), l[j]? = some o → o.dst ≠ some e.1) → RelV w (OO fo m) m (a.tmps.getD e.1 undef) (killR ks e.2.1 p e.2.2)
  closed : ∀ (j : Nat) (o : Oper), l[j]? = some o → listed.getD j false = true → ∀ e ∈ o.after, Region.binds .any e = true → listed.getD e.on false = true
theorem getF_range {f : Nat → V} {rest : List (Nat × V)} {t : Nat} : ∀ (k b : Nat), b ≤ t → t < b + k → getF t ((List.range' b k).map (fun t => (t, f t)) ++ rest) = f t
  | 0, b, h1, h2 => by omega
  | k + 1, b, h1, h2 => by
    rw [List.range'_succ, List.map_cons, List.cons_append, getF]
    split
    · rename_i h; rw [h]
    · exact getF_range k (b + 1) (by omega) (by omega)
theorem killR_rel {ks : List (Option Nat)} {β p : Nat} {w : World} {O : Nat → Prop} {m : Nat → Option Value} {v : Value} (x : V) (h : RelV w O m v x) : RelV w O m v (killR ks β p x) := by
  unfold killR
  generalize (ks.take p).drop β = l
  induction l generalizing x with
  | nil => exact h
  | cons k l ih =>
    rw [List.foldl_cons]
    refine ih _ ?_
    cases k with
    | none => exact h
    | some i => exact h.kill (fun _ _ _ e => e)
theorem okGo_loud {anc : List (List Nat)} {lds : List Nat} {l : List (Oper × Option (Nat × Nat))} {fr fr' : FrM} {q q' : Nat} {tr : List Rec} (h : TrM l fr q tr fr' q') : ∀ i0, okGo anc lds l i0 q = true →
    ∀ (p j : Nat), q ≤ p → lds[p]? = some j → ∃ (i : Nat) (r : Rec), j = i0 + i ∧ tr[i]? = some r ∧ r.loud = true ∧ r.q = p := by
  induction h with
  | nil fr q =>
    intro i0 h p j hp hj
    simp only [okGo, beq_iff_eq] at h
    have := (List.getElem?_eq_some_iff.1 hj).1
    omega
  | @quiet o rest fr q x lo hi l fr' q' k ih =>
    intro i0 h p j hp hj
    simp only [okGo, Bool.and_eq_true] at h
    obtain ⟨i, r, h1, h2, h3, h4⟩ := ih (i0 + 1) h.2 p j hp hj
    exact ⟨i + 1, r, by omega, by simpa using h2, h3, h4⟩
  | @loud o rest fr q x l fr' q' k ih =>
    intro i0 h p j hp hj
    simp only [okGo, Bool.and_eq_true, beq_iff_eq] at h
    rcases Nat.lt_or_ge q p with hlt | hge
    · obtain ⟨i, r, h1, h2, h3, h4⟩ := ih (i0 + 1) h.2 p j (by omega) hj
      exact ⟨i + 1, r, by omega, by simpa using h2, h3, h4⟩
    · obtain rfl : q = p := by omega
      rw [h.1.1] at hj
      cases hj
      exact ⟨0, _, rfl, rfl, rfl, rfl⟩
theorem any_orderM {l : List Oper} {rg : List (Option (Nat × Nat))} {lds : List Nat} {ks : List (Option Nat)} {Ls : Nat → Heap} {fr0 frE : FrM} {tr : List Rec} {k : Nat} (hz : rg.length = l.length)
    (ht : TrM (l.zip rg) fr0 0 tr frE k) (hsem : ∀ (i : Nat) (r : Rec) (o : Oper), tr[i]? = some r → l[i]? = some o → SemM P n l.toArray ks Ls r o) (hin : indep l = true) (hd : dstsOk n l = true) (hnd : lds.Nodup)
    (hanc : ancOk l (ancs l []) = true) (hgo : okGo (ancs l []) lds (l.zip rg) 0 0 = true) (hlk : ∀ o ∈ l, ∀ t ∈ o.looksAt l.toArray, t < n) (hks : ks.length = k) (hq : Q .normal ⟨frAt ks k frE, Ls k⟩)
    {fo : FO} {m0 : Nat → Option Value} {w0 : World} (hfr : ∀ e, e ∈ fr0 → e.1 < n) (hf0 : ∀ e, e ∈ fr0 → e.2.1 = 0) :
    ∀ (fuel : Nat) (m : Nat → Option Value) (p : Nat) (listed : Array Bool) (un : List Nat) (a : Act) (w : World), un.length ≤ fuel → (∀ i, i < l.length → listed.getD i false = false → i ∈ un) →
      MidM fo m m0 w0 n l lds ks Ls fr0 tr p listed a w → wpAnyIn (wr fo.r) 0 P .any l.toArray (Post fo n m0 w0 Q) fuel listed a w := by
  have hdl : ∀ (i : Nat) (o : Oper) (d : Nat), l[i]? = some o → o.dst = some d → d < n := by
    intro i o d hi ho
    unfold dstsOk at hd
    rw [List.all_eq_true] at hd
    have := hd o (List.mem_of_getElem? hi)
    rw [ho] at this
    simpa using this
  have hzl : (l.zip rg).length = l.length := by rw [List.length_zip]; omega
  have hlen : tr.length = l.length := by rw [ht.len, hzl]
  have htr : ∀ i : Nat, i < l.length → ∃ r : Rec, tr[i]? = some r := fun i hi => ⟨_, List.getElem?_eq_getElem (by omega)⟩
  have hzip : ∀ (i : Nat) (o : Oper), l[i]? = some o → ∃ g, (l.zip rg)[i]? = some (o, g) := by
    intro i o hi
    have hil := (List.getElem?_eq_some_iff.1 hi).1
    refine ⟨rg[i]'(by omega), ?_⟩
    rw [List.getElem?_zip_eq_some]
    exact ⟨hi, List.getElem?_eq_getElem (by omega)⟩
  have hunzip : ∀ (i : Nat) (z : Oper × Option (Nat × Nat)), (l.zip rg)[i]? = some z → l[i]? = some z.1 := by
    intro i z hz'
    exact (List.getElem?_zip_eq_some.1 hz').1
  obtain ⟨hlds, hat0⟩ := okGo_at ht 0 hgo
  have hat : ∀ (i : Nat) (r : Rec) (o : Oper), tr[i]? = some r → l[i]? = some o →
      (r.loud = true → lds[r.q]? = some i ∧ (∀ j ∈ lds.take r.q, j ∈ (ancs l []).getD i [])) ∧
      (r.loud = false → r.lo ≤ lds.length ∧ i ∉ lds ∧ (∀ j ∈ lds.take r.lo, j ∈ (ancs l []).getD i []) ∧ ∀ j ∈ lds.drop r.hi, i ∈ (ancs l []).getD j []) := by
    intro i r o hr ho
    obtain ⟨g, hg⟩ := hzip i o ho
    have := hat0 i r (o, g) hr hg
    simpa using this
  have getM0 : ∀ t, (getM t fr0).1 = 0 := by
    intro t
    clear ht hfr
    induction fr0 with
    | nil => rfl
    | cons e fr ih =>
      obtain ⟨k, b, x⟩ := e
      rw [getM]
      split
      · exact hf0 _ List.mem_cons_self
      · exact ih (fun e he => hf0 e (List.mem_cons_of_mem _ he))
  have hloud : ∀ (q j : Nat), lds[q]? = some j → j < l.length ∧ ∃ r, tr[j]? = some r ∧ r.loud = true ∧ r.q = q := by
    intro q j hj
    obtain ⟨i, r, h1, h2, h3, h4⟩ := okGo_loud ht 0 hgo q j (Nat.zero_le _) hj
    obtain rfl : j = i := by omega
    exact ⟨by have := (List.getElem?_eq_some_iff.1 h2).1; omega, r, h2, h3, h4⟩
  have fin : ∀ (m : Nat → Option Value) (p : Nat) (listed : Array Bool) (a : Act) (w : World), (∀ i, i < l.length → listed.getD i false = true) → MidM fo m m0 w0 n l lds ks Ls fr0 tr p listed a w → Post fo n m0 w0 Q .normal a w := by
    intro m p listed a w hall M
    have hpk : p = k := by
      have h1 := M.ple
      rcases Nat.lt_or_ge p lds.length with h | h
      · have hj := M.louds p lds[p] (List.getElem?_eq_getElem h)
        have hmem : lds[p] < l.length := by
          refine Classical.byContradiction fun hn => ?_
          exact hn (hloud p _ (List.getElem?_eq_getElem h)).1
        have := hj.1 (hall _ hmem)
        omega
      · omega
    subst hpk
    refine .of m .normal _ hq ⟨M.size, ?_, M.inv, M.defers⟩ trivial M.step
    intro t x hx
    obtain ⟨e, he, hex⟩ := List.mem_map.1 hx
    simp only [Prod.mk.injEq] at hex
    obtain ⟨rfl, rfl⟩ := hex
    rcases ht.mem e he with ⟨j, z, r, h1, h2, h3, h4⟩ | ⟨h1, h2⟩
    · have h1' := hunzip j z h1
      refine ⟨hdl j z.1 e.1 h1' h2, ?_⟩
      have := M.done j z.1 r e.1 h1' h3 h2 (hall j (List.getElem?_eq_some_iff.1 h1').1)
      rw [h4]
      exact this
    · exact ⟨hfr _ h1, M.rest _ h1 (fun j o hj => by
        obtain ⟨g, hg⟩ := hzip j o hj
        exact h2 j (o, g) hg)⟩
  have ready_nil : ∀ (listed : Array Bool), listed.size = l.length → Region.ready .any l.toArray listed = [] → ∀ i, i < l.length → listed.getD i false = true := by
    intro listed hsz hr i
    induction i using Nat.strongRecOn with
    | _ i ih =>
      intro hi
      cases hb : listed.getD i false with
      | true => rfl
      | false =>
        exfalso
        have hmem : i ∈ Region.ready .any l.toArray listed := by
          refine mem_ready.2 ⟨by rw [getD_lt (c := false) (by omega)]; exact hb, l[i], by simp [hi], fun e he hbd => ?_⟩
          have := (indep_at hin (List.getElem?_eq_getElem hi)).2.1 e he hbd
          exact ih e.on this (by omega)
        rw [hr] at hmem
        cases hmem
  intro fuel
  induction fuel with
  | zero =>
    intro m p listed un a w hun hall M
    have h0 : ∀ i, i < l.length → listed.getD i false = true := by
      intro i hi
      cases hb : listed.getD i false with
      | true => rfl
      | false => have h9 := hall i hi hb; have h8 : un = [] := List.eq_nil_of_length_eq_zero (by omega); rw [h8] at h9; cases h9
    refine ⟨?_, fin m p listed a w h0 M⟩
    rw [List.eq_nil_iff_forall_not_mem]
    intro j hj
    obtain ⟨h1, o, h2, _⟩ := mem_ready.1 hj
    have hjl : j < l.length := by have := (Array.getElem?_eq_some_iff.1 h2).1; simpa using this
    rw [getD_lt (c := false) (by have := M.lsz; omega)] at h1
    rw [h0 j hjl] at h1
    cases h1
  | succ fuel ih =>
    intro m p listed un a w hun hall M
    refine ⟨fun hr => fin m p listed a w (ready_nil listed M.lsz hr) M, ?_⟩
    intro i hi
    obtain ⟨h1, o, h2, h3⟩ := mem_ready.1 hi
    have hil : i < l.length := by have := (Array.getElem?_eq_some_iff.1 h2).1; simpa using this
    have hio : l[i]? = some o := by simpa using h2
    rw [getD_lt (c := false) (by have := M.lsz; omega)] at h1
    obtain ⟨r, htri⟩ := htr i hil
    obtain ⟨hs1, hs2⟩ := hsem i r o htri hio
    obtain ⟨ha1, ha2⟩ := hat i r o htri hio
    obtain ⟨i1, i2, i3⟩ := indep_at hin hio
    have uniq : ∀ (t : Nat) (j : Nat) (o'' : Oper), l[j]? = some o'' → o''.dst = some t → writes l t = some j := fun t j o'' hj hd => (indep_at hin hj).1 t hd
    have hancs : ∀ j ∈ (ancs l []).getD i [], listed.getD j false = true := anc_listed hin hanc M.closed i o hio h3
    have hancl : ∀ (j : Nat) (oj : Oper), l[j]? = some oj → listed.getD j false = true → ∀ j' ∈ (ancs l []).getD j [], listed.getD j' false = true :=
      fun j oj hoj hb => anc_listed hin hanc M.closed j oj hoj (M.closed j oj hoj hb)
    have hslots : ∀ t, t ∈ o.looksAt l.toArray → RelV w (OO fo m) m (a.tmps.getD t undef) (getF t (frAt ks p r.fr)) := by
      intro t htl
      rw [getF_frAt]
      cases hw : writes l t with
      | none =>
        rw [ht.get_old t i r htri (fun j z _ hj => writes_none hw (hunzip j z hj))]
        exact M.todo t (fun j o'' hj hd => (writes_none hw hj hd).elim)
      | some j =>
        obtain ⟨oj, hoj, hdj⟩ := writes_some hw
        obtain ⟨rj, htrj⟩ := htr j (List.getElem?_eq_some_iff.1 hoj).1
        obtain ⟨gj, hgj⟩ := hzip j oj hoj
        rcases i3 t htl j hw with ⟨hlt, e, he, hb, hon⟩ | ⟨hlt, oj', hoj', e, he, hb, hon⟩
        · rw [ht.get_new t i j r rj (oj, gj) htri hlt htrj hgj hdj (fun j' z hjj _ hj' hd' => by
            have := uniq t j' z.1 (hunzip j' z hj') hd'
            rw [hw] at this
            have := Option.some.inj this
            omega)]
          exact M.done j oj rj t hoj htrj hdj (by rw [← hon]; exact h3 e he hb)
        · rw [ht.get_old t i r htri (fun j' z hj' hz' hd' => by
            have := uniq t j' z.1 (hunzip j' z hz') hd'
            rw [hw] at this
            have := Option.some.inj this
            omega)]
          refine M.todo t (fun j' o'' hj' hd' => ?_)
          have := uniq t j' o'' hj' hd'
          rw [hw] at this
          obtain rfl := Option.some.inj this
          cases hb' : listed.getD j false with
          | false => rfl
          | true =>
            rw [hoj] at hoj'
            obtain rfl := Option.some.inj hoj'
            have := M.closed j oj hoj hb' e he hb
            rw [hon, h1] at this
            cases this
    have hne : ∀ (v : Value) (t : Nat), o.dst ≠ some t → (a.put o.dst v).tmps.getD t undef = a.tmps.getD t undef := by
      intro v t hn
      cases hdd : o.dst with
      | none => rfl
      | some d =>
        have : d ≠ t := fun e => hn (by rw [hdd, e])
        simp [Act.put, Array.getElem?_setIfInBounds_ne this]
    have hset : ∀ j, (listed.setIfInBounds i true).getD j false = true ↔ (j = i ∨ listed.getD j false = true) := by
      intro j
      by_cases hj : j = i
      · subst hj
        have hjs : j < listed.size := by have := M.lsz; omega
        simp [Array.getD, hjs]
      · have : ¬ i = j := fun e => hj e.symm
        simp only [Array.getD_eq_getD_getElem?, Array.getElem?_setIfInBounds_ne this, hj, false_or]
    have next : ∀ (m' : Nat → Option Value) (p' : Nat) (v : Value) (w' : World), p ≤ p' → Inv fo m' (Ls p') w' → Step w (own m) w' (own m') → RelV w' (OO fo m') m' v r.x → r.birth = p' ∨ r.birth ≤ p → (∀ x β, β ≤ p → ∀ u, RelV w (OO fo m) m u (killR ks β p x) → (∃ t, t < n ∧ u = a.tmps.getD t undef ∧ ((∃ (j : Nat) (oj : Oper) (rj : Rec), l[j]? = some oj ∧ tr[j]? = some rj ∧ oj.dst = some t ∧ listed.getD j false = true ∧ x = rj.x ∧ β = rj.birth) ∨ ((∀ (j : Nat) (o : Oper), l[j]? = some o → o.dst = some t → listed.getD j false = false) ∧ x = (getM t fr0).2 ∧ β = (getM t fr0).1) ∨ ((t, β, x) ∈ fr0 ∧ ∀ (j : Nat) (o : Oper), l[j]? = some o → o.dst ≠ some t))) → RelV w' (OO fo m') m' u (killR ks β p' x)) →
        (p' ≤ lds.length) → (∀ q j, lds[q]? = some j → ((listed.setIfInBounds i true).getD j false = true ↔ q < p')) → RelV w' (OO fo m') m' v (killR ks r.birth p' r.x) → wpAnyIn (wr fo.r) 0 P .any l.toArray (Post fo n m0 w0 Q) fuel (listed.setIfInBounds i true) (a.put o.dst v) w' := by
      intro m' p' v w' hpp hinv hst hv hb hold hple' hlouds' hvk
      refine ih m' p' (listed.setIfInBounds i true) (un.erase i) (a.put o.dst v) w' ?_ ?_ ?_
      · have hmem := hall i hil h1
        rw [List.length_erase_of_mem hmem]; omega
      · intro j hj hb
        have hnj : ¬ ((listed.setIfInBounds i true).getD j false = true) := by rw [hb]; simp
        rw [hset] at hnj
        have hji : j ≠ i := fun e => hnj (.inl e)
        have hb2 : listed.getD j false = false := by
          cases hx : listed.getD j false with
          | false => rfl
          | true => exact (hnj (.inr hx)).elim
        exact (List.mem_erase_of_ne hji).2 (hall j hj hb2)
      · refine ⟨?_, ?_, hinv, M.step.trans hst, by simpa using M.lsz, hple', hlouds', ?_, ?_, ?_, ?_, ?_⟩
        · cases hdd : o.dst <;> simp [Act.put, M.size]
        · cases hdd : o.dst <;> simp [Act.put, M.defers]
        · intro j rj hrj hbj
          rcases (hset j).1 hbj with rfl | hbj'
          · rw [htri] at hrj
            obtain rfl := Option.some.inj hrj
            rcases hb with h | h <;> omega
          · exact Nat.le_trans (M.born j rj hrj hbj') hpp
        · intro j oj rj d hoj htrj hdj hbj
          by_cases hji : j = i
          · subst hji
            rw [hio] at hoj
            obtain rfl := Option.some.inj hoj
            rw [htri] at htrj
            obtain rfl := Option.some.inj htrj
            have hdn := hdl j o d hio hdj
            have : (a.put o.dst v).tmps.getD d undef = v := by
              have hsz := M.size
              rw [hdj]
              simp [Act.put, Array.getD, hsz, hdn]
            rw [this]; exact hvk
          · have hnd' : o.dst ≠ some d := by
              intro e
              have q1 := uniq d i o hio e
              have q2 := uniq d j oj hoj hdj
              rw [q1] at q2
              exact hji (Option.some.inj q2).symm
            have hbj' := ((hset j).1 hbj).resolve_left hji
            rw [hne v d hnd']
            exact hold _ _ (M.born j rj htrj hbj') _ (M.done j oj rj d hoj htrj hdj hbj') ⟨d, hdl j oj d hoj hdj, rfl, .inl ⟨j, oj, rj, hoj, htrj, hdj, hbj', rfl, rfl⟩⟩
        · intro t hall'
          have hall2 : ∀ (j : Nat) (oj : Oper), l[j]? = some oj → oj.dst = some t → listed.getD j false = false := by
            intro j oj hoj hdj
            have := hall' j oj hoj hdj
            cases hx : listed.getD j false with
            | false => rfl
            | true => have h4 := (hset j).2 (.inr hx); rw [this] at h4; cases h4
          have hnd' : o.dst ≠ some t := by
            intro e
            have := hall' i o hio e
            have h4 := (hset i).2 (.inl rfl)
            rw [this] at h4; cases h4
          rw [hne v t hnd']
          by_cases htn : t < n
          · exact hold _ _ (by rw [getM0]; omega) _ (M.todo t hall2) ⟨t, htn, rfl, .inr (.inl ⟨hall2, rfl, rfl⟩)⟩
          · have : (getM t fr0).2 = .any := by
              have : ∀ fr : FrM, (∀ e ∈ fr, e.1 < n) → (getM t fr).2 = .any := by
                intro fr hf
                induction fr with
                | nil => rfl
                | cons e fr ih' =>
                  obtain ⟨k', b', x'⟩ := e
                  rw [getM]
                  split
                  · rename_i hk
                    have h9 : k' < n := hf (k', b', x') List.mem_cons_self
                    exact absurd (hk ▸ h9) htn
                  · exact ih' (fun e he => hf e (List.mem_cons_of_mem _ he))
              exact this fr0 hfr
            rw [this, killR_any]
            exact .any _
        · intro e he hnw
          rw [hne v e.1 (hnw i o hio)]
          exact hold _ _ (by rw [hf0 e he]; omega) _ (M.rest e he hnw) ⟨e.1, hfr e he, rfl, .inr (.inr ⟨he, hnw⟩)⟩
        · intro j oj hoj hbj e he hbd
          rw [hset]
          rcases (hset j).1 hbj with rfl | hbj'
          · rw [hio] at hoj
            obtain rfl := Option.some.inj hoj
            exact .inr (h3 e he hbd)
          · exact .inr (M.closed j oj hoj hbj' e he hbd)
    unfold wpOpIn
    rw [h2]
    simp only
    cases hlo : r.loud with
    | false =>
      obtain ⟨g1, g2, g3, g4⟩ := ha2 hlo
      have hpl : r.lo ≤ p := by
        refine Classical.byContradiction fun hn => ?_
        have hp1 : p < lds.length := by omega
        have hm : lds[p] ∈ lds.take r.lo := by
          rw [List.mem_take_iff_getElem]
          exact ⟨p, by omega, rfl⟩
        have := (M.louds p _ (List.getElem?_eq_getElem hp1)).1 (hancs _ (g3 _ hm))
        omega
      have hph : p ≤ r.hi := by
        refine Classical.byContradiction fun hn => ?_
        have hp1 : r.hi < lds.length := by have := M.ple; omega
        have hl := hloud r.hi _ (List.getElem?_eq_getElem hp1)
        have hm : lds[r.hi] ∈ lds.drop r.hi := by
          rw [List.mem_drop_iff_getElem]
          exact ⟨0, by omega, by simp⟩
        have hb := (M.louds r.hi _ (List.getElem?_eq_getElem hp1)).2 (by omega)
        have := hancl _ _ (List.getElem?_eq_getElem hl.1) hb i (g4 _ hm)
        rw [h1] at this
        cases this
      have hrun := hs2 hlo p hpl hph fo m a w M.inv hslots (wpAnyIn (wr fo.r) 0 P .any l.toArray (Post fo n m0 w0 Q) fuel (listed.setIfInBounds i true)) (Post fo n m0 w0 Q) (fun v w' hr hi' st => by
        have hkeep : Keep w (OO fo m) w' := ⟨st.size, fun b hb ho => st.block b hb (fun h => ho (.inl h))⟩
        have mono : ∀ {v : Value} {x : V}, RelV w (OO fo m) m v x → RelV w' (OO fo m) m v x := fun h => h.mono hkeep (fun _ _ h => h) (fun _ _ h => h)
        have hbirth : r.birth ≤ p := by unfold Rec.birth; rw [hlo]; exact hpl
        refine next m p v w' (Nat.le_refl _) hi' st hr (.inr hbirth) (fun x β _ u hu _ => mono hu) M.ple (fun q j hq => ?_) ?_
        · rw [hset, ← M.louds q j hq]
          constructor
          · rintro (rfl | h)
            · exact (g2 (List.mem_of_getElem? hq)).elim
            · exact h
          · exact .inr
        · exact killR_rel _ hr)
      split
      · rename_i hw; rw [if_pos hw] at hrun; exact hrun
      · rename_i hw; rw [if_neg hw] at hrun; exact ⟨fun _ _ => trivial, hrun⟩
    | true =>
      obtain ⟨g1, g2⟩ := ha1 hlo
      obtain ⟨hqk, hlop⟩ := hs1 hlo
      have hqp : r.q = p := by
        have e1 : ¬ r.q < p := fun h => by
          have := (M.louds r.q i g1).2 h
          rw [h1] at this; cases this
        refine Classical.byContradiction fun hn => ?_
        have hlt : p < r.q := by omega
        have hp1 : p < lds.length := by have := (List.getElem?_eq_some_iff.1 g1).1; omega
        have hm : lds[p] ∈ lds.take r.q := by
          rw [List.mem_take_iff_getElem]
          exact ⟨p, by omega, rfl⟩
        have := (M.louds p _ (List.getElem?_eq_getElem hp1)).1 (hancs _ (g2 _ hm))
        omega
      have hqp' := hqp
      subst hqp
      let cur : Nat → V := fun t => match writes l t with
        | some j => if listed.getD j false = true then (match tr[j]? with | some rj => killR ks rj.birth r.q rj.x | none => .any) else killR ks (getM t fr0).1 r.q (getM t fr0).2
        | none => killR ks (getM t fr0).1 r.q (getM t fr0).2
      have hcur : ∀ t, RelV w (OO fo m) m (a.tmps.getD t undef) (cur t) := by
        intro t
        simp only [cur]
        cases hw : writes l t with
        | none => exact M.todo t (fun j o'' hj hd => (writes_none hw hj hd).elim)
        | some j =>
          obtain ⟨oj, hoj, hdj⟩ := writes_some hw
          obtain ⟨rj, htrj⟩ := htr j (List.getElem?_eq_some_iff.1 hoj).1
          simp only [htrj]
          split
          · rename_i hb; exact M.done j oj rj t hoj htrj hdj hb
          · rename_i hb
            refine M.todo t (fun j' o'' hj' hd' => ?_)
            have := uniq t j' o'' hj' hd'
            rw [hw] at this
            obtain rfl := Option.some.inj this
            simpa using hb
      let base : List (Nat × V) := (fr0.filter fun e => (writes l e.1).isNone).map fun e => (e.1, killR ks e.2.1 r.q e.2.2)
      let fr2 : List (Nat × V) := (List.range' 0 n).map (fun t => (t, cur t)) ++ base
      have hget : ∀ t, t < n → getF t fr2 = cur t := fun t ht' => getF_range n 0 (Nat.zero_le _) (by omega)
      have g2' : G fo n m ⟨fr2, Ls r.q⟩ a w := by
        refine ⟨M.size, ?_, M.inv, M.defers⟩
        intro t x hx
        rcases List.mem_append.1 hx with hx | hx
        · obtain ⟨t', ht', e⟩ := List.mem_map.1 hx
          simp only [Prod.mk.injEq] at e
          obtain ⟨rfl, rfl⟩ := e
          have : t' < n := by have := List.mem_range'.1 ht'; obtain ⟨_, _, _⟩ := this; omega
          exact ⟨this, hcur t'⟩
        · obtain ⟨e, he, hex⟩ := List.mem_map.1 hx
          simp only [Prod.mk.injEq] at hex
          obtain ⟨rfl, rfl⟩ := hex
          obtain ⟨he1, he2⟩ := List.mem_filter.1 he
          have hwn : writes l e.1 = none := by simpa using he2
          exact ⟨hfr e he1, M.rest e he1 (fun j oj hj => writes_none hwn hj)⟩
      have hlook : ∀ t, t ∈ o.looksAt l.toArray → getF t fr2 = getF t (frAt ks r.q r.fr) := by
        intro t htl
        rw [hget t (hlk o (List.mem_of_getElem? hio) t htl), getF_frAt]
        simp only [cur]
        cases hw : writes l t with
        | none => rw [ht.get_old t i r htri (fun j z _ hj => writes_none hw (hunzip j z hj))]
        | some j =>
          obtain ⟨oj, hoj, hdj⟩ := writes_some hw
          obtain ⟨rj, htrj⟩ := htr j (List.getElem?_eq_some_iff.1 hoj).1
          obtain ⟨gj, hgj⟩ := hzip j oj hoj
          simp only [htrj]
          rcases i3 t htl j hw with ⟨hlt, e, he, hb, hon⟩ | ⟨hlt, oj', hoj', e, he, hb, hon⟩
          · rw [if_pos (by rw [← hon]; exact h3 e he hb), ht.get_new t i j r rj (oj, gj) htri hlt htrj hgj hdj (fun j' z hjj _ hj' hd' => by
              have := uniq t j' z.1 (hunzip j' z hj') hd'
              rw [hw] at this
              have := Option.some.inj this
              omega)]
          · rw [if_neg, ht.get_old t i r htri (fun j' z hj' hz' hd' => by
              have := uniq t j' z.1 (hunzip j' z hz') hd'
              rw [hw] at this
              have := Option.some.inj this
              omega)]
            intro hb'
            rw [hoj] at hoj'
            obtain rfl := Option.some.inj hoj'
            have := M.closed j oj hoj hb' e he hb
            rw [hon, h1] at this
            cases this
      have fin : ∀ (m' : Nat → Option Value) (v : Value) (w' : World), RelV w' (OO fo m') m' v r.x → G fo n m' ⟨killO (ks.getD r.q none) fr2, Ls (r.q + 1)⟩ a w' → Step w (own m) w' (own m') → wpAnyIn (wr fo.r) 0 P .any l.toArray (Post fo n m0 w0 Q) fuel (listed.setIfInBounds i true) (a.put o.dst v) w' := by
       intro m' v w' hr g' st
       exact next m' (r.q + 1) v w' (by omega) g'.inv st hr (.inl (by unfold Rec.birth; rw [hlo]; rfl)) (by
        intro x β hβ u hu ⟨t, htn, hut, hwhich⟩
        rw [killR_succ hβ hqk]
        subst hut
        have hmem : ∀ y, (t, y) ∈ fr2 → RelV w' (OO fo m') m' (a.tmps.getD t undef) (kO (ks.getD r.q none) y) := by
          intro y hy
          exact (g'.fr t _ (List.mem_map.2 ⟨(t, y), hy, rfl⟩)).2
        have hcurm : (t, cur t) ∈ fr2 := List.mem_append_left _ (List.mem_map.2 ⟨t, List.mem_range'.2 ⟨t, by omega, by omega⟩, rfl⟩)
        rcases hwhich with ⟨j, oj, rj, hoj, htrj, hdj, hb, rfl, rfl⟩ | ⟨hall2, rfl, rfl⟩ | ⟨he, hnw⟩
        · have hw := uniq t j oj hoj hdj
          have : cur t = killR ks rj.birth r.q rj.x := by simp only [cur, hw, if_pos hb, htrj]
          rw [← this]; exact hmem _ hcurm
        · have : cur t = killR ks (getM t fr0).1 r.q (getM t fr0).2 := by
            simp only [cur]
            cases hw : writes l t with
            | none => rfl
            | some j =>
              obtain ⟨oj, hoj, hdj⟩ := writes_some hw
              simp [hall2 j oj hoj hdj]
          rw [← this]; exact hmem _ hcurm
        · refine hmem _ (List.mem_append_right _ (List.mem_map.2 ⟨(t, β, x), List.mem_filter.2 ⟨he, ?_⟩, rfl⟩))
          cases hw : writes l t with
          | none => simp [hw]
          | some j =>
            obtain ⟨oj, hoj, hdj⟩ := writes_some hw
            exact (hnw j oj hoj hdj).elim)
        (by have := (List.getElem?_eq_some_iff.1 g1).1; omega) (fun q j hq => by
          rw [hset, M.louds q j hq]
          constructor
          · rintro (rfl | h)
            · have e1 := List.getElem?_eq_some_iff.1 hq
              have e2 := List.getElem?_eq_some_iff.1 g1
              have := (List.getElem_inj hnd).1 (e1.2.trans e2.2.symm)
              omega
            · omega
          · intro h
            rcases Nat.lt_or_ge q r.q with h' | h'
            · exact .inr h'
            · obtain rfl : q = r.q := by omega
              rw [g1] at hq
              exact .inl (Option.some.inj hq).symm)
        (by rw [killR_self (by unfold Rec.birth; rw [hlo]; exact Nat.le_refl _)]; exact hr)
      rcases hlop fr2 hlook fo m a w g2' with ⟨hw, hrun⟩ | ⟨hw, hk0, hL0, hr⟩
      · rw [if_pos hw]
        exact hrun _ _ fun v w' m' hr g' st => fin m' v w' hr g' st
      · rw [if_neg (by rw [hw]; simp)]
        refine ⟨fun _ _ => trivial, fin m undef w hr ?_ (Step.refl w _)⟩
        rw [hk0, hL0, killO_none]
        exact g2'
end
end Go.Ab

namespace Go.Ab
section
variable {P : Program} {n : Nat} {Q : AX → St → Prop}
def qv (P : Program) (ops : Array Oper) (s : St) (o : Oper) : Option (V × Prop) :=
  match guardV ops s o with
  | some none => q2 P s.ev s.L o
  | some (some g) => some (.gd g (gval (q2 P (gρ s o) s.L o)), g = true → gcon (q2 P (gρ s o) s.L o) ∧ gU s o)
  | none => none
def cv (P : Program) (ops : Array Oper) (s : St) (o : Oper) (u : V) : Option (V × Prop) :=
  match guardV ops s o with
  | some none => some (u, CallC P s o u)
  | some (some g) => some (.gd g u, g = true → CallG P s o u)
  | none => none
theorem qv_sound {ops : Array Oper} {s : St} {o : Oper} {x : V} {c : Prop} (h : qv P ops s o = some (x, c)) (hc : c) : YOp P ops o s x := by
  unfold qv at h
  split at h
  · rename_i hg
    exact yop_plain (guardV_none hg) (.of_Q (q2_sound h hc))
  · rename_i g hg
    simp only [Option.some.injEq, Prod.mk.injEq] at h
    obtain ⟨rfl, rfl⟩ := h
    refine yop_guard hg (fun hb => ?_)
    obtain ⟨k1, k2⟩ := hc hb
    obtain ⟨c', h3, h4⟩ := gcon_sound k1
    exact ⟨_, gρ_rel k2, .of_Q (q2_sound h3 h4)⟩
  · cases h
theorem cv_sound {ops : Array Oper} {s : St} {o : Oper} {u x : V} {c : Prop} (h : cv P ops s o u = some (x, c)) (hc : c) : YOp P ops o s x := by
  unfold cv at h
  split at h
  · rename_i hg
    simp only [Option.some.injEq, Prod.mk.injEq] at h
    obtain ⟨rfl, rfl⟩ := h
    exact yop_plain (guardV_none hg) (CallC.opT hc)
  · rename_i g hg
    simp only [Option.some.injEq, Prod.mk.injEq] at h
    obtain ⟨rfl, rfl⟩ := h
    exact yop_guard hg (fun hb => CallG.opT (hc hb))
  · cases h
def allP : Nat → Nat → (Nat → Prop) → Prop
  | 0, _, _ => True
  | k + 1, p, f => f p ∧ allP k (p + 1) f
theorem allP_at {f : Nat → Prop} : ∀ {k p : Nat}, allP k p f → ∀ i, p ≤ i → i < p + k → f i
  | 0, p, _, i, h1, h2 => by omega
  | k + 1, p, h, i, h1, h2 => by
    rcases Nat.lt_or_ge p i with hlt | hge
    · exact allP_at h.2 i (by omega) (by omega)
    · obtain rfl : p = i := by omega
      exact h.1
structure Dfr where
  o : Oper
  fr : FrM
  x : V
  lo : Nat
  hi : Nat
  told : Option V
def qAt (P : Program) (ops : Array Oper) (o : Oper) (s : St) (x : V) : Option V → Prop
  | some u => match cv P ops s o u with
    | some (x', c) => x' = x ∧ c
    | none => False
  | none => match qv P ops s o with
    | some (x', c) => x' = x ∧ c
    | none => False
theorem qAt_sound {ops : Array Oper} {s : St} {o : Oper} {x : V} {t : Option V} (h : qAt P ops o s x t) : YOp P ops o s x := by
  cases t with
  | some u =>
    simp only [qAt] at h
    split at h
    · rename_i x' c hc; obtain ⟨rfl, h⟩ := h; exact cv_sound hc h
    · exact h.elim
  | none =>
    simp only [qAt] at h
    split at h
    · rename_i x' c hc; obtain ⟨rfl, h⟩ := h; exact qv_sound hc h
    · exact h.elim
def dAll (P : Program) (ops : Array Oper) (ks : List (Option Nat)) (Ls : List Heap) : List Dfr → Prop
  | [] => True
  | d :: ds => allP (d.hi - d.lo) (d.lo + 1) (fun p => qAt P ops d.o ⟨frAt ks p d.fr, Ls.getD p []⟩ d.x d.told) ∧ dAll P ops ks Ls ds
def EffM (P : Program) (ops : Array Oper) (o : Oper) (s : St) (K : V → Option Nat → Heap → Prop) : Prop := ∃ x k L', (∀ n, LOp P n ops o s.fr s.L k x L') ∧ K x k L'
theorem EffM.intro {ops : Array Oper} {o : Oper} {s : St} {K : V → Option Nat → Heap → Prop} {x : V} {k : Option Nat} {L' : Heap} (h : ∀ n, LOp P n ops o s.fr s.L k x L') (hk : K x k L') : EffM P ops o s K := ⟨x, k, L', h, hk⟩
def runM (P : Program) (ops : Array Oper) : List (Oper × Option (Nat × Nat)) → FrM → List (Option Nat) → List Heap → List V → List Dfr → (FrM → List (Option Nat) → List Heap → Prop) → Prop
  | [], fr, ks, Ls, _, ds, K => dAll P ops ks Ls ds ∧ K fr ks Ls
  | (o, none) :: rest, fr, ks, Ls, us, ds, K =>
    match lv P ops ⟨frAt ks ks.length fr, Ls.getD ks.length []⟩ o with
    | some (x, k, L', c) => c ∧ runM P ops rest (putM fr o.dst (ks.length + 1) x) (ks ++ [k]) (Ls ++ [L']) us ds K
    | none => EffM P ops o ⟨frAt ks ks.length fr, Ls.getD ks.length []⟩ fun x k L' => runM P ops rest (putM fr o.dst (ks.length + 1) x) (ks ++ [k]) (Ls ++ [L']) us ds K
  | (o, some (lo, hi)) :: rest, fr, ks, Ls, us, ds, K =>
    if isCall o then
      match us with
      | [] => False
      | u :: us' => match cv P ops ⟨frAt ks ks.length fr, Ls.getD ks.length []⟩ o u with
        | some (x, c) => c ∧ allP (ks.length - lo) lo (fun p => qAt P ops o ⟨frAt ks p fr, Ls.getD p []⟩ x (some u)) ∧
            runM P ops rest (putM fr o.dst lo x) ks Ls us' (if ks.length < hi then ⟨o, fr, x, ks.length, hi, some u⟩ :: ds else ds) K
        | none => False
    else
      match qv P ops ⟨frAt ks ks.length fr, Ls.getD ks.length []⟩ o with
      | some (x, c) => c ∧ allP (ks.length - lo) lo (fun p => qAt P ops o ⟨frAt ks p fr, Ls.getD p []⟩ x none) ∧
          runM P ops rest (putM fr o.dst lo x) ks Ls us (if ks.length < hi then ⟨o, fr, x, ks.length, hi, none⟩ :: ds else ds) K
      | none => False
theorem getD_pre {Ls Ls' : List Heap} {p : Nat} (h : p < Ls.length) : (Ls ++ Ls').getD p [] = Ls.getD p [] := by
  simp [List.getD_eq_getElem?_getD, List.getElem?_append_left h]
theorem runM_tr {ops : Array Oper} {K : FrM → List (Option Nat) → List Heap → Prop} : ∀ (l : List (Oper × Option (Nat × Nat))) (fr : FrM) (ks : List (Option Nat)) (Ls : List Heap) (us : List V) (ds : List Dfr), Ls.length = ks.length + 1 → runM P ops l fr ks Ls us ds K →
    ∃ tr frE ks1 Ls1, TrM l fr ks.length tr frE (ks ++ ks1).length ∧ (∀ (i : Nat) (r : Rec) (z : Oper × Option (Nat × Nat)), tr[i]? = some r → l[i]? = some z → SemM P n ops (ks ++ ks1) (fun p => (Ls ++ Ls1).getD p []) r z.1) ∧
      dAll P ops (ks ++ ks1) (Ls ++ Ls1) ds ∧ K frE (ks ++ ks1) (Ls ++ Ls1)
  | [], fr, ks, Ls, us, ds, hl, h => by
    refine ⟨[], fr, [], [], ?_, by simp, ?_, ?_⟩
    · simp only [List.append_nil]; exact .nil fr ks.length
    · simpa using h.1
    · simpa using h.2
  | (o, none) :: rest, fr, ks, Ls, us, ds, hl, h => by
    have key : ∀ (x : V) (k : Option Nat) (L' : Heap), LOp P n ops o (frAt ks ks.length fr) (Ls.getD ks.length []) k x L' → runM P ops rest (putM fr o.dst (ks.length + 1) x) (ks ++ [k]) (Ls ++ [L']) us ds K →
        ∃ tr frE ks1 Ls1, TrM ((o, none) :: rest) fr ks.length tr frE (ks ++ ks1).length ∧ (∀ (i : Nat) (r : Rec) (z : Oper × Option (Nat × Nat)), tr[i]? = some r → ((o, none) :: rest)[i]? = some z → SemM P n ops (ks ++ ks1) (fun p => (Ls ++ Ls1).getD p []) r z.1) ∧
          dAll P ops (ks ++ ks1) (Ls ++ Ls1) ds ∧ K frE (ks ++ ks1) (Ls ++ Ls1) := by
      intro x k L' hlop hr
      obtain ⟨tr, frE, ks1, Ls1, h1, h2, h3, h4⟩ := runM_tr rest _ _ _ us ds (by simp [hl]) hr
      rw [List.append_assoc] at h1 h3 h4
      simp only [List.append_assoc, List.length_append, List.length_cons, List.length_nil] at h1 h2 h3 h4
      refine ⟨⟨fr, x, 0, 0, true, ks.length⟩ :: tr, frE, _, _, .loud (by simpa [Nat.add_comm 1] using h1), ?_, h3, h4⟩
      intro i r z hi hz
      cases i with
      | zero =>
        simp only [List.getElem?_cons_zero, Option.some.injEq] at hi hz
        subst hi; subst hz
        refine ⟨fun _ => ⟨by simp, ?_⟩, (fun h => by cases h)⟩
        simp only
        rw [frAt_pre (Nat.le_refl _), getD_pre (by omega)]
        have e1 : (ks ++ ([k] ++ ks1)).getD ks.length none = k := by
          simp [List.getD_eq_getElem?_getD]
        have e2 : (Ls ++ ([L'] ++ Ls1)).getD (ks.length + 1) [] = L' := by
          simp [List.getD_eq_getElem?_getD, ← hl]
        rw [e1, e2]
        exact hlop
      | succ i => exact h2 i r z (by simpa using hi) (by simpa using hz)
    rw [runM] at h
    split at h
    · rename_i x k L' c hst
      exact key x k L' (LOp.of (n := n) hst h.1) h.2
    · obtain ⟨x, k, L', hlop, hr⟩ := h
      exact key x k L' (hlop n) hr
  | (o, some (lo, hi)) :: rest, fr, ks, Ls, us, ds, hl, h => by
    have key : ∀ (x : V) (t : Option V) (us' : List V), YOp P ops o ⟨frAt ks ks.length fr, Ls.getD ks.length []⟩ x → allP (ks.length - lo) lo (fun p => qAt P ops o ⟨frAt ks p fr, Ls.getD p []⟩ x t) →
        runM P ops rest (putM fr o.dst lo x) ks Ls us' (if ks.length < hi then ⟨o, fr, x, ks.length, hi, t⟩ :: ds else ds) K →
        ∃ tr frE ks1 Ls1, TrM ((o, some (lo, hi)) :: rest) fr ks.length tr frE (ks ++ ks1).length ∧ (∀ (i : Nat) (r : Rec) (z : Oper × Option (Nat × Nat)), tr[i]? = some r → ((o, some (lo, hi)) :: rest)[i]? = some z → SemM P n ops (ks ++ ks1) (fun p => (Ls ++ Ls1).getD p []) r z.1) ∧
          dAll P ops (ks ++ ks1) (Ls ++ Ls1) ds ∧ K frE (ks ++ ks1) (Ls ++ Ls1) := by
      intro x t us' hc ha hr
      obtain ⟨tr, frE, ks1, Ls1, h1, h2, h3, h4⟩ := runM_tr rest _ _ _ us' _ hl hr
      have hds : dAll P ops (ks ++ ks1) (Ls ++ Ls1) ds := by
        split at h3
        · exact h3.2
        · exact h3
      refine ⟨⟨fr, x, lo, hi, false, ks.length⟩ :: tr, frE, ks1, Ls1, .quiet h1, ?_, hds, h4⟩
      intro i r z hi' hz
      cases i with
      | zero =>
        simp only [List.getElem?_cons_zero, Option.some.injEq] at hi' hz
        subst hi'; subst hz
        refine ⟨(fun h => by cases h), fun _ p hp1 hp2 => ?_⟩
        simp only at hp1 hp2 ⊢
        rcases Nat.lt_trichotomy p ks.length with hlt | heq | hgt
        · rw [frAt_pre (by omega), getD_pre (by omega)]
          exact qAt_sound (allP_at ha p hp1 (by omega))
        · subst heq
          rw [frAt_pre (by omega), getD_pre (by omega)]
          exact hc
        · rw [if_pos (by omega)] at h3
          exact qAt_sound (allP_at h3.1 p (by simp only; omega) (by simp only; omega))
      | succ i => exact h2 i r z (by simpa using hi') (by simpa using hz)
    cases hcall : isCall o with
    | true =>
      cases us with
      | nil => rw [runM, if_pos hcall] at h; exact h.elim
      | cons u us' =>
        rw [runM, if_pos hcall] at h
        split at h
        · rename_i x c hcv
          exact key x (some u) us' (cv_sound hcv h.1) h.2.1 h.2.2
        · exact h.elim
    | false =>
      rw [runM.eq_def] at h
      simp only [hcall, Bool.false_eq_true, if_false] at h
      split at h
      · rename_i x c hqv
        exact key x none us (qv_sound hqv h.1) h.2.1 h.2.2
      · exact h.elim
theorem AWP.regionM0 {id : Nat} {l : List Oper} {s : St} (rg : List (Option (Nat × Nat))) (us : List V) (hm : P.follows .mixedOrders = true) (ok : okM n l rg = true)
    (h : runM P l.toArray (l.zip rg) (s.fr.map fun e => (e.1, 0, e.2)) [] [s.L] us [] (fun fr ks Ls => Q .normal ⟨frAt ks ks.length fr, Ls.getD ks.length []⟩)) : AWP P n (.region id l.toArray true) s Q := by
  intro fo m a w _ g
  simp only [okM, Bool.and_eq_true, beq_iff_eq, decide_eq_true_eq, List.all_eq_true] at ok
  obtain ⟨⟨⟨⟨⟨⟨o1, o2⟩, o3⟩, o4⟩, o5⟩, o6⟩, o7⟩ := ok
  obtain ⟨tr, frE, ks, Ls, h1, h2, -, h4⟩ := runM_tr (n := n) (l.zip rg) _ [] [s.L] us [] rfl h
  simp only [List.nil_append, List.length_nil] at h1 h2 h4
  refine wpIn_region_any hm ?_
  have := any_orderM (P := P) (n := n) (Q := Q) (l := l) (rg := rg) (lds := loudsOf rg) (ks := ks) (Ls := fun p => ([s.L] ++ Ls).getD p []) o3 h1 (fun i r o hr ho => by
      have hil := (List.getElem?_eq_some_iff.1 ho).1
      exact h2 i r (o, rg[i]'(by omega)) hr (by rw [List.getElem?_zip_eq_some]; exact ⟨ho, List.getElem?_eq_getElem (by omega)⟩))
    o1 o2 o4 o5 o6 (fun o ho t ht => by simpa using o7 o ho t ht) rfl h4 (fo := fo) (m0 := m) (w0 := w)
    (fun e he => by obtain ⟨x, hx, rfl⟩ := List.mem_map.1 he; exact (g.fr x.1 x.2 hx).1) (fun e he => by obtain ⟨x, hx, rfl⟩ := List.mem_map.1 he; rfl)
    l.toArray.size m 0 (Array.replicate l.toArray.size false) (List.range l.length) a { w with drawn := w.drawn + 1 } (by simp) (fun i hi _ => by simpa using hi) ?_
  · exact this
  · have st : Step w (own m) { w with drawn := w.drawn + 1 } (own m) := ⟨rfl, rfl, rfl, Nat.le_refl _, fun _ _ _ => rfl, fun _ _ h => h⟩
    have mono : ∀ {v : Value} {x : V}, RelV w (OO fo m) m v x → RelV { w with drawn := w.drawn + 1 } (OO fo m) m v x := fun h => h.mono st.keep (fun _ _ h => h) (fun _ _ h => h)
    have hfalse : ∀ j, (Array.replicate l.toArray.size false).getD j false = false := by intro j; simp [Array.getD]
    refine ⟨g.size, g.defers, g.inv.grown (Nat.le_refl _) (fun _ _ => rfl), st, by simp, Nat.zero_le _, ?_, ?_, ?_, ?_, ?_, ?_⟩
    · intro q j _; rw [hfalse]; simp
    · intro j r _ hb; rw [hfalse] at hb; cases hb
    · intro j o r d _ _ _ hb; rw [hfalse] at hb; cases hb
    · intro t _
      rw [killR_self (Nat.zero_le _)]
      have : (getM t (s.fr.map fun e => (e.1, 0, e.2))).2 = s.get t := by
        unfold St.get
        generalize s.fr = fr
        induction fr with
        | nil => rfl
        | cons e fr ih =>
          obtain ⟨k, x⟩ := e
          simp only [List.map_cons, getM, getF]
          split
          · rfl
          · exact ih
      rw [this]
      exact mono (get_rel g t)
    · intro e he _
      obtain ⟨x, hx, rfl⟩ := List.mem_map.1 he
      rw [killR_self (Nat.zero_le _)]
      exact mono (g.fr x.1 x.2 hx).2
    · intro j o _ hb; rw [hfalse] at hb; cases hb
def opnR (bs : Nat → Nat) (h : Nat) : Res → Res
  | .box 0 ty cs => .box (bs h + 1) ty cs
  | r => r
def St.opn (bs : Nat → Nat) (s : St) : St := ⟨s.fr, s.L.map fun p => (p.1, opnR bs p.1 p.2)⟩
@[simp] theorem opnR_row (bs : Nat → Nat) (h : Nat) (ty : TypeId) (k : Nat) (xs : List (List V)) : opnR bs h (.row ty k xs) = .row ty k xs := rfl
@[simp] theorem opnR_box (bs : Nat → Nat) (h b : Nat) (ty : TypeId) (cs : List V) : opnR bs h (.box (b + 1) ty cs) = .box (b + 1) ty cs := rfl
@[simp] theorem opnR_box0 (bs : Nat → Nat) (h : Nat) (ty : TypeId) (cs : List V) : opnR bs h (.box 0 ty cs) = .box (bs h + 1) ty cs := rfl
theorem G.opn {fo : FO} {m : Nat → Option Value} {s : St} {a : Act} {w : World} (g : G fo n m s a w) : ∃ bs, G fo n m (s.opn bs) a w := by
  let bs : Nat → Nat := fun h => match m h with
    | some (.pointer (some x)) => x.block
    | _ => 0
  have hi := g.inv
  have hk : keys (St.opn bs s).L = keys s.L := by simp [keys, St.opn, Function.comp_def]
  refine ⟨bs, g.size, g.fr, ⟨by rw [hk]; exact hi.nodup, fun h x hx => by rw [hk]; exact hi.dom h x hx, hi.apart, hi.others, hi.folt, ?_, hi.glob⟩, g.defers⟩
  intro h r hr
  obtain ⟨p, hp, he⟩ := List.mem_map.1 hr
  simp only [Prod.mk.injEq] at he
  obtain ⟨rfl, rfl⟩ := he
  obtain ⟨x, hx, hh⟩ := hi.holds p.1 p.2 hp
  refine ⟨x, hx, ?_⟩
  generalize hq : p.2 = q at hh
  cases q with
  | row ty k xs => exact hh
  | env A => exact hh
  | mp es => exact hh
  | box b ty cs =>
    cases b with
    | succ b => exact hh
    | zero =>
      obtain ⟨bb, _, cur, rfl, h1⟩ := hh
      refine ⟨bb, .inr ?_, cur, rfl, h1⟩
      simp only [bs, hx]
theorem AWP.opened {c : Code} {s : St} (h : AWP P n c s (fun x s' => ∀ bs, Q x (s'.opn bs))) : AWP P n c s Q := by
  intro fo m a w hr g
  refine Code.wpIn_mono (fun e a1 w1 hp => ?_) (h fo m a w hr g)
  obtain ⟨ms, m', x, s', hm, hq, g', he, st⟩ := hp
  obtain ⟨bs, g2⟩ := g'.opn
  exact ⟨ms, m', x, s'.opn bs, hm, hq bs, g2, he, st⟩
theorem AWP.regionM {id : Nat} {l : List Oper} {s : St} (rg : List (Option (Nat × Nat))) (us : List V) (hm : P.follows .mixedOrders = true) (ok : okM n l rg = true)
    (h : runM P l.toArray (l.zip rg) (s.fr.map fun e => (e.1, 0, e.2)) [] [s.L] us [] (fun fr ks Ls => ∀ bs, Q .normal (St.opn bs ⟨frAt ks ks.length fr, Ls.getD ks.length []⟩))) : AWP P n (.region id l.toArray true) s Q :=
  AWP.opened (AWP.regionM0 rg us hm ok h)
attribute [simp] St.opn runM lv qv cv qAt dAll allP killOf frAt killR kO putM delM loudM
end
end Go.Ab

namespace Go.Ab
section
variable {P : Program} {n : Nat} {s : St} {L : Heap}
theorem Wk.own' {t h k : Nat} {ty : TypeId} (hg : getF t s.fr = .d (.v (.slice none 0 0))) (hn : h ∉ keys s.L) : Wk n s ⟨(t, .rv h) :: delF t s.fr, (h, .row ty k []) :: s.L⟩ := by
  intro fo m a w g
  obtain ⟨g', st⟩ := g.new (Grows.refl w) hn (x := .slice none 0 0) (r := .row ty k []) (by intro b hb; simp [blk, blk1] at hb) (.inl ⟨rfl, rfl⟩)
  have hm : (t, getF t s.fr) ∈ s.fr := by
    rcases getF_mem (t := t) (l := s.fr) with h | h
    · rw [hg] at h; cases h
    · exact h
  rw [hg] at hm
  refine ⟨_, ⟨g'.size, ?_, g'.inv, g'.defers⟩, st⟩
  intro t' x hx
  simp only [List.mem_cons, Prod.mk.injEq] at hx
  rcases hx with ⟨rfl, rfl⟩ | hx
  · obtain ⟨h1, h2⟩ := g'.fr t' _ hm
    refine ⟨h1, ?_⟩
    have := h2.v_inv
    rw [this]
    exact .rv h _ (mset_same _ _) rfl
  · exact g'.fr t' x (mem_delF hx).1
theorem Wk.nil' {t : Nat} (hg : getF t s.fr = .d (.v (.slice none 0 0))) : Wk n s ⟨(t, .d (.sl [])) :: delF t s.fr, s.L⟩ := by
  intro fo m a w g
  have hm : (t, getF t s.fr) ∈ s.fr := by
    rcases getF_mem (t := t) (l := s.fr) with h | h
    · rw [hg] at h; cases h
    · exact h
  rw [hg] at hm
  refine ⟨m, ⟨g.size, ?_, g.inv, g.defers⟩, Step.refl w _⟩
  intro t' x hx
  simp only [List.mem_cons, Prod.mk.injEq] at hx
  rcases hx with ⟨rfl, rfl⟩ | hx
  · obtain ⟨h1, h2⟩ := g.fr t' _ hm
    refine ⟨h1, ?_⟩
    have := h2.v_inv
    rw [this]
    exact .d _ _ nil_rel
  · exact g.fr t' x (mem_delF hx).1
def St.pick (ts hs : List Nat) (s : St) : St := ⟨ts.map fun t => (t, getF t s.fr), hs.filterMap fun h => (s.L.lookup h).map fun r => (h, r)⟩
theorem pick_keys (hs : List Nat) (L : Heap) : ∀ x, x ∈ keys (hs.filterMap fun h => (L.lookup h).map fun r => (h, r)) → x ∈ hs := by
  intro x hx
  obtain ⟨p, hp, rfl⟩ := List.mem_map.1 hx
  obtain ⟨h, hh, he⟩ := List.mem_filterMap.1 hp
  obtain ⟨r, _, rfl⟩ := Option.map_eq_some_iff.1 he
  exact hh
theorem pick_nodup (L : Heap) : ∀ hs : List Nat, hs.Nodup → (keys (hs.filterMap fun h => (L.lookup h).map fun r => (h, r))).Nodup
  | [], _ => by simp [keys]
  | h :: hs, hn => by
    have hn' := List.nodup_cons.1 hn
    rw [List.filterMap_cons]
    cases hl : L.lookup h with
    | none => exact pick_nodup L hs hn'.2
    | some r =>
      simp only [Option.map_some, keys, List.map_cons, List.nodup_cons]
      exact ⟨fun hm => hn'.1 (pick_keys hs L h hm), pick_nodup L hs hn'.2⟩
theorem Wk.pick (ts hs : List Nat) (ht : ts.all (fun t => decide (t < n)) = true) (hh : hs.Nodup) (hon : (s.pick ts hs).on (keys (s.pick ts hs).L) = true) : Wk n s (s.pick ts hs) := by
  intro fo m a w g
  have key : Wk n ⟨(s.pick ts hs).fr ++ s.fr, s.L⟩ (s.pick ts hs) := Wk.drop (fun p hp => List.mem_append_left _ hp) (fun p hp => by
      obtain ⟨h, _, he⟩ := List.mem_filterMap.1 hp
      obtain ⟨r, hr, rfl⟩ := Option.map_eq_some_iff.1 he
      exact lookup_mem hr) (pick_nodup _ _ hh) hon
  refine key fo m a w ⟨g.size, fun t x hx => ?_, g.inv, g.defers⟩
  rcases List.mem_append.1 hx with hx | hx
  · obtain ⟨t', ht', e⟩ := List.mem_map.1 hx
    simp only [Prod.mk.injEq] at e
    obtain ⟨rfl, rfl⟩ := e
    rw [List.all_eq_true] at ht
    refine ⟨by simpa using ht t' ht', ?_⟩
    exact get_rel g t'
  · exact g.fr t x hx
attribute [simp] St.pick
@[simp] theorem dd_encI_set (l : List Int) (k : Nat) (v : Int) : (dd (encI l)).set k [.d (.v (.int .i64 v))] = dd (encI (l.set k v)) := by
  simp [dd, encI, List.map_set]
@[simp] theorem dd_encI_snoc (l : List Int) (v : Int) : dd (encI l) ++ [[.d (.v (.int .i64 v))]] = dd (encI (l ++ [v])) := by
  simp [dd, encI]
@[simp] theorem dd_lens (xs : List (List D)) (k : Nat) : (∀ y ∈ dd xs, y.length = k) ↔ ∀ x ∈ xs, x.length = k := by
  simp [dd]
@[simp] theorem encI_lens (l : List Int) : (∀ x ∈ encI l, x.length = 1) ↔ True := by
  simp [encI]
variable {Q : AX → St → Prop} {ops : Array Oper} {us : List V}
@[congr] theorem codeK_cg {c : Code} {s s' : St} (h : s = s') : codeK P n c s Q = codeK P n c s' Q := by rw [h]
@[congr] theorem AOps_cg {l : List Oper} {s s' : St} (h : s = s') : AOps P n ops l s Q = AOps P n ops l s' Q := by rw [h]
@[congr] theorem AWP_cg {c : Code} {s s' : St} (h : s = s') : AWP P n c s Q = AWP P n c s' Q := by rw [h]
@[congr] theorem runM_cg {l : List (Oper × Option (Nat × Nat))} {fr fr' : FrM} {ks ks' : List (Option Nat)} {Ls Ls' : List Heap} {us us' : List V} {ds ds' : List Dfr} {K : FrM → List (Option Nat) → List Heap → Prop}
    (h1 : fr = fr') (h2 : ks = ks') (h3 : Ls = Ls') (h4 : us = us') (h5 : ds = ds') : runM P ops l fr ks Ls us ds K = runM P ops l fr' ks' Ls' us' ds' K := by rw [h1, h2, h3, h4, h5]
inductive KI where
  | seq (c : Code)
  | blk (id : Nat)
  | inv (J : St → Prop)
def kontK (P : Program) (n : Nat) (Q : AX → St → Prop) : List KI → AX → St → Prop
  | [] => Q
  | .seq c :: ks => AX.then (fun s => codeK P n c s (kontK P n Q ks)) (kontK P n Q ks)
  | .blk id :: ks => AX.inBlock id (kontK P n Q ks)
  | .inv J :: ks => AX.then J (kontK P n Q ks)
theorem codeK_region {id : Nat} {l : List Oper} {s : St} : codeK P n (.region id l.toArray false) s Q = (dstsOk n l = true ∧ ∀ bs, runC P l.toArray l s bs [] (KK P n l.toArray Q)) := by simp [codeK]
theorem codeK_draw {id : Nat} {l : List Oper} {s : St} : codeK P n (.region id l.toArray true) s Q = AWP P n (.region id l.toArray true) s Q := by simp [codeK]
theorem codeK_skip {s : St} : codeK P n .skip s Q = Q .normal s := by simp [codeK]
theorem codeK_seq {x y : Code} {s : St} {ks : List KI} : codeK P n (.seq x y) s (kontK P n Q ks) = codeK P n x s (kontK P n Q (.seq y :: ks)) := by rw [codeK]; rfl
def condC (P : Program) (n : Nat) (v : V) (x y : Code) (s : St) (Q : AX → St → Prop) : Prop :=
  match v with
  | .d (.v (.bool t)) => (t = true → codeK P n x s Q) ∧ (t = false → codeK P n y s Q)
  | _ => False
@[simp] theorem cB {t : Bool} {x y : Code} {s : St} : condC P n (.d (.v (.bool t))) x y s Q = ((if t = true then codeK P n x s Q else True) ∧ (if t = true then True else codeK P n y s Q)) := by
  cases t <;> simp [condC]
@[simp] theorem condC_t {x y : Code} {s : St} : condC P n (.d (.v (.bool true))) x y s Q = codeK P n x s Q := by simp [condC]
@[simp] theorem condC_f {x y : Code} {s : St} : condC P n (.d (.v (.bool false))) x y s Q = codeK P n y s Q := by simp [condC]
theorem condC_split {t : Bool} {x y : Code} {s : St} (h1 : t = true → codeK P n x s Q) (h2 : t = false → codeK P n y s Q) : condC P n (.d (.v (.bool t))) x y s Q := ⟨h1, h2⟩
theorem codeK_cond {c : Operand} {x y : Code} {s : St} : codeK P n (.cond c x y) s Q = condC P n (s.ev c) x y s Q := by
  show codeK P n (.cond c x y) s Q = _
  unfold codeK condC
  first | rfl | (cases s.ev c <;> rfl)
theorem codeK_block {id : Nat} {c : Code} {s : St} {ks : List KI} : codeK P n (.block id c) s (kontK P n Q ks) = codeK P n c s (kontK P n Q (.blk id :: ks)) := by rw [codeK]; rfl
theorem codeK_exit {id : Nat} {s : St} : codeK P n (.exit id) s Q = Q (.exit id) s := by rw [codeK]
theorem codeK_ret {s : St} : codeK P n .ret s Q = Q .ret s := by rw [codeK]
theorem codeK_loop {c : Code} {s : St} : codeK P n (.loop c) s Q = AWP P n (.loop c) s Q := by simp [codeK]
attribute [simp] codeK_region codeK_draw codeK_skip codeK_seq codeK_cond codeK_block codeK_exit codeK_ret codeK_loop
variable {ks : List KI}
@[simp] theorem kontK_nil {x : AX} : kontK P n Q [] x s = Q x s := rfl
@[simp] theorem kontK_seq_n {c : Code} : kontK P n Q (.seq c :: ks) .normal s = codeK P n c s (kontK P n Q ks) := rfl
@[simp] theorem kontK_seq_e {c : Code} {i : Nat} : kontK P n Q (.seq c :: ks) (.exit i) s = kontK P n Q ks (.exit i) s := rfl
@[simp] theorem kontK_seq_g {c : Code} {i : Nat} : kontK P n Q (.seq c :: ks) (.goto i) s = kontK P n Q ks (.goto i) s := rfl
@[simp] theorem kontK_seq_r {c : Code} : kontK P n Q (.seq c :: ks) .ret s = kontK P n Q ks .ret s := rfl
@[simp] theorem kontK_seq_p {c : Code} {v : V} : kontK P n Q (.seq c :: ks) (.pan v) s = kontK P n Q ks (.pan v) s := rfl
@[simp] theorem kontK_inv_n {J : St → Prop} : kontK P n Q (.inv J :: ks) .normal s = J s := rfl
@[simp] theorem kontK_inv_e {J : St → Prop} {i : Nat} : kontK P n Q (.inv J :: ks) (.exit i) s = kontK P n Q ks (.exit i) s := rfl
@[simp] theorem kontK_inv_g {J : St → Prop} {i : Nat} : kontK P n Q (.inv J :: ks) (.goto i) s = kontK P n Q ks (.goto i) s := rfl
@[simp] theorem kontK_inv_r {J : St → Prop} : kontK P n Q (.inv J :: ks) .ret s = kontK P n Q ks .ret s := rfl
@[simp] theorem kontK_inv_p {J : St → Prop} {v : V} : kontK P n Q (.inv J :: ks) (.pan v) s = kontK P n Q ks (.pan v) s := rfl
@[simp] theorem kontK_blk_n {i : Nat} : kontK P n Q (.blk i :: ks) .normal s = kontK P n Q ks .normal s := rfl
@[simp] theorem kontK_blk_e {i j : Nat} : kontK P n Q (.blk i :: ks) (.exit j) s = if j = i then kontK P n Q ks .normal s else kontK P n Q ks (.exit j) s := by
  simp only [kontK, AX.inBlock]
@[simp] theorem kontK_blk_g {i j : Nat} : kontK P n Q (.blk i :: ks) (.goto j) s = kontK P n Q ks (.goto j) s := rfl
@[simp] theorem kontK_blk_r {i : Nat} : kontK P n Q (.blk i :: ks) .ret s = kontK P n Q ks .ret s := rfl
@[simp] theorem kontK_blk_p {i : Nat} {v : V} : kontK P n Q (.blk i :: ks) (.pan v) s = kontK P n Q ks (.pan v) s := rfl
theorem ACalls.run {f : FuncId} {args : List V} {R : AE → Heap → Prop} {fn : Func} {c : Code} (hf : P.funcs[f]? = some fn) (hb : fn.body = some c) (hn : args.length ≤ fn.ntmps)
    (h : codeK P fn.ntmps c ⟨argFrame 0 args, L⟩ (kontK P fn.ntmps (FPost P fn.results.toList R) [])) : ACalls P f args L R :=
  ACalls.of_AWP hf hb hn (codeK_sound _ _ _ h)
end
end Go.Ab

namespace Go.Ab
mutual
def V.frz (h : Nat) (y : V) : V → V
  | .bp i o => if i = h then .any else .bp i o
  | .rv i => if i = h then y else .rv i
  | .ep i k a b => if i = h then .any else .ep i k a b
  | .clo fn f c => .clo fn (V.frzs h y f) (V.frzs h y c)
  | .agg cs => .agg (V.frzs h y cs)
  | .tup cs => .tup (V.frzs h y cs)
  | .gd b x => .gd b (V.frz h y x)
  | .d x => .d x
  | .rp cs => .rp cs
  | .sv i n => if i = h then .any else .sv i n
  | .kn Q => .kn Q
  | .any => .any
def V.frzs (h : Nat) (y : V) : List V → List V
  | [] => []
  | x :: l => V.frz h y x :: V.frzs h y l
end
theorem frzs_eq (h : Nat) (y : V) : ∀ l : List V, V.frzs h y l = l.map (V.frz h y)
  | [] => by simp [V.frzs]
  | x :: l => by simp [V.frzs, frzs_eq h y l]
@[simp] theorem frzs_dmap (h : Nat) (y : V) (l : List D) : V.frzs h y (l.map V.d) = l.map V.d := by
  rw [frzs_eq, List.map_map]
  apply List.map_congr_left
  intro x _
  simp [V.frz]
def Res.frz (h : Nat) (y : V) : Res → Res
  | .box b ty cs => .box b ty (V.frzs h y cs)
  | .row ty k xs => .row ty k (xs.map (V.frzs h y))
  | .env A => .env A
  | .mp es => .mp es
@[simp] theorem map_frzs_dd (h : Nat) (y : V) (ys : List (List D)) : (dd ys).map (V.frzs h y) = dd ys := by
  unfold dd
  rw [List.map_map]
  apply List.map_congr_left
  intro x _
  simp
section
variable {P : Program} {w w' : World} {fo : FO} {m m' : Nat → Option Value} {L : Heap} {n : Nat} {s : St}
theorem RelV.frz {O O' : Nat → Prop} {h : Nat} {y : V} (hO : ∀ b, O' b → O b) (hm : ∀ i x, i ≠ h → m i = some x → m' i = some x) (hy : ∀ v, m h = some v → RelV w O' m' v y) {x : Value} {z : V} (hr : RelV w O m x z) : RelV w O' m' x (V.frz h y z) := by
  induction hr with
  | d x y hd => simpa [V.frz] using RelV.d x y (hd.mono (Keep.refl w _) (fun b _ hb => hO b hb))
  | bp i off b e =>
    simp only [V.frz]
    split
    · exact .any _
    · rename_i hne; exact .bp i off b (hm _ _ hne e)
  | rv i x e e1 =>
    simp only [V.frz]
    split
    · rename_i hh; subst hh; exact hy x e
    · rename_i hne; exact .rv i x (hm _ _ hne e) e1
  | ep i k p q b o n c e =>
    simp only [V.frz]
    split
    · exact .any _
    · rename_i hne; exact .ep i k p q b o n c (hm _ _ hne e)
  | rp b off cs f hb hlt hc hr => simpa [V.frz] using RelV.rp (m := m') b off cs f (fun h => hb (hO b h)) hlt hc (fun j y hy => (hr j y hy).mono (Keep.refl w _) (fun b _ hb => hO b hb))
  | sv i n b cap e hc hx =>
    simp only [V.frz]
    split
    · exact .any _
    · rename_i hne; exact .sv i n b cap (hm _ _ hne e) hc hx
  | clo fn first caps cf cc s1 s2 h1 h2 ih1 ih2 =>
    simp only [V.frz, frzs_eq]
    refine .clo fn first caps _ _ (by simpa using s1) (by simpa using s2) ?_ ?_
    · intro j x y' hx hy'
      rw [List.getElem?_map] at hy'
      obtain ⟨z, hz, rfl⟩ := Option.map_eq_some_iff.1 hy'
      exact ih1 j x z hx hz
    · intro j x y' hx hy'
      rw [List.getElem?_map] at hy'
      obtain ⟨z, hz, rfl⟩ := Option.map_eq_some_iff.1 hy'
      exact ih2 j x z hx hz
  | agg vs cs hs h1 h2 ih =>
    simp only [V.frz, frzs_eq]
    refine .agg vs _ (by simpa using hs) h1 ?_
    intro j x y' hx hy'
    rw [List.getElem?_map] at hy'
    obtain ⟨z, hz, rfl⟩ := Option.map_eq_some_iff.1 hy'
    exact ih j x z hx hz
  | tup vs cs hs h2 ih =>
    simp only [V.frz, frzs_eq]
    refine .tup vs _ (by simpa using hs) ?_
    intro j x y' hx hy'
    rw [List.getElem?_map] at hy'
    obtain ⟨z, hz, rfl⟩ := Option.map_eq_some_iff.1 hy'
    exact ih j x z hx hz
  | gt x y h ih => simpa [V.frz] using RelV.gt _ _ ih
  | gf y => simpa [V.frz] using RelV.gf _
  | kn x Q h => simpa [V.frz] using RelV.kn (m := m') x Q h
  | any x => simpa [V.frz] using RelV.any _
theorem Res.Holds.frz {O O' : Nat → Prop} {h : Nat} {y : V} (hO : ∀ b, O' b → O b) (hm : ∀ i x, i ≠ h → m i = some x → m' i = some x) (hy : ∀ v, m h = some v → RelV w O' m' v y) {x : Value} {r : Res} (hr : r.Holds w O m x) : (r.frz h y).Holds w O' m' x := by
  cases r with
  | box b ty cs =>
    obtain ⟨bb, hbb, cur, rfl, h1, h2, h3, h4⟩ := hr
    refine ⟨bb, hbb, cur, rfl, h1, by rw [frzs_eq, List.length_map]; exact h2, h3, fun j v c hv hc => ?_⟩
    rw [frzs_eq, List.getElem?_map] at hc
    obtain ⟨z, hz, rfl⟩ := Option.map_eq_some_iff.1 hc
    exact (h4 j v z hv hz).frz hO hm hy
  | row ty k xs =>
    rcases hr with ⟨h1, h2⟩ | ⟨b, off, cap, cur, rfl, h1, h2, h3, h4, h5, h6, h7⟩
    · exact .inl ⟨h1, by simp [h2]⟩
    · refine .inr ⟨b, off, cap, cur, by rw [List.length_map], h1, by rw [List.length_map]; exact h2, h3, h4, ?_, h6, ?_⟩
      · intro i x hx
        rw [List.getElem?_map] at hx
        obtain ⟨z, hz, rfl⟩ := Option.map_eq_some_iff.1 hx
        rw [frzs_eq, List.length_map]
        exact h5 i z hz
      · intro i j x y' v hx hy' hv
        rw [List.getElem?_map] at hx
        obtain ⟨z, hz, rfl⟩ := Option.map_eq_some_iff.1 hx
        rw [frzs_eq, List.getElem?_map] at hy'
        obtain ⟨u, hu, rfl⟩ := Option.map_eq_some_iff.1 hy'
        exact (h7 i j z u v hz hu hv).frz hO hm hy
  | env A => exact A.mono hr (fun _ _ => rfl) (Keep.refl w _) (fun b _ h => hO b h)
  | mp es => exact mapH_mono hr (fun _ _ => rfl) (Keep.refl w _) (fun b _ h => hO b h)
theorem row_data' {O' : Nat → Prop} (hi : Inv fo m L w) {h k : Nat} {ty : TypeId} {ys : List (List D)} (hl : L.lookup h = some (.row ty k (dd ys))) {v : Value} (hv : m h = some v) (hO : ∀ b, O' b → OO fo m b) (hb' : ∀ b, blk v b → ¬ O' b) : RelD w O' v (.sl ys) := by
  obtain ⟨x, hx, hh⟩ := hi.holds h _ (lookup_mem hl)
  rw [hv] at hx
  obtain rfl := Option.some.inj hx
  rcases hh with ⟨rfl, hy⟩ | ⟨b, off, cap, cur, rfl, hb, h1, h2, h3, h4, h5, h6⟩
  · have : ys = [] := by
      cases ys with
      | nil => rfl
      | cons y l => simp [dd] at hy
    subst this
    exact nil_rel
  · have hlen : (dd ys).length = ys.length := by simp [dd]
    rw [hlen] at h1 ⊢
    have hget : ∀ (i : Nat) (x : List D), ys[i]? = some x → (dd ys)[i]? = some (x.map V.d) := by
      intro i x hx; simp [dd, hx]
    have hkx : ∀ (i : Nat) (x : List D), ys[i]? = some x → x.length = k := by
      intro i x hx
      have := h4 i _ (hget i x hx)
      simpa using this
    have hbd : ∀ i j, i < ys.length → j < k → off + i * k + j < cur.size := by
      intro i j hi hj
      have : (i + 1) * k ≤ cap * k := Nat.mul_le_mul_right _ (by omega)
      rw [Nat.add_mul, Nat.one_mul] at this
      omega
    refine .sl (some ⟨b, off, none⟩) ys.length cap ys k b off (fun i j => cur.getD (off + i * k + j) undef) rfl h1 h2 (fun _ => ⟨rfl, hb' b rfl, (Array.getElem?_eq_some_iff.1 hb).1⟩) hkx ?_ ?_
    · intro i j hi hj
      have := hbd i j hi hj
      simp [World.cell?, hb, Array.getD, this]
    · intro i j x y hx hy
      have hj : j < k := by have := (List.getElem?_eq_some_iff.1 hy).1; have := hkx i x hx; omega
      have hil := (List.getElem?_eq_some_iff.1 hx).1
      have hlt := hbd i j hil hj
      have := h6 i j _ (.d y) (cur[off + i * k + j]) (hget i x hx) (by simp [hy]) (Array.getElem?_eq_getElem hlt)
      have h7 := this.d_inv
      have e : cur.getD (off + i * k + j) undef = cur[off + i * k + j] := by simp [Array.getD, hlt]
      rw [e]
      exact h7.mono (Keep.refl w _) (fun b _ hb => hO b hb)
def frzL (h : Nat) (y : V) : Heap → Heap
  | [] => []
  | (i, r) :: l => if i = h then frzL h y l else (i, Res.frz h y r) :: frzL h y l
theorem frzL_eq (h : Nat) (y : V) : ∀ L : Heap, frzL h y L = (L.filter fun p => p.1 != h).map fun p => (p.1, p.2.frz h y)
  | [] => rfl
  | (i, r) :: l => by
    rw [frzL, frzL_eq h y l]
    by_cases hi : i = h <;> simp [hi]
theorem Wk.freeze0 (h : Nat) {ty : TypeId} {k : Nat} {ys : List (List D)} (y' : D) (hy' : ∀ (w : World) O v, RelD w O v (.sl ys) → RelD w O v y') (hl : s.L.lookup h = some (.row ty k (dd ys))) :
    Wk n s ⟨s.fr.map fun p => (p.1, V.frz h (.d y') p.2), (s.L.filter fun p => p.1 != h).map fun p => (p.1, p.2.frz h (.d y'))⟩ := by
  intro fo m a w g
  let m' : Nat → Option Value := fun i => if i = h then none else m i
  have hm'1 : ∀ i x, m' i = some x → m i = some x ∧ i ≠ h := by
    intro i x hx
    simp only [m'] at hx
    split at hx
    · cases hx
    · rename_i hne; exact ⟨hx, hne⟩
  have hm'2 : ∀ i x, i ≠ h → m i = some x → m' i = some x := by
    intro i x hne hx
    simp only [m', if_neg hne]; exact hx
  have hown : ∀ b, Ab.own m' b → Ab.own m b := by
    rintro b ⟨i, x, hx, hb⟩
    exact ⟨i, x, (hm'1 i x hx).1, hb⟩
  have hOO : ∀ b, OO fo m' b → OO fo m b := fun b hb => hb.imp (hown b) id
  have hi := g.inv
  have hy : ∀ v, m h = some v → RelV w (OO fo m') m' v (.d y') := by
    intro v hv
    refine .d _ _ (hy' _ _ _ (row_data' hi hl hv hOO ?_))
    rintro b hb (⟨i, x, hx, hb'⟩ | hf)
    · have := hi.apart h i v x b hv (hm'1 i x hx).1 hb hb'
      exact (hm'1 i x hx).2 this.symm
    · exact hi.others h v b hv hb hf
  refine ⟨m', ⟨g.size, ?_, ⟨?_, ?_, ?_, ?_, hi.folt, ?_, hi.glob.mono (Keep.refl w _) (fun b _ hb => hOO b hb)⟩, g.defers⟩, ⟨rfl, rfl, rfl, Nat.le_refl _, fun _ _ _ => rfl, fun b _ hb => hown b hb⟩⟩
  · intro t x hx
    obtain ⟨p, hp, e⟩ := List.mem_map.1 hx
    simp only [Prod.mk.injEq] at e
    obtain ⟨rfl, rfl⟩ := e
    obtain ⟨h1, h2⟩ := g.fr p.1 p.2 hp
    exact ⟨h1, h2.frz hOO hm'2 hy⟩
  · have : keys ((s.L.filter fun p => p.1 != h).map fun p => (p.1, p.2.frz h (.d y'))) = (keys s.L).filter fun i => i != h := by
      simp only [keys, List.map_map, List.filter_map]
      rfl
    show (keys ((s.L.filter fun p => p.1 != h).map fun p => (p.1, p.2.frz h (.d y')))).Nodup
    rw [this]
    exact hi.nodup.filter _
  · intro i x hx
    obtain ⟨h1, h2⟩ := hm'1 i x hx
    have := hi.dom i x h1
    simp only [keys, List.mem_map] at this ⊢
    obtain ⟨p, hp, rfl⟩ := this
    exact ⟨_, ⟨p, List.mem_filter.2 ⟨hp, by simpa using h2⟩, rfl⟩, rfl⟩
  · intro i i' x x' b hx hx' hb hb'
    exact hi.apart i i' x x' b (hm'1 i x hx).1 (hm'1 i' x' hx').1 hb hb'
  · intro i x b hx hb
    exact hi.others i x b (hm'1 i x hx).1 hb
  · intro i r hr
    obtain ⟨p, hp, e⟩ := List.mem_map.1 hr
    simp only [Prod.mk.injEq] at e
    obtain ⟨rfl, rfl⟩ := e
    obtain ⟨hp1, hp2⟩ := List.mem_filter.1 hp
    obtain ⟨x, hx, hh⟩ := hi.holds p.1 p.2 hp1
    exact ⟨x, hm'2 _ _ (by simpa using hp2) hx, hh.frz hOO hm'2 hy⟩
theorem Wk.freeze (h : Nat) {ty : TypeId} {k : Nat} {ys : List (List D)} (hl : s.L.lookup h = some (.row ty k (dd ys))) :
    Wk n s ⟨s.fr.map fun p => (p.1, V.frz h (.d (.sl ys)) p.2), frzL h (.d (.sl ys)) s.L⟩ := by
  rw [frzL_eq]
  exact Wk.freeze0 h _ (fun _ _ _ h => h) hl
theorem RelD.nn {w : World} {O : Nat → Prop} {x : Value} {y : D} (h : RelD w O x y) : RelD w O x y.nn := by
  unfold D.nn
  split
  · cases h; exact nil_rel
  · exact h
attribute [simp] V.frz V.frzs Res.frz frzL D.nn
end
end Go.Ab

namespace Go.Ab
open Go.ChangeShapes Go.WideShapes Go.RowKit
def otherT : Option TypeDesc → Bool
  | some .bool | some (.int _) | some .string | some (.slice _) | some (.struct _) | some (.array _ _) => false
  | _ => true
inductive HasT (P : Program) : TypeId → List D → Prop
  | bool {t : TypeId} (b : Bool) (u : P.underlying t = some .bool) : HasT P t [.v (.bool b)]
  | int {t : TypeId} {k : IntKind} (n : Int) (u : P.underlying t = some (.int k)) (h : inR k n) : HasT P t [.v (.int k n)]
  | str {t : TypeId} (s : ByteArray) (u : P.underlying t = some .string) (h : s.size ≤ 140737488351232) : HasT P t [.v (.string s)]
  | sl {t e : TypeId} (xs : List (List D)) (u : P.underlying t = some (.slice e)) (hx : ∀ (i : Nat) (x : List D), xs[i]? = some x → HasT P e x) (hl : xs.length ≤ 9223372036854775807) (hw : xs.length * P.bytesOf e ≤ 140737488351232) : HasT P t [.sl xs]
  | struct {t : TypeId} {fs : Array Field} (yss : List (List D)) (u : P.underlying t = some (.struct fs)) (hl : yss.length = fs.size)
      (h : ∀ (i : Nat) (f : Field) (ys : List D), fs[i]? = some f → yss[i]? = some ys → HasT P f.type ys) : HasT P t yss.flatten
  | arr {t e : TypeId} {n : Nat} (yss : List (List D)) (u : P.underlying t = some (.array n e)) (hl : yss.length = n)
      (h : ∀ (i : Nat) (ys : List D), yss[i]? = some ys → HasT P e ys) : HasT P t yss.flatten
  | other {t : TypeId} (y : D) (u : otherT (P.underlying t) = true) : HasT P t [y]
mutual
def bD : D → Nat
  | .v (.string s) => s.size + 1
  | .v _ => 1
  | .sl xs => bDss xs + 1
  | .ifc _ _ _ => 1
def bDs : List D → Nat
  | [] => 0
  | x :: l => bD x + bDs l
def bDss : List (List D) → Nat
  | [] => 0
  | x :: l => bDs x + bDss l
end
mutual
def bulkW {H : Type} : DataW H → Nat
  | .lit (.string bytes) => bytes.length + 1
  | .lit _ => 1
  | .nil => 1
  | .ptr d => bulkW d + 1
  | .slice elems spare => bulkAll elems + bulkAll spare + 1
  | .agg parts => bulkAll parts + 1
  | .iface _ d => bulkW d + 1
  | .map entries => bulkEntries entries + 1
  | .held _ => 1
def bulkAll {H : Type} : List (DataW H) → Nat
  | [] => 0
  | d :: r => bulkW d + bulkAll r
def bulkEntries {H : Type} : List (Lit × DataW H) → Nat
  | [] => 0
  | x :: r => bulkEntry x + bulkEntries r
def bulkEntry {H : Type} : Lit × DataW H → Nat
  | (.string bytes, d) => bytes.length + bulkW d + 1
  | (_, d) => bulkW d + 1
end
theorem bulkW_pos {H : Type} (d : DataW H) : 1 ≤ bulkW d := by
  cases d with
  | lit l => cases l <;> simp [bulkW]
  | nil => simp [bulkW]
  | ptr d => simp [bulkW]
  | slice elems spare => simp [bulkW]
  | agg parts => simp [bulkW]
  | iface t d => simp [bulkW]
  | map entries => simp [bulkW]
  | held h => simp [bulkW]
theorem bDs_app (l r : List D) : bDs (l ++ r) = bDs l + bDs r := by
  induction l with
  | nil => simp [bDs]
  | cons x l ih => simp only [List.cons_append, bDs, ih]; omega
theorem bDss_le {H : Type} : ∀ (l : List (List D)) (r : List (DataW H)), l.length = r.length → (∀ (i : Nat) (x : List D) (d : DataW H), l[i]? = some x → r[i]? = some d → bDs x ≤ bulkW d) → bDss l ≤ bulkAll r
  | [], [], _, _ => by simp [bDss, bulkAll]
  | x :: l, d :: r, h, hb => by
    have h0 := hb 0 x d rfl rfl
    have h1 := bDss_le l r (by simpa using h) (fun i x d hx hd => hb (i + 1) x d (by simpa using hx) (by simpa using hd))
    simp only [bDss, bulkAll]; omega
  | [], _ :: _, h, _ => by simp at h
  | _ :: _, [], h, _ => by simp at h
theorem bDs_flatten (l : List (List D)) : bDs l.flatten = bDss l := by
  induction l with
  | nil => simp [bDs, bDss]
  | cons x l ih => simp only [List.flatten_cons, bDs_app, bDss, ih]
theorem add_none' {a : Addr} {i : Nat} (h : a.spot = none) : a.add i = ⟨a.block, a.off + i, none⟩ := by
  obtain ⟨b, o, s⟩ := a
  simp only at h
  subst h
  unfold Addr.add
  split
  · rename_i hi; subst hi; rfl
  · rfl
def contig (P : Program) : Nat → List Field → Option Nat
  | o, [] => some o
  | o, f :: fs => if f.offset = o then contig P (o + P.cellsOf f.type) fs else none
def fineB (P : Program) : Bool := (List.range P.types.size).all fun t => match P.underlying t with
  | some (.slice e) => decide (0 < P.cellsOf e) && decide (e < P.types.size)
  | some (.struct fs) => (contig P 0 fs.toList == some (P.cellsOf t)) && fs.toList.all fun f => decide (f.type < P.types.size)
  | some (.array n e) => (P.cellsOf t == n * P.cellsOf e) && decide (e < P.types.size)
  | _ => true
def RelC (w : World) (cs : List Value) (ys : List D) : Prop :=
  cs.length = ys.length ∧ ∀ (j : Nat) (x : Value) (y : D), cs[j]? = some x → ys[j]? = some y → x.oneCell' = true ∧ RelD w (fun _ => False) x y
theorem RelC.nil (w : World) : RelC w [] [] := ⟨rfl, by simp⟩
theorem RelC.one {w : World} {x : Value} {y : D} (h1 : x.oneCell' = true) (h : RelD w (fun _ => False) x y) : RelC w [x] [y] := by
  refine ⟨rfl, fun j x' y' hx hy => ?_⟩
  cases j with
  | zero => simp at hx hy; subst hx; subst hy; exact ⟨h1, h⟩
  | succ j => simp at hx
theorem RelC.append {w : World} {c1 c2 : List Value} {y1 y2 : List D} (h1 : RelC w c1 y1) (h2 : RelC w c2 y2) : RelC w (c1 ++ c2) (y1 ++ y2) := by
  refine ⟨by simp [h1.1, h2.1], fun j x y hx hy => ?_⟩
  by_cases hj : j < c1.length
  · rw [List.getElem?_append_left hj] at hx
    rw [List.getElem?_append_left (by rw [← h1.1]; exact hj)] at hy
    exact h1.2 j x y hx hy
  · rw [List.getElem?_append_right (by omega)] at hx
    rw [List.getElem?_append_right (by rw [← h1.1]; omega)] at hy
    rw [← h1.1] at hy
    exact h2.2 _ x y hx hy
theorem flat_fields {P : Program} {w : World} {cs : List Value} : ∀ (Hh : Nat → Field → List D → Prop) (fs : List Field) (o : Nat), contig P o fs = some cs.length →
    (∀ (i : Nat) f, fs[i]? = some f → ∃ ys, RelC w ((cs.drop f.offset).take (P.cellsOf f.type)) ys ∧ Hh i f ys) →
    ∃ yss : List (List D), yss.length = fs.length ∧ RelC w (cs.drop o) yss.flatten ∧ ∀ (i : Nat) (f : Field) (ys : List D), fs[i]? = some f → yss[i]? = some ys → Hh i f ys
  | _, [], o, hc, _ => by
    simp only [contig, Option.some.injEq] at hc
    subst hc
    exact ⟨[], rfl, by simp [RelC.nil], by simp⟩
  | Hh, f :: fs, o, hc, h => by
    rw [contig] at hc
    split at hc
    · rename_i hof
      obtain ⟨ys, h1, h2⟩ := h 0 f rfl
      obtain ⟨yss, h3, h4, h5⟩ := flat_fields (fun i => Hh (i + 1)) fs _ hc (fun i g hg => h (i + 1) g (by simpa using hg))
      refine ⟨ys :: yss, by simp [h3], ?_, fun i g zs hi hz => ?_⟩
      · have e : cs.drop o = ((cs.drop f.offset).take (P.cellsOf f.type)) ++ cs.drop (o + P.cellsOf f.type) := by
          rw [hof, ← List.drop_drop, List.take_append_drop]
        rw [e]
        exact h1.append h4
      · cases i with
        | zero => simp at hi hz; subst hi; subst hz; exact h2
        | succ i => exact h5 i g zs (by simpa using hi) (by simpa using hz)
    · cases hc
theorem flat_elems {w : World} {k : Nat} : ∀ (Hh : Nat → List D → Prop) (n : Nat) (cs : List Value), cs.length = n * k →
    (∀ i, i < n → ∃ ys, RelC w ((cs.drop (i * k)).take k) ys ∧ Hh i ys) →
    ∃ yss : List (List D), yss.length = n ∧ RelC w cs yss.flatten ∧ ∀ (i : Nat) (ys : List D), yss[i]? = some ys → Hh i ys
  | _, 0, cs, hl, _ => by
    have : cs = [] := List.length_eq_zero_iff.1 (by simpa using hl)
    subst this
    exact ⟨[], rfl, by simp [RelC.nil], by simp⟩
  | Hh, n + 1, cs, hl, h => by
    obtain ⟨ys, h1, h2⟩ := h 0 (by omega)
    have hl' : cs.length = n * k + k := by rw [hl, Nat.succ_mul]
    obtain ⟨yss, h3, h4, h5⟩ := flat_elems (k := k) (fun i => Hh (i + 1)) n (cs.drop k) (by simp [hl']) (fun i hi => by
      obtain ⟨ys, a, b⟩ := h (i + 1) (by omega)
      refine ⟨ys, ?_, b⟩
      rw [List.drop_drop, show k + i * k = (i + 1) * k by rw [Nat.succ_mul]; omega]
      exact a)
    refine ⟨ys :: yss, by simp [h3], ?_, fun i zs hz => ?_⟩
    · have := h1.append h4
      simpa using this
    · cases i with
      | zero => simp at hz; subst hz; exact h2
      | succ i => exact h5 i zs (by simpa using hz)
section
variable {H : Type} {enc : TypeId × Value → H} {P : Program} {w : World}
theorem weights_all {e : TypeId} {B : Nat} {l : List (DataW H)} (h : ∀ n ∈ DataW.weightsAll P e l, n ≤ B) {d : DataW H} (hd : d ∈ l) : ∀ n ∈ DataW.weights P e d, n ≤ B := by
  induction l with
  | nil => cases hd
  | cons a l ih =>
    simp only [DataW.weightsAll, List.mem_append] at h
    rcases List.mem_cons.1 hd with rfl | hd
    · exact fun n hn => h n (.inl hn)
    · exact ih (fun n hn => h n (.inr hn)) hd
theorem weights_each {B : Nat} : ∀ {ts : List TypeId} {l : List (DataW H)} (_ : ∀ n ∈ DataW.weightsEach P ts l, n ≤ B) {i : Nat} {t : TypeId} {d : DataW H} (_ : ts[i]? = some t) (_ : l[i]? = some d), ∀ n ∈ DataW.weights P t d, n ≤ B
  | [], _, _, i, _, _, ht, _ => by simp at ht
  | _ :: _, [], _, i, _, _, _, hd => by simp at hd
  | t0 :: ts, d0 :: l, h, i, t, d, ht, hd => by
    simp only [DataW.weightsEach, List.mem_append] at h
    cases i with
    | zero => simp at ht hd; subst ht; subst hd; exact fun n hn => h n (.inl hn)
    | succ i => exact weights_each (fun n hn => h n (.inr hn)) (by simpa using ht) (by simpa using hd)
theorem open_trod (hf : fineB P = true) : ∀ (fuel : Nat) (t : TypeId) (cs : List Value) (d : DataW H) (ps : List MemPlace), t < P.types.size →
    DataW.trod enc P w 0 (fun _ => true) true fuel t cs = some (d, ps) → (∀ n ∈ DataW.weights P t d, n ≤ reachBytes) → ∃ ys, RelC w cs ys ∧ HasT P t ys ∧ bDs ys ≤ bulkW d
  | 0, _, _, _, _, _, h, _ => by simp [DataW.trod] at h
  | fuel + 1, t, cs, d, ps, ht, h, hw => by
    have IH := open_trod hf fuel
    have hft : _ := List.all_eq_true.1 hf t (by simpa using ht)
    unfold DataW.trod at h
    split at h
    · rename_i b hu; exact ⟨_, RelC.one rfl (.v _ rfl), .bool _ hu, by have := bulkW_pos d; simp [bDs, bD]; omega⟩
    · rename_i k k' n hu
      split at h
      · rename_i hk
        obtain ⟨rfl, hk⟩ := hk
        exact ⟨_, RelC.one rfl (.v _ rfl), .int _ hu (by simpa [inR, Lit.wf] using hk), by have := bulkW_pos d; simp [bDs, bD]; omega⟩
      · cases h
    · rename_i k k' n hu; exact ⟨_, RelC.one rfl (.v _ rfl), .other _ (by simp [hu, otherT]), by have := bulkW_pos d; simp [bDs, bD]; omega⟩
    · rename_i s hu
      split at h
      · cases h
        refine ⟨_, RelC.one rfl (.v _ rfl), .str _ hu ?_, by simp only [bDs, bD, bulkW, Array.length_toList]; exact Nat.le_refl _⟩
        have := hw s.data.toList.length (by simp [DataW.weights])
        simpa [reachBytes] using this
      · cases h
    · rename_i e hu; exact ⟨_, RelC.one rfl (.v _ rfl), .other _ (by simp [hu, otherT]), by have := bulkW_pos d; simp [bDs, bD]; omega⟩
    · rename_i e a hu; exact ⟨_, RelC.one rfl (.v _ rfl), .other _ (by simp [hu, otherT]), by have := bulkW_pos d; simp [bDs, bD]; omega⟩
    · rename_i e hu
      exact ⟨_, RelC.one rfl (.sl none 0 0 [] 0 0 0 (fun _ _ => undef) rfl (Nat.le_refl _) (by unfold maxLen; omega) (by omega) (by simp) (by omega) (by simp)), .sl [] hu (by simp) (by simp) (by simp), by have := bulkW_pos d; simp [bDs, bD, bDss]; omega⟩
    · rename_i e a len cap hu
      rw [hu] at hft
      simp only [Bool.and_eq_true, decide_eq_true_eq] at hft
      simp only at h
      split at h
      · rename_i hb
        obtain ⟨_, hlc, hcm⟩ := hb
        obtain ⟨elems, he, h⟩ := Option.bind_eq_some_iff.1 h
        obtain ⟨rest, hr, h⟩ := Option.map_eq_some_iff.1 h
        simp only [Prod.mk.injEq] at h
        obtain ⟨rfl, _⟩ := h
        have hlen : elems.length = len := by simpa using mapM_some_length he
        simp only [if_true] at hr
        have hlr : rest.length = cap - len := by simpa using mapM_some_length hr
        have hwl : ∀ n ∈ (((elems.map (·.1)).length + (rest.map (·.1)).length) * P.bytesOf e) :: (DataW.weightsAll P e (elems.map (·.1)) ++ DataW.weightsAll P e (rest.map (·.1))), n ≤ reachBytes := by
          simpa [DataW.weights, hu] using hw
        have key : ∀ i, i < len → ∃ cs x, (w.cells? 0 (a.add (i * P.cellsOf e)) (P.cellsOf e)) = some cs ∧ RelC w cs x ∧ HasT P e x ∧ ∀ y, elems[i]? = some y → bDs x ≤ bulkW y.1 := fun i hi => by
          have hi' := mapM_some_get he i i (by simp [hi])
          obtain ⟨y, hy⟩ : ∃ y, elems[i]? = some y := ⟨_, List.getElem?_eq_getElem (by omega)⟩
          rw [hy] at hi'
          obtain ⟨cs', hcs, htr⟩ := Option.bind_eq_some_iff.1 hi'
          obtain ⟨yd, yp⟩ := y
          obtain ⟨x, hx1, hx2, hx3⟩ := IH e cs' yd yp hft.2 htr (weights_all (l := elems.map (·.1)) (fun n hn => hwl n (List.mem_cons_of_mem _ (List.mem_append_left _ hn))) (List.mem_map.2 ⟨(yd, yp), List.mem_of_getElem? hy, rfl⟩))
          exact ⟨cs', x, hcs, hx1, hx2, fun y' hy' => by rw [hy] at hy'; cases hy'; exact hx3⟩
        have kc : ∀ i, ∃ cs x, i < len → (w.cells? 0 (a.add (i * P.cellsOf e)) (P.cellsOf e)) = some cs ∧ RelC w cs x ∧ HasT P e x ∧ ∀ y, elems[i]? = some y → bDs x ≤ bulkW y.1 := fun i => by
          by_cases hi : i < len
          · obtain ⟨cs, x, h⟩ := key i hi; exact ⟨cs, x, fun _ => h⟩
          · exact ⟨[], [], fun h => absurd h hi⟩
        obtain ⟨fc, kc⟩ := Classical.axiomOfChoice kc
        obtain ⟨fx, kc⟩ := Classical.axiomOfChoice kc
        have spot : 0 < len → a.spot = none := fun h0 => by
          have := (World.cells?_some (kc 0 h0).1).2.2 0 hft.1
          have hx : ∃ v, (fc 0)[0]? = some v := ⟨_, List.getElem?_eq_getElem (by rw [(World.cells?_some (kc 0 h0).1).2.1]; exact hft.1)⟩
          obtain ⟨v, hv⟩ := hx
          rw [hv] at this
          have := World.cell?_spot this
          simpa [Addr.add] using this
        have cells : ∀ i j, i < len → j < P.cellsOf e → w.cell? ⟨a.block, a.off + i * P.cellsOf e + j, none⟩ = (fc i)[j]? := fun i j hi hj => by
          have := (World.cells?_some (kc i hi).1).2.2 j hj
          have hs := spot (by omega)
          rw [← this, add_none' hs, add_none' rfl]
        have lenc : ∀ i, i < len → (fc i).length = P.cellsOf e := fun i hi => (World.cells?_some (kc i hi).1).2.1
        refine ⟨_, RelC.one rfl (.sl (some a) len cap ((List.range len).map fx) (P.cellsOf e) a.block a.off (fun i j => (fc i).getD j undef) (by rw [List.length_map, List.length_range]) hlc hcm (fun h0 => ⟨?_, fun h => h, ?_⟩) ?_ ?_ ?_), .sl _ hu ?_ ?_ ?_, ?_⟩
        · obtain ⟨ab, ao, asp⟩ := a
          simp only at spot
          rw [spot h0]
        · have h1 := cells 0 0 h0 hft.1
          have : (fc 0)[0]? = some ((fc 0)[0]'(by rw [lenc 0 h0]; exact hft.1)) := List.getElem?_eq_getElem _
          rw [this] at h1
          exact lt_of_cell h1
        · intro i x hx
          obtain ⟨hi, rfl⟩ : i < len ∧ fx i = x := by
            simp only [List.getElem?_map, Option.map_eq_some_iff] at hx
            obtain ⟨i', hi', rfl⟩ := hx
            have hh : i < len := by
              have := (List.getElem?_eq_some_iff.1 hi').1
              simpa using this
            rw [List.getElem?_range hh] at hi'
            cases hi'
            exact ⟨hh, rfl⟩
          rw [← (kc i hi).2.1.1]
          exact lenc i hi
        · intro i j hi hj
          rw [cells i j hi hj, List.getElem?_eq_getElem (by rw [lenc i hi]; exact hj)]
          simp [List.getD_eq_getElem?_getD, List.getElem?_eq_getElem (show j < (fc i).length by rw [lenc i hi]; exact hj)]
        · intro i j x y hx hy
          obtain ⟨hi, rfl⟩ : i < len ∧ fx i = x := by
            simp only [List.getElem?_map, Option.map_eq_some_iff] at hx
            obtain ⟨i', hi', rfl⟩ := hx
            have hh : i < len := by
              have := (List.getElem?_eq_some_iff.1 hi').1
              simpa using this
            rw [List.getElem?_range hh] at hi'
            cases hi'
            exact ⟨hh, rfl⟩
          have hjl : j < (fc i).length := by
            rw [(kc i hi).2.1.1]
            exact (List.getElem?_eq_some_iff.1 hy).1
          refine ((kc i hi).2.1.2 j _ y (List.getElem?_eq_getElem hjl) hy).2 |> fun h => ?_
          simpa [List.getD_eq_getElem?_getD, List.getElem?_eq_getElem hjl] using h
        · intro i x hx
          simp only [List.getElem?_map, Option.map_eq_some_iff] at hx
          obtain ⟨i', hi', rfl⟩ := hx
          have hh : i < len := by
            have := (List.getElem?_eq_some_iff.1 hi').1
            simpa using this
          rw [List.getElem?_range hh] at hi'
          cases hi'
          exact (kc i hh).2.2.1
        · unfold maxLen at hcm; simp; omega
        · have := hwl _ List.mem_cons_self
          simp only [List.length_map, hlen, hlr, reachBytes] at this
          simp only [List.length_map, List.length_range]
          refine Nat.le_trans ?_ this
          exact Nat.mul_le_mul_right _ (by omega)
        · have hs := bDss_le ((List.range len).map fx) (elems.map (·.1)) (by simp [hlen]) (fun i x d hx hd => by
            simp only [List.getElem?_map, Option.map_eq_some_iff] at hx hd
            obtain ⟨i', hi', rfl⟩ := hx
            obtain ⟨y, hy, rfl⟩ := hd
            have hh : i < len := by
              have := (List.getElem?_eq_some_iff.1 hi').1
              simpa using this
            rw [List.getElem?_range hh] at hi'
            cases hi'
            exact (kc i hh).2.2.2 y hy)
          simp only [bDs, bD, bulkW]; omega
      · cases h
    · rename_i cs xo cs2 fs hu
      rw [hu] at hft
      simp only [Bool.and_eq_true, beq_iff_eq, List.all_eq_true, decide_eq_true_eq] at hft
      split at h
      · rename_i hcl
        obtain ⟨xs, hxs, h⟩ := Option.map_eq_some_iff.1 h
        simp only [Prod.mk.injEq] at h
        obtain ⟨rfl, _⟩ := h
        have hlen := mapM_some_length hxs
        obtain ⟨yss, h1, h2, h3⟩ := flat_fields (w := w) (cs := cs) (fun i f ys => HasT P f.type ys ∧ ∀ x, xs[i]? = some x → bDs ys ≤ bulkW x.1) fs.toList 0 (by rw [hcl]; exact hft.1) (fun i f hi => by
          have hfm : f ∈ fs.toList := List.mem_of_getElem? hi
          have := mapM_some_get hxs i f hi
          obtain ⟨x, hx⟩ : ∃ x, xs[i]? = some x := ⟨_, List.getElem?_eq_getElem (by rw [hlen]; exact (List.getElem?_eq_some_iff.1 hi).1)⟩
          rw [hx] at this
          obtain ⟨xd, xp⟩ := x
          obtain ⟨zs, z1, z2, z3⟩ := IH f.type _ xd xp (hft.2 f hfm) this (weights_each (ts := fs.toList.map (·.type)) (l := xs.map (·.1)) (by simpa [DataW.weights, hu] using hw) (i := i) (by simp only [List.getElem?_map, hi]; rfl) (by simp only [List.getElem?_map, hx]; rfl))
          exact ⟨zs, z1, z2, fun x' hx' => by rw [hx] at hx'; cases hx'; exact z3⟩)
        refine ⟨_, by simpa using h2, .struct yss hu (by simpa using h1) (fun i f ys hi hy => (h3 i f ys (by simpa using hi) hy).1), ?_⟩
        have hs := bDss_le yss (xs.map (·.1)) (by simp [h1, hlen]) (fun i ys d hy hd => by
          simp only [List.getElem?_map, Option.map_eq_some_iff] at hd
          obtain ⟨x, hx, rfl⟩ := hd
          have hif : i < fs.toList.length := by rw [← hlen]; exact (List.getElem?_eq_some_iff.1 hx).1
          exact (h3 i _ ys (List.getElem?_eq_getElem hif) hy).2 x hx)
        rw [bDs_flatten]
        simp only [bulkW]; omega
      · cases h
    · rename_i cs xo cs2 n e hu
      rw [hu] at hft
      simp only [Bool.and_eq_true, beq_iff_eq, decide_eq_true_eq] at hft
      split at h
      · rename_i hcl
        obtain ⟨xs, hxs, h⟩ := Option.map_eq_some_iff.1 h
        simp only [Prod.mk.injEq] at h
        obtain ⟨rfl, _⟩ := h
        have hlen : xs.length = n := by simpa using mapM_some_length hxs
        obtain ⟨yss, h1, h2, h3⟩ := flat_elems (w := w) (k := P.cellsOf e) (fun i ys => HasT P e ys ∧ ∀ x, xs[i]? = some x → bDs ys ≤ bulkW x.1) n cs (by rw [hcl]; exact hft.1) (fun i hi => by
          have := mapM_some_get hxs i i (by simp [hi])
          obtain ⟨x, hx⟩ : ∃ x, xs[i]? = some x := ⟨_, List.getElem?_eq_getElem (by omega)⟩
          rw [hx] at this
          obtain ⟨xd, xp⟩ := x
          obtain ⟨zs, z1, z2, z3⟩ := IH e _ xd xp hft.2 this (weights_all (l := xs.map (·.1)) (by simpa [DataW.weights, hu] using hw) (List.mem_map.2 ⟨_, List.mem_of_getElem? hx, rfl⟩))
          exact ⟨zs, z1, z2, fun x' hx' => by rw [hx] at hx'; cases hx'; exact z3⟩)
        refine ⟨_, h2, .arr yss hu h1 (fun i ys hy => (h3 i ys hy).1), ?_⟩
        have hs := bDss_le yss (xs.map (·.1)) (by simp [h1, hlen]) (fun i ys d hy hd => by
          simp only [List.getElem?_map, Option.map_eq_some_iff] at hd
          obtain ⟨x, hx, rfl⟩ := hd
          exact (h3 i ys hy).2 x hx)
        rw [bDs_flatten]
        simp only [bulkW]; omega
      · cases h
    · rename_i ms hu; exact ⟨_, RelC.one rfl (.v _ rfl), .other _ (by simp [hu, otherT]), by have := bulkW_pos d; simp [bDs, bD]; omega⟩
    · rename_i ms u v hu
      exact ⟨_, RelC.one rfl (.v _ rfl), .other _ (by simp [hu, otherT]), by have := bulkW_pos d; simp [bDs, bD]; omega⟩
    · rename_i hu; exact ⟨_, RelC.one rfl (.v _ rfl), .other _ (by simp [hu, otherT]), by have := bulkW_pos d; simp [bDs, bD]; omega⟩
    · rename_i hu; exact ⟨_, RelC.one rfl (.v _ rfl), .other _ (by simp [hu, otherT]), by have := bulkW_pos d; simp [bDs, bD]; omega⟩
    · rename_i hu; exact ⟨_, RelC.one rfl (.v _ rfl), .other _ (by simp [hu, otherT]), by have := bulkW_pos d; simp [bDs, bD]; omega⟩
    · rename_i hu; exact ⟨_, RelC.one rfl (.v _ rfl), .other _ (by simp [hu, otherT]), by have := bulkW_pos d; simp [bDs, bD]; omega⟩
    · rename_i hu; exact ⟨_, RelC.one rfl (.v _ rfl), .other _ (by simp [hu, otherT]), by have := bulkW_pos d; simp [bDs, bD]; omega⟩
    · rename_i hu; exact ⟨_, RelC.one rfl (.v _ rfl), .other _ (by simp [hu, otherT]), by have := bulkW_pos d; simp [bDs, bD]; omega⟩
    · rename_i hu; exact ⟨_, RelC.one rfl (.v _ rfl), .other _ (by simp [hu, otherT]), by have := bulkW_pos d; simp [bDs, bD]; omega⟩
    · rename_i hu; exact ⟨_, RelC.one rfl (.v _ rfl), .other _ (by simp [hu, otherT]), by have := bulkW_pos d; simp [bDs, bD]; omega⟩
    · cases h
end
end Go.Ab

namespace Go.Ab
open Go.ChangeShapes Go.WideShapes Go.RowKit
def argV (P : Program) (t : TypeId) (ys : List D) : V :=
  match P.underlying t with
  | some (.struct _) | some (.array _ _) => .agg (ys.map .d)
  | _ => match ys with
    | [y] => .d y
    | _ => .any
section
variable {H : Type} {enc : TypeId × Value → H} {P : Program} {w : World}
theorem argV_rel {base : Nat} {t : TypeId} {v : Value} {ys : List D} (hc : RelC w v.cells.toList ys) (hok : Value.okWide P w .any base t v) : RelV w (OO (⟨fun _ => False, [], none, false⟩ : FO) noneM) noneM v (argV P t ys) := by
  have up : ∀ x y, RelD w (fun _ => False) x y → RelD w (OO (⟨fun _ => False, [], none, false⟩ : FO) noneM) x y := fun x y h =>
    h.mono (w := w) (Keep.refl _ _) (fun b _ ho => by rcases ho with ho | ho; exact absurd ho (noneM_own b); exact ho)
  have ag : ∀ cs : Array Value, v = .agg cs → RelV w (OO (⟨fun _ => False, [], none, false⟩ : FO) noneM) noneM v (.agg (ys.map .d)) := by
    rintro cs rfl
    have hcs : (Value.agg cs).cells.toList = cs.toList := rfl
    rw [hcs] at hc
    refine .agg cs _ (by simpa using hc.1) (fun j x hx => ?_) (fun j x y hx hy => ?_)
    · have hj : j < ys.length := by rw [← hc.1]; simpa using (Array.getElem?_eq_some_iff.1 hx).1
      exact (hc.2 j x _ (by simpa using hx) (List.getElem?_eq_getElem hj)).1
    · simp only [List.getElem?_map, Option.map_eq_some_iff] at hy
      obtain ⟨y', hy', rfl⟩ := hy
      exact .d _ _ (up _ _ (hc.2 j x _ (by simpa using hx) hy').2)
  unfold argV
  split
  · rename_i fs hu
    rw [Value.okWide, hu] at hok
    obtain ⟨cs, hv, _⟩ := hok
    exact ag cs hv
  · rename_i n e hu
    rw [Value.okWide, hu] at hok
    obtain ⟨cs, hv, _⟩ := hok
    exact ag cs hv
  · rename_i h1 h2
    split
    · rename_i y
      have hne : ∀ cs, v ≠ .agg cs := by
        rintro cs rfl
        rw [Value.okWide] at hok
        split at hok
        · rename_i fs hu; exact h1 fs hu
        · rename_i n e hu; exact h2 n e hu
        · unfold Cell.okWide at hok
          split at hok <;> first | (rename_i h; cases h; done) | skip
          unfold Cell.ok at hok
          split at hok <;> first | (rename_i h; cases h; done) | exact hok | simp_all
      have hcells : v.cells.toList = [v] := by
        cases v <;> first | rfl | exact absurd rfl (hne _)
      rw [hcells] at hc
      exact .d _ _ (up _ _ (hc.2 0 v y rfl rfl).2)
    · exact .any _
theorem open_all (hf : fineB P = true) {base : Nat} : ∀ (ts : List TypeId) (vs : List Value) (ds : List (DataW H)) (ps : List MemPlace), (∀ t ∈ ts, t < P.types.size) →
    DataW.TrodAll enc P w 0 (fun _ => true) true ts vs ds ps → (∀ n ∈ DataW.weightsEach P ts ds, n ≤ reachBytes) →
    (∀ (j : Nat) t v, ts[j]? = some t → vs[j]? = some v → Value.okWide P w .any base t v) →
    ∃ yss : List (List D), yss.length = ts.length ∧ (∀ (i : Nat) t ys, ts[i]? = some t → yss[i]? = some ys → HasT P t ys) ∧ vs.length = ts.length ∧ ds.length = ts.length ∧ bDss yss ≤ bulkAll ds ∧
      ∀ (j : Nat) x y, vs[j]? = some x → ((ts.zip yss).map fun p => argV P p.1 p.2)[j]? = some y → RelV w (OO (⟨fun _ => False, [], none, false⟩ : FO) noneM) noneM x y
  | [], [], [], _, _, _, _, _ => ⟨[], rfl, by simp, rfl, rfl, by simp [bDss], by simp⟩
  | t :: ts, v :: vs, d :: ds, ps, ht, h, hw, hok => by
    obtain ⟨p, q, h0, hr, rfl⟩ := h
    simp only [DataW.weightsEach, List.mem_append] at hw
    obtain ⟨yss, a1, a2, a3, a4, a6, a5⟩ := open_all hf ts vs ds q (fun t h => ht t (List.mem_cons_of_mem _ h)) hr (fun n hn => hw n (.inr hn)) (fun j t v h1 h2 => hok (j + 1) t v (by simpa using h1) (by simpa using h2))
    obtain ⟨fuel, h0⟩ := h0
    obtain ⟨ys, b1, b2, b3⟩ := open_trod hf fuel t _ d p (ht t List.mem_cons_self) h0 (fun n hn => hw n (.inl hn))
    refine ⟨ys :: yss, by simp [a1], fun i t' ys' hi hy => ?_, by simp [a3], by simp [a4], by simp only [bDss, bulkAll]; omega, fun j x y hx hy => ?_⟩
    · cases i with
      | zero => simp at hi hy; subst hi; subst hy; exact b2
      | succ i => exact a2 i t' ys' (by simpa using hi) (by simpa using hy)
    · cases j with
      | zero => simp at hx hy; subst hx; subst hy; exact argV_rel b1 (hok 0 t v rfl rfl)
      | succ j => exact a5 j x y (by simpa using hx) (by simpa using hy)
  | [], [], _ :: _, _, _, h, _, _ => h.elim
  | [], _ :: _, _, _, _, h, _, _ => h.elim
  | _ :: _, [], _, _, _, h, _, _ => h.elim
  | _ :: _, _ :: _, [], _, _, h, _, _ => h.elim
theorem trod_all_stays (hl : laidOutB P = true) {W W' : World} (hb : Below W.heap.size W W') : ∀ (ts : List TypeId) (vs : List Value) (ds : List (DataW H)) (ps : List MemPlace), (∀ t ∈ ts, P.readableRec t = true ∧ t < P.types.size) →
    DataW.TrodAll enc P W 0 (fun _ => true) true ts vs ds ps → (∀ x ∈ ps, x.block < W.heap.size) → DataW.TrodAll enc P W' 0 (fun b => decide (b < W.heap.size)) true ts vs ds ps
  | [], [], [], _, _, h, _ => h
  | t :: ts, v :: vs, d :: ds, ps, ht, h, hlt => by
    obtain ⟨p, q, h0, hr, rfl⟩ := h
    exact ⟨p, q, Below.trod hl (ht t List.mem_cons_self).1 (ht t List.mem_cons_self).2 h0 hb (fun x hx => hlt x (List.mem_append_left _ hx)),
      trod_all_stays hl hb ts vs ds q (fun t h => ht t (List.mem_cons_of_mem _ h)) hr (fun x hx => hlt x (List.mem_append_right _ hx)), rfl⟩
  | [], [], _ :: _, _, _, h, _ => h.elim
  | [], _ :: _, _, _, _, h, _ => h.elim
  | _ :: _, [], _, _, _, h, _ => h.elim
  | _ :: _, _ :: _, [], _, _, h, _ => h.elim
end
end Go.Ab

namespace Go.Ab
inductive TK where
  | bool
  | int (k : IntKind)
  | str
  | sl (e : TypeId) (bytes : Nat)
  | st (ts : List TypeId)
  | arr (n : Nat) (e : TypeId)
  | oth
def tyK (P : Program) (t : TypeId) : TK := match P.underlying t with
  | some .bool => .bool
  | some (.int k) => .int k
  | some .string => .str
  | some (.slice e) => .sl e (P.bytesOf e)
  | some (.struct fs) => .st (fs.toList.map (·.type))
  | some (.array n e) => .arr n e
  | _ => .oth
section
variable {P : Program} {t : TypeId} {ys : List D}
theorem HasT.bool_inv (h : HasT P t ys) (hk : tyK P t = .bool) : ∃ b, ys = [.v (.bool b)] := by
  cases h with
  | bool b u => exact ⟨b, rfl⟩
  | int n u h => simp [tyK, u] at hk
  | str s u h => simp [tyK, u] at hk
  | sl xs u hx hl hw => simp [tyK, u] at hk
  | struct yss u hl h => simp [tyK, u] at hk
  | arr yss u hl h => simp [tyK, u] at hk
  | other y u =>
    unfold tyK at hk
    split at hk <;> first | (simp_all [otherT]; done) | cases hk
theorem HasT.int_inv {k : IntKind} (h : HasT P t ys) (hk : tyK P t = .int k) : ∃ n, ys = [.v (.int k n)] ∧ inR k n := by
  cases h with
  | bool b u => simp [tyK, u] at hk
  | int n u h => simp [tyK, u] at hk; subst hk; exact ⟨n, rfl, h⟩
  | str s u h => simp [tyK, u] at hk
  | sl xs u hx hl hw => simp [tyK, u] at hk
  | struct yss u hl h => simp [tyK, u] at hk
  | arr yss u hl h => simp [tyK, u] at hk
  | other y u =>
    unfold tyK at hk
    split at hk <;> first | (simp_all [otherT]; done) | cases hk
theorem HasT.str_inv (h : HasT P t ys) (hk : tyK P t = .str) : ∃ s, ys = [.v (.string s)] ∧ s.size ≤ 140737488351232 := by
  cases h with
  | bool b u => simp [tyK, u] at hk
  | int n u h => simp [tyK, u] at hk
  | str s u h => exact ⟨s, rfl, h⟩
  | sl xs u hx hl hw => simp [tyK, u] at hk
  | struct yss u hl h => simp [tyK, u] at hk
  | arr yss u hl h => simp [tyK, u] at hk
  | other y u =>
    unfold tyK at hk
    split at hk <;> first | (simp_all [otherT]; done) | cases hk
theorem HasT.sl_inv {e : TypeId} {b : Nat} (h : HasT P t ys) (hk : tyK P t = .sl e b) : ∃ xs, ys = [.sl xs] ∧ (∀ x ∈ xs, HasT P e x) ∧ xs.length ≤ 9223372036854775807 ∧ xs.length * b ≤ 140737488351232 := by
  cases h with
  | bool b u => simp [tyK, u] at hk
  | int n u h => simp [tyK, u] at hk
  | str s u h => simp [tyK, u] at hk
  | sl xs u hx hl hw =>
    simp only [tyK, u, TK.sl.injEq] at hk
    obtain ⟨rfl, rfl⟩ := hk
    exact ⟨xs, rfl, fun x hx' => by obtain ⟨i, hi⟩ := List.getElem?_of_mem hx'; exact hx i x hi, hl, hw⟩
  | struct yss u hl h => simp [tyK, u] at hk
  | arr yss u hl h => simp [tyK, u] at hk
  | other y u =>
    unfold tyK at hk
    split at hk <;> first | (simp_all [otherT]; done) | cases hk
def HasTs (P : Program) : List TypeId → List D → Prop
  | [], ys => ys = []
  | t :: ts, ys => ∃ a b, ys = a ++ b ∧ HasT P t a ∧ HasTs P ts b
theorem hasTs_of : ∀ (fs : List Field) (yss : List (List D)), yss.length = fs.length → (∀ (i : Nat) (f : Field) (ys : List D), fs[i]? = some f → yss[i]? = some ys → HasT P f.type ys) → HasTs P (fs.map (·.type)) yss.flatten
  | [], [], _, _ => rfl
  | f :: fs, y :: yss, hl, h => ⟨y, yss.flatten, by simp, h 0 f y rfl rfl, hasTs_of fs yss (by simpa using hl) (fun i f' ys h1 h2 => h (i + 1) f' ys (by simpa using h1) (by simpa using h2))⟩
  | [], _ :: _, hl, _ => by simp at hl
  | _ :: _, [], hl, _ => by simp at hl
theorem HasT.st_inv {ts : List TypeId} (h : HasT P t ys) (hk : tyK P t = .st ts) : HasTs P ts ys := by
  cases h with
  | bool b u => simp [tyK, u] at hk
  | int n u h => simp [tyK, u] at hk
  | str s u h => simp [tyK, u] at hk
  | sl xs u hx hl hw => simp [tyK, u] at hk
  | struct yss u hl h =>
    simp only [tyK, u, TK.st.injEq] at hk
    subst hk
    exact hasTs_of _ yss (by simpa using hl) (fun i f ys h1 h2 => h i f ys (by simpa using h1) h2)
  | arr yss u hl h => simp [tyK, u] at hk
  | other y u =>
    unfold tyK at hk
    split at hk <;> first | (simp_all [otherT]; done) | cases hk
end
theorem map_of {α : Type} {f : α → List D} {p : α → Prop} : ∀ {xs : List (List D)}, (∀ x ∈ xs, ∃ a, x = f a ∧ p a) → ∃ l : List α, xs = l.map f ∧ ∀ a ∈ l, p a
  | [], _ => ⟨[], rfl, by simp⟩
  | x :: xs, h => by
    obtain ⟨a, rfl, ha⟩ := h x List.mem_cons_self
    obtain ⟨l, rfl, hl⟩ := map_of (fun y hy => h y (List.mem_cons_of_mem _ hy))
    exact ⟨a :: l, rfl, by simpa using ⟨ha, hl⟩⟩
end Go.Ab

namespace Go.Ab
open Go.Proofs
@[simp] theorem tyA_3 : tyA Tryz.prog 3 = some (false, 1) := by kernel_rfl
@[simp] theorem tyZ0_3 : tyZ0 Tryz.prog 3 = [D.v (.int .i64 0)] := by kernel_rfl
@[simp] theorem tyBool_3 : tyBool Tryz.prog 3 = false := by kernel_rfl
@[simp] theorem tyInt_3 : tyInt Tryz.prog 3 = some .i64 := by kernel_rfl
@[simp] theorem tyIfc_3 : tyIfc Tryz.prog 3 = false := by kernel_rfl
@[simp] theorem tyA_4 : tyA Tryz.prog 4 = some (false, 1) := by kernel_rfl
@[simp] theorem tyZ0_4 : tyZ0 Tryz.prog 4 = [D.v (.bool false)] := by kernel_rfl
@[simp] theorem tyBool_4 : tyBool Tryz.prog 4 = true := by kernel_rfl
@[simp] theorem tyA_5 : tyA Tryz.prog 5 = some (false, 1) := by kernel_rfl
@[simp] theorem tyZ0_5 : tyZ0 Tryz.prog 5 = [D.v (.int .u8 0)] := by kernel_rfl
@[simp] theorem tyInt_5 : tyInt Tryz.prog 5 = some .u8 := by kernel_rfl
@[simp] theorem tyA_9 : tyA Tryz.prog 9 = some (false, 1) := by kernel_rfl
@[simp] theorem tyStr_9 : tyStr Tryz.prog 9 = true := by kernel_rfl
@[simp] theorem tyZ0_9 : tyZ0 Tryz.prog 9 = [D.v (.string ⟨#[]⟩)] := by kernel_rfl
@[simp] theorem tyIfc_20 : tyIfc Tryz.prog 20 = true := by kernel_rfl
@[simp] theorem tyA_22 : tyA Tryz.prog 22 = some (false, 1) := by kernel_rfl
@[simp] theorem tyE_22 : tyE Tryz.prog 22 = some (9, 1) := by kernel_rfl
@[simp] theorem tySl_22 : tySl Tryz.prog 22 = some (9, 1, 16, [.string ⟨#[]⟩]) := by kernel_rfl
@[simp] theorem tyA_23 : tyA Tryz.prog 23 = some (false, 1) := by kernel_rfl
@[simp] theorem tyStr_23 : tyStr Tryz.prog 23 = false := by kernel_rfl
@[simp] theorem tySrc_23 : tySrc Tryz.prog 23 = true := by kernel_rfl
@[simp] theorem tyZ0_23 : tyZ0 Tryz.prog 23 = [D.sl []] := by kernel_rfl
@[simp] theorem tyE_23 : tyE Tryz.prog 23 = some (3, 1) := by kernel_rfl
@[simp] theorem tySl_23 : tySl Tryz.prog 23 = some (3, 1, 8, [.int .i64 0]) := by kernel_rfl
@[simp] theorem tyArr_23 : tyArr Tryz.prog 23 = none := by kernel_rfl
@[simp] theorem tyA_24 : tyA Tryz.prog 24 = some (false, 1) := by kernel_rfl
@[simp] theorem tyE_24 : tyE Tryz.prog 24 = some (37, 9) := by kernel_rfl
@[simp] theorem tySl_24 : tySl Tryz.prog 24 = some (37, 9, 136, [.int .i64 0, .int .i64 0, .int .i64 0, .int .i64 0, .bool false, .slice none 0 0, .slice none 0 0, .slice none 0 0, .slice none 0 0]) := by kernel_rfl
@[simp] theorem tyA_25 : tyA Tryz.prog 25 = some (false, 1) := by kernel_rfl
@[simp] theorem tyE_25 : tyE Tryz.prog 25 = some (135, 2) := by kernel_rfl
@[simp] theorem tyA_26 : tyA Tryz.prog 26 = some (false, 1) := by kernel_rfl
@[simp] theorem tyE_26 : tyE Tryz.prog 26 = some (139, 6) := by kernel_rfl
@[simp] theorem tyA_28 : tyA Tryz.prog 28 = some (true, 15) := by kernel_rfl
@[simp] theorem tyZ_28 : tyZ Tryz.prog 28 = some [.int .i64 0, .int .i64 0, .int .i64 0, .int .i64 0, .slice none 0 0, .int .i64 0, .slice none 0 0, .slice none 0 0, .slice none 0 0, .slice none 0 0, .slice none 0 0, .slice none 0 0, .slice none 0 0, .slice none 0 0, .slice none 0 0] := by kernel_rfl
@[simp] theorem tyF_28_0 : tyF Tryz.prog 28 0 = some (0, false, 1) := by kernel_rfl
@[simp] theorem tyF_28_1 : tyF Tryz.prog 28 1 = some (1, false, 1) := by kernel_rfl
@[simp] theorem tyF_28_2 : tyF Tryz.prog 28 2 = some (2, false, 1) := by kernel_rfl
@[simp] theorem tyF_28_3 : tyF Tryz.prog 28 3 = some (3, false, 1) := by kernel_rfl
@[simp] theorem tyF_28_4 : tyF Tryz.prog 28 4 = some (4, false, 1) := by kernel_rfl
@[simp] theorem tyF_28_5 : tyF Tryz.prog 28 5 = some (5, false, 1) := by kernel_rfl
@[simp] theorem tyF_28_6 : tyF Tryz.prog 28 6 = some (6, false, 1) := by kernel_rfl
@[simp] theorem tyF_28_7 : tyF Tryz.prog 28 7 = some (7, false, 1) := by kernel_rfl
@[simp] theorem tyF_28_8 : tyF Tryz.prog 28 8 = some (8, false, 1) := by kernel_rfl
@[simp] theorem tyF_28_9 : tyF Tryz.prog 28 9 = some (9, false, 1) := by kernel_rfl
@[simp] theorem tyF_28_10 : tyF Tryz.prog 28 10 = some (10, false, 1) := by kernel_rfl
@[simp] theorem tyF_28_11 : tyF Tryz.prog 28 11 = some (11, false, 1) := by kernel_rfl
@[simp] theorem tyF_28_12 : tyF Tryz.prog 28 12 = some (12, false, 1) := by kernel_rfl
@[simp] theorem tyF_28_13 : tyF Tryz.prog 28 13 = some (13, false, 1) := by kernel_rfl
@[simp] theorem tyF_28_14 : tyF Tryz.prog 28 14 = some (14, false, 1) := by kernel_rfl
@[simp] theorem tyB_28 : tyB Tryz.prog 28 = some ([.int .i64 0, .int .i64 0, .int .i64 0, .int .i64 0, .slice none 0 0, .int .i64 0, .slice none 0 0, .slice none 0 0, .slice none 0 0, .slice none 0 0, .slice none 0 0, .slice none 0 0, .slice none 0 0, .slice none 0 0, .slice none 0 0], [(0, 1), (1, 1), (2, 1), (3, 1), (4, 1), (5, 1), (6, 1), (7, 1), (8, 1), (9, 1), (10, 1), (11, 1), (12, 1), (13, 1), (14, 1)]) := by kernel_rfl
@[simp] theorem tyA_29 : tyA Tryz.prog 29 = some (false, 1) := by kernel_rfl
@[simp] theorem tyInt_29 : tyInt Tryz.prog 29 = some .u64 := by kernel_rfl
@[simp] theorem tyA_31 : tyA Tryz.prog 31 = some (true, 13) := by kernel_rfl
@[simp] theorem tyZ0_31 : tyZ0 Tryz.prog 31 = [D.sl [], D.sl [], D.sl [], D.sl [], D.sl [], D.sl [], D.sl [], D.v (.int .u64 0), D.v (.int .i64 0), D.v (.int .i64 0), D.v (.int .i64 0), D.v (.int .i64 0), D.v (.int .i64 0)] := by kernel_rfl
@[simp] theorem tyZ_31 : tyZ Tryz.prog 31 = some [.slice none 0 0, .slice none 0 0, .slice none 0 0, .slice none 0 0, .slice none 0 0, .slice none 0 0, .slice none 0 0, .int .u64 0, .int .i64 0, .int .i64 0, .int .i64 0, .int .i64 0, .int .i64 0] := by kernel_rfl
@[simp] theorem tyF_31_0 : tyF Tryz.prog 31 0 = some (0, false, 1) := by kernel_rfl
@[simp] theorem tyF_31_1 : tyF Tryz.prog 31 1 = some (1, false, 1) := by kernel_rfl
@[simp] theorem tyF_31_2 : tyF Tryz.prog 31 2 = some (2, false, 1) := by kernel_rfl
@[simp] theorem tyF_31_3 : tyF Tryz.prog 31 3 = some (3, false, 1) := by kernel_rfl
@[simp] theorem tyF_31_4 : tyF Tryz.prog 31 4 = some (4, false, 1) := by kernel_rfl
@[simp] theorem tyF_31_5 : tyF Tryz.prog 31 5 = some (5, false, 1) := by kernel_rfl
@[simp] theorem tyF_31_6 : tyF Tryz.prog 31 6 = some (6, false, 1) := by kernel_rfl
@[simp] theorem tyF_31_7 : tyF Tryz.prog 31 7 = some (7, false, 1) := by kernel_rfl
@[simp] theorem tyF_31_8 : tyF Tryz.prog 31 8 = some (8, false, 1) := by kernel_rfl
@[simp] theorem tyF_31_9 : tyF Tryz.prog 31 9 = some (9, false, 1) := by kernel_rfl
@[simp] theorem tyF_31_10 : tyF Tryz.prog 31 10 = some (10, false, 1) := by kernel_rfl
@[simp] theorem tyF_31_11 : tyF Tryz.prog 31 11 = some (11, false, 1) := by kernel_rfl
@[simp] theorem tyF_31_12 : tyF Tryz.prog 31 12 = some (12, false, 1) := by kernel_rfl
@[simp] theorem tyB_31 : tyB Tryz.prog 31 = some ([.slice none 0 0, .slice none 0 0, .slice none 0 0, .slice none 0 0, .slice none 0 0, .slice none 0 0, .slice none 0 0, .int .u64 0, .int .i64 0, .int .i64 0, .int .i64 0, .int .i64 0, .int .i64 0], [(0, 1), (1, 1), (2, 1), (3, 1), (4, 1), (5, 1), (6, 1), (7, 1), (8, 1), (9, 1), (10, 1), (11, 1), (12, 1)]) := by kernel_rfl
@[simp] theorem tyA_35 : tyA Tryz.prog 35 = some (false, 1) := by kernel_rfl
@[simp] theorem tyE_35 : tyE Tryz.prog 35 = some (191, 4) := by kernel_rfl
@[simp] theorem tyA_37 : tyA Tryz.prog 37 = some (true, 9) := by kernel_rfl
@[simp] theorem tyZ0_37 : tyZ0 Tryz.prog 37 = [D.v (.int .i64 0), D.v (.int .i64 0), D.v (.int .i64 0), D.v (.int .i64 0), D.v (.bool false), D.sl [], D.sl [], D.sl [], D.sl []] := by kernel_rfl
@[simp] theorem tyZ_37 : tyZ Tryz.prog 37 = some [.int .i64 0, .int .i64 0, .int .i64 0, .int .i64 0, .bool false, .slice none 0 0, .slice none 0 0, .slice none 0 0, .slice none 0 0] := by kernel_rfl
@[simp] theorem tyF_37_0 : tyF Tryz.prog 37 0 = some (0, false, 1) := by kernel_rfl
@[simp] theorem tyF_37_1 : tyF Tryz.prog 37 1 = some (1, false, 1) := by kernel_rfl
@[simp] theorem tyF_37_2 : tyF Tryz.prog 37 2 = some (2, false, 1) := by kernel_rfl
@[simp] theorem tyF_37_3 : tyF Tryz.prog 37 3 = some (3, false, 1) := by kernel_rfl
@[simp] theorem tyF_37_4 : tyF Tryz.prog 37 4 = some (4, false, 1) := by kernel_rfl
@[simp] theorem tyF_37_5 : tyF Tryz.prog 37 5 = some (5, false, 1) := by kernel_rfl
@[simp] theorem tyF_37_6 : tyF Tryz.prog 37 6 = some (6, false, 1) := by kernel_rfl
@[simp] theorem tyF_37_7 : tyF Tryz.prog 37 7 = some (7, false, 1) := by kernel_rfl
@[simp] theorem tyF_37_8 : tyF Tryz.prog 37 8 = some (8, false, 1) := by kernel_rfl
@[simp] theorem tyB_37 : tyB Tryz.prog 37 = some ([.int .i64 0, .int .i64 0, .int .i64 0, .int .i64 0, .bool false, .slice none 0 0, .slice none 0 0, .slice none 0 0, .slice none 0 0], [(0, 1), (1, 1), (2, 1), (3, 1), (4, 1), (5, 1), (6, 1), (7, 1), (8, 1)]) := by kernel_rfl
@[simp] theorem tyA_38 : tyA Tryz.prog 38 = some (false, 1) := by kernel_rfl
@[simp] theorem tyE_38 : tyE Tryz.prog 38 = some (40, 5) := by kernel_rfl
@[simp] theorem tySl_38 : tySl Tryz.prog 38 = some (40, 5, 64, [.int .i64 0, .int .i64 0, .int .i64 0, .string ⟨#[]⟩, .slice none 0 0]) := by kernel_rfl
@[simp] theorem tyA_40 : tyA Tryz.prog 40 = some (true, 5) := by kernel_rfl
@[simp] theorem tyZ0_40 : tyZ0 Tryz.prog 40 = [D.v (.int .i64 0), D.v (.int .i64 0), D.v (.int .i64 0), D.v (.string ⟨#[]⟩), D.sl []] := by kernel_rfl
@[simp] theorem tyZ_40 : tyZ Tryz.prog 40 = some [.int .i64 0, .int .i64 0, .int .i64 0, .string ⟨#[]⟩, .slice none 0 0] := by kernel_rfl
@[simp] theorem tyF_40_0 : tyF Tryz.prog 40 0 = some (0, false, 1) := by kernel_rfl
@[simp] theorem tyF_40_1 : tyF Tryz.prog 40 1 = some (1, false, 1) := by kernel_rfl
@[simp] theorem tyF_40_2 : tyF Tryz.prog 40 2 = some (2, false, 1) := by kernel_rfl
@[simp] theorem tyF_40_3 : tyF Tryz.prog 40 3 = some (3, false, 1) := by kernel_rfl
@[simp] theorem tyF_40_4 : tyF Tryz.prog 40 4 = some (4, false, 1) := by kernel_rfl
@[simp] theorem tyB_40 : tyB Tryz.prog 40 = some ([.int .i64 0, .int .i64 0, .int .i64 0, .string ⟨#[]⟩, .slice none 0 0], [(0, 1), (1, 1), (2, 1), (3, 1), (4, 1)]) := by kernel_rfl
@[simp] theorem tyA_41 : tyA Tryz.prog 41 = some (false, 1) := by kernel_rfl
@[simp] theorem tyZ0_41 : tyZ0 Tryz.prog 41 = [D.sl []] := by kernel_rfl
@[simp] theorem tyE_41 : tyE Tryz.prog 41 = some (43, 6) := by kernel_rfl
@[simp] theorem tySl_41 : tySl Tryz.prog 41 = some (43, 6, 104, [.int .i64 0, .int .i64 0, .string ⟨#[]⟩, .slice none 0 0, .slice none 0 0, .slice none 0 0]) := by kernel_rfl
@[simp] theorem tyA_43 : tyA Tryz.prog 43 = some (true, 6) := by kernel_rfl
@[simp] theorem tyZ0_43 : tyZ0 Tryz.prog 43 = [D.v (.int .i64 0), D.v (.int .i64 0), D.v (.string ⟨#[]⟩), D.sl [], D.sl [], D.sl []] := by kernel_rfl
@[simp] theorem tyZ_43 : tyZ Tryz.prog 43 = some [.int .i64 0, .int .i64 0, .string ⟨#[]⟩, .slice none 0 0, .slice none 0 0, .slice none 0 0] := by kernel_rfl
@[simp] theorem tyF_43_0 : tyF Tryz.prog 43 0 = some (0, false, 1) := by kernel_rfl
@[simp] theorem tyF_43_1 : tyF Tryz.prog 43 1 = some (1, false, 1) := by kernel_rfl
@[simp] theorem tyF_43_2 : tyF Tryz.prog 43 2 = some (2, false, 1) := by kernel_rfl
@[simp] theorem tyF_43_3 : tyF Tryz.prog 43 3 = some (3, false, 1) := by kernel_rfl
@[simp] theorem tyF_43_4 : tyF Tryz.prog 43 4 = some (4, false, 1) := by kernel_rfl
@[simp] theorem tyF_43_5 : tyF Tryz.prog 43 5 = some (5, false, 1) := by kernel_rfl
@[simp] theorem tyB_43 : tyB Tryz.prog 43 = some ([.int .i64 0, .int .i64 0, .string ⟨#[]⟩, .slice none 0 0, .slice none 0 0, .slice none 0 0], [(0, 1), (1, 1), (2, 1), (3, 1), (4, 1), (5, 1)]) := by kernel_rfl
@[simp] theorem tyA_44 : tyA Tryz.prog 44 = some (false, 1) := by kernel_rfl
@[simp] theorem tyZ0_44 : tyZ0 Tryz.prog 44 = [D.v (.int .i64 0)] := by kernel_rfl
@[simp] theorem tyA_46 : tyA Tryz.prog 46 = some (true, 18) := by kernel_rfl
@[simp] theorem tyF_46_0 : tyF Tryz.prog 46 0 = some (0, false, 1) := by kernel_rfl
@[simp] theorem tyF_46_1 : tyF Tryz.prog 46 1 = some (1, true, 13) := by kernel_rfl
@[simp] theorem tyF_46_2 : tyF Tryz.prog 46 2 = some (14, false, 1) := by kernel_rfl
@[simp] theorem tyF_46_3 : tyF Tryz.prog 46 3 = some (15, false, 1) := by kernel_rfl
@[simp] theorem tyF_46_4 : tyF Tryz.prog 46 4 = some (16, false, 1) := by kernel_rfl
@[simp] theorem tyF_46_5 : tyF Tryz.prog 46 5 = some (17, false, 1) := by kernel_rfl
@[simp] theorem tyB_46 : tyB Tryz.prog 46 = some ([.int .i64 0, .slice none 0 0, .slice none 0 0, .slice none 0 0, .slice none 0 0, .slice none 0 0, .slice none 0 0, .slice none 0 0, .int .u64 0, .int .i64 0, .int .i64 0, .int .i64 0, .int .i64 0, .int .i64 0, .string ⟨#[]⟩, .int .i64 0, .bool false, .int .i64 0], [(0, 1), (1, 13), (14, 1), (15, 1), (16, 1), (17, 1)]) := by kernel_rfl
@[simp] theorem tyA_48 : tyA Tryz.prog 48 = some (false, 1) := by kernel_rfl
@[simp] theorem tyE_48 : tyE Tryz.prog 48 = some (41, 1) := by kernel_rfl
@[simp] theorem tySl_48 : tySl Tryz.prog 48 = some (41, 1, 24, [.slice none 0 0]) := by kernel_rfl
@[simp] theorem tyA_50 : tyA Tryz.prog 50 = some (true, 16) := by kernel_rfl
@[simp] theorem tyZ_50 : tyZ Tryz.prog 50 = some [.int .i64 0, .int .i64 0, .int .i64 0, .int .i64 0, .slice none 0 0, .int .i64 0, .slice none 0 0, .slice none 0 0, .slice none 0 0, .slice none 0 0, .slice none 0 0, .slice none 0 0, .slice none 0 0, .slice none 0 0, .slice none 0 0, .slice none 0 0] := by kernel_rfl
@[simp] theorem tyF_50_0 : tyF Tryz.prog 50 0 = some (0, true, 15) := by kernel_rfl
@[simp] theorem tyF_50_1 : tyF Tryz.prog 50 1 = some (15, false, 1) := by kernel_rfl
@[simp] theorem tyB_50 : tyB Tryz.prog 50 = some ([.int .i64 0, .int .i64 0, .int .i64 0, .int .i64 0, .slice none 0 0, .int .i64 0, .slice none 0 0, .slice none 0 0, .slice none 0 0, .slice none 0 0, .slice none 0 0, .slice none 0 0, .slice none 0 0, .slice none 0 0, .slice none 0 0, .slice none 0 0], [(0, 15), (15, 1)]) := by kernel_rfl
@[simp] theorem tyA_52 : tyA Tryz.prog 52 = some (true, 3) := by kernel_rfl
@[simp] theorem tyEq_52 : tyEq Tryz.prog 52 = some [.i .i64, .i .i64, .i .i64] := by kernel_rfl
@[simp] theorem tyB_52 : tyB Tryz.prog 52 = some ([.int .i64 0, .int .i64 0, .int .i64 0], [(0, 1), (1, 1), (2, 1)]) := by kernel_rfl
@[simp] theorem tyF_58_0 : tyF Tryz.prog 58 0 = some (0, false, 1) := by kernel_rfl
@[simp] theorem tyF_58_3 : tyF Tryz.prog 58 3 = some (3, false, 1) := by kernel_rfl
@[simp] theorem tyF_58_4 : tyF Tryz.prog 58 4 = some (4, true, 3) := by kernel_rfl
@[simp] theorem tyA_59 : tyA Tryz.prog 59 = some (false, 1) := by kernel_rfl
@[simp] theorem tySrc_59 : tySrc Tryz.prog 59 = true := by kernel_rfl
@[simp] theorem tyZ0_59 : tyZ0 Tryz.prog 59 = [D.sl []] := by kernel_rfl
@[simp] theorem tyE_59 : tyE Tryz.prog 59 = some (5, 1) := by kernel_rfl
@[simp] theorem tySl_59 : tySl Tryz.prog 59 = some (5, 1, 1, [.int .u8 0]) := by kernel_rfl
@[simp] theorem tyA_61 : tyA Tryz.prog 61 = some (true, 17) := by kernel_rfl
@[simp] theorem tyZ0_61 : tyZ0 Tryz.prog 61 = [D.v (.int .i64 0), D.v (.int .i64 0), D.v (.int .i64 0), D.v (.int .i64 0), D.sl [], D.v (.int .i64 0), D.sl [], D.sl [], D.sl [], D.sl [], D.sl [], D.sl [], D.sl [], D.sl [], D.sl [], D.sl [], D.sl []] := by kernel_rfl
@[simp] theorem tyZ_61 : tyZ Tryz.prog 61 = some [.int .i64 0, .int .i64 0, .int .i64 0, .int .i64 0, .slice none 0 0, .int .i64 0, .slice none 0 0, .slice none 0 0, .slice none 0 0, .slice none 0 0, .slice none 0 0, .slice none 0 0, .slice none 0 0, .slice none 0 0, .slice none 0 0, .slice none 0 0, .slice none 0 0] := by kernel_rfl
@[simp] theorem tyF_61_0 : tyF Tryz.prog 61 0 = some (0, true, 15) := by kernel_rfl
@[simp] theorem tyF_61_1 : tyF Tryz.prog 61 1 = some (15, false, 1) := by kernel_rfl
@[simp] theorem tyF_61_2 : tyF Tryz.prog 61 2 = some (16, false, 1) := by kernel_rfl
@[simp] theorem tyB_61 : tyB Tryz.prog 61 = some ([.int .i64 0, .int .i64 0, .int .i64 0, .int .i64 0, .slice none 0 0, .int .i64 0, .slice none 0 0, .slice none 0 0, .slice none 0 0, .slice none 0 0, .slice none 0 0, .slice none 0 0, .slice none 0 0, .slice none 0 0, .slice none 0 0, .slice none 0 0, .slice none 0 0], [(0, 15), (15, 1), (16, 1)]) := by kernel_rfl
@[simp] theorem tyA_65 : tyA Tryz.prog 65 = some (false, 1) := by kernel_rfl
@[simp] theorem tyStr_65 : tyStr Tryz.prog 65 = false := by kernel_rfl
@[simp] theorem tySrc_65 : tySrc Tryz.prog 65 = true := by kernel_rfl
@[simp] theorem tyZ0_65 : tyZ0 Tryz.prog 65 = [D.sl []] := by kernel_rfl
@[simp] theorem tyE_65 : tyE Tryz.prog 65 = some (100, 4) := by kernel_rfl
@[simp] theorem tySl_65 : tySl Tryz.prog 65 = some (100, 4, 48, [.int .i64 0, .int .i64 0, .int .i64 0, .slice none 0 0]) := by kernel_rfl
@[simp] theorem tyArr_65 : tyArr Tryz.prog 65 = none := by kernel_rfl
@[simp] theorem tyA_67 : tyA Tryz.prog 67 = some (true, 24) := by kernel_rfl
@[simp] theorem tyZ_67 : tyZ Tryz.prog 67 = some [.slice none 0 0, .slice none 0 0, .int .i64 0, .int .i64 0, .int .i64 0, .int .i64 0, .slice none 0 0, .slice none 0 0, .slice none 0 0, .slice none 0 0, .slice none 0 0, .slice none 0 0, .slice none 0 0, .int .u64 0, .int .i64 0, .int .i64 0, .int .i64 0, .int .i64 0, .int .i64 0, .string ⟨#[]⟩, .int .i64 0, .bool false, .int .i64 0, .bool false] := by kernel_rfl
@[simp] theorem tyF_67_0 : tyF Tryz.prog 67 0 = some (0, false, 1) := by kernel_rfl
@[simp] theorem tyF_67_1 : tyF Tryz.prog 67 1 = some (1, false, 1) := by kernel_rfl
@[simp] theorem tyF_67_2 : tyF Tryz.prog 67 2 = some (2, true, 3) := by kernel_rfl
@[simp] theorem tyF_67_3 : tyF Tryz.prog 67 3 = some (5, true, 18) := by kernel_rfl
@[simp] theorem tyF_67_4 : tyF Tryz.prog 67 4 = some (23, false, 1) := by kernel_rfl
@[simp] theorem tyB_67 : tyB Tryz.prog 67 = some ([.slice none 0 0, .slice none 0 0, .int .i64 0, .int .i64 0, .int .i64 0, .int .i64 0, .slice none 0 0, .slice none 0 0, .slice none 0 0, .slice none 0 0, .slice none 0 0, .slice none 0 0, .slice none 0 0, .int .u64 0, .int .i64 0, .int .i64 0, .int .i64 0, .int .i64 0, .int .i64 0, .string ⟨#[]⟩, .int .i64 0, .bool false, .int .i64 0, .bool false], [(0, 1), (1, 1), (2, 3), (5, 18), (23, 1)]) := by kernel_rfl
@[simp] theorem tyA_100 : tyA Tryz.prog 100 = some (true, 4) := by kernel_rfl
@[simp] theorem tyZ0_100 : tyZ0 Tryz.prog 100 = [D.v (.int .i64 0), D.v (.int .i64 0), D.v (.int .i64 0), D.sl []] := by kernel_rfl
@[simp] theorem tyZ_100 : tyZ Tryz.prog 100 = some [.int .i64 0, .int .i64 0, .int .i64 0, .slice none 0 0] := by kernel_rfl
@[simp] theorem tyF_100_0 : tyF Tryz.prog 100 0 = some (0, false, 1) := by kernel_rfl
@[simp] theorem tyF_100_1 : tyF Tryz.prog 100 1 = some (1, false, 1) := by kernel_rfl
@[simp] theorem tyF_100_2 : tyF Tryz.prog 100 2 = some (2, false, 1) := by kernel_rfl
@[simp] theorem tyF_100_3 : tyF Tryz.prog 100 3 = some (3, false, 1) := by kernel_rfl
@[simp] theorem tyB_100 : tyB Tryz.prog 100 = some ([.int .i64 0, .int .i64 0, .int .i64 0, .slice none 0 0], [(0, 1), (1, 1), (2, 1), (3, 1)]) := by kernel_rfl
@[simp] theorem tyA_103 : tyA Tryz.prog 103 = some (true, 1) := by kernel_rfl
@[simp] theorem tyZ_103 : tyZ Tryz.prog 103 = some [.int .i64 0] := by kernel_rfl
@[simp] theorem tyConc_103 : tyConc Tryz.prog 103 = true := by kernel_rfl
@[simp] theorem tyF_103_0 : tyF Tryz.prog 103 0 = some (0, false, 1) := by kernel_rfl
@[simp] theorem tyB_103 : tyB Tryz.prog 103 = some ([.int .i64 0], [(0, 1)]) := by kernel_rfl
@[simp] theorem tyF_106_0 : tyF Tryz.prog 106 0 = some (0, true, 24) := by kernel_rfl
@[simp] theorem tyF_106_2 : tyF Tryz.prog 106 2 = some (41, false, 1) := by kernel_rfl
@[simp] theorem tyB_106 : tyB Tryz.prog 106 = some ([.slice none 0 0, .slice none 0 0, .int .i64 0, .int .i64 0, .int .i64 0, .int .i64 0, .slice none 0 0, .slice none 0 0, .slice none 0 0, .slice none 0 0, .slice none 0 0, .slice none 0 0, .slice none 0 0, .int .u64 0, .int .i64 0, .int .i64 0, .int .i64 0, .int .i64 0, .int .i64 0, .string ⟨#[]⟩, .int .i64 0, .bool false, .int .i64 0, .bool false, .int .i64 0, .int .i64 0, .int .i64 0, .int .i64 0, .slice none 0 0, .int .i64 0, .slice none 0 0, .slice none 0 0, .slice none 0 0, .slice none 0 0, .slice none 0 0, .slice none 0 0, .slice none 0 0, .slice none 0 0, .slice none 0 0, .slice none 0 0, .slice none 0 0, .int .i64 0], [(0, 24), (24, 17), (41, 1)]) := by kernel_rfl
@[simp] theorem tyA_110 : tyA Tryz.prog 110 = some (true, 2) := by kernel_rfl
@[simp] theorem tyZ0_110 : tyZ0 Tryz.prog 110 = [D.v (.int .i64 0), D.v (.int .i64 0)] := by kernel_rfl
@[simp] theorem tyZ_110 : tyZ Tryz.prog 110 = some [.int .i64 0, .int .i64 0] := by kernel_rfl
@[simp] theorem tyF_110_0 : tyF Tryz.prog 110 0 = some (0, false, 1) := by kernel_rfl
@[simp] theorem tyF_110_1 : tyF Tryz.prog 110 1 = some (1, false, 1) := by kernel_rfl
@[simp] theorem tyB_110 : tyB Tryz.prog 110 = some ([.int .i64 0, .int .i64 0], [(0, 1), (1, 1)]) := by kernel_rfl
@[simp] theorem tyA_133 : tyA Tryz.prog 133 = some (false, 1) := by kernel_rfl
@[simp] theorem tyE_133 : tyE Tryz.prog 133 = some (137, 1) := by kernel_rfl
@[simp] theorem tyZ0_135 : tyZ0 Tryz.prog 135 = [D.v (.bool false), D.sl []] := by kernel_rfl
@[simp] theorem tyF_135_1 : tyF Tryz.prog 135 1 = some (1, false, 1) := by kernel_rfl
@[simp] theorem tyA_137 : tyA Tryz.prog 137 = some (false, 1) := by kernel_rfl
@[simp] theorem tyZ0_137 : tyZ0 Tryz.prog 137 = [D.sl []] := by kernel_rfl
@[simp] theorem tyE_137 : tyE Tryz.prog 137 = some (193, 2) := by kernel_rfl
@[simp] theorem tyA_139 : tyA Tryz.prog 139 = some (true, 6) := by kernel_rfl
@[simp] theorem tyZ0_139 : tyZ0 Tryz.prog 139 = [D.v (.int .i64 0), D.v (.int .i64 0), D.v (.int .i64 0), D.v (.int .i64 0), D.v (.int .i64 0), D.v (.int .i64 0)] := by kernel_rfl
@[simp] theorem tyZ_139 : tyZ Tryz.prog 139 = some [.int .i64 0, .int .i64 0, .int .i64 0, .int .i64 0, .int .i64 0, .int .i64 0] := by kernel_rfl
@[simp] theorem tyF_139_0 : tyF Tryz.prog 139 0 = some (0, false, 1) := by kernel_rfl
@[simp] theorem tyF_139_1 : tyF Tryz.prog 139 1 = some (1, false, 1) := by kernel_rfl
@[simp] theorem tyF_139_2 : tyF Tryz.prog 139 2 = some (2, false, 1) := by kernel_rfl
@[simp] theorem tyF_139_3 : tyF Tryz.prog 139 3 = some (3, false, 1) := by kernel_rfl
@[simp] theorem tyF_139_4 : tyF Tryz.prog 139 4 = some (4, false, 1) := by kernel_rfl
@[simp] theorem tyF_139_5 : tyF Tryz.prog 139 5 = some (5, false, 1) := by kernel_rfl
@[simp] theorem tyInt_162 : tyInt Tryz.prog 162 = some .i8 := by kernel_rfl
@[simp] theorem tyZ0_191 : tyZ0 Tryz.prog 191 = [D.v (.int .i64 0), D.v (.int .i64 0), D.v (.int .i64 0), D.v (.int .i64 0)] := by kernel_rfl
@[simp] theorem tyF_191_0 : tyF Tryz.prog 191 0 = some (0, false, 1) := by kernel_rfl
@[simp] theorem tyF_191_1 : tyF Tryz.prog 191 1 = some (1, false, 1) := by kernel_rfl
@[simp] theorem tyF_191_2 : tyF Tryz.prog 191 2 = some (2, false, 1) := by kernel_rfl
@[simp] theorem tyF_191_3 : tyF Tryz.prog 191 3 = some (3, false, 1) := by kernel_rfl
@[simp] theorem tyA_193 : tyA Tryz.prog 193 = some (true, 2) := by kernel_rfl
@[simp] theorem tyZ0_193 : tyZ0 Tryz.prog 193 = [D.v (.int .i64 0), D.sl []] := by kernel_rfl
@[simp] theorem tyZ_193 : tyZ Tryz.prog 193 = some [.int .i64 0, .slice none 0 0] := by kernel_rfl
@[simp] theorem tyF_193_0 : tyF Tryz.prog 193 0 = some (0, false, 1) := by kernel_rfl
@[simp] theorem tyF_193_1 : tyF Tryz.prog 193 1 = some (1, false, 1) := by kernel_rfl
@[simp] theorem tyInt_195 : tyInt Tryz.prog 195 = some .i16 := by kernel_rfl
@[simp] theorem tySrc_200 : tySrc Tryz.prog 200 = true := by kernel_rfl
@[simp] theorem tyE_200 : tyE Tryz.prog 200 = some (110, 2) := by kernel_rfl
@[simp] theorem tySl_200 : tySl Tryz.prog 200 = some (110, 2, 16, [.int .i64 0, .int .i64 0]) := by kernel_rfl
@[simp] theorem enters_4 : enters Tryz.prog 4 = true := by kernel_rfl
@[simp] theorem enters_8 : enters Tryz.prog 8 = true := by kernel_rfl
@[simp] theorem enters_9 : enters Tryz.prog 9 = true := by kernel_rfl
@[simp] theorem enters_15 : enters Tryz.prog 15 = true := by kernel_rfl
@[simp] theorem enters_16 : enters Tryz.prog 16 = true := by kernel_rfl
@[simp] theorem enters_17 : enters Tryz.prog 17 = true := by kernel_rfl
@[simp] theorem enters_18 : enters Tryz.prog 18 = true := by kernel_rfl
@[simp] theorem enters_19 : enters Tryz.prog 19 = true := by kernel_rfl
@[simp] theorem enters_23 : enters Tryz.prog 23 = true := by kernel_rfl
@[simp] theorem enters_24 : enters Tryz.prog 24 = true := by kernel_rfl
@[simp] theorem enters_25 : enters Tryz.prog 25 = true := by kernel_rfl
@[simp] theorem enters_26 : enters Tryz.prog 26 = true := by kernel_rfl
@[simp] theorem enters_27 : enters Tryz.prog 27 = true := by kernel_rfl
@[simp] theorem enters_28 : enters Tryz.prog 28 = true := by kernel_rfl
@[simp] theorem enters_29 : enters Tryz.prog 29 = true := by kernel_rfl
@[simp] theorem enters_30 : enters Tryz.prog 30 = true := by kernel_rfl
@[simp] theorem enters_31 : enters Tryz.prog 31 = true := by kernel_rfl
@[simp] theorem enters_32 : enters Tryz.prog 32 = true := by kernel_rfl
@[simp] theorem enters_33 : enters Tryz.prog 33 = true := by kernel_rfl
@[simp] theorem enters_36 : enters Tryz.prog 36 = true := by kernel_rfl
@[simp] theorem enters_43 : enters Tryz.prog 43 = true := by kernel_rfl
@[simp] theorem enters_44 : enters Tryz.prog 44 = true := by kernel_rfl
@[simp] theorem enters_45 : enters Tryz.prog 45 = true := by kernel_rfl
@[simp] theorem enters_46 : enters Tryz.prog 46 = true := by kernel_rfl
@[simp] theorem enters_47 : enters Tryz.prog 47 = true := by kernel_rfl
@[simp] theorem enters_48 : enters Tryz.prog 48 = true := by kernel_rfl
@[simp] theorem enters_52 : enters Tryz.prog 52 = true := by kernel_rfl
@[simp] theorem enters_66 : enters Tryz.prog 66 = true := by kernel_rfl
@[simp] theorem enters_67 : enters Tryz.prog 67 = true := by kernel_rfl
@[simp] theorem enters_68 : enters Tryz.prog 68 = true := by kernel_rfl
@[simp] theorem enters_69 : enters Tryz.prog 69 = true := by kernel_rfl
@[simp] theorem enters_70 : enters Tryz.prog 70 = true := by kernel_rfl
@[simp] theorem enters_71 : enters Tryz.prog 71 = true := by kernel_rfl
@[simp] theorem enters_72 : enters Tryz.prog 72 = true := by kernel_rfl
@[simp] theorem enters_73 : enters Tryz.prog 73 = true := by kernel_rfl
@[simp] theorem enters_74 : enters Tryz.prog 74 = true := by kernel_rfl
@[simp] theorem enters_75 : enters Tryz.prog 75 = true := by kernel_rfl
@[simp] theorem enters_76 : enters Tryz.prog 76 = true := by kernel_rfl
@[simp] theorem enters_77 : enters Tryz.prog 77 = true := by kernel_rfl
@[simp] theorem enters_78 : enters Tryz.prog 78 = true := by kernel_rfl
@[simp] theorem enters_79 : enters Tryz.prog 79 = true := by kernel_rfl
@[simp] theorem enters_80 : enters Tryz.prog 80 = true := by kernel_rfl
@[simp] theorem enters_81 : enters Tryz.prog 81 = true := by kernel_rfl
@[simp] theorem enters_82 : enters Tryz.prog 82 = true := by kernel_rfl
@[simp] theorem enters_83 : enters Tryz.prog 83 = true := by kernel_rfl
@[simp] theorem enters_88 : enters Tryz.prog 88 = true := by kernel_rfl
@[simp] theorem enters_93 : enters Tryz.prog 93 = true := by kernel_rfl
@[simp] theorem enters_94 : enters Tryz.prog 94 = true := by kernel_rfl
@[simp] theorem enters_95 : enters Tryz.prog 95 = true := by kernel_rfl
@[simp] theorem enters_96 : enters Tryz.prog 96 = true := by kernel_rfl
@[simp] theorem enters_97 : enters Tryz.prog 97 = true := by kernel_rfl
@[simp] theorem enters_98 : enters Tryz.prog 98 = true := by kernel_rfl
@[simp] theorem enters_99 : enters Tryz.prog 99 = true := by kernel_rfl
@[simp] theorem enters_100 : enters Tryz.prog 100 = true := by kernel_rfl
@[simp] theorem enters_101 : enters Tryz.prog 101 = true := by kernel_rfl
@[simp] theorem enters_102 : enters Tryz.prog 102 = true := by kernel_rfl
@[simp] theorem enters_113 : enters Tryz.prog 113 = true := by kernel_rfl
@[simp] theorem enters_114 : enters Tryz.prog 114 = true := by kernel_rfl
@[simp] theorem enters_129 : enters Tryz.prog 129 = true := by kernel_rfl
@[simp] theorem enters_132 : enters Tryz.prog 132 = true := by kernel_rfl
@[simp] theorem enters_133 : enters Tryz.prog 133 = true := by kernel_rfl
@[simp] theorem enters_134 : enters Tryz.prog 134 = true := by kernel_rfl
@[simp] theorem enters_141 : enters Tryz.prog 141 = true := by kernel_rfl
@[simp] theorem enters_142 : enters Tryz.prog 142 = true := by kernel_rfl
@[simp] theorem enters_145 : enters Tryz.prog 145 = true := by kernel_rfl
@[simp] theorem enters_146 : enters Tryz.prog 146 = true := by kernel_rfl
@[simp] theorem enters_147 : enters Tryz.prog 147 = true := by kernel_rfl
@[simp] theorem enters_148 : enters Tryz.prog 148 = true := by kernel_rfl
@[simp] theorem enters_149 : enters Tryz.prog 149 = true := by kernel_rfl
@[simp] theorem enters_150 : enters Tryz.prog 150 = true := by kernel_rfl
@[simp] theorem enters_166 : enters Tryz.prog 166 = true := by kernel_rfl
@[simp] theorem enters_177 : enters Tryz.prog 177 = true := by kernel_rfl
@[simp] theorem enters_182 : enters Tryz.prog 182 = true := by kernel_rfl
@[simp] theorem enters_183 : enters Tryz.prog 183 = true := by kernel_rfl
@[simp] theorem enters_184 : enters Tryz.prog 184 = true := by kernel_rfl
@[simp] theorem enters_185 : enters Tryz.prog 185 = true := by kernel_rfl
@[simp] theorem enters_186 : enters Tryz.prog 186 = true := by kernel_rfl
@[simp] theorem enters_190 : enters Tryz.prog 190 = true := by kernel_rfl
@[simp] theorem enters_191 : enters Tryz.prog 191 = true := by kernel_rfl
@[simp] theorem enters_192 : enters Tryz.prog 192 = true := by kernel_rfl
@[simp] theorem enters_193 : enters Tryz.prog 193 = true := by kernel_rfl
@[simp] theorem enters_203 : enters Tryz.prog 203 = true := by kernel_rfl
@[simp] theorem enters_204 : enters Tryz.prog 204 = true := by kernel_rfl
@[simp] theorem enters_205 : enters Tryz.prog 205 = true := by kernel_rfl
@[simp] theorem enters_206 : enters Tryz.prog 206 = true := by kernel_rfl
@[simp] theorem enters_207 : enters Tryz.prog 207 = true := by kernel_rfl
@[simp] theorem enters_208 : enters Tryz.prog 208 = true := by kernel_rfl
@[simp] theorem enters_209 : enters Tryz.prog 209 = true := by kernel_rfl
@[simp] theorem enters_210 : enters Tryz.prog 210 = true := by kernel_rfl
@[simp] theorem enters_211 : enters Tryz.prog 211 = true := by kernel_rfl
@[simp] theorem enters_212 : enters Tryz.prog 212 = true := by kernel_rfl
@[simp] theorem enters_213 : enters Tryz.prog 213 = true := by kernel_rfl
@[simp] theorem enters_214 : enters Tryz.prog 214 = true := by kernel_rfl
@[simp] theorem enters_215 : enters Tryz.prog 215 = true := by kernel_rfl
@[simp] theorem enters_216 : enters Tryz.prog 216 = true := by kernel_rfl
@[simp] theorem enters_217 : enters Tryz.prog 217 = true := by kernel_rfl
@[simp] theorem enters_218 : enters Tryz.prog 218 = true := by kernel_rfl
@[simp] theorem enters_262 : enters Tryz.prog 262 = true := by kernel_rfl
@[simp] theorem enters_263 : enters Tryz.prog 263 = true := by kernel_rfl
@[simp] theorem enters_264 : enters Tryz.prog 264 = true := by kernel_rfl
@[simp] theorem enters_265 : enters Tryz.prog 265 = true := by kernel_rfl
@[simp] theorem enters_266 : enters Tryz.prog 266 = true := by kernel_rfl
@[simp] theorem enters_267 : enters Tryz.prog 267 = true := by kernel_rfl
@[simp] theorem enters_268 : enters Tryz.prog 268 = true := by kernel_rfl
@[simp] theorem enters_269 : enters Tryz.prog 269 = true := by kernel_rfl
@[simp] theorem enters_270 : enters Tryz.prog 270 = true := by kernel_rfl
@[simp] theorem enters_271 : enters Tryz.prog 271 = true := by kernel_rfl
@[simp] theorem enters_272 : enters Tryz.prog 272 = true := by kernel_rfl
@[simp] theorem enters_273 : enters Tryz.prog 273 = true := by kernel_rfl
@[simp] theorem enters_299 : enters Tryz.prog 299 = true := by kernel_rfl
@[simp] theorem enters_300 : enters Tryz.prog 300 = true := by kernel_rfl
@[simp] theorem enters_301 : enters Tryz.prog 301 = true := by kernel_rfl
@[simp] theorem enters_302 : enters Tryz.prog 302 = true := by kernel_rfl
@[simp] theorem enters_303 : enters Tryz.prog 303 = true := by kernel_rfl
@[simp] theorem enters_304 : enters Tryz.prog 304 = true := by kernel_rfl
@[simp] theorem enters_305 : enters Tryz.prog 305 = true := by kernel_rfl
@[simp] theorem enters_318 : enters Tryz.prog 318 = true := by kernel_rfl
@[simp] theorem enters_319 : enters Tryz.prog 319 = true := by kernel_rfl
@[simp] theorem enters_320 : enters Tryz.prog 320 = true := by kernel_rfl
@[simp] theorem enters_321 : enters Tryz.prog 321 = true := by kernel_rfl
@[simp] theorem enters_322 : enters Tryz.prog 322 = true := by kernel_rfl
@[simp] theorem enters_323 : enters Tryz.prog 323 = true := by kernel_rfl
@[simp] theorem enters_324 : enters Tryz.prog 324 = true := by kernel_rfl
@[simp] theorem enters_325 : enters Tryz.prog 325 = true := by kernel_rfl
@[simp] theorem enters_326 : enters Tryz.prog 326 = true := by kernel_rfl
@[simp] theorem enters_327 : enters Tryz.prog 327 = true := by kernel_rfl
@[simp] theorem enters_328 : enters Tryz.prog 328 = true := by kernel_rfl
@[simp] theorem enters_330 : enters Tryz.prog 330 = true := by kernel_rfl
end Go.Ab
