/-
  The engine, part I: running operations abstractly; regions; calls.
-/
import Derived.Test.YticchnalleplcaaAbH
import Derived.Test.YticchnalleplcaaAbEq
import Derived.Laws.Small
set_option linter.unusedSimpArgs false
set_option linter.unusedVariables false
namespace Go.Ab

section
variable {P : Program} {w w' : World} {fo : Nat → Prop} {m m' : Nat → Option Value} {L : Heap} {n : Nat} {s : St} {a : Act}

def AOps (P : Program) (n : Nat) (ops : Array Oper) (l : List Oper) (s : St) (Q : AX → St → Prop) : Prop :=
  ∀ fo m0 w0 m a w, Step w0 (own m0) w (own m) → G fo n m s a w → wpList P ops (Post fo n m0 w0 Q) l a w

theorem G.put (g : G fo n m s a w) {dst : Option Tmp} (hd : ∀ d, dst = some d → d < n) {v : Value} {x : V} (hr : RelV w (OO fo m) m v x) : G fo n m (s.put dst x) (a.put dst v) w := by
  cases dst with
  | none => exact g
  | some d =>
    have hdn := hd d rfl
    refine ⟨by simpa [Act.put] using g.size, ?_, g.inv, g.defers⟩
    intro t y hy
    simp only [St.put, List.mem_cons, Prod.mk.injEq] at hy
    rcases hy with ⟨rfl, rfl⟩ | hy
    · refine ⟨hdn, ?_⟩
      have : (a.put (some t) v).tmps.getD t undef = v := by
        have hsz := g.size
        simp [Act.put, Array.getD, hsz, hdn]
      rw [this]; exact hr
    · obtain ⟨hy, hne⟩ := mem_delF hy
      obtain ⟨h1, h2⟩ := g.fr t y hy
      refine ⟨h1, ?_⟩
      have hne' : d ≠ t := fun e => hne e.symm
      have : (a.put (some d) v).tmps.getD t undef = a.tmps.getD t undef := by
        simp [Act.put, Array.getElem?_setIfInBounds_ne hne']
      rw [this]; exact h2

variable {ops : Array Oper} {Q : AX → St → Prop} {o : Oper} {rest : List Oper}

theorem AOps.nil (h : Q .normal s) : AOps P n ops [] s Q := fun _ _ _ m _ _ st g => ⟨m, .normal, s, h, g, trivial, st⟩

theorem wpList_ok {Q' : Exit → Act → World → Prop} {a : Act} {w w' : World} {nx : Next} {v : Value} (hw : Region.wanted o (yielded ops a.tmps) = true) (hrun : (execOp a.eval o).run P w = .ok nx w')
    (hnx : nx = .value v ∨ (nx = .skip ∧ v = undef)) (h : wpList P ops Q' rest (a.put o.dst v) w') : wpList P ops Q' (o :: rest) a w := by
  unfold wpList
  rw [if_pos hw]
  refine .inl ?_
  unfold Oper.wp
  rw [hrun]
  rcases hnx with rfl | ⟨rfl, rfl⟩
  · exact h
  · exact h

theorem AOps.loud {K : V → St → Prop} (hg : o.guard = none) (hd : ∀ d, o.dst = some d → d < n) (h : OpL P n o s K) (k : ∀ x s', K x s' → AOps P n ops rest (s'.put o.dst x) Q) : AOps P n ops (o :: rest) s Q := by
  intro fo m0 w0 m a w st g
  obtain ⟨nx, v, w', m', x, s', hrun, hnx, hK, hr, g', st'⟩ := h fo m a w g
  exact wpList_ok (by simp [Region.wanted, hg]) hrun hnx (k x s' hK fo m0 w0 m' _ w' (st.trans st') (g'.put hd hr))

theorem AOps.quiet {x : V} (hg : o.guard = none) (hd : ∀ d, o.dst = some d → d < n) (h : OpQ P o s.ev s.L x) (k : AOps P n ops rest (s.put o.dst x) Q) : AOps P n ops (o :: rest) s Q := by
  intro fo m0 w0 m a w st g
  obtain ⟨v, hrun, hr⟩ := h fo m a.eval w g.inv (fun z _ => eval_rel g z)
  exact wpList_ok (by simp [Region.wanted, hg]) hrun (.inl rfl) (k fo m0 w0 m _ w st (g.put hd hr))

def gdG (g : Bool) (x : V) (want : Bool) : Option (Option Bool) :=
  match g with
  | false => some (some false)
  | true => match x with
    | .d (.v (.bool b)) => some (some (b == want))
    | _ => none
@[simp] theorem gdG_false {x : V} {want : Bool} : gdG false x want = some (some false) := rfl
@[simp] theorem gdG_bool {g b want : Bool} : gdG g (.d (.v (.bool b))) want = some (some (g && (b == want))) := by cases g <;> simp [gdG]
theorem gdG_some {g want : Bool} {x : V} {r : Option Bool} (h : gdG g x want = some r) : (g = false ∧ r = some false) ∨ ∃ b, x = .d (.v (.bool b)) ∧ r = some (g && (b == want)) := by
  cases g with
  | false => simp only [gdG, Option.some.injEq] at h; exact .inl ⟨rfl, h.symm⟩
  | true =>
    simp only [gdG] at h
    split at h
    · rename_i b; simp only [Option.some.injEq] at h; exact .inr ⟨b, rfl, by simp [h]⟩
    · cases h

/-- The guard of an operation: none; or a truth. -/
def guardV (ops : Array Oper) (s : St) (o : Oper) : Option (Option Bool) :=
  match o.guard with
  | none => some none
  | some (j, want) =>
    match (ops[j]?).bind (·.dst) with
    | some t => match s.get t with
      | .d (.v (.bool b)) => some (some (b == want))
      | .gd g x => gdG g x want
      | _ => none
    | none => none

theorem guardV_none {ops : Array Oper} {o : Oper} (hg : guardV ops s o = some none) : o.guard = none := by
  unfold guardV at hg
  split at hg
  · assumption
  · split at hg
    · split at hg
      · cases hg
      · rcases gdG_some hg with ⟨_, h⟩ | ⟨_, _, h⟩ <;> cases h
      · cases hg
    · cases hg

theorem get_rel (g : G fo n m s a w) (t : Nat) : RelV w (OO fo m) m (a.tmps.getD t undef) (s.get t) := eval_rel g (.tmp t)

theorem guard_wanted (g : G fo n m s a w) {b : Bool} (h : guardV ops s o = some (some b)) : Region.wanted o (yielded ops a.tmps) = b := by
  unfold guardV at h
  split at h
  · cases h
  · rename_i j want hg
    split at h
    · rename_i t ht
      have hr := get_rel g t
      have hy : ∀ b', a.tmps.getD t undef = .bool b' → Region.wanted o (yielded ops a.tmps) = (b' == want) := by
        intro b' hb'
        have hs : a.tmps[t]? = some (.bool b') := by
          simp only [Array.getD_eq_getD_getElem?] at hb'
          cases hx : a.tmps[t]? with
          | none => rw [hx] at hb'; simp [undef] at hb'
          | some x => rw [hx] at hb'; simp only [Option.getD_some] at hb'; rw [hb']
        simp only [Region.wanted, hg, yielded, ht, Option.bind_some, hs]
        cases b' <;> cases want <;> rfl
      split at h
      · rename_i b' hget
        simp only [Option.some.injEq] at h
        subst h
        rw [hget] at hr
        exact hy b' hr.v_inv
      · rename_i g0 x0 hget
        rcases gdG_some h with ⟨rfl, hb⟩ | ⟨b', rfl, hb⟩
        · simp only [Option.some.injEq] at hb
          subst hb
          rw [hget] at hr
          generalize hv : a.tmps.getD t undef = v at hr
          cases hr with
          | gf _ =>
            have hs : yielded ops a.tmps j = none := by
              simp only [yielded, ht, Option.bind_some]
              simp only [Array.getD_eq_getD_getElem?] at hv
              cases hx : a.tmps[t]? with
              | none => rfl
              | some x => rw [hx] at hv; simp only [Option.getD_some] at hv; rw [hv]; rfl
            simp [Region.wanted, hg, hs]
        · simp only [Option.some.injEq] at hb
          subst hb
          rw [hget] at hr
          generalize hv : a.tmps.getD t undef = v at hr
          cases hr with
          | gt _ _ hr => rw [hy b' (by rw [hv]; exact hr.v_inv)]; simp
          | gf _ =>
            have hs : yielded ops a.tmps j = none := by
              simp only [yielded, ht, Option.bind_some]
              simp only [Array.getD_eq_getD_getElem?] at hv
              cases hx : a.tmps[t]? with
              | none => rfl
              | some x => rw [hx] at hv; simp only [Option.getD_some] at hv; rw [hv]; rfl
            simp [Region.wanted, hg, hs]
      · cases h
    · cases h

theorem AOps.guarded {b : Bool} {x : V} (hgd : guardV ops s o = some (some b)) (hd : ∀ d, o.dst = some d → d < n)
    (h : b = true → ∃ ρa : Operand → V, (∀ z, z ∈ o.op.operands → ∀ w O m v, RelV w O m v (s.ev z) → RelV w O m v (ρa z)) ∧ OpQ P o ρa s.L x) (k : AOps P n ops rest (s.put o.dst (.gd b x)) Q) : AOps P n ops (o :: rest) s Q := by
  intro fo m0 w0 m a w st g
  have hw := guard_wanted g hgd
  cases b with
  | true =>
    obtain ⟨ρa, h1, h2⟩ := h rfl
    obtain ⟨v, hrun, hr⟩ := h2 fo m a.eval w g.inv (fun z hz => h1 z hz _ _ _ _ (eval_rel g z))
    exact wpList_ok hw hrun (.inl rfl) (k fo m0 w0 m _ w st (g.put hd (.gt _ _ hr)))
  | false =>
    unfold wpList
    rw [if_neg (by rw [hw]; simp)]
    exact k fo m0 w0 m _ w st (g.put hd (.gf _))

/-! ### More quiet operations -/

def bndV : Option V → Nat → Option (Nat × Prop)
  | none, d => some (d, True)
  | some (.d (.v (.int _ l))), _ => some (l.toNat, 0 ≤ l)
  | _, _ => none
/-- A cut of a string, or of a slice that is read as data. -/
def sliceV (P : Program) (t : TypeId) (x : V) (lo hi : Option V) : Option (V × Prop) :=
  match x with
  | .d (.v (.string s)) =>
    if tyStr P t then match bndV lo 0, bndV hi s.size with
      | some (l, c1), some (u, c2) => some (strV (s.extract l u), (c1 ∧ c2) ∧ l ≤ u ∧ u ≤ s.size)
      | _, _ => none
    else none
  | .d (.sl xs) => match tyE P t, bndV lo 0, bndV hi xs.length with
    | some (_, k), some (l, c1), some (u, c2) => some (.d (.sl ((xs.take u).drop l)), ((c1 ∧ c2) ∧ l ≤ u ∧ u ≤ xs.length) ∧ ∀ x ∈ xs, x.length = k)
    | _, _, _ => none
  | _ => none

theorem run_bounds {isSlice : Bool} {len C l u : Nat} {lo hi : Option Value} (hlo : (lo = none ∧ l = 0) ∨ ∃ kl, lo = some (.int kl l)) (hhi : (hi = none ∧ u = len) ∨ ∃ ku, hi = some (.int ku u)) (hlu : l ≤ u) (huC : u ≤ C) :
    (Instr.sliceBounds isSlice len C lo hi none).run P w = .ok (l, u, C) w := by
  rcases hlo with ⟨rfl, rfl⟩ | ⟨kl, rfl⟩ <;> rcases hhi with ⟨rfl, rfl⟩ | ⟨ku, rfl⟩
  · simp [Instr.sliceBounds]
  · simp [Instr.sliceBounds, Instr.sliceBound, asIntOf, huC]
  · simp [Instr.sliceBounds, Instr.sliceBound, asIntOf, hlu]
  · simp [Instr.sliceBounds, Instr.sliceBound, asIntOf, huC, hlu]

theorem bndV_sound {z : Option Operand} {ρ : Operand → Value} {ρa : Operand → V} {d l : Nat} {c : Prop} (h : bndV (z.map ρa) d = some (l, c)) (hc : c) (hr : ∀ y, z = some y → RelV w (OO fo m) m (ρ y) (ρa y)) : (z.map ρ = none ∧ l = d) ∨ ∃ k, z.map ρ = some (.int k l) := by
  cases z with
  | none =>
    simp only [Option.map_none, bndV, Option.some.injEq, Prod.mk.injEq] at h
    exact .inl ⟨rfl, h.1.symm⟩
  | some y =>
    have hy := hr y rfl
    simp only [Option.map_some] at h
    generalize ρa y = v at h hy
    unfold bndV at h
    split at h
    · rename_i h'; cases h'
    · rename_i k q h'
      simp only [Option.some.injEq] at h'
      subst h'
      simp only [Option.some.injEq, Prod.mk.injEq] at h
      obtain ⟨rfl, rfl⟩ := h
      exact .inr ⟨k, by simp only [Option.map_some]; rw [hy.v_inv, Int.toNat_of_nonneg hc]⟩
    · cases h

theorem sliceV_sound {t : TypeId} {xo : Operand} {lo hi : Option Operand} {ρ : Operand → Value} {ρa : Operand → V} {x : V} {c : Prop} (h : sliceV P t (ρa xo) (lo.map ρa) (hi.map ρa) = some (x, c)) (hc : c)
    (hx : RelV w (OO fo m) m (ρ xo) (ρa xo)) (hlo : ∀ y, lo = some y → RelV w (OO fo m) m (ρ y) (ρa y)) (hhi : ∀ y, hi = some y → RelV w (OO fo m) m (ρ y) (ρa y)) :
    ∃ v, (Instr.sliceAt t (ρ xo) (lo.map ρ) (hi.map ρ) none).run P w = .ok v w ∧ RelV w (OO fo m) m v x := by
  unfold sliceV at h
  split at h
  · rename_i s hs
    rw [hs] at hx
    split at h
    · rename_i ht
      split at h
      · rename_i l c1 u c2 h1 h2
        simp only [Option.some.injEq, Prod.mk.injEq] at h
        obtain ⟨rfl, rfl⟩ := h
        have hb := run_bounds (P := P) (w := w) (isSlice := false) (C := s.size) (bndV_sound h1 hc.1.1 hlo) (bndV_sound h2 hc.1.2 hhi) hc.2.1 hc.2.2
        exact ⟨_, by simp only [Instr.sliceAt, Instr.slice, Sem.run_bind, tyStr_spec ht w, Result.andThen_ok, hx.v_inv]; simp [hb], mkstr _⟩
      · cases h
    · cases h
  · rename_i xs hs
    rw [hs] at hx
    split at h
    · rename_i e k l c1 u c2 ht h1 h2
      simp only [Option.some.injEq, Prod.mk.injEq] at h
      obtain ⟨rfl, rfl⟩ := h
      obtain ⟨⟨⟨hc1, hc2⟩, hlu, hux⟩, hlen⟩ := hc
      obtain ⟨ao, cap, hv, hcap, hmax, k', b, off, f, ha, hk, hcells, hrel⟩ := hx.d_inv.sl_inv
      obtain ⟨ht1, ht2⟩ := tyE_spec ht w
      have hb := run_bounds (P := P) (w := w) (isSlice := true) (C := cap) (bndV_sound h1 hc1 hlo) (bndV_sound h2 hc2 hhi) hlu (by omega)
      refine ⟨_, by simp only [Instr.sliceAt, Instr.slice, Sem.run_bind, ht1, ht2, Result.andThen_ok, hv, hb]; rfl, .d _ _ ?_⟩
      have hcl : ((xs.take u).drop l).length = u - l := by simp; omega
      have hcg : ∀ (i : Nat) (x : List D), ((xs.take u).drop l)[i]? = some x → i < u - l ∧ xs[l + i]? = some x := by
        intro i x hx
        rw [List.getElem?_drop, List.getElem?_take] at hx
        split at hx
        · exact ⟨by omega, hx⟩
        · cases hx
      refine .sl _ _ _ _ k b (off + l * k) (fun i j => f (l + i) j) hcl.symm (by omega) (by omega) ?_ ?_ ?_ ?_
      · intro h0
        obtain ⟨e1, e2, e3⟩ := ha (by omega)
        rw [if_neg (by omega), e1]
        exact ⟨by simp [Addr.add_lit], e2, e3⟩
      · intro i y hy
        exact hlen y (List.mem_of_getElem? (hcg i y hy).2)
      · intro i j hi hj
        have hlt : l + i < xs.length := by omega
        have hkk : k' = k := by rw [← hk _ _ (List.getElem?_eq_getElem hlt)]; exact hlen _ (List.getElem_mem hlt)
        subst hkk
        have := hcells (l + i) j hlt hj
        rw [Nat.add_mul, ← Nat.add_assoc] at this
        exact this
      · intro i j y z hy hz
        exact hrel (l + i) j y z (hcg i y hy).2 hz
    · cases h
  · cases h

def tyBool (P : Program) (t : TypeId) : Bool :=
  match P.underlying t with
  | some .bool => true
  | _ => false

/-- Equality of truths. -/
def boolEqV (P : Program) (op : BinOp) (t : TypeId) (x y : V) : Option (V × Prop) :=
  match op, x, y with
  | .eql, .d (.v (.bool a)), .d (.v (.bool b)) => if tyBool P t then some (boolV (a == b), True) else none
  | .neq, .d (.v (.bool a)), .d (.v (.bool b)) => if tyBool P t then some (boolV (!(a == b)), True) else none
  | _, _, _ => none

def maxminV (ρ : Operand → V) (c : Call) : Option (V × Prop) :=
  match c.callee, c.args.toList with
  | .builtin .max, [x, y] => match ρ x, ρ y with
    | .d (.v (.int k a)), .d (.v (.int _ b)) => some (intV k (if b > a then b else a), True)
    | _, _ => none
  | .builtin .min, [x, y] => match ρ x, ρ y with
    | .d (.v (.int k a)), .d (.v (.int _ b)) => some (intV k (if b < a then b else a), True)
    | _, _ => none
  | _, _ => none

/-- Operations besides those of 'q1'. -/
def moreV (P : Program) (ρ : Operand → V) (o : Oper) : Option (V × Prop) :=
  match o.op with
  | .build t ps => buildV P t (ps.toList.map fun p => (p.1, ρ p.2))
  | .binOp op t x y _ => match eqAggV P op t (ρ x) (ρ y) with
    | some r => some r
    | none => boolEqV P op t (ρ x) (ρ y)
  | .call c => maxminV ρ c
  | .slice t x lo hi none => sliceV P t (ρ x) (lo.map ρ) (hi.map ρ)
  | _ => none

def q2 (P : Program) (ρ : Operand → V) (L : Heap) (o : Oper) : Option (V × Prop) :=
  match moreV P ρ o with
  | some r => some r
  | none => q1 P ρ L o

theorem run_neq_bool' (t : TypeId) (a b : Bool) (h : P.underlying t = some .bool) : (binOp .neq t (.bool a) (.bool b)).run P w = .ok (.bool (!(a == b))) w := by
  have h1 := run_eql_bool (P := P) (w := w) t a b h
  simp only [binOp, Sem.run_bind] at h1 ⊢
  generalize (Op.equal t (.bool a) (.bool b)).run P w = R at h1 ⊢
  cases R with
  | ok u w' => simp at h1 ⊢; obtain ⟨rfl, rfl⟩ := h1; simp
  | _ => simp at h1

theorem boolEqV_sound {op : BinOp} {t : TypeId} {xo yo : Operand} {a b x : V} {c : Prop} (h : boolEqV P op t a b = some (x, c)) {va vb : Value} (ha : RelV w (OO fo m) m va a) (hb : RelV w (OO fo m) m vb b) :
    ∃ v, (do eqGuard op t xo yo va vb; binOp op t va vb : Sem Value).run P w = .ok v w ∧ RelV w (OO fo m) m v x := by
  unfold boolEqV at h
  split at h
  · rename_i p q
    obtain rfl := ha.v_inv
    obtain rfl := hb.v_inv
    split at h
    · rename_i ht
      simp only [Option.some.injEq, Prod.mk.injEq] at h
      obtain ⟨rfl, rfl⟩ := h
      have hu : P.underlying t = some .bool := by
        unfold tyBool at ht; split at ht
        · assumption
        · cases ht
      have hg : (eqGuard .eql t xo yo (.bool p) (.bool q)).run P w = .ok () w := by simp [eqGuard]
      exact ⟨_, by rw [Sem.run_bind, hg, Result.andThen_ok, run_eql_bool w t p q hu], mkbool _⟩
    · cases h
  · rename_i p q
    obtain rfl := ha.v_inv
    obtain rfl := hb.v_inv
    split at h
    · rename_i ht
      simp only [Option.some.injEq, Prod.mk.injEq] at h
      obtain ⟨rfl, rfl⟩ := h
      have hu : P.underlying t = some .bool := by
        unfold tyBool at ht; split at ht
        · assumption
        · cases ht
      have hg : (eqGuard .neq t xo yo (.bool p) (.bool q)).run P w = .ok () w := by simp [eqGuard]
      exact ⟨_, by rw [Sem.run_bind, hg, Result.andThen_ok, run_neq_bool' t p q hu], mkbool _⟩
    · cases h
  · cases h

theorem q2_sound {ρa : Operand → V} {o : Oper} {x : V} {c : Prop} (h : q2 P ρa L o = some (x, c)) (hc : c) : OpQ P o ρa L x := by
  unfold q2 at h
  split at h
  · rename_i r h'
    simp only [Option.some.injEq] at h
    subst h
    have h := h'
    unfold moreV at h
    split at h
    · rename_i t ps hop
      intro fo m ρ w hi hr
      obtain ⟨v, h1, h2⟩ := buildV_sound (w := w) (m := m) (O := OO fo m) (ps := ps.map fun p => (p.1, ρ p.2)) (by simp) (by
        intro j p q hp hq
        rw [Array.getElem?_toList, Array.getElem?_map] at hp
        obtain ⟨y, hy, rfl⟩ := Option.map_eq_some_iff.1 hp
        rw [List.getElem?_map, Array.getElem?_toList, hy] at hq
        simp only [Option.map_some, Option.some.injEq] at hq
        subst hq
        refine ⟨rfl, hr _ ?_⟩
        rw [hop]
        simp only [Op.operands, List.mem_toArray, List.mem_map]
        exact ⟨y, Array.mem_toList_iff.2 (Array.mem_of_getElem? hy), rfl⟩) h hc
      refine ⟨v, ?_, h2⟩
      simp [execOp, hop, h1]
    · rename_i op t xo yo ty hop
      intro fo m ρ w hi hr
      have key : ∃ v, (do eqGuard op t xo yo (ρ xo) (ρ yo); binOp op t (ρ xo) (ρ yo) : Sem Value).run P w = .ok v w ∧ RelV w (OO fo m) m v x := by
        split at h
        · rename_i r hr'
          simp only [Option.some.injEq] at h
          subst h
          exact eqAggV_sound (w := w) (fo := fo) (m := m) (xo := xo) (yo := yo) hr' hc (hr xo (by rw [hop]; simp [Op.operands])) (hr yo (by rw [hop]; simp [Op.operands]))
        · exact boolEqV_sound (w := w) (fo := fo) (m := m) (xo := xo) (yo := yo) h (hr xo (by rw [hop]; simp [Op.operands])) (hr yo (by rw [hop]; simp [Op.operands]))
      obtain ⟨v, h1, h2⟩ := key
      refine ⟨v, ?_, h2⟩
      rw [Sem.run_bind] at h1
      simp only [execOp, hop, Sem.run_bind]
      generalize (eqGuard op t xo yo (ρ xo) (ρ yo)).run P w = R at h1 ⊢
      cases R with
      | ok u w1 => simp only [Result.andThen_ok] at h1 ⊢; rw [h1]; simp
      | _ => simp [Result.andThen] at h1
    · rename_i cl hop
      intro fo m ρ w hi hr
      obtain ⟨callee, args, argTypes⟩ := cl
      unfold maxminV at h
      split at h
      · rename_i xo yo hcal hargs
        simp only at hcal hargs
        obtain rfl : args = #[xo, yo] := by rw [← Array.toList_inj]; exact hargs
        subst hcal
        have e1 := hr xo (by rw [hop]; simp [Op.operands, Call.operands])
        have e2 := hr yo (by rw [hop]; simp [Op.operands, Call.operands])
        split at h
        · rename_i k a k' b ha hb
          simp only [Option.some.injEq, Prod.mk.injEq] at h
          obtain ⟨rfl, rfl⟩ := h
          rw [ha] at e1
          rw [hb] at e2
          exact ⟨_, by simp [execOp, hop, resolve, invoke, builtin, e1.v_inv, e2.v_inv, run_max_int2, run_min_int2], mkint _ _⟩
        · cases h
      · rename_i xo yo hcal hargs
        simp only at hcal hargs
        obtain rfl : args = #[xo, yo] := by rw [← Array.toList_inj]; exact hargs
        subst hcal
        have e1 := hr xo (by rw [hop]; simp [Op.operands, Call.operands])
        have e2 := hr yo (by rw [hop]; simp [Op.operands, Call.operands])
        split at h
        · rename_i k a k' b ha hb
          simp only [Option.some.injEq, Prod.mk.injEq] at h
          obtain ⟨rfl, rfl⟩ := h
          rw [ha] at e1
          rw [hb] at e2
          exact ⟨_, by simp [execOp, hop, resolve, invoke, builtin, e1.v_inv, e2.v_inv, run_max_int2, run_min_int2], mkint _ _⟩
        · cases h
      · cases h
    · rename_i t xo lo hi hop
      intro fo m ρ w hi' hr
      obtain ⟨v, h1, h2⟩ := sliceV_sound (w := w) (fo := fo) (m := m) (ρ := ρ) h hc (hr xo (by rw [hop]; simp [Op.operands])) (fun y hy => hr y (by rw [hop, hy]; simp [Op.operands])) (fun y hy => hr y (by rw [hop, hy]; simp [Op.operands]))
      exact ⟨v, by simp [execOp, hop, h1], h2⟩
    · cases h
  · exact q1_sound h hc

/-! ### Loud operations, as a function -/

def doStore (P : Program) (s : St) (t : TypeId) (ao xo : Operand) : Option (V × St × Prop) :=
  match tyA P t, (s.ev xo).cl with
  | some (_, k), some cs =>
    match s.ev ao with
    | .bp h off => match s.L.lookup h with
      | some (.box b bty old) => some (.any, { s with L := Heap.upd s.L h (.box b bty (putAt off cs old)) }, cs.length = k ∧ off + k ≤ old.length)
      | _ => none
    | .ep h k' i j => match s.L.lookup h with
      | some (.row e k'' xs) => some (.any, { s with L := Heap.upd s.L h (.row e k'' (xs.set i (if j = 0 ∧ k = k'' then cs else putAt j cs (xs[i]?.getD [])))) }, (cs.length = k ∧ i < xs.length) ∧ j + k ≤ k'' ∧ k' = k'')
      | _ => none
    | _ => none
  | _, _ => none

def doMake (P : Program) (s : St) (h : Nat) (t : TypeId) (lo co : Operand) : Option (V × St × Prop) :=
  match tySl P t, s.ev lo, s.ev co with
  | some (e, k, by_, z), .d (.v (.int _ l)), .d (.v (.int _ c)) =>
    some (.rv h, { s with L := (h, .row e k (List.replicate l.toNat (z.map fun x => .d (.v x)))) :: s.L }, (0 < k ∧ h ∉ keys s.L) ∧ (0 ≤ l ∧ l ≤ c) ∧ (c ≤ maxLen ∧ by_ * c.toNat ≤ 140737488355328))
  | _, _, _ => none

/-- the cells of a literal's parts, each in its place -/
def litRows (s : St) : List (Nat × Operand) → Nat → Option (List (List V))
  | [], _ => some []
  | (i, x) :: l, j => if i = j then match (s.ev x).cl, litRows s l (j + 1) with
    | some cs, some r => some (cs :: r)
    | _, _ => none
    else none

def doAppend (P : Program) (s : St) (h0 : Nat) (c : Call) : Option (V × St × Prop) :=
  match c.callee, c.args.toList, c.argTypes.toList with
  | .builtin .append, [so, xo], [t, t2] =>
    match tySl P t, srcV s.L (s.ev xo) with
    | some (e, k, by_, _), some ys =>
      if tySrc P t2 then
        match s.ev so with
        | .rv h => match s.L.lookup h with
          | some (.row e' k' xs) => some (.rv h, ⟨(s.kill h).fr, Heap.upd (s.kill h).L h (.row e k ((xs ++ ys).map (V.kills h)))⟩, ((e' = e ∧ k' = k) ∧ 0 < k ∧ 0 < by_) ∧ (∀ y ∈ ys, y.length = k) ∧ (xs.length + ys.length) * by_ ≤ 140737488355328)
          | _ => none
        | .d (.v (.slice none 0 0)) => some (.rv h0, { s with L := (h0, .row e k ys) :: s.L }, (0 < k ∧ 0 < by_ ∧ h0 ∉ keys s.L) ∧ (∀ y ∈ ys, y.length = k) ∧ ys.length * by_ ≤ 140737488355328)
        | _ => none
      else none
    | _, _ => none
  | _, _, _ => none

end
end Go.Ab
