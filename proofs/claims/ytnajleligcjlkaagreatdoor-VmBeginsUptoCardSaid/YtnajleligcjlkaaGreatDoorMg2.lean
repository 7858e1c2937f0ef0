/-
  The texts I J Mq Sb K R S W U X N, one behind the other.
-/
import Derived.Test.YtnajleligcjlkaaGreatDoorMg1
import Derived.Laws.Small
import Derived.Lib.UnsafeStr
import Derived.RangeFuncLeaves
import Derived.Still
set_option linter.unusedSimpArgs false
set_option linter.unusedVariables false
namespace Go.Ab
section
variable {P : Program} {w w' : World} {fo : FO} {m m' : Nat → Option Value} {L : Heap} {n : Nat} {s : St} {a : Act}
def AOps (P : Program) (n : Nat) (ops : Array Oper) (l : List Oper) (s : St) (Q : AX → St → Prop) : Prop :=
  ∀ fo m0 w0 m a w, Step w0 (own m0) w (own m) → G fo n m s a w → wpListIn (wr fo.r) 0 P ops (Post fo n m0 w0 Q) l a w
theorem G.put (g : G fo n m s a w) {dst : Option Tmp} (hd : ∀ d, dst = some d → d < n) {v : Value} {x : V} (hr : RelV w (OO fo m) m v x) : G fo n m (s.put dst x) (a.put dst v) w := by
  cases dst with
  | none => exact g
  | some d =>
    have hdn := hd d rfl
    refine ⟨by simpa [Act.put] using g.size, ?_, g.inv, g.defers⟩
    intro t y hy
    simp only [St.put, List.mem_cons, Prod.mk.injEq] at hy
    rcases hy with ⟨rfl, rfl⟩ | hy
    · refine ⟨hdn, ?_⟩
      have : (a.put (some t) v).tmps.getD t undef = v := by
        have hsz := g.size
        simp [Act.put, Array.getD, hsz, hdn]
      rw [this]; exact hr
    · obtain ⟨hy, hne⟩ := mem_delF hy
      obtain ⟨h1, h2⟩ := g.fr t y hy
      refine ⟨h1, ?_⟩
      have hne' : d ≠ t := fun e => hne e.symm
      have : (a.put (some d) v).tmps.getD t undef = a.tmps.getD t undef := by
        simp [Act.put, Array.getElem?_setIfInBounds_ne hne']
      rw [this]; exact h2
variable {ops : Array Oper} {Q : AX → St → Prop} {o : Oper} {rest : List Oper}
theorem AOps.nil (h : Q .normal s) : AOps P n ops [] s Q := fun _ _ _ m _ _ st g => .of m .normal s h g trivial st
theorem wpList_ok {r : Option Nat} {Q' : Exit → Act → World → Prop} {a : Act} {w w' : World} {nx : Next} {v : Value} (hw : Region.wanted o (yielded ops a.tmps) = true) (hrun : (execOp a.eval o).run P w = .ok nx w')
    (hnx : nx = .value v ∨ (nx = .skip ∧ v = undef)) (h : wpListIn (wr r) 0 P ops Q' rest (a.put o.dst v) w') : wpListIn (wr r) 0 P ops Q' (o :: rest) a w := by
  unfold wpListIn
  rw [if_pos hw]
  exact owp_val hrun hnx h
theorem AOps.loud {K : V → St → Prop} (hg : o.guard = none) (hd : ∀ d, o.dst = some d → d < n) (h : OpL P n o s K) (k : ∀ x s', K x s' → AOps P n ops rest (s'.put o.dst x) Q) : AOps P n ops (o :: rest) s Q := by
  intro fo m0 w0 m a w st g
  obtain ⟨nx, v, w', m', x, s', hrun, hnx, hK, hr, g', st'⟩ := h fo m a w g
  exact wpList_ok (by simp [Region.wanted, hg]) hrun hnx (k x s' hK fo m0 w0 m' _ w' (st.trans st') (g'.put hd hr))
theorem AOps.quiet {x : V} (hg : o.guard = none) (hd : ∀ d, o.dst = some d → d < n) (h : OpQ P o s.ev s.L x) (k : AOps P n ops rest (s.put o.dst x) Q) : AOps P n ops (o :: rest) s Q := by
  intro fo m0 w0 m a w st g
  obtain ⟨v, hrun, hr⟩ := h fo m a.eval w g.inv (fun z _ => eval_rel g z)
  exact wpList_ok (by simp [Region.wanted, hg]) hrun (.inl rfl) (k fo m0 w0 m _ w st (g.put hd hr))
def gdG (g : Bool) (x : V) (want : Bool) : Option (Option Bool) :=
  match g with
  | false => some (some false)
  | true => match x with
    | .d (.v (.bool b)) => some (some (b == want))
    | _ => none
@[simp] theorem gdG_false {x : V} {want : Bool} : gdG false x want = some (some false) := rfl
@[simp] theorem gdG_bool {g b want : Bool} : gdG g (.d (.v (.bool b))) want = some (some (g && (b == want))) := by cases g <;> simp [gdG]
theorem gdG_some {g want : Bool} {x : V} {r : Option Bool} (h : gdG g x want = some r) : (g = false ∧ r = some false) ∨ ∃ b, x = .d (.v (.bool b)) ∧ r = some (g && (b == want)) := by
  cases g with
  | false => simp only [gdG, Option.some.injEq] at h; exact .inl ⟨rfl, h.symm⟩
  | true =>
    simp only [gdG] at h
    split at h
    · rename_i b; simp only [Option.some.injEq] at h; exact .inr ⟨b, rfl, by simp [h]⟩
    · cases h
def guardV (ops : Array Oper) (s : St) (o : Oper) : Option (Option Bool) :=
  match o.guard with
  | none => some none
  | some (j, want) =>
    match (ops[j]?).bind (·.dst) with
    | some t => match s.get t with
      | .d (.v (.bool b)) => some (some (b == want))
      | .gd g x => gdG g x want
      | _ => none
    | none => none
theorem guardV_none {ops : Array Oper} {o : Oper} (hg : guardV ops s o = some none) : o.guard = none := by
  unfold guardV at hg
  split at hg
  · assumption
  · split at hg
    · split at hg
      · cases hg
      · rcases gdG_some hg with ⟨_, h⟩ | ⟨_, _, h⟩ <;> cases h
      · cases hg
    · cases hg
theorem get_rel (g : G fo n m s a w) (t : Nat) : RelV w (OO fo m) m (a.tmps.getD t undef) (s.get t) := eval_rel g (.tmp t)
theorem guard_wanted (g : G fo n m s a w) {b : Bool} (h : guardV ops s o = some (some b)) : Region.wanted o (yielded ops a.tmps) = b := by
  unfold guardV at h
  split at h
  · cases h
  · rename_i j want hg
    split at h
    · rename_i t ht
      have hr := get_rel g t
      have hy : ∀ b', a.tmps.getD t undef = .bool b' → Region.wanted o (yielded ops a.tmps) = (b' == want) := by
        intro b' hb'
        have hs : a.tmps[t]? = some (.bool b') := by
          simp only [Array.getD_eq_getD_getElem?] at hb'
          cases hx : a.tmps[t]? with
          | none => rw [hx] at hb'; simp [undef] at hb'
          | some x => rw [hx] at hb'; simp only [Option.getD_some] at hb'; rw [hb']
        simp only [Region.wanted, hg, yielded, ht, Option.bind_some, hs]
        cases b' <;> cases want <;> rfl
      split at h
      · rename_i b' hget
        simp only [Option.some.injEq] at h
        subst h
        rw [hget] at hr
        exact hy b' hr.v_inv
      · rename_i g0 x0 hget
        rcases gdG_some h with ⟨rfl, hb⟩ | ⟨b', rfl, hb⟩
        · simp only [Option.some.injEq] at hb
          subst hb
          rw [hget] at hr
          generalize hv : a.tmps.getD t undef = v at hr
          cases hr with
          | gf _ =>
            have hs : yielded ops a.tmps j = none := by
              simp only [yielded, ht, Option.bind_some]
              simp only [Array.getD_eq_getD_getElem?] at hv
              cases hx : a.tmps[t]? with
              | none => rfl
              | some x => rw [hx] at hv; simp only [Option.getD_some] at hv; rw [hv]; rfl
            simp [Region.wanted, hg, hs]
        · simp only [Option.some.injEq] at hb
          subst hb
          rw [hget] at hr
          generalize hv : a.tmps.getD t undef = v at hr
          cases hr with
          | gt _ _ hr => rw [hy b' (by rw [hv]; exact hr.v_inv)]; simp
          | gf _ =>
            have hs : yielded ops a.tmps j = none := by
              simp only [yielded, ht, Option.bind_some]
              simp only [Array.getD_eq_getD_getElem?] at hv
              cases hx : a.tmps[t]? with
              | none => rfl
              | some x => rw [hx] at hv; simp only [Option.getD_some] at hv; rw [hv]; rfl
            simp [Region.wanted, hg, hs]
      · cases h
    · cases h
theorem AOps.guarded {b : Bool} {x : V} (hgd : guardV ops s o = some (some b)) (hd : ∀ d, o.dst = some d → d < n)
    (h : b = true → ∃ ρa : Operand → V, (∀ z, z ∈ o.op.operands → ∀ w O m v, RelV w O m v (s.ev z) → RelV w O m v (ρa z)) ∧ OpQ P o ρa s.L x) (k : AOps P n ops rest (s.put o.dst (.gd b x)) Q) : AOps P n ops (o :: rest) s Q := by
  intro fo m0 w0 m a w st g
  have hw := guard_wanted g hgd
  cases b with
  | true =>
    obtain ⟨ρa, h1, h2⟩ := h rfl
    obtain ⟨v, hrun, hr⟩ := h2 fo m a.eval w g.inv (fun z hz => h1 z hz _ _ _ _ (eval_rel g z))
    exact wpList_ok hw hrun (.inl rfl) (k fo m0 w0 m _ w st (g.put hd (.gt _ _ hr)))
  | false =>
    unfold wpListIn
    rw [if_neg (by rw [hw]; simp)]
    exact ⟨fun _ _ => trivial, k fo m0 w0 m _ w st (g.put hd (.gf _))⟩
def bndV : Option V → Nat → Option (Nat × Prop)
  | none, d => some (d, True)
  | some (.d (.v (.int _ l))), _ => some (l.toNat, 0 ≤ l)
  | _, _ => none
def sliceV (P : Program) (t : TypeId) (x : V) (lo hi : Option V) : Option (V × Prop) :=
  match x with
  | .d (.v (.string s)) =>
    if tyStr P t then match bndV lo 0, bndV hi s.size with
      | some (l, c1), some (u, c2) => some (strV (s.extract l u), (c1 ∧ c2) ∧ l ≤ u ∧ u ≤ s.size)
      | _, _ => none
    else none
  | .d (.sl xs) => match tyE P t, bndV lo 0, bndV hi xs.length with
    | some (_, k), some (l, c1), some (u, c2) => some (.d (.sl ((xs.take u).drop l)), ((c1 ∧ c2) ∧ l ≤ u ∧ u ≤ xs.length) ∧ ∀ x ∈ xs, x.length = k)
    | _, _, _ => none
  | _ => none
theorem run_bounds {isSlice : Bool} {len C l u : Nat} {lo hi : Option Value} (hlo : (lo = none ∧ l = 0) ∨ ∃ kl, lo = some (.int kl l)) (hhi : (hi = none ∧ u = len) ∨ ∃ ku, hi = some (.int ku u)) (hlu : l ≤ u) (huC : u ≤ C) :
    (Instr.sliceBounds isSlice len C lo hi none).run P w = .ok (l, u, C) w := by
  rcases hlo with ⟨rfl, rfl⟩ | ⟨kl, rfl⟩ <;> rcases hhi with ⟨rfl, rfl⟩ | ⟨ku, rfl⟩
  · simp [Instr.sliceBounds]
  · simp [Instr.sliceBounds, Instr.sliceBound, asIntOf, huC]
  · simp [Instr.sliceBounds, Instr.sliceBound, asIntOf, hlu]
  · simp [Instr.sliceBounds, Instr.sliceBound, asIntOf, huC, hlu]
theorem bndV_sound {z : Option Operand} {ρ : Operand → Value} {ρa : Operand → V} {d l : Nat} {c : Prop} (h : bndV (z.map ρa) d = some (l, c)) (hc : c) (hr : ∀ y, z = some y → RelV w (OO fo m) m (ρ y) (ρa y)) : (z.map ρ = none ∧ l = d) ∨ ∃ k, z.map ρ = some (.int k l) := by
  cases z with
  | none =>
    simp only [Option.map_none, bndV, Option.some.injEq, Prod.mk.injEq] at h
    exact .inl ⟨rfl, h.1.symm⟩
  | some y =>
    have hy := hr y rfl
    simp only [Option.map_some] at h
    generalize ρa y = v at h hy
    unfold bndV at h
    split at h
    · rename_i h'; cases h'
    · rename_i k q h'
      simp only [Option.some.injEq] at h'
      subst h'
      simp only [Option.some.injEq, Prod.mk.injEq] at h
      obtain ⟨rfl, rfl⟩ := h
      exact .inr ⟨k, by simp only [Option.map_some]; rw [hy.v_inv, Int.toNat_of_nonneg hc]⟩
    · cases h
theorem sliceV_sound {t : TypeId} {xo : Operand} {lo hi : Option Operand} {ρ : Operand → Value} {ρa : Operand → V} {x : V} {c : Prop} (h : sliceV P t (ρa xo) (lo.map ρa) (hi.map ρa) = some (x, c)) (hc : c)
    (hx : RelV w (OO fo m) m (ρ xo) (ρa xo)) (hlo : ∀ y, lo = some y → RelV w (OO fo m) m (ρ y) (ρa y)) (hhi : ∀ y, hi = some y → RelV w (OO fo m) m (ρ y) (ρa y)) :
    ∃ v, (Instr.sliceAt t (ρ xo) (lo.map ρ) (hi.map ρ) none).run P w = .ok v w ∧ RelV w (OO fo m) m v x := by
  unfold sliceV at h
  split at h
  · rename_i s hs
    rw [hs] at hx
    split at h
    · rename_i ht
      split at h
      · rename_i l c1 u c2 h1 h2
        simp only [Option.some.injEq, Prod.mk.injEq] at h
        obtain ⟨rfl, rfl⟩ := h
        have hb := run_bounds (P := P) (w := w) (isSlice := false) (C := s.size) (bndV_sound h1 hc.1.1 hlo) (bndV_sound h2 hc.1.2 hhi) hc.2.1 hc.2.2
        exact ⟨_, by simp only [Instr.sliceAt, Instr.slice, Sem.run_bind, tyStr_spec ht w, Result.andThen_ok, hx.v_inv]; simp [hb], mkstr _⟩
      · cases h
    · cases h
  · rename_i xs hs
    rw [hs] at hx
    split at h
    · rename_i e k l c1 u c2 ht h1 h2
      simp only [Option.some.injEq, Prod.mk.injEq] at h
      obtain ⟨rfl, rfl⟩ := h
      obtain ⟨⟨⟨hc1, hc2⟩, hlu, hux⟩, hlen⟩ := hc
      obtain ⟨ao, cap, hv, hcap, hmax, k', b, off, f, ha, hk, hcells, hrel⟩ := hx.d_inv.sl_inv
      obtain ⟨ht1, ht2⟩ := tyE_spec ht w
      have hb := run_bounds (P := P) (w := w) (isSlice := true) (C := cap) (bndV_sound h1 hc1 hlo) (bndV_sound h2 hc2 hhi) hlu (by omega)
      refine ⟨_, by simp only [Instr.sliceAt, Instr.slice, Sem.run_bind, ht1, ht2, Result.andThen_ok, hv, hb]; rfl, .d _ _ ?_⟩
      have hcl : ((xs.take u).drop l).length = u - l := by simp; omega
      have hcg : ∀ (i : Nat) (x : List D), ((xs.take u).drop l)[i]? = some x → i < u - l ∧ xs[l + i]? = some x := by
        intro i x hx
        rw [List.getElem?_drop, List.getElem?_take] at hx
        split at hx
        · exact ⟨by omega, hx⟩
        · cases hx
      refine .sl _ _ _ _ k b (off + l * k) (fun i j => f (l + i) j) hcl.symm (by omega) (by omega) ?_ ?_ ?_ ?_
      · intro h0
        obtain ⟨e1, e2, e3⟩ := ha (by omega)
        rw [if_neg (by omega), e1]
        exact ⟨by simp [Addr.add_lit], e2, e3⟩
      · intro i y hy
        exact hlen y (List.mem_of_getElem? (hcg i y hy).2)
      · intro i j hi hj
        have hlt : l + i < xs.length := by omega
        have hkk : k' = k := by rw [← hk _ _ (List.getElem?_eq_getElem hlt)]; exact hlen _ (List.getElem_mem hlt)
        subst hkk
        have := hcells (l + i) j hlt hj
        rw [Nat.add_mul, ← Nat.add_assoc] at this
        exact this
      · intro i j y z hy hz
        exact hrel (l + i) j y z (hcg i y hy).2 hz
    · cases h
  · cases h
def tyBool (P : Program) (t : TypeId) : Bool :=
  match P.underlying t with
  | some .bool => true
  | _ => false
def boolEqV (P : Program) (op : BinOp) (t : TypeId) (x y : V) : Option (V × Prop) :=
  match op, x, y with
  | .eql, .d (.v (.bool a)), .d (.v (.bool b)) => if tyBool P t then some (boolV (a == b), True) else none
  | .neq, .d (.v (.bool a)), .d (.v (.bool b)) => if tyBool P t then some (boolV (!(a == b)), True) else none
  | _, _, _ => none
def maxminV (ρ : Operand → V) (c : Call) : Option (V × Prop) :=
  match c.callee, c.args.toList with
  | .builtin .max, [x, y] => match ρ x, ρ y with
    | .d (.v (.int k a)), .d (.v (.int _ b)) => some (intV k (if b > a then b else a), True)
    | _, _ => none
  | .builtin .min, [x, y] => match ρ x, ρ y with
    | .d (.v (.int k a)), .d (.v (.int _ b)) => some (intV k (if b < a then b else a), True)
    | _, _ => none
  | _, _ => none
def tyConc (P : Program) (t : TypeId) : Bool :=
  match P.underlying t with
  | some (.interface _) => false
  | some _ => true
  | none => false
def allD : List V → Option (List D)
  | [] => some []
  | .d y :: l => match allD l with
    | some r => some (y :: r)
    | none => none
  | _ :: _ => none
theorem allD_eq : ∀ {l : List V} {r : List D}, allD l = some r → l = r.map .d
  | [], r, h => by simp only [allD, Option.some.injEq] at h; subst h; rfl
  | x :: l, r, h => by
    unfold allD at h
    split at h
    · rename_i heq; cases heq
    · rename_i y l' heq
      cases heq
      split at h
      · rename_i r' hr
        simp only [Option.some.injEq] at h
        subst h
        rw [allD_eq hr]; rfl
      · cases h
    · cases h
def ifcV (P : Program) (t : TypeId) (x : V) : Option (V × Prop) :=
  if tyConc P t then match x with
    | .d (.v v) => some (.d (.ifc t false [.v v]), True)
    | .d (.sl xs) => some (.d (.ifc t false [.sl xs]), True)
    | .agg cs => match allD cs with
      | some ds => some (.d (.ifc t true ds), True)
      | none => none
    | _ => none
  else none
def ofIfc (ag : Bool) (cs : List D) : V := if ag then .agg (cs.map .d) else match cs with
  | [y] => .d y
  | _ => .any
def zeroV (P : Program) (t : TypeId) : V := match (P.info? t).bind (·.zero) with
  | some (.agg cs) => if cs.all (·.oneCell') then .agg (cs.toList.map fun x => .d (.v x)) else .any
  | some x => if x.oneCell' then .d (.v x) else .any
  | none => .any
def hasZ (P : Program) (t : TypeId) : Bool := ((P.info? t).bind (·.zero)).isSome
def asrtV (P : Program) (x : V) (a : TypeId) (ok : Bool) : Option (V × Prop) :=
  if tyConc P a then match x with
    | .d (.ifc t ag cs) => if t = a then (if ok then some (.tup [ofIfc ag cs, .d (.v (.bool true))], True) else some (ofIfc ag cs, True))
      else if ok && hasZ P a then some (.tup [zeroV P a, .d (.v (.bool false))], True) else none
    | .d (.v .nilIface) => if ok && hasZ P a then some (.tup [zeroV P a, .d (.v (.bool false))], True) else none
    | _ => none
  else none
def tyIfc (P : Program) (t : TypeId) : Bool :=
  match P.underlying t with
  | some (.interface _) => true
  | _ => false
def isCst : Operand → Bool
  | .const _ => true
  | _ => false
def nilEqV (P : Program) (op : BinOp) (t : TypeId) (k : Bool) (x y : V) : Option (V × Prop) :=
  match op, x, y with
  | .eql, .d (.ifc ..), .d (.v .nilIface) => if tyIfc P t then some (boolV false, True) else none
  | .neq, .d (.ifc ..), .d (.v .nilIface) => if tyIfc P t then some (boolV true, True) else none
  | .eql, .d (.v .nilIface), .d (.v .nilIface) => if tyIfc P t && k then some (boolV true, True) else none
  | .neq, .d (.v .nilIface), .d (.v .nilIface) => if tyIfc P t && k then some (boolV false, True) else none
  | _, _, _ => none
def moreV (P : Program) (ρ : Operand → V) (o : Oper) : Option (V × Prop) :=
  match o.op with
  | .build t ps => buildV P t (ps.toList.map fun p => (p.1, ρ p.2))
  | .binOp op t x y _ => match eqAggV P op t (ρ x) (ρ y) with
    | some r => some r
    | none => match nilEqV P op t (isCst y) (ρ x) (ρ y) with
      | some r => some r
      | none => boolEqV P op t (ρ x) (ρ y)
  | .call c => maxminV ρ c
  | .slice t x lo hi none => sliceV P t (ρ x) (lo.map ρ) (hi.map ρ)
  | .makeInterface t x => ifcV P t (ρ x)
  | .typeAssert x _ a ok => asrtV P (ρ x) a ok
  | _ => none
def q2 (P : Program) (ρ : Operand → V) (L : Heap) (o : Oper) : Option (V × Prop) :=
  match moreV P ρ o with
  | some r => some r
  | none => q1 P ρ L o
theorem run_neq_bool' (t : TypeId) (a b : Bool) (h : P.underlying t = some .bool) : (binOp .neq t (.bool a) (.bool b)).run P w = .ok (.bool (!(a == b))) w := by
  have h1 := run_eql_bool (P := P) (w := w) t a b h
  simp only [binOp, Sem.run_bind] at h1 ⊢
  generalize (Op.equal t (.bool a) (.bool b)).run P w = R at h1 ⊢
  cases R with
  | ok u w' => simp at h1 ⊢; obtain ⟨rfl, rfl⟩ := h1; simp
  | _ => simp at h1
theorem boolEqV_sound {op : BinOp} {t : TypeId} {xo yo : Operand} {a b x : V} {c : Prop} (h : boolEqV P op t a b = some (x, c)) {va vb : Value} (ha : RelV w (OO fo m) m va a) (hb : RelV w (OO fo m) m vb b) :
    ∃ v, (do eqGuard op t xo yo va vb; binOp op t va vb : Sem Value).run P w = .ok v w ∧ RelV w (OO fo m) m v x := by
  unfold boolEqV at h
  split at h
  · rename_i p q
    obtain rfl := ha.v_inv
    obtain rfl := hb.v_inv
    split at h
    · rename_i ht
      simp only [Option.some.injEq, Prod.mk.injEq] at h
      obtain ⟨rfl, rfl⟩ := h
      have hu : P.underlying t = some .bool := by
        unfold tyBool at ht; split at ht
        · assumption
        · cases ht
      have hg : (eqGuard .eql t xo yo (.bool p) (.bool q)).run P w = .ok () w := by simp [eqGuard]
      exact ⟨_, by rw [Sem.run_bind, hg, Result.andThen_ok, run_eql_bool w t p q hu], mkbool _⟩
    · cases h
  · rename_i p q
    obtain rfl := ha.v_inv
    obtain rfl := hb.v_inv
    split at h
    · rename_i ht
      simp only [Option.some.injEq, Prod.mk.injEq] at h
      obtain ⟨rfl, rfl⟩ := h
      have hu : P.underlying t = some .bool := by
        unfold tyBool at ht; split at ht
        · assumption
        · cases ht
      have hg : (eqGuard .neq t xo yo (.bool p) (.bool q)).run P w = .ok () w := by simp [eqGuard]
      exact ⟨_, by rw [Sem.run_bind, hg, Result.andThen_ok, run_neq_bool' t p q hu], mkbool _⟩
    · cases h
  · cases h
theorem tyConc_spec {t : TypeId} (h : tyConc P t = true) (w : World) : ∃ d, (underlying t).run P w = .ok d w ∧ ∀ ms, d ≠ .interface ms := by
  unfold tyConc at h
  split at h
  · cases h
  · rename_i d hd hu
    exact ⟨_, run_underlying hu w, fun ms he => hd ms he⟩
  · cases h
theorem ifcV_sound {t : TypeId} {a x : V} {c : Prop} (h : ifcV P t a = some (x, c)) {va : Value} (ha : RelV w (OO fo m) m va a) :
    ∃ v, (Instr.makeInterface t va).run P w = .ok v w ∧ RelV w (OO fo m) m v x := by
  unfold ifcV at h
  split at h
  · rename_i ht
    obtain ⟨d, hd, hni⟩ := tyConc_spec ht w
    have hrun : (Instr.makeInterface t va).run P w = .ok (.iface t va) w := by
      simp only [Instr.makeInterface, Sem.run_bind, hd, Result.andThen_ok]
      first
        | rfl
        | (split
           · exact (hni _ rfl).elim
           · rfl)
    refine ⟨_, hrun, ?_⟩
    split at h
    · rename_i v
      simp only [Option.some.injEq, Prod.mk.injEq] at h
      obtain ⟨rfl, _⟩ := h
      have hr := ha.d_inv
      cases hr with
      | v _ h1 => exact .d _ _ (.ifc1 t _ _ h1 (.v _ h1))
    · rename_i xs
      simp only [Option.some.injEq, Prod.mk.injEq] at h
      obtain ⟨rfl, _⟩ := h
      have hr := ha.d_inv
      obtain ⟨a', cap, hv, -⟩ := hr.sl_inv
      subst hv
      exact .d _ _ (.ifc1 t _ _ rfl hr)
    · rename_i cs
      split at h
      · rename_i ds hds
        simp only [Option.some.injEq, Prod.mk.injEq] at h
        obtain ⟨rfl, _⟩ := h
        rw [allD_eq hds] at ha
        cases ha with
        | agg vs _ hs h1 hh =>
          refine .d _ _ (.ifca t vs ds (by simpa using hs) h1 (fun j v y hv hy => ?_))
          have := hh j v (.d y) hv (by simp [hy])
          exact this.d_inv
      · cases h
    · cases h
  · cases h
theorem run_equal_ifc {t : TypeId} {ms : Array (String × TypeId)} (h : P.underlying t = some (.interface ms)) (d : Nat) (u : TypeId) (x : Value) : (Op.equalIn (d + 1) t (.iface u x) .nilIface).run P w = .ok false w := by
  simp [Op.equalIn, run_underlying h]
theorem run_equal_nil {t : TypeId} {ms : Array (String × TypeId)} (h : P.underlying t = some (.interface ms)) (d : Nat) : (Op.equalIn (d + 1) t .nilIface .nilIface).run P w = .ok true w := by
  simp [Op.equalIn, run_underlying h]
theorem tyIfc_spec {t : TypeId} (h : tyIfc P t = true) : ∃ ms, P.underlying t = some (.interface ms) := by
  unfold tyIfc at h
  split at h
  · rename_i ms hu; exact ⟨ms, hu⟩
  · cases h
theorem ifc_inv {v : Value} {t : TypeId} {ag : Bool} {cs : List D} {O : Nat → Prop} (h : RelD w O v (.ifc t ag cs)) : ∃ u, v = .iface t u := by
  cases h <;> exact ⟨_, rfl⟩
theorem nilEqV_sound {op : BinOp} {t : TypeId} {xo yo : Operand} {a b x : V} {c : Prop} (h : nilEqV P op t (isCst yo) a b = some (x, c)) {va vb : Value} (ha : RelV w (OO fo m) m va a) (hb : RelV w (OO fo m) m vb b) :
    ∃ v, (do eqGuard op t xo yo va vb; binOp op t va vb : Sem Value).run P w = .ok v w ∧ RelV w (OO fo m) m v x := by
  unfold nilEqV at h
  split at h
  · obtain rfl := hb.v_inv
    obtain ⟨u, rfl⟩ := ifc_inv ha.d_inv
    split at h
    · rename_i ht
      obtain ⟨ms, hu⟩ := tyIfc_spec ht
      simp only [Option.some.injEq, Prod.mk.injEq] at h
      obtain ⟨rfl, _⟩ := h
      have he : ∀ t', (Op.equal t (.iface t' u) .nilIface).run P w = .ok false w := fun t' => run_equal_ifc hu 9999 t' u
      exact ⟨_, by simp [eqGuard, binOp, he], mkbool _⟩
    · cases h
  · obtain rfl := hb.v_inv
    obtain ⟨u, rfl⟩ := ifc_inv ha.d_inv
    split at h
    · rename_i ht
      obtain ⟨ms, hu⟩ := tyIfc_spec ht
      simp only [Option.some.injEq, Prod.mk.injEq] at h
      obtain ⟨rfl, _⟩ := h
      have he : ∀ t', (Op.equal t (.iface t' u) .nilIface).run P w = .ok false w := fun t' => run_equal_ifc hu 9999 t' u
      exact ⟨_, by simp [eqGuard, binOp, he], mkbool _⟩
    · cases h
  · obtain rfl := ha.v_inv
    obtain rfl := hb.v_inv
    split at h
    · rename_i ht
      rw [Bool.and_eq_true] at ht
      obtain ⟨ht, hk⟩ := ht
      obtain ⟨cv, rfl⟩ : ∃ cv, yo = .const cv := by
        cases yo <;> first | exact ⟨_, rfl⟩ | cases hk
      obtain ⟨ms, hu⟩ := tyIfc_spec ht
      simp only [Option.some.injEq, Prod.mk.injEq] at h
      obtain ⟨rfl, _⟩ := h
      have he : (Op.equal t .nilIface .nilIface).run P w = .ok true w := run_equal_nil hu 9999
      have hg : ∀ op, eqGuard op t xo (.const cv) .nilIface .nilIface = pure () := fun op => by cases op <;> cases xo <;> rfl
      exact ⟨_, by simp [hg, binOp, he], mkbool _⟩
    · cases h
  · obtain rfl := ha.v_inv
    obtain rfl := hb.v_inv
    split at h
    · rename_i ht
      rw [Bool.and_eq_true] at ht
      obtain ⟨ht, hk⟩ := ht
      obtain ⟨cv, rfl⟩ : ∃ cv, yo = .const cv := by
        cases yo <;> first | exact ⟨_, rfl⟩ | cases hk
      obtain ⟨ms, hu⟩ := tyIfc_spec ht
      simp only [Option.some.injEq, Prod.mk.injEq] at h
      obtain ⟨rfl, _⟩ := h
      have he : (Op.equal t .nilIface .nilIface).run P w = .ok true w := run_equal_nil hu 9999
      have hg : ∀ op, eqGuard op t xo (.const cv) .nilIface .nilIface = pure () := fun op => by cases op <;> cases xo <;> rfl
      exact ⟨_, by simp [hg, binOp, he], mkbool _⟩
    · cases h
  · cases h
theorem zeroV_rel {a : TypeId} (h : hasZ P a = true) : ∃ v, (zeroValue a).run P w = .ok v w ∧ RelV w (OO fo m) m v (zeroV P a) := by
  unfold hasZ at h
  obtain ⟨v, hv⟩ := Option.isSome_iff_exists.1 h
  obtain ⟨i, hi, hz⟩ := Option.bind_eq_some_iff.1 hv
  refine ⟨v, by simp [zeroValue, typeInfo, hi, hz], ?_⟩
  unfold zeroV
  rw [hv]
  split
  · rename_i cs heq
    cases heq
    split
    · rename_i hall
      rw [Array.all_eq_true'] at hall
      refine .agg cs _ (by simp) (fun j x hx => hall x (Array.mem_of_getElem? hx)) (fun j x y hx hy => ?_)
      rw [List.getElem?_map, Array.getElem?_toList, hx] at hy
      simp only [Option.map_some, Option.some.injEq] at hy
      subst hy
      exact .d _ _ (.v _ (hall x (Array.mem_of_getElem? hx)))
    · exact .any _
  · rename_i x hx heq
    cases heq
    split
    · rename_i h1; exact .d _ _ (.v _ h1)
    · exact .any _
  · rename_i heq; cases heq
theorem ofIfc_rel {t : TypeId} {ag : Bool} {cs : List D} {v : Value} (h : RelD w (OO fo m) v (.ifc t ag cs)) : ∃ u, v = .iface t u ∧ RelV w (OO fo m) m u (ofIfc ag cs) := by
  cases h with
  | ifc1 _ x y hx hr => exact ⟨x, rfl, .d _ _ hr⟩
  | ifca _ vs _ hs h1 hr =>
    refine ⟨.agg vs, rfl, .agg vs _ (by simpa using hs) h1 (fun j x y hx hy => ?_)⟩
    rw [List.getElem?_map] at hy
    obtain ⟨y', hy', rfl⟩ := Option.map_eq_some_iff.1 hy
    exact .d _ _ (hr j x y' hx hy')
theorem asrtV_sound {xt a : TypeId} {ok : Bool} {y x : V} {c : Prop} (h : asrtV P y a ok = some (x, c)) {va : Value} (ha : RelV w (OO fo m) m va y) :
    ∃ v, (Instr.typeAssert va xt a ok).run P w = .ok v w ∧ RelV w (OO fo m) m v x := by
  unfold asrtV at h
  split at h
  · rename_i ht
    obtain ⟨d, hd, hni⟩ := tyConc_spec ht w
    have tup : ∀ (u : Value) (z : V) (b : Bool), RelV w (OO fo m) m u z → RelV w (OO fo m) m (.tuple #[u, .bool b]) (.tup [z, .d (.v (.bool b))]) := fun u z b hu => by
      refine .tup _ _ rfl (fun j x y hx hy => ?_)
      match j, hx, hy with
      | 0, hx, hy => simp at hx hy; subst hx; subst hy; exact hu
      | 1, hx, hy => simp at hx hy; subst hx; subst hy; exact mkbool _
    split at h
    · rename_i t ag cs
      obtain ⟨u, rfl, hu⟩ := ofIfc_rel ha.d_inv
      split at h
      · rename_i hta
        split at h
        · rename_i hok
          subst hok
          simp only [Option.some.injEq, Prod.mk.injEq] at h
          obtain ⟨rfl, _⟩ := h
          refine ⟨_, ?_, tup u _ true hu⟩
          cases d with
          | interface ms => exact (hni ms rfl).elim
          | _ => simp [Instr.typeAssert, hd, hta]
        · rename_i hok
          simp only [Option.some.injEq, Prod.mk.injEq] at h
          obtain ⟨rfl, _⟩ := h
          refine ⟨_, ?_, hu⟩
          cases d with
          | interface ms => exact (hni ms rfl).elim
          | _ => simp [Instr.typeAssert, hd, hta, hok]
      · rename_i hta
        split at h
        · rename_i hok
          rw [Bool.and_eq_true] at hok
          obtain ⟨rfl, hz⟩ := hok
          obtain ⟨z, hz1, hz2⟩ := zeroV_rel (w := w) (fo := fo) (m := m) hz
          simp only [Option.some.injEq, Prod.mk.injEq] at h
          obtain ⟨rfl, _⟩ := h
          refine ⟨_, ?_, tup z _ false hz2⟩
          cases d with
          | interface ms => exact (hni ms rfl).elim
          | _ => simp [Instr.typeAssert, hd, hta, hz1]
        · cases h
    · obtain rfl := ha.v_inv
      split at h
      · rename_i hok
        rw [Bool.and_eq_true] at hok
        obtain ⟨rfl, hz⟩ := hok
        obtain ⟨z, hz1, hz2⟩ := zeroV_rel (w := w) (fo := fo) (m := m) hz
        simp only [Option.some.injEq, Prod.mk.injEq] at h
        obtain ⟨rfl, _⟩ := h
        refine ⟨_, ?_, tup z _ false hz2⟩
        cases d with
        | interface ms => exact (hni ms rfl).elim
        | _ => simp [Instr.typeAssert, hd, hz1]
      · cases h
    · cases h
  · cases h
theorem q2_sound {ρa : Operand → V} {o : Oper} {x : V} {c : Prop} (h : q2 P ρa L o = some (x, c)) (hc : c) : OpQ P o ρa L x := by
  unfold q2 at h
  split at h
  · rename_i r h'
    simp only [Option.some.injEq] at h
    subst h
    have h := h'
    unfold moreV at h
    split at h
    · rename_i t ps hop
      intro fo m ρ w hi hr
      obtain ⟨v, h1, h2⟩ := buildV_sound (w := w) (m := m) (O := OO fo m) (ps := ps.map fun p => (p.1, ρ p.2)) (by simp) (by
        intro j p q hp hq
        rw [Array.getElem?_toList, Array.getElem?_map] at hp
        obtain ⟨y, hy, rfl⟩ := Option.map_eq_some_iff.1 hp
        rw [List.getElem?_map, Array.getElem?_toList, hy] at hq
        simp only [Option.map_some, Option.some.injEq] at hq
        subst hq
        refine ⟨rfl, hr _ ?_⟩
        rw [hop]
        simp only [Op.operands, List.mem_toArray, List.mem_map]
        exact ⟨y, Array.mem_toList_iff.2 (Array.mem_of_getElem? hy), rfl⟩) h hc
      refine ⟨v, ?_, h2⟩
      simp [execOp, hop, h1]
    · rename_i op t xo yo ty hop
      intro fo m ρ w hi hr
      have key : ∃ v, (do eqGuard op t xo yo (ρ xo) (ρ yo); binOp op t (ρ xo) (ρ yo) : Sem Value).run P w = .ok v w ∧ RelV w (OO fo m) m v x := by
        split at h
        · rename_i r hr'
          simp only [Option.some.injEq] at h
          subst h
          exact eqAggV_sound (w := w) (fo := fo) (m := m) (xo := xo) (yo := yo) hr' hc (hr xo (by rw [hop]; simp [Op.operands])) (hr yo (by rw [hop]; simp [Op.operands]))
        · split at h
          · rename_i r hr'
            simp only [Option.some.injEq] at h
            subst h
            exact nilEqV_sound (w := w) (fo := fo) (m := m) (xo := xo) (yo := yo) hr' (hr xo (by rw [hop]; simp [Op.operands])) (hr yo (by rw [hop]; simp [Op.operands]))
          · exact boolEqV_sound (w := w) (fo := fo) (m := m) (xo := xo) (yo := yo) h (hr xo (by rw [hop]; simp [Op.operands])) (hr yo (by rw [hop]; simp [Op.operands]))
      obtain ⟨v, h1, h2⟩ := key
      refine ⟨v, ?_, h2⟩
      rw [Sem.run_bind] at h1
      simp only [execOp, hop, Sem.run_bind]
      generalize (eqGuard op t xo yo (ρ xo) (ρ yo)).run P w = R at h1 ⊢
      cases R with
      | ok u w1 => simp only [Result.andThen_ok] at h1 ⊢; rw [h1]; simp
      | _ => simp [Result.andThen] at h1
    · rename_i cl hop
      intro fo m ρ w hi hr
      obtain ⟨callee, args, argTypes⟩ := cl
      unfold maxminV at h
      split at h
      · rename_i xo yo hcal hargs
        simp only at hcal hargs
        obtain rfl : args = #[xo, yo] := by rw [← Array.toList_inj]; exact hargs
        subst hcal
        have e1 := hr xo (by rw [hop]; simp [Op.operands, Call.operands])
        have e2 := hr yo (by rw [hop]; simp [Op.operands, Call.operands])
        split at h
        · rename_i k a k' b ha hb
          simp only [Option.some.injEq, Prod.mk.injEq] at h
          obtain ⟨rfl, rfl⟩ := h
          rw [ha] at e1
          rw [hb] at e2
          exact ⟨_, by simp [execOp, hop, resolve, invoke, builtin, e1.v_inv, e2.v_inv, run_max_int2, run_min_int2], mkint _ _⟩
        · cases h
      · rename_i xo yo hcal hargs
        simp only at hcal hargs
        obtain rfl : args = #[xo, yo] := by rw [← Array.toList_inj]; exact hargs
        subst hcal
        have e1 := hr xo (by rw [hop]; simp [Op.operands, Call.operands])
        have e2 := hr yo (by rw [hop]; simp [Op.operands, Call.operands])
        split at h
        · rename_i k a k' b ha hb
          simp only [Option.some.injEq, Prod.mk.injEq] at h
          obtain ⟨rfl, rfl⟩ := h
          rw [ha] at e1
          rw [hb] at e2
          exact ⟨_, by simp [execOp, hop, resolve, invoke, builtin, e1.v_inv, e2.v_inv, run_max_int2, run_min_int2], mkint _ _⟩
        · cases h
      · cases h
    · rename_i t xo lo hi hop
      intro fo m ρ w hi' hr
      obtain ⟨v, h1, h2⟩ := sliceV_sound (w := w) (fo := fo) (m := m) (ρ := ρ) h hc (hr xo (by rw [hop]; simp [Op.operands])) (fun y hy => hr y (by rw [hop, hy]; simp [Op.operands])) (fun y hy => hr y (by rw [hop, hy]; simp [Op.operands]))
      exact ⟨v, by simp [execOp, hop, h1], h2⟩
    · rename_i t xo hop
      intro fo m ρ w hi hr
      obtain ⟨v, h1, h2⟩ := ifcV_sound (w := w) (fo := fo) (m := m) h (hr xo (by rw [hop]; simp [Op.operands]))
      exact ⟨v, by simp [execOp, hop, h1], h2⟩
    · rename_i xo xt a ok hop
      intro fo m ρ w hi hr
      obtain ⟨v, h1, h2⟩ := asrtV_sound (w := w) (fo := fo) (m := m) (xt := xt) h (hr xo (by rw [hop]; simp [Op.operands]))
      exact ⟨v, by simp [execOp, hop, h1], h2⟩
    · cases h
  · exact q1_sound h hc
def doStore (P : Program) (s : St) (t : TypeId) (ao xo : Operand) : Option (V × St × Prop) :=
  match tyA P t, (s.ev xo).cl with
  | some (_, k), some cs =>
    match s.ev ao with
    | .bp h off => match s.L.lookup h with
      | some (.box b bty old) => some (.any, { s with L := Heap.upd s.L h (.box b bty (putAt off cs old)) }, cs.length = k ∧ off + k ≤ old.length)
      | _ => none
    | .ep h k' i j => match s.L.lookup h with
      | some (.row e k'' xs) => some (.any, { s with L := Heap.upd s.L h (.row e k'' (xs.set i (if j = 0 ∧ k = k'' then cs else putAt j cs (xs[i]?.getD [])))) }, (cs.length = k ∧ i < xs.length) ∧ j + k ≤ k'' ∧ k' = k'')
      | _ => none
    | _ => none
  | _, _ => none
def doMake (P : Program) (s : St) (h : Nat) (t : TypeId) (lo co : Operand) : Option (V × St × Prop) :=
  match tySl P t, s.ev lo, s.ev co with
  | some (e, k, by_, z), .d (.v (.int _ l)), .d (.v (.int _ c)) =>
    some (.rv h, { s with L := (h, .row e k (List.replicate l.toNat (z.map fun x => .d (.v x)))) :: s.L }, (0 < k ∧ h ∉ keys s.L) ∧ (0 ≤ l ∧ l ≤ c) ∧ (c ≤ maxLen ∧ by_ * c.toNat ≤ 140737488355328))
  | _, _, _ => none
def litRows (s : St) : List (Nat × Operand) → Nat → Option (List (List V))
  | [], _ => some []
  | (i, x) :: l, j => if i = j then match (s.ev x).cl, litRows s l (j + 1) with
    | some cs, some r => some (cs :: r)
    | _, _ => none
    else none
def doAppend (P : Program) (s : St) (h0 : Nat) (c : Call) : Option (V × St × Prop) :=
  match c.callee, c.args.toList, c.argTypes.toList with
  | .builtin .append, [so, xo], [t, t2] =>
    match tySl P t, srcV s.L (s.ev xo) with
    | some (e, k, by_, _), some ys =>
      if tySrc P t2 then
        match s.ev so with
        | .rv h => match s.L.lookup h with
          | some (.row e' k' xs) => some (.rv h, ⟨(s.kill h).fr, Heap.upd (s.kill h).L h (.row e k ((xs ++ ys).map (V.kills h)))⟩, ((e' = e ∧ k' = k) ∧ 0 < k ∧ 0 < by_) ∧ (∀ y ∈ ys, y.length = k) ∧ (xs.length + ys.length) * by_ ≤ 140737488355328)
          | _ => none
        | .d (.v (.slice none 0 0)) => some (.rv h0, { s with L := (h0, .row e k ys) :: s.L }, (0 < k ∧ 0 < by_ ∧ h0 ∉ keys s.L) ∧ (∀ y ∈ ys, y.length = k) ∧ ys.length * by_ ≤ 140737488355328)
        | _ => none
      else none
    | _, _ => none
  | _, _, _ => none
end
end Go.Ab

namespace Go.Ab
section
variable {P : Program} {w w' : World} {fo : FO} {m m' : Nat → Option Value} {L : Heap} {n : Nat} {s : St} {a : Act}
theorem Grows.refl (w : World) : Grows w w := ⟨rfl, rfl, rfl, Nat.le_refl _, fun _ _ => rfl⟩
theorem appendNilL {dst : Option Tmp} {t t2 : TypeId} {so xo : Operand} {ty : TypeId} {pos : String} {after : Array Edge} {guard : Option (Nat × Bool)} {h k by_ : Nat} {e : TypeId} {z : List Value} {ys : List (List V)}
    (ht : tySl P t = some (e, k, by_, z)) (ht2 : tySrc P t2 = true) (hs : s.ev so = .d (.v (.slice none 0 0))) (hn : h ∉ keys s.L) (hx : srcV s.L (s.ev xo) = some ys) (hk : 0 < k ∧ 0 < by_) (hys : ∀ y ∈ ys, y.length = k)
    (hb : ys.length * by_ ≤ 140737488355328) :
    OpL P n ⟨dst, .call { callee := .builtin .append, args := #[so, xo], argTypes := #[t, t2] }, ty, pos, after, guard⟩ s
      (fun x s' => x = .rv h ∧ s' = { s with L := (h, .row e k ys) :: s.L }) := by
  intro fo m a w g
  obtain ⟨i, zv, hu, hi, hz, hsize, hbytes, hzl, hzs, hone⟩ := tySl_spec ht
  obtain ⟨d2, hu2, hd2⟩ := tySrc_spec ht2
  have hso := eval_rel g so
  rw [hs] at hso
  have hnil := hso.v_inv
  have hrx := eval_rel g xo
  obtain ⟨news, src, hnr⟩ := srcV_sound (P := P) g.inv hrx hx hk.1 hys
  have hlm : ys.length ≤ maxLen := maxLen_of hk.2 hb
  have hexec : ∀ {v' : Value} {w' : World}, (Builtin.append_ #[t, t2] ty #[a.eval so, a.eval xo]).run P w = .ok v' w' →
      (execOp a.eval ⟨dst, .call { callee := .builtin .append, args := #[so, xo], argTypes := #[t, t2] }, ty, pos, after, guard⟩).run P w = .ok (.value v') w' := by
    intro v' w' hr
    simp [execOp, resolve, invoke, builtin, hr]
  by_cases hy0 : ys = []
  · subst hy0
    have hn0 : news = [] := List.eq_nil_of_length_eq_zero (by simpa using src.len)
    subst hn0
    have hrun : (Builtin.append_ #[t, t2] ty #[a.eval so, a.eval xo]).run P w = .ok (.slice none 0 0) w := by
      obtain ⟨q1, q2⟩ := src.run w rfl
      simp only [List.length_nil] at q1 q2
      rw [hnil]
      rcases hd2 with ⟨e2, rfl⟩ | rfl <;> simp [Builtin.append_, run_underlying hu, run_underlying hu2, sizeOf, typeInfo, hi, hsize, q1, q2]
    obtain ⟨g', st⟩ := g.new (Grows.refl w) hn (x := .slice none 0 0) (r := .row e k []) (by intro b hb; simp [blk, blk1] at hb) (.inl ⟨rfl, rfl⟩)
    exact ⟨_, _, _, _, _, _, hexec hrun, .inl rfl, ⟨rfl, rfl⟩, .rv h _ (mset_same _ _) rfl, g', st⟩
  · have hpos := List.length_pos_iff.2 hy0
    have hrun := run_append_grow' (P := P) (ty := ty) (ao := none) (sLen := 0) (sCap := 0) (olds := []) hu hu2 hd2 hi hsize hz src Src.none' (by omega) (by simp only [maxLen] at hlm; omega) (by rw [hbytes]; exact growslice_fits (by omega) (by simpa using hb))
    have hge := grownCap_ge w (0 + ys.length) 0 e
    have hcm := grownCap_le_maxLen w (0 + ys.length) 0 e (by omega)
    have hnb : ∀ b, blk (.slice (some ⟨w.heap.size, 0, none⟩) (0 + ys.length) (grownCap w (0 + ys.length) 0 e)) b → w.heap.size ≤ b := by
      intro b hb; simp [blk, blk1] at hb; omega
    have hgr : Grows w (w.drew.alloc (.cells (#[] ++ news.toArray ++ Builtin.zeroCells zv.cells (grownCap w (0 + ys.length) 0 e - (0 + ys.length))) e)) := by
      have := Grows.alloc w.drew (.cells (#[] ++ news.toArray ++ Builtin.zeroCells zv.cells (grownCap w (0 + ys.length) 0 e - (0 + ys.length))) e)
      exact ⟨this.os, this.tape, this.output, this.size, this.block⟩
    obtain ⟨g', st⟩ := g.new hgr hn (x := .slice (some ⟨w.heap.size, 0, none⟩) (0 + ys.length) (grownCap w (0 + ys.length) 0 e)) (r := .row e k ys) hnb (by
      have := grown_holds (w := w) (O := OO fo m) (m := m) (e := e) (k := k) (zv := zv) (z := z) (olds := []) (news := news) (xs := []) (ys := ys) (cap := grownCap w (0 + ys.length) 0 e) hzl hzs hone hk.1 (by simp) src.len (by simp) src.one (by simp) hys
        (by simp) hnr (by simpa using hge) hcm (w0 := w) (fr := w.drew.alloc (.cells (#[] ++ news.toArray ++ Builtin.zeroCells zv.cells (grownCap w (0 + ys.length) 0 e - (0 + ys.length))) e))
        (heap_alloc_new w.drew (.cells (#[] ++ news.toArray ++ Builtin.zeroCells zv.cells (grownCap w (0 + ys.length) 0 e - (0 + ys.length))) e))
        (O' := OO fo (mset m h (.slice (some ⟨w.heap.size, 0, none⟩) (0 + ys.length) (grownCap w (0 + ys.length) 0 e)))) (m' := mset m h (.slice (some ⟨w.heap.size, 0, none⟩) (0 + ys.length) (grownCap w (0 + ys.length) 0 e)))
        (fun u c hu => RelV.mono (w := w) (O := OO fo m) ⟨hgr.size, fun b hb _ => hgr.block b hb⟩ (OO_new g.inv hnb) (mset_sub g.inv hn _) hu)
      simpa using this)
    rw [← hnil] at hrun
    exact ⟨_, _, _, _, _, _, hexec hrun, .inl rfl, ⟨rfl, rfl⟩, .rv h _ (mset_same _ _) rfl, g', st⟩
def cutRow (xs : List (List V)) (l h : Nat) : List (List V) := (xs.take h).drop l
theorem resliceL {dst : Option Tmp} {t : TypeId} {xo : Operand} {lo hi : Option Operand} {ty : TypeId} {pos : String} {after : Array Edge} {guard : Option (Nat × Bool)} {h k : Nat} {e e' : TypeId} {xs : List (List V)} {l u : Nat} {kl ku : IntKind}
    (ht : tyE P t = some (e, k)) (hs : s.ev xo = .rv h) (hl : s.L.lookup h = some (.row e' k xs))
    (hlo : (lo = none ∧ l = 0) ∨ ∃ z, lo = some z ∧ s.ev z = .d (.v (.int kl l))) (hhi : (hi = none ∧ u = xs.length) ∨ ∃ z, hi = some z ∧ s.ev z = .d (.v (.int ku u))) (hlu : l ≤ u) (hux : u ≤ xs.length) :
    OpL P n ⟨dst, .slice t xo lo hi none, ty, pos, after, guard⟩ s
      (fun x s' => x = .rv h ∧ s' = ⟨(s.kill h).fr, Heap.upd (s.kill h).L h (.row e' k ((cutRow xs l u).map (V.kills h)))⟩) := by
  intro fo m a w g
  have hrs := eval_rel g xo
  rw [hs] at hrs
  have hsv := rv_inv hrs
  obtain ⟨sx, hsx, hholds⟩ := g.inv.holds h _ (lookup_mem hl)
  rw [hsv] at hsx
  obtain rfl := Option.some.inj hsx
  obtain ⟨ht1, ht2⟩ := tyE_spec ht w
  have hel : ∀ {C : Nat}, u ≤ C → (Instr.sliceBounds true xs.length C (lo.map a.eval) (hi.map a.eval) none).run P w = .ok (l, u, C) w := by
    intro C huC
    have h1 : ∀ z, s.ev z = .d (.v (.int kl l)) → a.eval z = .int kl l := fun z hz => by have := eval_rel g z; rw [hz] at this; exact this.v_inv
    have h2 : ∀ z, s.ev z = .d (.v (.int ku u)) → a.eval z = .int ku u := fun z hz => by have := eval_rel g z; rw [hz] at this; exact this.v_inv
    rcases hlo with ⟨rfl, rfl⟩ | ⟨z, rfl, hz⟩ <;> rcases hhi with ⟨rfl, rfl⟩ | ⟨z', rfl, hz'⟩
    · simp [Instr.sliceBounds]
    · simp [Instr.sliceBounds, h2 _ hz', Instr.sliceBound, asIntOf, huC]
    · simp [Instr.sliceBounds, h1 _ hz, Instr.sliceBound, asIntOf, hlu]
    · simp [Instr.sliceBounds, h1 _ hz, h2 _ hz', Instr.sliceBound, asIntOf, huC, hlu]
  have hrunv : ∀ {ao : Option Addr} {C : Nat}, a.eval xo = .slice ao xs.length C → u ≤ C →
      (execOp a.eval ⟨dst, .slice t xo lo hi none, ty, pos, after, guard⟩).run P w = .ok (.value (.slice (if C = l then ao else ao.map (·.add (l * k))) (u - l) (C - l))) w := by
    intro ao C hso huC
    simp only [execOp, Instr.sliceAt, Instr.slice, hso, Sem.run_bind, ht1, ht2, Result.andThen_ok, Option.map_none, hel huC]
    rfl
  have hcl : (cutRow xs l u).length = u - l := by simp [cutRow]; omega
  have hcg : ∀ (i : Nat) (x : List V), (cutRow xs l u)[i]? = some x → i < u - l ∧ xs[l + i]? = some x := by
    intro i x hx
    unfold cutRow at hx
    rw [List.getElem?_drop, List.getElem?_take] at hx
    split at hx
    · exact ⟨by omega, hx⟩
    · cases hx
  rcases hholds with ⟨hnil, rfl⟩ | ⟨b, off, cap, cur, hso, hheap, hcap, hmax, hsz, hlen, h1, hrel⟩
  · have hu0 : u = 0 := by simpa using hux
    subst hu0
    have hl0 : l = 0 := by omega
    subst hl0
    have hrun := hrunv (ao := none) (C := 0) (by simpa using hnil) (by omega)
    obtain ⟨g', st⟩ := g.change (w' := w) hsv rfl rfl rfl (Nat.le_refl _) (fun _ _ _ => rfl) (v' := .slice none 0 0) (by intro b hb; simp [blk, blk1] at hb) (r' := .row e' k []) (.inl ⟨rfl, rfl⟩)
    refine ⟨_, _, _, _, _, _, hrun, .inl rfl, ⟨rfl, by simp [cutRow]⟩, ?_, g', st⟩
    exact .rv h _ (by simp [mset_same]) rfl
  · have hrun := hrunv hso (by omega)
    have hv' : (if cap = l then (some (⟨b, off, none⟩ : Addr)) else (some (⟨b, off, none⟩ : Addr)).map (·.add (l * k))) = some ⟨b, if cap = l then off else off + l * k, none⟩ := by
      split
      · rfl
      · simp [Addr.add_lit]
    rw [hv'] at hrun
    have hnb : ∀ b', blk (.slice (some ⟨b, if cap = l then off else off + l * k, none⟩) (u - l) (cap - l)) b' → blk (a.eval xo) b' ∨ w.heap.size ≤ b' := by
      intro b' hb'; left; rw [hso]; exact hb'
    have hbd : (cap - l) * k + l * k = cap * k := by rw [← Nat.add_mul]; congr 1; omega
    have hh : (Res.row e' k ((cutRow xs l u).map (V.kills h))).Holds w (OO fo (mset m h (.slice (some ⟨b, if cap = l then off else off + l * k, none⟩) (u - l) (cap - l)))) (mset m h (.slice (some ⟨b, if cap = l then off else off + l * k, none⟩) (u - l) (cap - l)))
        (.slice (some ⟨b, if cap = l then off else off + l * k, none⟩) (u - l) (cap - l)) := by
      refine .inr ⟨b, if cap = l then off else off + l * k, cap - l, cur, by simp [hcl], hheap, by simp [hcl]; omega, by omega, ?_, ?_, h1, ?_⟩
      · split
        · rename_i hc; rw [hc]; simp; omega
        · omega
      · intro i x hx
        rw [List.getElem?_map] at hx
        obtain ⟨x0, hx0, rfl⟩ := Option.map_eq_some_iff.1 hx
        rw [kills_eq, List.length_map]
        exact hlen _ x0 (hcg i x0 hx0).2
      · intro i j x y v hx hy hv
        rw [List.getElem?_map] at hx
        obtain ⟨x0, hx0, rfl⟩ := Option.map_eq_some_iff.1 hx
        rw [kills_eq, List.getElem?_map] at hy
        obtain ⟨y0, hy0, rfl⟩ := Option.map_eq_some_iff.1 hy
        obtain ⟨hi', hx1⟩ := hcg i x0 hx0
        have hne : ¬ cap = l := by omega
        rw [if_neg hne] at hv ⊢
        have := hrel (l + i) j x0 y0 v hx1 hy0 (by rw [Nat.add_mul, ← Nat.add_assoc]; exact hv)
        refine RelV.mono (w := w) (O := OO fo m) (Keep.refl w _) ?_ (fun _ _ e => e) (RelV.kill (m := m) (fun i x hi hx => by rw [mset_ne _ hi]; exact hx) this)
        rintro c hc (⟨p, y, hy, hby⟩ | hf)
        · by_cases hph : p = h
          · subst hph; rw [mset_same] at hy; obtain rfl := Option.some.inj hy; exact .inl ⟨p, _, hsv, by rw [hso]; exact hby⟩
          · rw [mset_ne _ hph] at hy; exact .inl ⟨p, y, hy, hby⟩
        · exact .inr hf
    obtain ⟨g', st⟩ := g.change (w' := w) hsv rfl rfl rfl (Nat.le_refl _) (fun _ _ _ => rfl) hnb hh
    exact ⟨_, _, _, _, _, _, hrun, .inl rfl, ⟨rfl, rfl⟩, .rv h _ (mset_same _ _) rfl, g', st⟩
end
end Go.Ab

namespace Go.Ab
section
variable {P : Program} {w w' : World} {fo : FO} {m m' : Nat → Option Value} {L : Heap} {n : Nat} {s : St} {a : Act}
def meOf : V → Option (Bool × List D)
  | .agg cs => (allD cs).map fun l => (true, l)
  | .d x => some (false, [x])
  | _ => none
def mput (es : List ME) (k : Value) (g : Bool) (cs : List D) : List ME :=
  if es.any (fun e => keyEq e.1 k) then es.map (fun e => if keyEq e.1 k then (k, g, cs) else e) else es ++ [(k, g, cs)]
theorem meOf_rel {O : Nat → Prop} {v : Value} {x : V} {k : Value} {g : Bool} {cs : List D} (hr : RelV w O m v x) (h : meOf x = some (g, cs)) : RelV w O (fun _ => none) v (ME.val (k, g, cs)) := by
  unfold meOf at h
  split at h
  · obtain ⟨l, hl, he⟩ := Option.map_eq_some_iff.1 h
    simp only [Prod.mk.injEq] at he
    obtain ⟨rfl, rfl⟩ := he
    rw [allD_eq hl] at hr
    cases hr with
    | agg vs _ hs h1 hh =>
      refine .agg vs _ hs h1 (fun j x y hx hy => ?_)
      have := hh j x y hx hy
      rw [List.getElem?_map] at hy
      obtain ⟨z, _, rfl⟩ := Option.map_eq_some_iff.1 hy
      exact .d _ _ this.d_inv
  · simp only [Option.some.injEq, Prod.mk.injEq] at h
    obtain ⟨rfl, rfl⟩ := h
    exact .d _ _ hr.d_inv
  · cases h
def doMapSet (P : Program) (s : St) (t : TypeId) (mo ko vo : Operand) : Option (V × St × Prop) :=
  match tyM P t, s.ev mo, s.ev ko, meOf (s.ev vo) with
  | some (d, _), .rv h, .d (.v k), some (g, cs) => match s.L.lookup h with
    | some (.mp es) => some (.any, { s with L := Heap.upd s.L h (.mp (mput es k g cs)) }, keyFits d k = true ∧ fitsAll d es = true)
    | _ => none
  | _, _, _, _ => none
theorem makeMapL {dst : Option Tmp} {t ty : TypeId} {pos : String} {after : Array Edge} {guard : Option (Nat × Bool)} {h : Nat} (hn : h ∉ keys s.L) :
    OpL P n ⟨dst, .makeMap t none, ty, pos, after, guard⟩ s (fun x s' => x = .rv h ∧ s' = { s with L := (h, .mp []) :: s.L }) := by
  intro fo m a w g
  have hx : ∀ b, blk (.map (some w.heap.size)) b → w.heap.size ≤ b := by intro b hb; simp [blk, blk1] at hb; omega
  obtain ⟨g', st⟩ := g.new (Grows.alloc w (.map #[] 0)) hn (x := .map (some w.heap.size)) (r := .mp []) hx ⟨w.heap.size, #[], 0, rfl, (MapKept.heap_alloc w _).1, rfl, by simp, by simp⟩
  refine ⟨_, _, _, _, _, _, ?_, .inl rfl, ⟨rfl, rfl⟩, .rv h _ (mset_same _ _) rfl, g', st⟩
  simp [execOp, Instr.makeMap, Result.andThen]
theorem run_mapUpdate {t : TypeId} {mo ko vo : Operand} (a : Act) (dst : Option Tmp) (ty : TypeId) (pos : String) (after : Array Edge) (guard : Option (Nat × Bool)) (op : Op) (hop : op = .mapUpdate t mo ko vo ∨ op = .insert t mo ko vo) (h : (Instr.mapUpdate t (a.eval mo) (a.eval ko) (a.eval vo)).run P w = .ok () w') :
    (execOp a.eval ⟨dst, op, ty, pos, after, guard⟩).run P w = .ok .skip w' := by
  rcases hop with rfl | rfl <;> simp [execOp, h, Result.andThen]
theorem mapSetL {dst : Option Tmp} {t ty : TypeId} {pos : String} {after : Array Edge} {guard : Option (Nat × Bool)} {op : Op} {mo ko vo : Operand} (hop : op = .mapUpdate t mo ko vo ∨ op = .insert t mo ko vo) {x : V} {s1 : St} {c : Prop} (h : doMapSet P s t mo ko vo = some (x, s1, c)) (hc : c) :
    OpL P n ⟨dst, op, ty, pos, after, guard⟩ s (fun x' s' => x' = x ∧ s' = s1) := by
  intro fo m a w gG
  unfold doMapSet at h
  split at h
  · rename_i d e hh k g cs htm hm hk hv
    split at h
    · rename_i es hl
      simp only [Option.some.injEq, Prod.mk.injEq] at h
      obtain ⟨rfl, rfl, rfl⟩ := h
      have r1 := eval_rel gG mo
      have r2 := eval_rel gG ko
      have r3 := eval_rel gG vo
      rw [hm] at r1
      rw [hk] at r2
      have ek := r2.v_inv
      obtain ⟨u, hu, r, arr, clock, rfl, hb, hs, hnd, hent⟩ := gG.inv.holds hh _ (lookup_mem hl)
      have em : a.eval mo = .map (some r) := by
        generalize a.eval mo = vm at r1
        cases r1 with
        | rv _ _ e _ => rw [hu] at e; exact (Option.some.inj e).symm
      obtain ⟨kt, hk1, hk2⟩ := tyM_spec htm w
      have hck := MapKept.run_checkKey (P := P) (w := w) hk2 (keyFits_is hc.1) false 9999
      have hkt := MapKept.run_keyThatStays (P := P) (w := w) (keyFits_is hc.1)
      have hval := meOf_rel (k := k) r3 hv
      have hlt : r < w.heap.size := (Array.getElem?_eq_some_iff.1 hb).1
      have wrote : ∀ o, Wrote w r { w with heap := w.heap.setIfInBounds r o } := fun o => ⟨rfl, rfl, rfl, by simp, fun c _ hne => by simp [Ne.symm hne]⟩
      have keep : ∀ o, Keep w (OO fo m) { w with heap := w.heap.setIfInBounds r o } := fun o => ⟨by simp, fun b _ hb' => by
        have : b ≠ r := fun e => hb' (.inl ⟨hh, _, hu, e.symm⟩)
        simp [Ne.symm this]⟩
      have fin : ∀ o : Obj, (Instr.mapUpdate t (a.eval mo) (a.eval ko) (a.eval vo)).run P w = .ok () { w with heap := w.heap.setIfInBounds r o } → mapH (mput es k g cs) { w with heap := w.heap.setIfInBounds r o } (OO fo m) (.map (some r)) →
          ∃ nx v w' m' x s', (execOp a.eval ⟨dst, op, ty, pos, after, guard⟩).run P w = .ok nx w' ∧ (nx = .value v ∨ (nx = .skip ∧ v = undef)) ∧ (x = .any ∧ s' = { s with L := Heap.upd s.L hh (.mp (mput es k g cs)) }) ∧
          RelV w' (OO fo m') m' v x ∧ G fo n m' s' a w' ∧ Step w (own m) w' (own m') := by
        intro o h1 h2
        obtain ⟨g', st⟩ := gG.upd hu (b := r) rfl (wrote o) (r := .mp (mput es k g cs)) h2
        exact ⟨.skip, undef, _, m, .any, _, run_mapUpdate a dst ty pos after guard op hop h1, .inr ⟨rfl, rfl⟩, ⟨rfl, rfl⟩, .any _, g', st⟩
      rw [em, ek] at fin
      rcases mlook_spec (w := w) (O := OO fo m) hc.1 es arr.toList (by simpa using hs) hc.2 (fun i a e ha he => hent i a e (by simpa using ha) he) 0 with ⟨q1, q2, q3⟩ | ⟨j, v, y, a', e', q1, q2, q3, q4, q5, q6, q7⟩
      · have hf := MapKept.run_findKey (P := P) (w := w) hk2 q1
        have hms : mput es k g cs = es ++ [(k, g, cs)] := by
          unfold mput
          rw [if_neg]
          rw [Bool.not_eq_true, List.any_eq_false]
          intro e he
          simp [q3 e he]
        refine fin (.map (arr.push { key := k, val := a.eval vo, born := clock }) (clock + 1)) ?_ ?_
        · simp [Instr.mapUpdate, hk1, MapKept.run_getObj_map hb, hck, hf, MapKept.run_setObj_map _ hb, Result.andThen, Sem.run_bind]
        · rw [hms]
          refine ⟨r, (arr.push { key := k, val := a.eval vo, born := clock }), (clock + 1), rfl, by simp [hlt], by simp [hs], ?_, ?_⟩
          · rw [List.map_append, List.nodup_append]
            refine ⟨hnd, by simp, ?_⟩
            rintro x hx y hy rfl
            simp only [List.map_cons, List.map_nil, List.mem_singleton] at hy
            subst hy
            obtain ⟨e, he, rfl⟩ := List.mem_map.1 hx
            have h1 := q3 e he
            have h2 := (keyEq_iff (List.all_eq_true.1 hc.2 e he) hc.1).2 rfl
            rw [h1] at h2; cases h2
          · intro i a e ha he
            rw [Array.getElem?_push] at ha
            rw [List.getElem?_append] at he
            split at ha
            · rename_i hi
              rw [if_neg (by omega), show i - es.length = 0 by omega] at he
              simp only [List.getElem?_cons_zero, Option.some.injEq] at ha he
              subst ha; subst he
              exact ⟨rfl, hval.mono (keep _) (fun _ _ h => h) (fun _ _ e => e)⟩
            · rename_i hi
              have hi' : i < arr.size := (Array.getElem?_eq_some_iff.1 ha).1
              rw [if_pos (by omega)] at he
              obtain ⟨p1, p2⟩ := hent i a e ha he
              exact ⟨p1, p2.mono (keep _) (fun _ _ h => h) (fun _ _ e => e)⟩
      · have hf := MapKept.run_findKey (P := P) (w := w) hk2 q1
        have hja : arr[j]? = some a' := by simpa using q4
        have hms : mput es k g cs = es.map (fun e => if keyEq e.1 k then (k, g, cs) else e) := by
          unfold mput
          rw [if_pos]
          rw [List.any_eq_true]
          exact ⟨e', List.mem_of_getElem? q5, (keyEq_iff (List.all_eq_true.1 hc.2 e' (List.mem_of_getElem? q5)) hc.1).2 q7⟩
        have hkeys : (es.map (fun e => if keyEq e.1 k then ((k, g, cs) : ME) else e)).map (·.1) = es.map (·.1) := by
          rw [List.map_map]
          apply List.map_congr_left
          intro e he
          simp only [Function.comp_apply]
          split
          · rename_i h; exact ((keyEq_iff (List.all_eq_true.1 hc.2 e he) hc.1).1 h).symm
          · rfl
        refine fin (.map (arr.modify j fun e => { e with key := k, val := a.eval vo }) clock) ?_ ?_
        · simp [Instr.mapUpdate, hk1, MapKept.run_getObj_map hb, hck, hf, hja, q6, hkt, MapKept.run_setObj_map _ hb, Result.andThen, Sem.run_bind]
        · rw [hms]
          refine ⟨r, (arr.modify j fun e => { e with key := k, val := a.eval vo }), clock, rfl, by simp [hlt], by simp [hs], by rw [hkeys]; exact hnd, ?_⟩
          intro i a e ha he
          rw [List.getElem?_map] at he
          obtain ⟨e0, he0, rfl⟩ := Option.map_eq_some_iff.1 he
          rw [Array.getElem?_modify] at ha
          by_cases hij : j = i
          · subst hij
            rw [if_pos rfl, hja] at ha
            simp only [Option.map_some, Option.some.injEq] at ha
            rw [q5] at he0
            obtain rfl := Option.some.inj he0
            subst ha
            rw [if_pos ((keyEq_iff (List.all_eq_true.1 hc.2 e' (List.mem_of_getElem? q5)) hc.1).2 q7)]
            exact ⟨rfl, hval.mono (keep _) (fun _ _ h => h) (fun _ _ e => e)⟩
          · rw [if_neg hij] at ha
            have hne : keyEq e0.1 k = false := by
              cases hq : keyEq e0.1 k with
              | false => rfl
              | true =>
                have h1 := (keyEq_iff (List.all_eq_true.1 hc.2 e0 (List.mem_of_getElem? he0)) hc.1).1 hq
                have h2 : (es.map (·.1))[i]? = some k := by simp [he0, h1]
                have h3 : (es.map (·.1))[j]? = some k := by simp [q5, q7]
                have hi' := (List.getElem?_eq_some_iff.1 h2).1
                exact (hij ((List.getElem?_inj hi' hnd).1 (h2.trans h3.symm)).symm).elim
            rw [hne]
            obtain ⟨p1, p2⟩ := hent i a e0 ha he0
            exact ⟨p1, p2.mono (keep _) (fun _ _ h => h) (fun _ _ e => e)⟩
    · cases h
  · cases h
end
end Go.Ab

namespace Go.Ab
section
variable {P : Program} {w w' : World} {fo : FO} {m m' : Nat → Option Value} {L : Heap} {n : Nat} {s : St} {a : Act}
def remL (h : Nat) : Heap → Heap
  | [] => []
  | (k, r) :: l => if k = h then remL h l else (k, r.kill h) :: remL h l
theorem remL_eq (h : Nat) : ∀ L : Heap, remL h L = (L.filter fun p => p.1 != h).map fun p => (p.1, p.2.kill h)
  | [] => rfl
  | (k, r) :: l => by
    rw [remL, remL_eq h l, List.filter_cons]
    by_cases e : k = h <;> simp [e]
def St.rem (h : Nat) (s : St) : St := ⟨s.fr.map fun p => (p.1, p.2.kill h), remL h s.L⟩
theorem G.remW (g : G fo n m s a w) {h b : Nat} {x0 : Value} (hx0 : m h = some x0) (hb0 : blk x0 b) (wr : Wrote w b w') : ∃ m', G fo n m' (s.rem h) a w' ∧ Step w (own m) w' (own m') := by
  classical
  let m' : Nat → Option Value := fun i => if i = h then none else m i
  have hm : ∀ i x, i ≠ h → m i = some x → m' i = some x := fun i x hne hx => by simp only [m', if_neg hne]; exact hx
  have hm' : ∀ i x, m' i = some x → i ≠ h ∧ m i = some x := by
    intro i x hx
    by_cases e : i = h
    · simp only [m', if_pos e] at hx; cases hx
    · simp only [m', if_neg e] at hx; exact ⟨e, hx⟩
  have hown : ∀ b, own m' b → own m b := by
    rintro b ⟨i, x, hx, hb⟩
    exact ⟨i, x, (hm' i x hx).2, hb⟩
  have hO : ∀ b, b < w.heap.size → OO fo m' b → OO fo m b := fun b _ ho => ho.imp (hown b) id
  have hi := g.inv
  have hkeep : Keep w (OO fo m) w' := ⟨wr.size, fun c hc ho => wr.block c hc (fun e => ho (.inl ⟨h, x0, hx0, e ▸ hb0⟩))⟩
  have hkeys : keys (St.rem h s).L = (keys s.L).filter (· != h) := by
    simp only [keys, St.rem, remL_eq, List.map_map]
    rw [List.filter_map]
    rfl
  refine ⟨m', ⟨g.size, ?_, ?_, g.defers⟩, ⟨wr.os, wr.tape, wr.output, wr.size, fun c hc ho => wr.block c hc (fun e => ho ⟨h, x0, hx0, e ▸ hb0⟩), fun b _ ho => hown b ho⟩⟩
  · intro t x hx
    obtain ⟨p, hp, he⟩ := List.mem_map.1 hx
    simp only [Prod.mk.injEq] at he
    obtain ⟨rfl, rfl⟩ := he
    obtain ⟨h1, h2⟩ := g.fr p.1 p.2 hp
    exact ⟨h1, (h2.kill hm).mono hkeep hO (fun _ _ e => e)⟩
  · have hrem : (St.rem h s).L = (s.L.filter fun p => p.1 != h).map fun p => (p.1, p.2.kill h) := remL_eq h s.L
    refine ⟨?_, ?_, ?_, ?_, fun b hf => Nat.lt_of_lt_of_le (hi.folt b hf) wr.size, ?_, hi.glob.mono hkeep hO⟩
    · rw [hkeys]; exact hi.nodup.sublist List.filter_sublist
    · intro i x hx
      rw [hkeys, List.mem_filter]
      exact ⟨hi.dom i x (hm' i x hx).2, by simpa using (hm' i x hx).1⟩
    · intro i j x y b hx hy hb hb'
      exact hi.apart i j x y b (hm' i x hx).2 (hm' j y hy).2 hb hb'
    · intro i x b hx hb; exact hi.others i x b (hm' i x hx).2 hb
    · intro i r hr
      rw [hrem] at hr
      obtain ⟨p, hp, he⟩ := List.mem_map.1 hr
      simp only [Prod.mk.injEq] at he
      obtain ⟨rfl, rfl⟩ := he
      rw [List.mem_filter] at hp
      obtain ⟨x, hx, hh⟩ := hi.holds p.1 p.2 hp.1
      have hne : p.1 ≠ h := by simpa using hp.2
      refine ⟨x, hm _ _ hne hx, (hh.kill hm).mono (fun c hc => wr.block c (hi.lt hx hc) (fun e => hne ?_)) hkeep hO (fun _ _ e => e)⟩
      subst e
      exact hi.apart _ _ _ _ _ hx hx0 hc hb0
def isPtrV (v : Value) : Prop := ∃ a, v = .pointer a
def tyPtr (P : Program) (t : TypeId) : Option TypeId := match P.underlying t with
  | some (.pointer e) => some e
  | _ => none
theorem tyPtr_spec {t e : TypeId} (h : tyPtr P t = some e) : P.underlying t = some (.pointer e) := by
  unfold tyPtr at h
  split at h
  · rename_i hu; simp only [Option.some.injEq] at h; subst h; exact hu
  · cases h
def bytesOf : List (List V) → Option (List UInt8)
  | [] => some []
  | [.d (.v (.int .u8 n))] :: l => if 0 ≤ n ∧ n < 256 then (bytesOf l).map (n.toNat.toUInt8 :: ·) else none
  | _ :: _ => none
theorem bytesOf_spec : ∀ {xs : List (List V)} {l : List UInt8}, bytesOf xs = some l → xs.length = l.length ∧ ∀ (j : Nat) (b : UInt8), l[j]? = some b → xs[j]? = some [.d (.v (.int .u8 (b.toNat : Nat)))]
  | [], l, h => by simp only [bytesOf, Option.some.injEq] at h; subst h; simp
  | x :: xs, l, h => by
    rw [bytesOf.eq_def] at h
    split at h
    · rename_i heq; cases heq
    · rename_i n xs' heq
      simp only [List.cons.injEq] at heq
      obtain ⟨rfl, rfl⟩ := heq
      split at h
      · rename_i hn
        obtain ⟨l', hl, rfl⟩ := Option.map_eq_some_iff.1 h
        obtain ⟨h1, h2⟩ := bytesOf_spec hl
        refine ⟨by simp [h1], fun j b hj => ?_⟩
        match j with
        | 0 =>
          simp only [List.getElem?_cons_zero, Option.some.injEq] at hj
          subst hj
          simp only [List.getElem?_cons_zero, Option.some.injEq, List.cons.injEq, V.d.injEq, D.v.injEq, Value.int.injEq, true_and, and_true]
          have e : (n.toNat.toUInt8).toNat = n.toNat % 256 := by simp
          rw [e]; omega
        | j + 1 => simpa using h2 j b (by simpa using hj)
      · cases h
    · cases h
def doSData (P : Program) (s : St) (ty : TypeId) (x : Operand) : Option (V × St × Prop) :=
  match s.ev x, tyPtr P ty with
  | .rv h, some _ => match s.L.lookup h with
    | some (.row _ k xs) => some (if xs.isEmpty then .kn isPtrV else .ep h k 0 0, s, True)
    | _ => none
  | .d (.v (.slice none 0 0)), some _ => some (.kn isPtrV, s, True)
  | _, _ => none
def doUStr (P : Program) (s : St) (pt : TypeId) (p l : Operand) : Option (V × St × Prop) :=
  match s.ev p, s.ev l, tyPtr P pt with
  | .kn Q, .d (.v (.int .i64 n)), some _ => some (.d (.v (.string ⟨#[]⟩)), s, n = 0 ∧ ∀ v, Q v → isPtrV v)
  | .ep h _ 0 0, .d (.v (.int .i64 n)), some e => match s.L.lookup h with
    | some (.row e' k xs) => match bytesOf xs with
      | some bs => some (.d (.v (.string ⟨⟨bs⟩⟩)), s.rem h, (n = xs.length ∧ 0 < xs.length) ∧ k = 1 ∧ e' = e ∧ P.cellsOf e = 1)
      | none => none
    | _ => none
  | _, _, _ => none
theorem kn_inv {O : Nat → Prop} {v : Value} {Q : Value → Prop} (h : RelV w O m v (.kn Q)) : Q v := by
  cases h with
  | kn _ _ h => exact h
theorem sdataL {dst : Option Tmp} {x : Operand} {tys : Array TypeId} {ty : TypeId} {pos : String} {after : Array Edge} {guard : Option (Nat × Bool)} {y : V} {s1 : St} {c : Prop} (h : doSData P s ty x = some (y, s1, c)) :
    OpL P n ⟨dst, .call { callee := .builtin .unsafeSliceData, args := #[x], argTypes := tys }, ty, pos, after, guard⟩ s (fun x' s' => x' = y ∧ s' = s1) := by
  intro fo m a w g
  have hexec : ∀ {v' : Value} {w' : World}, (Builtin.unsafeSliceData_ tys ty #[a.eval x]).run P w = .ok v' w' →
      (execOp a.eval ⟨dst, .call { callee := .builtin .unsafeSliceData, args := #[x], argTypes := tys }, ty, pos, after, guard⟩).run P w = .ok (.value v') w' := by
    intro v' w' hr
    simp [execOp, resolve, invoke, builtin, hr]
  have hx := eval_rel g x
  unfold doSData at h
  split at h
  · rename_i h0 e hev hty
    rw [hev] at hx
    split at h
    · rename_i te k xs hl
      simp only [Option.some.injEq, Prod.mk.injEq] at h
      obtain ⟨rfl, rfl, -⟩ := h
      obtain ⟨u, hu, hh⟩ := g.inv.holds h0 _ (lookup_mem hl)
      have hxu : a.eval x = u := by
        generalize a.eval x = v at hx
        cases hx with
        | rv _ _ e _ => rw [hu] at e; exact (Option.some.inj e).symm
      rcases hh with ⟨rfl, rfl⟩ | ⟨b, off, cap, cur, rfl, hb, h1, h2, h3, h4, h5, h6⟩
      · rw [hxu] at hexec
        refine ⟨_, _, w, m, .kn isPtrV, s, hexec (Lib.run_unsafeSliceData_nil w _ _ _ _), .inl rfl, ⟨rfl, rfl⟩, .kn _ _ ⟨_, rfl⟩, g, Step.refl w _⟩
      · rw [hxu] at hexec
        by_cases hc : cap = 0
        · subst hc
          have hx0 : xs = [] := List.eq_nil_of_length_eq_zero (by omega)
          subst hx0
          have hrun := Lib.run_unsafeSliceData_zero (P := P) w tys ty e (tyPtr_spec hty) ⟨b, off, none⟩ 0 (te, cur.size) (by simp [World.shape?, hb])
          refine ⟨_, _, _, m, .kn isPtrV, s, hexec hrun, .inl rfl, ⟨rfl, rfl⟩, .kn _ _ ⟨_, rfl⟩, ?_, ?_⟩
          · have gr := Grows.alloc w (.view ⟨b, off, none⟩ e)
            have hk : Keep w (OO fo m) (w.alloc (.view ⟨b, off, none⟩ e)) := ⟨gr.size, fun b hb _ => gr.block b hb⟩
            refine ⟨g.size, fun t y hy => ⟨(g.fr t y hy).1, (g.fr t y hy).2.mono hk (fun _ _ h => h) (fun _ _ h => h)⟩, ?_, g.defers⟩
            refine ⟨g.inv.nodup, g.inv.dom, g.inv.apart, g.inv.others, fun b hf => Nat.lt_of_lt_of_le (g.inv.folt b hf) gr.size, fun h r hr => ?_, g.inv.glob.mono hk (fun _ _ h => h)⟩
            obtain ⟨x, hx, hh⟩ := g.inv.holds h r hr
            exact ⟨x, hx, hh.mono (fun b hb => gr.block b (g.inv.lt hx hb)) hk (fun _ _ h => h) (fun _ _ h => h)⟩
          · have gr := Grows.alloc w (.view ⟨b, off, none⟩ e)
            exact ⟨gr.os, gr.tape, gr.output, gr.size, fun b hb _ => gr.block b hb, fun _ _ h => h⟩
        · have hrun := Lib.run_unsafeSliceData_row (P := P) w tys ty ⟨b, off, none⟩ xs.length cap hc
          refine ⟨_, _, w, m, _, s, hexec hrun, .inl rfl, ⟨rfl, rfl⟩, ?_, g, Step.refl w _⟩
          split
          · exact .kn _ _ ⟨_, rfl⟩
          · have := RelV.ep (w := w) (O := OO fo m) (m := m) h0 k 0 0 b off xs.length cap hu
            simpa using this
    · cases h
  · rename_i hev hty
    rw [hev] at hx
    simp only [Option.some.injEq, Prod.mk.injEq] at h
    obtain ⟨rfl, rfl, -⟩ := h
    rw [hx.v_inv] at hexec
    exact ⟨_, _, w, m, .kn isPtrV, s, hexec (Lib.run_unsafeSliceData_nil w _ _ _ _), .inl rfl, ⟨rfl, rfl⟩, .kn _ _ ⟨_, rfl⟩, g, Step.refl w _⟩
  · cases h
theorem liesAt_bytes' {e : TypeId} (hc : P.cellsOf e = 1) (count off n : Nat) (hn : off + n ≤ count) : liesAt P P.depth e count off e n = true := by
  have hd : P.depth = (2 * (P.types.size + Made.depth) + 1) + 1 := rfl
  rw [hd]
  simp only [liesAt, Bool.or_eq_true]
  left
  rw [hd]
  simp [rowAt, hc, hn, sameLayout, Nat.mod_one]
theorem run_unsafeString' {pt it ty e : TypeId} (hp : P.underlying pt = some (.pointer e)) (hc : P.cellsOf e = 1) {g off : Nat} {cur : Array Value} (hg : w.heap[g]? = some (.cells cur e (0, 0))) (l : List UInt8) (h0 : l ≠ []) (hn : off + l.length ≤ cur.size) (h63 : l.length ≤ 9223372036854775807)
    (hcell : ∀ (j : Nat) (x : UInt8), l[j]? = some x → w.cell? ⟨g, off + j, none⟩ = some (.int .u8 (x.toNat : Nat))) :
    (Builtin.unsafeString_ #[pt, it] ty #[.pointer (some ⟨g, off, none⟩), .int .i64 l.length]).run P w = .ok (.string ⟨l.toArray⟩) (w.freeze ⟨g, off, none⟩ l.length) := by
  have hl : l.length ≠ 0 := by simpa using h0
  have hsh : w.shape? g = some (e, cur.size) := by simp [World.shape?, hg]
  have hlb := Lib.run_loadBytes (P := P) w l ⟨g, off, none⟩ .empty (fun j x hx => by rw [Addr.add_lit]; exact hcell j x hx)
  have hlies := liesAt_bytes' (P := P) hc (cur.size / P.cellsOf e) off l.length (by rw [hc]; simpa using hn)
  have h63' : ¬ (9223372036854775807 : Int) < (l.length : Int) := by omega
  have hdef : Builtin.unsafeString_ #[pt, it] ty #[.pointer (some ⟨g, off, none⟩), .int .i64 l.length] =
      (do
        let n ← asInt (.int .i64 l.length)
        if n < 0 then runtimePanic (.error "unsafe.String: len out of range")
        if n > IntKind.i64.max then unsupported (.unsafePointer "String: a length above the largest int")
        if n = 0 then pure (.string .empty)
        else if ← variablesAt ⟨g, off, none⟩ (← elemOf pt) n.toNat then do
          let s ← loadBytes ⟨g, off, none⟩ .empty n.toNat
          freeze ⟨g, off, none⟩ n.toNat
          pure (.string s)
        else unsupported (.unsafePointer "String: not so many bytes at ptr")) := rfl
  rw [hdef]
  have hmax : IntKind.i64.max = 9223372036854775807 := rfl
  have hneg : ¬ (l.length : Int) < 0 := by omega
  simp [asInt, asIntOf, hmax, h63', hneg, hl, variablesAt, hsh, elemOf, run_underlying hp, hlies, hlb]
theorem wrote_freeze (w : World) (b off k : Nat) : Wrote w b (w.freeze ⟨b, off, none⟩ k) := by
  unfold World.freeze
  split
  · exact ⟨rfl, rfl, rfl, Nat.le_refl _, fun _ _ _ => rfl⟩
  · exact ⟨rfl, rfl, rfl, by simp, fun c _ hne => by
      simp only [Array.getElem?_modify]
      rw [if_neg (by omega)]⟩
theorem ustrL {dst : Option Tmp} {p l : Operand} {pt it : TypeId} {ty : TypeId} {pos : String} {after : Array Edge} {guard : Option (Nat × Bool)} {y : V} {s1 : St} {c : Prop} (h : doUStr P s pt p l = some (y, s1, c)) (hc : c) :
    OpL P n ⟨dst, .call { callee := .builtin .unsafeString, args := #[p, l], argTypes := #[pt, it] }, ty, pos, after, guard⟩ s (fun x' s' => x' = y ∧ s' = s1) := by
  intro fo m a w g
  have hexec : ∀ {v' : Value} {w' : World}, (Builtin.unsafeString_ #[pt, it] ty #[a.eval p, a.eval l]).run P w = .ok v' w' →
      (execOp a.eval ⟨dst, .call { callee := .builtin .unsafeString, args := #[p, l], argTypes := #[pt, it] }, ty, pos, after, guard⟩).run P w = .ok (.value v') w' := by
    intro v' w' hr
    simp [execOp, resolve, invoke, builtin, hr]
  have hp := eval_rel g p
  have hl := eval_rel g l
  unfold doUStr at h
  split at h
  · rename_i Q nn e hev hel hty
    rw [hev] at hp
    rw [hel] at hl
    simp only [Option.some.injEq, Prod.mk.injEq] at h
    obtain ⟨rfl, rfl, rfl⟩ := h
    obtain ⟨rfl, hQ⟩ := hc
    obtain ⟨aa, ha⟩ := hQ _ (kn_inv hp)
    rw [ha, hl.v_inv] at hexec
    refine ⟨_, _, w, m, _, s, hexec (Lib.run_unsafeString_none w pt it ty aa), .inl rfl, ⟨rfl, rfl⟩, .d _ _ (.v _ rfl), g, Step.refl w _⟩
  · rename_i h0 kk nn e hev hel hty
    rw [hev] at hp
    rw [hel] at hl
    split at h
    · rename_i e' k xs hlk
      split at h
      · rename_i bs hbs
        simp only [Option.some.injEq, Prod.mk.injEq] at h
        obtain ⟨rfl, rfl, rfl⟩ := h
        obtain ⟨⟨rfl, hpos⟩, rfl, rfl, hcell⟩ := hc
        obtain ⟨b, off, cap, cur, hm, hb, h1, h2, h3, h4, h5, h6, h7⟩ := row_cells g.inv (lookup_mem hlk) hpos
        obtain ⟨q1, q2⟩ := bytesOf_spec hbs
        have hpe : a.eval p = .pointer (some ⟨b, off, none⟩) := by
          generalize a.eval p = v at hp
          cases hp with
          | ep _ _ _ _ b' o' n' c' e =>
            rw [hm] at e
            simp only [Option.some.injEq, Value.slice.injEq, Addr.mk.injEq] at e
            obtain ⟨⟨rfl, rfl, _⟩, _⟩ := e
            simp
        rw [hpe, hl.v_inv, q1] at hexec
        have hcl : ∀ (j : Nat) (x : UInt8), bs[j]? = some x → w.cell? ⟨b, off + j, none⟩ = some (.int .u8 (x.toNat : Nat)) := by
          intro j x hj
          have hjl := (List.getElem?_eq_some_iff.1 hj).1
          rw [h6]
          have hlt : off + j < cur.size := by omega
          have := h7 j 0 _ _ (cur[off + j]) (q2 j x hj) rfl (by rw [show off + j * 1 + 0 = off + j by omega]; exact Array.getElem?_eq_getElem hlt)
          rw [Array.getElem?_eq_getElem hlt, this.v_inv]
        have hne : bs ≠ [] := by
          intro e; subst e; simp at q1; simp [q1] at hpos
        have hrun := run_unsafeString' (P := P) (w := w) (pt := pt) (it := it) (ty := ty) (tyPtr_spec hty) hcell hb bs hne (by omega) (by simp only [maxLen] at h2; omega) hcl
        obtain ⟨m', g', st⟩ := g.remW hm (b := b) rfl (wrote_freeze w b off bs.length)
        exact ⟨_, _, _, m', _, _, hexec hrun, .inl rfl, ⟨rfl, rfl⟩, .d _ _ (.v _ rfl), g', st⟩
      · cases h
    · cases h
  · cases h
end
end Go.Ab

namespace Go.Ab
section
variable {P : Program} {w w' : World} {fo : FO} {m m' : Nat → Option Value} {L : Heap} {n : Nat} {s : St} {a : Act}
theorem fillV_rows {k : Nat} : ∀ (l : List (Nat × V)) (r : List (List V)) (j : Nat) (pre post : List V), pre.length = j * k → l.length * k ≤ post.length →
    l.length = r.length → (∀ (i : Nat) (p : Nat × V) (x : List V), l[i]? = some p → r[i]? = some x → p.1 = j + i ∧ p.2.cl = some x) → (∀ x ∈ r, x.length = k) →
    ∃ c : Prop, fillV (fun i => some (i * k, k)) (pre ++ post) l = some (pre ++ r.flatten ++ post.drop (l.length * k), c) ∧ c
  | [], [], j, pre, post, _, _, _, _, _ => ⟨True, by simp [fillV], trivial⟩
  | [], _ :: _, _, _, _, _, _, h, _, _ => by simp at h
  | _ :: _, [], _, _, _, _, _, h, _, _ => by simp at h
  | (i, x) :: l, x0 :: r, j, pre, post, hp, hl, hlr, hrel, hk => by
    obtain ⟨h1, h2⟩ := hrel 0 (i, x) x0 rfl rfl
    simp only [Nat.add_zero] at h1 h2
    subst h1
    have hx0 : x0.length = k := hk x0 (by simp)
    simp only [List.length_cons, Nat.add_mul, Nat.one_mul] at hl
    have hput : putAt (i * k) x0 (pre ++ post) = (pre ++ x0) ++ post.drop k := by
      unfold putAt
      rw [← hp, List.take_left, List.append_assoc, List.append_assoc, hx0, List.drop_append]
      simp
    obtain ⟨c, hc1, hc2⟩ := fillV_rows l r (i + 1) (pre ++ x0) (post.drop k) (by rw [List.length_append, hp, hx0, Nat.add_mul, Nat.one_mul]) (by rw [List.length_drop]; omega) (by simpa using hlr)
      (fun q p y hq hy => by have := hrel (q + 1) p y (by simpa using hq) (by simpa using hy); exact ⟨by omega, this.2⟩) (fun y hy => hk y (by simp [hy]))
    refine ⟨(x0.length = k ∧ i * k + k ≤ (pre ++ post).length) ∧ c, ?_, ⟨hx0, by rw [List.length_append, hp]; omega⟩, hc2⟩
    simp only [fillV, h2, hput, hc1]
    simp only [Option.some.injEq, Prod.mk.injEq, and_true]
    rw [List.flatten_cons, List.drop_drop, List.length_cons, Nat.add_mul, Nat.one_mul]
    simp only [List.append_assoc]
    rw [Nat.add_comm k]
theorem litRows_spec {s : St} : ∀ (l : List (Nat × Operand)) (j : Nat) {r : List (List V)}, litRows s l j = some r → l.length = r.length ∧
    ∀ (i : Nat) (p : Nat × Operand) (x : List V), l[i]? = some p → r[i]? = some x → p.1 = j + i ∧ (s.ev p.2).cl = some x
  | [], j, r, h => by simp only [litRows, Option.some.injEq] at h; subst h; exact ⟨rfl, by simp⟩
  | (i, x) :: l, j, r, h => by
    rw [litRows] at h
    split at h
    · rename_i hij
      split at h
      · rename_i cs r' hcs hr'
        simp only [Option.some.injEq] at h
        subst h
        obtain ⟨h1, h2⟩ := litRows_spec l (j + 1) hr'
        refine ⟨by simp [h1], ?_⟩
        intro q p y hq hy
        match q with
        | 0 => simp only [List.getElem?_cons_zero, Option.some.injEq] at hq hy; subst hq; subst hy; exact ⟨by omega, hcs⟩
        | q + 1 => simp only [List.getElem?_cons_succ] at hq hy; have := h2 q p y hq hy; exact ⟨by omega, this.2⟩
      · cases h
    · cases h
def doLit (P : Program) (s : St) (h : Nat) (t : TypeId) (len : Nat) (ps : List (Nat × Operand)) : Option (V × St × Prop) :=
  match tySl P t, litRows s ps 0 with
  | some (e, k, _, _), some r => some (.rv h, { s with L := (h, .row e k r) :: s.L }, (0 < k ∧ h ∉ keys s.L) ∧ (len * k ≤ 2 ^ 24 ∧ r.length = len) ∧ ∀ x ∈ r, x.length = k)
  | _, _ => none
def doCut (P : Program) (s : St) (t : TypeId) (xo : Operand) (lo hi : Option Operand) : Option (V × St × Prop) :=
  match s.ev xo, tyE P t with
  | .rv h, some (_, k) =>
    match s.L.lookup h with
    | some (.row e' k' xs) =>
      match lo.map s.ev, hi.map s.ev with
      | none, none => some (.rv h, ⟨(s.kill h).fr, Heap.upd (s.kill h).L h (.row e' k' ((cutRow xs 0 xs.length).map (V.kills h)))⟩, k = k')
      | some (.d (.v (.int _ l))), none => some (.rv h, ⟨(s.kill h).fr, Heap.upd (s.kill h).L h (.row e' k' ((cutRow xs l.toNat xs.length).map (V.kills h)))⟩, k = k' ∧ 0 ≤ l ∧ l ≤ xs.length)
      | none, some (.d (.v (.int _ u))) => some (.rv h, ⟨(s.kill h).fr, Heap.upd (s.kill h).L h (.row e' k' ((cutRow xs 0 u.toNat).map (V.kills h)))⟩, k = k' ∧ 0 ≤ u ∧ u ≤ xs.length)
      | some (.d (.v (.int _ l))), some (.d (.v (.int _ u))) => some (.rv h, ⟨(s.kill h).fr, Heap.upd (s.kill h).L h (.row e' k' ((cutRow xs l.toNat u.toNat).map (V.kills h)))⟩, k = k' ∧ 0 ≤ l ∧ l ≤ u ∧ u ≤ xs.length)
      | _, _ => none
    | _ => none
  | _, _ => none
def stepL (P : Program) (s : St) (o : Oper) (b : Nat) : Option (V × St × Prop) :=
  match o.op with
  | .alloc e => match o.dst, tyZ P e with
    | some h, some z => some (.bp h 0, { s with L := (h, .box b e (z.map fun x => .d (.v x))) :: s.L }, h ∉ keys s.L)
    | _, _ => none
  | .box e x => match o.dst, (s.ev x).cl with
    | some h, some cs => some (.bp h 0, { s with L := (h, .box b e cs) :: s.L }, h ∉ keys s.L)
    | _, _ => none
  | .store t a x => doStore P s t a x
  | .makeSlice t l c => match o.dst with
    | some h => doMake P s h t l c
    | none => none
  | .buildSlice t len ps => match o.dst with
    | some h => doLit P s h t len ps.toList
    | none => none
  | .slice t x lo hi none => doCut P s t x lo hi
  | .makeMap _ none => match o.dst with
    | some h => some (.rv h, { s with L := (h, .mp []) :: s.L }, h ∉ keys s.L)
    | none => none
  | .mapUpdate t mo ko vo => doMapSet P s t mo ko vo
  | .insert t mo ko vo => doMapSet P s t mo ko vo
  | .call { callee := .builtin .unsafeSliceData, args, .. } => match args.toList with
    | [x] => doSData P s o.type x
    | _ => none
  | .call { callee := .builtin .unsafeString, args, argTypes } => match args.toList, argTypes.toList with
    | [p, l], [pt, _] => doUStr P s pt p l
    | _, _ => none
  | .call c => match o.dst with
    | some h => doAppend P s h c
    | none => none
  | _ => none
theorem OpL.mono {o : Oper} {K K' : V → St → Prop} (h : OpL P n o s K) (hk : ∀ x s', K x s' → K' x s') : OpL P n o s K' := by
  intro fo m a w g
  obtain ⟨nx, v, w', m', x, s', h1, h2, h3, h4⟩ := h fo m a w g
  exact ⟨nx, v, w', m', x, s', h1, h2, hk _ _ h3, h4⟩
theorem stepL_sound {o : Oper} {b0 : Nat} {x0 : V} {s0 : St} {c0 : Prop} (h : stepL P s o b0 = some (x0, s0, c0)) (hc : c0) : OpL P n o s (fun x s' => ∃ b c, stepL P s o (b + 1) = some (x, s', c)) := by
  obtain ⟨dst, op, ty, pos, after, guard⟩ := o
  unfold stepL at h
  simp only at h
  split at h
  · split at h
    · rename_i e hh z hz
      simp only [Option.some.injEq, Prod.mk.injEq] at h
      obtain ⟨_, _, rfl⟩ := h
      refine (allocL hz hc).mono ?_
      rintro x s' ⟨b, rfl, rfl⟩
      exact ⟨b, _, (by simp only [stepL, hz]; rfl)⟩
    · cases h
  · split at h
    · rename_i e xo hh cs hcs
      simp only [Option.some.injEq, Prod.mk.injEq] at h
      obtain ⟨_, _, rfl⟩ := h
      refine (boxL hcs hc).mono ?_
      rintro x s' ⟨b, rfl, rfl⟩
      exact ⟨b, _, (by simp only [stepL, hcs]; rfl)⟩
    · cases h
  · rename_i t ao xo
    have h' := h
    unfold doStore at h
    split at h
    · rename_i g0 k cs ht hcs
      split at h
      · rename_i hh off ha
        split at h
        · rename_i b bty old hl
          simp only [Option.some.injEq, Prod.mk.injEq] at h
          obtain ⟨rfl, rfl, rfl⟩ := h
          refine (storeL_box ht ha hl hcs hc.1 hc.2).mono ?_
          rintro x s' ⟨rfl, rfl⟩
          exact ⟨b0, _, h'⟩
        · cases h
      · rename_i hh k' i j ha
        split at h
        · rename_i e k'' xs hl
          simp only [Option.some.injEq, Prod.mk.injEq] at h
          obtain ⟨rfl, rfl, rfl⟩ := h
          obtain ⟨⟨h1, h2⟩, h3, rfl⟩ := hc
          intro fo m a w g
          have he : (if j = 0 ∧ k = k' then cs else putAt j cs (xs[i]?.getD [])) = putAt j cs (xs[i]?.getD []) := by
            split
            · rename_i hjk
              obtain ⟨rfl, rfl⟩ := hjk
              obtain ⟨_, _, _, _, _, _, _, _, _, hlen, _⟩ := row_cells g.inv (lookup_mem hl) (by omega)
              have hx : xs[i]? = some xs[i] := List.getElem?_eq_getElem h2
              have := hlen i _ hx
              simp only [putAt, hx, Option.getD_some, List.take_zero, List.nil_append, Nat.zero_add, h1]
              rw [List.drop_of_length_le (by omega), List.append_nil]
            · rfl
          rw [he] at h'
          refine (storeL_row ht ha hl hcs h1 h2 h3).mono (K' := fun x s' => ∃ b c, stepL P s _ (b + 1) = some (x, s', c)) ?_ fo m a w g
          rintro x s' ⟨rfl, rfl⟩
          exact ⟨b0, _, h'⟩
        · cases h
      · cases h
    · cases h
  · rename_i t lo co
    split at h
    · rename_i hh
      have h' := h
      unfold doMake at h
      split at h
      · rename_i e k by_ z kl l kc c ht hl hcc
        simp only [Option.some.injEq, Prod.mk.injEq] at h
        obtain ⟨rfl, rfl, rfl⟩ := h
        obtain ⟨⟨h1, h2⟩, h3, h4⟩ := hc
        refine (makeL ht hl hcc h1 h2 h3 h4).mono ?_
        rintro x s' ⟨rfl, rfl⟩
        exact ⟨b0, _, h'⟩
      · cases h
    · cases h
  · rename_i t len ps
    split at h
    · rename_i hh
      have h' := h
      unfold doLit at h
      split at h
      · rename_i e k by_ z r ht hr
        simp only [Option.some.injEq, Prod.mk.injEq] at h
        obtain ⟨rfl, rfl, rfl⟩ := h
        obtain ⟨⟨h1, h2⟩, ⟨h3, h4⟩, h5⟩ := hc
        obtain ⟨q1, q2⟩ := litRows_spec _ 0 hr
        have hzk : (z.map fun x => V.d (.v x)).length = k := by
          obtain ⟨i, zv, -, -, -, -, -, e1, e2, -⟩ := tySl_spec ht
          rw [List.length_map, ← e1]; simpa using e2
        have hlen : (ps.toList.map fun p => (p.1, s.ev p.2)).length = len := by rw [List.length_map, q1, h4]
        have hfl : (List.replicate len (z.map fun x => V.d (.v x))).flatten.length = len * k := by
          rw [flat_len (k := k) _ (by intro x hx; rw [List.mem_replicate] at hx; rw [hx.2, hzk])]; simp
        obtain ⟨c, hf, hc'⟩ := fillV_rows (k := k) (ps.toList.map fun p => (p.1, s.ev p.2)) r 0 [] (List.replicate len (z.map fun x => V.d (.v x))).flatten (by simp) (by rw [hlen, hfl]; exact Nat.le_refl _)
          (by rw [List.length_map]; exact q1) (by
            intro i p x hp hx
            rw [List.getElem?_map] at hp
            obtain ⟨y, hy, rfl⟩ := Option.map_eq_some_iff.1 hp
            exact q2 i y x hy hx) h5
        rw [hlen, List.nil_append, List.nil_append, List.drop_eq_nil_of_le (by rw [hfl]; exact Nat.le_refl _), List.append_nil] at hf
        refine (buildSliceL ht h1 h2 h3 hf hc' rfl h4 h5).mono ?_
        rintro x s' ⟨rfl, rfl⟩
        exact ⟨b0, _, h'⟩
      · cases h
    · cases h
  · rename_i t xo lo hi
    have h' := h
    unfold doCut at h
    split at h
    · rename_i hh e k hs hE
      split at h
      · rename_i e' k' xs hl
        have fin : ∀ {l u : Nat} {kl ku : IntKind} {x : V} {s1 : St} {c : Prop}, stepL P s ⟨dst, .slice t xo lo hi none, ty, pos, after, guard⟩ b0 = some (x, s1, c) → x = .rv hh → s1 = ⟨(s.kill hh).fr, Heap.upd (s.kill hh).L hh (.row e' k ((cutRow xs l u).map (V.kills hh)))⟩ → k = k' →
            ((lo = none ∧ l = 0) ∨ ∃ z, lo = some z ∧ s.ev z = .d (.v (.int kl l))) → ((hi = none ∧ u = xs.length) ∨ ∃ z, hi = some z ∧ s.ev z = .d (.v (.int ku u))) → l ≤ u → u ≤ xs.length →
            OpL P n ⟨dst, .slice t xo lo hi none, ty, pos, after, guard⟩ s (fun x s' => ∃ b c, stepL P s ⟨dst, .slice t xo lo hi none, ty, pos, after, guard⟩ (b + 1) = some (x, s', c)) := by
          intro l u kl ku x s1 c h0 hx hs1 hk hlo hhi h1 h2
          subst hk
          refine (resliceL hE hs hl hlo hhi h1 h2).mono ?_
          rintro x' s' ⟨rfl, rfl⟩
          exact ⟨b0, c, by rw [show stepL P s ⟨dst, .slice t xo lo hi none, ty, pos, after, guard⟩ (b0 + 1) = stepL P s ⟨dst, .slice t xo lo hi none, ty, pos, after, guard⟩ b0 from rfl, h0, hx, hs1]⟩
        have h0 : stepL P s ⟨dst, .slice t xo lo hi none, ty, pos, after, guard⟩ b0 = some (x0, s0, c0) := h'
        cases lo with
        | none =>
          cases hi with
          | none =>
            simp only [Option.map_none, Option.some.injEq, Prod.mk.injEq] at h
            obtain ⟨h1, h2, rfl⟩ := h
            subst hc
            exact fin (kl := .i64) (ku := .i64) h0 h1.symm h2.symm rfl (.inl ⟨rfl, rfl⟩) (.inl ⟨rfl, rfl⟩) (Nat.zero_le _) (Nat.le_refl _)
          | some hz =>
            simp only [Option.map_none, Option.map_some] at h
            split at h
            · contradiction
            · contradiction
            · rename_i ku u _ heq
              simp only [Option.some.injEq] at heq
              simp only [Option.some.injEq, Prod.mk.injEq] at h
              obtain ⟨h1, h2, rfl⟩ := h
              obtain ⟨rfl, hu0, hu1⟩ := hc
              exact fin (kl := .i64) h0 h1.symm h2.symm rfl (.inl ⟨rfl, rfl⟩) (.inr ⟨hz, rfl, by rw [heq, Int.toNat_of_nonneg hu0]⟩) (Nat.zero_le _) (by omega)
            · contradiction
            · cases h
        | some lz =>
          cases hi with
          | none =>
            simp only [Option.map_none, Option.map_some] at h
            split at h
            · contradiction
            · rename_i kl l heq _
              simp only [Option.some.injEq] at heq
              simp only [Option.some.injEq, Prod.mk.injEq] at h
              obtain ⟨h1, h2, rfl⟩ := h
              obtain ⟨rfl, hu0, hu1⟩ := hc
              exact fin (ku := .i64) h0 h1.symm h2.symm rfl (.inr ⟨lz, rfl, by rw [heq, Int.toNat_of_nonneg hu0]⟩) (.inl ⟨rfl, rfl⟩) (by omega) (Nat.le_refl _)
            · contradiction
            · contradiction
            · cases h
          | some hz =>
            simp only [Option.map_some] at h
            split at h
            · contradiction
            · contradiction
            · contradiction
            · rename_i kl l ku u heq heq2
              simp only [Option.some.injEq] at heq heq2
              simp only [Option.some.injEq, Prod.mk.injEq] at h
              obtain ⟨h1, h2, rfl⟩ := h
              obtain ⟨rfl, hl0, hlu, hu1⟩ := hc
              exact fin h0 h1.symm h2.symm rfl (.inr ⟨lz, rfl, by rw [heq, Int.toNat_of_nonneg hl0]⟩) (.inr ⟨hz, rfl, by rw [heq2, Int.toNat_of_nonneg (by omega)]⟩) (by omega) (by omega)
            · cases h
      · cases h
    · cases h
  · split at h
    · rename_i t hh
      have h' := h
      simp only [Option.some.injEq, Prod.mk.injEq] at h
      obtain ⟨rfl, rfl, rfl⟩ := h
      refine (makeMapL hc).mono ?_
      rintro x s' ⟨rfl, rfl⟩
      exact ⟨b0, _, h'⟩
    · cases h
  · rename_i t mo ko vo
    refine (mapSetL (.inl rfl) h hc).mono ?_
    rintro x s' ⟨rfl, rfl⟩
    exact ⟨b0, _, h⟩
  · rename_i t mo ko vo
    refine (mapSetL (.inr rfl) h hc).mono ?_
    rintro x s' ⟨rfl, rfl⟩
    exact ⟨b0, _, h⟩
  · rename_i args argTypes
    have h' : stepL P s ⟨dst, .call { callee := .builtin .unsafeSliceData, args := args, argTypes := argTypes }, ty, pos, after, guard⟩ b0 = some (x0, s0, c0) := h
    split at h
    · rename_i x ha
      obtain rfl : args = #[x] := by rw [← Array.toList_inj]; exact ha
      refine (sdataL h).mono ?_
      rintro x s' ⟨rfl, rfl⟩
      exact ⟨b0, _, h'⟩
    · cases h
  · rename_i args argTypes
    have h' : stepL P s ⟨dst, .call { callee := .builtin .unsafeString, args := args, argTypes := argTypes }, ty, pos, after, guard⟩ b0 = some (x0, s0, c0) := h
    split at h
    · rename_i p l pt it ha ht
      obtain rfl : args = #[p, l] := by rw [← Array.toList_inj]; exact ha
      obtain rfl : argTypes = #[pt, it] := by rw [← Array.toList_inj]; exact ht
      refine (ustrL h hc).mono ?_
      rintro x s' ⟨rfl, rfl⟩
      exact ⟨b0, _, h'⟩
    · cases h
  · rename_i cl _ _
    split at h
    · rename_i hh
      have h' := h
      obtain ⟨callee, args, argTypes⟩ := cl
      unfold doAppend at h
      split at h
      · rename_i so xo t t2 hcal hargs htys
        simp only at hcal hargs htys
        obtain rfl : args = #[so, xo] := by rw [← Array.toList_inj]; exact hargs
        obtain rfl : argTypes = #[t, t2] := by rw [← Array.toList_inj]; exact htys
        subst hcal
        split at h
        · rename_i e k by_ z ys ht hx
          split at h
          · rename_i ht2
            split at h
            · rename_i h1 hs
              split at h
              · rename_i e' k' xs hl
                simp only [Option.some.injEq, Prod.mk.injEq] at h
                obtain ⟨rfl, rfl, rfl⟩ := h
                obtain ⟨⟨⟨rfl, rfl⟩, hk1, hk2⟩, h3, h4⟩ := hc
                refine (appendL ht ht2 hs hl rfl hx ⟨hk1, hk2⟩ h3 h4).mono ?_
                rintro x s' ⟨rfl, rfl⟩
                exact ⟨b0, _, h'⟩
              · cases h
            · rename_i hs
              simp only [Option.some.injEq, Prod.mk.injEq] at h
              obtain ⟨rfl, rfl, rfl⟩ := h
              obtain ⟨⟨hk1, hk2, hk3⟩, h3, h4⟩ := hc
              refine (appendNilL ht ht2 hs hk3 hx ⟨hk1, hk2⟩ h3 h4).mono ?_
              rintro x s' ⟨rfl, rfl⟩
              exact ⟨b0, _, h'⟩
            · cases h
          · cases h
        · cases h
      · cases h
    · cases h
  · cases h
def kO : Option Nat → V → V
  | none, x => x
  | some h, x => x.kill h
def killO (k : Option Nat) (fr : List (Nat × V)) : List (Nat × V) := fr.map fun p => (p.1, kO k p.2)
def loudM (o : Oper) : Bool :=
  match o.op with
  | .store .. | .makeSlice .. | .buildSlice .. | .slice .. | .alloc _ | .box .. | .makeMap .. | .mapUpdate .. | .insert .. => true
  | .call { callee := .builtin .append, .. } => true
  | .call { callee := .builtin .unsafeSliceData, .. } => true
  | .call { callee := .builtin .unsafeString, .. } => true
  | _ => false
def killOf (s : St) (o : Oper) : Option Nat :=
  match o.op with
  | .slice _ x _ _ none => match s.ev x with
    | .rv h => some h
    | _ => none
  | .call { callee := .builtin .unsafeSliceData, .. } => none
  | .call { callee := .builtin .unsafeString, args, .. } => match args.toList with
    | [p, _] => match s.ev p with
      | .ep h _ _ _ => some h
      | _ => none
    | _ => none
  | .call c => match c.args.toList with
    | [so, _] => match s.ev so with
      | .rv h => some h
      | _ => none
    | _ => none
  | _ => none
theorem killO_none (fr : List (Nat × V)) : killO none fr = fr := by
  unfold killO
  have : (fun p : Nat × V => (p.1, kO none p.2)) = id := by funext p; rfl
  rw [this, List.map_id]
theorem litRows_congr {s s2 : St} : ∀ (l : List (Nat × Operand)) (j : Nat), (∀ p ∈ l, s2.ev p.2 = s.ev p.2) → litRows s2 l j = litRows s l j
  | [], j, _ => rfl
  | (i, x) :: l, j, h => by
    simp only [litRows]
    rw [h (i, x) List.mem_cons_self, litRows_congr l (j + 1) (fun p hp => h p (List.mem_cons_of_mem _ hp))]
theorem stepL_frame {s : St} {o : Oper} {b : Nat} {x : V} {s' : St} {c : Prop} (hm : loudM o = true) (h : stepL P s o b = some (x, s', c)) (fr2 : List (Nat × V))
    (he : ∀ z, z ∈ o.op.operands → St.ev ⟨fr2, s.L⟩ z = s.ev z) : stepL P ⟨fr2, s.L⟩ o b = some (x, ⟨killO (killOf s o) fr2, s'.L⟩, c) := by
  obtain ⟨dst, op, ty, pos, after, guard⟩ := o
  unfold stepL at h ⊢
  simp only at h he ⊢
  split at h
  · simp only [killOf, killO_none] at h ⊢
    split at h
    · simp only [Option.some.injEq, Prod.mk.injEq] at h
      obtain ⟨rfl, rfl, rfl⟩ := h
      simp_all
    · cases h
  · rename_i e xo
    have e1 := he xo (by simp [Op.operands])
    simp only [killOf, killO_none, e1] at h ⊢
    split at h
    · simp only [Option.some.injEq, Prod.mk.injEq] at h
      obtain ⟨rfl, rfl, rfl⟩ := h
      simp_all
    · cases h
  · rename_i t ao xo
    have e1 := he ao (by simp [Op.operands])
    have e2 := he xo (by simp [Op.operands])
    simp only [doStore, e1, e2, killOf, killO_none] at h ⊢
    split at h
    · split at h
      · split at h
        · simp only [Option.some.injEq, Prod.mk.injEq] at h
          obtain ⟨rfl, rfl, rfl⟩ := h
          simp_all
        · cases h
      · split at h
        · simp only [Option.some.injEq, Prod.mk.injEq] at h
          obtain ⟨rfl, rfl, rfl⟩ := h
          simp_all
        · cases h
      · cases h
    · cases h
  · rename_i t lo co
    have e1 := he lo (by simp [Op.operands])
    have e2 := he co (by simp [Op.operands])
    split at h
    · simp only [doMake, e1, e2, killOf, killO_none] at h ⊢
      split at h
      · simp only [Option.some.injEq, Prod.mk.injEq] at h
        obtain ⟨rfl, rfl, rfl⟩ := h
        simp_all
      · cases h
    · cases h
  · rename_i t len ps
    have e1 := litRows_congr (s2 := ⟨fr2, s.L⟩) (s := s) ps.toList 0 (fun p hp => he p.2 (by
      simp only [Op.operands, List.mem_toArray, List.mem_map]
      exact ⟨p, hp, rfl⟩))
    split at h
    · simp only [doLit, e1, killOf, killO_none] at h ⊢
      split at h
      · simp only [Option.some.injEq, Prod.mk.injEq] at h
        obtain ⟨rfl, rfl, rfl⟩ := h
        simp_all
      · cases h
    · cases h
  · rename_i t xo lo hi
    have e1 := he xo (by simp [Op.operands])
    have e2 : lo.map (St.ev ⟨fr2, s.L⟩) = lo.map s.ev := by
      cases lo with
      | none => rfl
      | some z => simp only [Option.map_some]; rw [he z (by simp [Op.operands])]
    have e3 : hi.map (St.ev ⟨fr2, s.L⟩) = hi.map s.ev := by
      cases hi with
      | none => rfl
      | some z => simp only [Option.map_some]; rw [he z (by simp [Op.operands])]
    simp only [doCut, e1, e2, e3, killOf] at h ⊢
    split at h
    · rename_i hh e k hs hE
      simp only [hs] at h ⊢
      split at h
      · rename_i e' k' xs hl
        split at h <;> first | (cases h; done) | (simp only [Option.some.injEq, Prod.mk.injEq] at h; obtain ⟨rfl, rfl, rfl⟩ := h; simp_all [St.kill, killO, kO])
      · cases h
    · cases h
  · simp only [killOf, killO_none] at h ⊢
    split at h
    · simp only [Option.some.injEq, Prod.mk.injEq] at h
      obtain ⟨rfl, rfl, rfl⟩ := h
      simp_all
    · cases h
  · rename_i t mo ko vo
    have e1 := he mo (by simp [Op.operands])
    have e2 := he ko (by simp [Op.operands])
    have e3 := he vo (by simp [Op.operands])
    simp only [doMapSet, e1, e2, e3, killOf, killO_none] at h ⊢
    split at h
    · split at h
      · simp only [Option.some.injEq, Prod.mk.injEq] at h
        obtain ⟨rfl, rfl, rfl⟩ := h
        simp_all
      · cases h
    · cases h
  · rename_i t mo ko vo
    have e1 := he mo (by simp [Op.operands])
    have e2 := he ko (by simp [Op.operands])
    have e3 := he vo (by simp [Op.operands])
    simp only [doMapSet, e1, e2, e3, killOf, killO_none] at h ⊢
    split at h
    · split at h
      · simp only [Option.some.injEq, Prod.mk.injEq] at h
        obtain ⟨rfl, rfl, rfl⟩ := h
        simp_all
      · cases h
    · cases h
  · rename_i args argTypes
    simp only [killOf, killO_none] at h ⊢
    split at h
    · rename_i x ha
      have e1 := he x (by simp only [Op.operands, Call.operands, Array.mem_append]; right; rw [← Array.mem_toList_iff, ha]; simp)
      simp only [doSData, e1] at h ⊢
      split at h
      · split at h
        · simp only [Option.some.injEq, Prod.mk.injEq] at h
          obtain ⟨rfl, rfl, rfl⟩ := h
          simp_all
        · cases h
      · simp only [Option.some.injEq, Prod.mk.injEq] at h
        obtain ⟨rfl, rfl, rfl⟩ := h
        simp_all
      · cases h
    · cases h
  · rename_i args argTypes
    simp only [killOf] at h ⊢
    split at h
    · rename_i p l pt it ha ht
      have e1 := he p (by simp only [Op.operands, Call.operands, Array.mem_append]; right; rw [← Array.mem_toList_iff, ha]; simp)
      have e2 := he l (by simp only [Op.operands, Call.operands, Array.mem_append]; right; rw [← Array.mem_toList_iff, ha]; simp)
      simp only [doUStr, e1, e2, ha] at h ⊢
      split at h
      · rename_i hp _ _
        simp only [hp] at h ⊢
        simp only [Option.some.injEq, Prod.mk.injEq] at h
        obtain ⟨rfl, rfl, rfl⟩ := h
        simp_all [killO_none]
      · rename_i hp _ _
        simp only [hp] at h ⊢
        split at h
        · split at h
          · simp only [Option.some.injEq, Prod.mk.injEq] at h
            obtain ⟨rfl, rfl, rfl⟩ := h
            simp_all [St.rem, killO, kO]
          · cases h
        · cases h
      · cases h
    · cases h
  · rename_i cl _ _
    split at h
    · simp only [doAppend] at h ⊢
      split at h
      · rename_i so xo t t2 h1 h2 h3
        have e1 := he so (by simp only [Op.operands, Call.operands, Array.mem_append]; right; rw [← Array.mem_toList_iff, h2]; simp)
        have e2 := he xo (by simp only [Op.operands, Call.operands, Array.mem_append]; right; rw [← Array.mem_toList_iff, h2]; simp)
        simp only [h1, h2, h3, e1, e2, killOf] at h ⊢
        split at h
        · split at h
          · rename_i hsrc
            split at h
            · rename_i hh hso
              simp only [hso] at h ⊢
              split at h
              · simp only [Option.some.injEq, Prod.mk.injEq] at h
                obtain ⟨rfl, rfl, rfl⟩ := h
                simp_all [St.kill, killO, kO]
              · cases h
            · rename_i hso
              simp only [Option.some.injEq, Prod.mk.injEq] at h
              obtain ⟨rfl, rfl, rfl⟩ := h
              simp_all [killO_none]
            · cases h
          · cases h
        · cases h
      · cases h
    · cases h
  · cases h
theorem stepL_call {P : Program} {s : St} {dst : Option Tmp} {c : Call} {ty : TypeId} {pos : String} {after : Array Edge} {guard : Option (Nat × Bool)} {b : Nat} :
    stepL P s ⟨dst, .call c, ty, pos, after, guard⟩ (b + 1) = stepL P s ⟨dst, .call c, ty, pos, after, guard⟩ 0 := by
  obtain ⟨callee, args, tys⟩ := c
  cases callee with
  | builtin bi => cases bi <;> rfl
  | _ => rfl
theorem stepL_sound0 {o : Oper} {s : St} {x0 : V} {s0 : St} {c0 : Prop} (h : stepL P s o 0 = some (x0, s0, c0)) (hc : c0) : OpL P n o s (fun x s' => x = x0 ∧ s' = s0) := by
  have h' := h
  obtain ⟨dst, op, ty, pos, after, guard⟩ := o
  unfold stepL at h
  simp only at h
  split at h
  · split at h
    · rename_i e hh z hz
      simp only [Option.some.injEq, Prod.mk.injEq] at h
      obtain ⟨rfl, rfl, rfl⟩ := h
      refine (allocL' (fun _ => 0) (fun _ => .inl rfl) hz hc).mono ?_
      rintro x s' ⟨b, rfl, rfl⟩
      exact ⟨rfl, rfl⟩
    · cases h
  · split at h
    · rename_i e xo hh cs hcs
      simp only [Option.some.injEq, Prod.mk.injEq] at h
      obtain ⟨rfl, rfl, rfl⟩ := h
      refine (boxL' (fun _ => 0) (fun _ => .inl rfl) hcs hc).mono ?_
      rintro x s' ⟨b, rfl, rfl⟩
      exact ⟨rfl, rfl⟩
    · cases h
  all_goals
    first
      | (cases h; done)
      | (refine (stepL_sound h' hc).mono ?_
         rintro x1 s1 ⟨b, c1, hb⟩
         rw [stepL_call] at hb
         have hb2 := h'.symm.trans hb
         simp only [Option.some.injEq, Prod.mk.injEq] at hb2
         exact ⟨hb2.1.symm, hb2.2.1.symm⟩)
      | (refine (stepL_sound h' hc).mono ?_
         rintro x1 s1 ⟨b, c1, hb⟩
         have hb2 := h'.symm.trans (show _ = some (x1, s1, c1) from hb)
         simp only [Option.some.injEq, Prod.mk.injEq] at hb2
         exact ⟨hb2.1.symm, hb2.2.1.symm⟩)
end
end Go.Ab

namespace Go.Ab
section
variable {P : Program} {w w' : World} {fo : FO} {m m' : Nat → Option Value} {L : Heap} {n : Nat} {s : St} {a : Act}
def uncs (s : St) : List Operand → Prop
  | [] => True
  | z :: l => (s.ev z).unc ∧ uncs s l
theorem uncs_mem {s : St} : ∀ {l : List Operand}, uncs s l → ∀ z ∈ l, (s.ev z).unc
  | [], _, z, h => by cases h
  | y :: l, h, z, hz => by
    rcases List.mem_cons.1 hz with rfl | hz
    · exact h.1
    · exact uncs_mem h.2 z hz
def sameTmp : Operand → Operand → Bool
  | .tmp i, .tmp j => i == j
  | _, _ => false
def gρ (s : St) (o : Oper) (z : Operand) : V :=
  match o.op with
  | .pick c _ _ => if sameTmp z c then (s.ev z).un else s.ev z
  | _ => (s.ev z).un
def gU (s : St) (o : Oper) : Prop :=
  match o.op with
  | .pick c _ _ => (s.ev c).unc
  | _ => uncs s o.op.operands.toList
def gval : Option (V × Prop) → V
  | some (x, _) => x
  | none => .any
def gcon : Option (V × Prop) → Prop
  | some (_, c) => c
  | none => False
theorem gρ_rel {s : St} {o : Oper} (h : gU s o) : ∀ z, z ∈ o.op.operands → ∀ w O m v, RelV w O m v (s.ev z) → RelV w O m v (gρ s o z) := by
  intro z hz w O m v hr
  unfold gU at h
  unfold gρ
  split
  · rename_i c a b hop
    simp only [hop] at h
    split
    · rename_i hs
      have : z = c := by
        cases z <;> cases c <;> simp only [sameTmp, beq_iff_eq] at hs <;> first | (rw [hs]; done) | cases hs
      subst this
      exact un_rel hr h
    · exact hr
  · rename_i hop
    split at h
    · rename_i c a b hop'; exact (hop c a b hop').elim
    · exact un_rel hr (uncs_mem h z (by simpa using hz))
theorem gcon_sound {r : Option (V × Prop)} (h : gcon r) : ∃ c, r = some (gval r, c) ∧ c := by
  cases r with
  | none => exact h.elim
  | some p => exact ⟨p.2, rfl, h⟩
def loudG (s : St) (o : Oper) : Bool :=
  match o.op with
  | .slice _ x _ _ _ => match s.ev x with
    | .rv _ => true
    | .gd _ (.rv _) => true
    | _ => false
  | _ => loudM o
def stepQ (P : Program) (ops : Array Oper) (s : St) (o : Oper) : Option (St × Prop) :=
  match guardV ops s o with
  | some none => match q2 P s.ev s.L o with
    | some (x, c) => some (s.put o.dst x, c)
    | none => none
  | some (some g) => if loudG s o then none else some (s.put o.dst (.gd g (gval (q2 P (gρ s o) s.L o))), g = true → gcon (q2 P (gρ s o) s.L o) ∧ gU s o)
  | none => none
theorem stepQ_sound {ops : Array Oper} {s s' : St} {o : Oper} {c : Prop} {rest : List Oper} {Q : AX → St → Prop} (hd : ∀ d, o.dst = some d → d < n) (h : stepQ P ops s o = some (s', c)) (hc : c) (k : AOps P n ops rest s' Q) : AOps P n ops (o :: rest) s Q := by
  unfold stepQ at h
  split at h
  · rename_i hg
    split at h
    · rename_i x c' hx
      simp only [Option.some.injEq, Prod.mk.injEq] at h
      obtain ⟨rfl, rfl⟩ := h
      exact AOps.quiet (guardV_none hg) hd (q2_sound hx hc) k
    · cases h
  · rename_i b hg
    split at h
    · cases h
    · simp only [Option.some.injEq, Prod.mk.injEq] at h
      obtain ⟨rfl, rfl⟩ := h
      refine AOps.guarded hg hd (fun hb => ?_) k
      obtain ⟨h1, h2⟩ := hc hb
      obtain ⟨c', h3, h4⟩ := gcon_sound h1
      exact ⟨_, gρ_rel h2, q2_sound h3 h4⟩
  · cases h
def opSlots (o : Oper) : List Nat := o.op.operands.toList.filterMap fun z => match z with | .tmp t => some t | _ => none
def unE (s : St) (o : Oper) : List (Nat × V) := (opSlots o).filterMap fun t => match s.get t with | .gd _ x => some (t, x) | _ => none
def unO (s : St) (o : Oper) : St := ⟨unE s o ++ s.fr, s.L⟩
theorem G.unO {fo : FO} {m : Nat → Option Value} {s : St} {a : Act} {w : World} {o : Oper} (g : G fo n m s a w) (hu : uncs s o.op.operands.toList) : G fo n m (unO s o) a w := by
  refine ⟨g.size, fun t x hx => ?_, g.inv, g.defers⟩
  rcases List.mem_append.1 hx with hx | hx
  · unfold unE at hx
    obtain ⟨t', ht', he⟩ := List.mem_filterMap.1 hx
    obtain ⟨z, hz, hze⟩ := List.mem_filterMap.1 ht'
    have hzt : z = .tmp t' := by
      cases z with
      | tmp u => simp only [Option.some.injEq] at hze; rw [hze]
      | _ => simp at hze
    subst hzt
    have hunc := uncs_mem hu _ hz
    simp only [St.ev] at hunc
    split at he
    · rename_i b y hy
      simp only [Option.some.injEq, Prod.mk.injEq] at he
      obtain ⟨rfl, rfl⟩ := he
      have hm : (t', s.get t') ∈ s.fr := by
        unfold St.get at hy ⊢
        rcases getF_mem (t := t') (l := s.fr) with h | h
        · rw [h] at hy; cases hy
        · exact h
      obtain ⟨h1, h2⟩ := g.fr _ _ hm
      rw [hy] at h2 hunc
      refine ⟨h1, gd_inv h2 ?_⟩
      simpa [V.unc] using hunc
    · cases he
  · exact g.fr t x hx
theorem stepL_fr {s s' : St} {o : Oper} {b : Nat} {x : V} {c : Prop} (hm : loudM o = true) (h : stepL P s o b = some (x, s', c)) : s'.fr = killO (killOf s o) s.fr := by
  have := stepL_frame hm h s.fr (fun _ _ => rfl)
  rw [show (⟨s.fr, s.L⟩ : St) = s from rfl, h] at this
  simp only [Option.some.injEq, Prod.mk.injEq] at this
  rw [this.2.1]
theorem AOps.loudG {ops : Array Oper} {o : Oper} {rest : List Oper} {s : St} {Q : AX → St → Prop} {b : Bool} (hgd : guardV ops s o = some (some b)) (hd : ∀ d, o.dst = some d → d < n)
    (ht : b = true → ∃ b0 x s' c, stepL P (unO s o) o b0 = some (x, s', c) ∧ loudM o = true ∧ uncs s o.op.operands.toList ∧ c)
    (k : b = true → ∀ x s' b1 c, stepL P (unO s o) o (b1 + 1) = some (x, s', c) → AOps P n ops rest (St.put ⟨killO (killOf (unO s o) o) s.fr, s'.L⟩ o.dst (.gd true x)) Q)
    (kf : b = false → AOps P n ops rest (s.put o.dst (.gd false .any)) Q) : AOps P n ops (o :: rest) s Q := by
  intro fo m0 w0 m a w st g
  have hw := guard_wanted g hgd
  cases b with
  | true =>
    obtain ⟨b0, x0, s0, c0, h1, h2, h3, h4⟩ := ht rfl
    obtain ⟨nx, v, w', m', x, s', hrun, hnx, ⟨b1, c1, hb1⟩, hr, g', st'⟩ := stepL_sound (n := n) h1 h4 fo m a w (g.unO h3)
    have hfr := stepL_fr h2 hb1
    have g2 : G fo n m' ⟨killO (killOf (Go.Ab.unO s o) o) s.fr, s'.L⟩ a w' := by
      refine ⟨g'.size, fun t y hy => g'.fr t y ?_, g'.inv, g'.defers⟩
      rw [hfr]
      unfold killO at hy ⊢
      obtain ⟨p, hp, he⟩ := List.mem_map.1 hy
      exact List.mem_map.2 ⟨p, List.mem_append_right _ hp, he⟩
    exact wpList_ok hw hrun hnx (k rfl x s' b1 c1 hb1 fo m0 w0 m' _ w' (st.trans st') (g2.put hd (.gt _ _ hr)))
  | false =>
    unfold wpListIn
    rw [if_neg (by rw [hw]; simp)]
    exact ⟨fun _ _ => trivial, kf rfl fo m0 w0 m _ w st (g.put hd (.gf _))⟩
variable {ops : Array Oper} {Q : AX → St → Prop}
mutual
def V.on (ks : List Nat) : V → Bool
  | .bp h _ => ks.contains h
  | .rv h => ks.contains h
  | .ep h _ _ _ => ks.contains h
  | .clo _ f c => V.ons ks f && V.ons ks c
  | .agg cs => V.ons ks cs
  | .tup cs => V.ons ks cs
  | .gd _ x => V.on ks x
  | .d _ => true
  | .rp _ => true
  | .sv h _ => ks.contains h
  | .kn _ => true
  | .any => true
def V.ons (ks : List Nat) : List V → Bool
  | [] => true
  | x :: l => V.on ks x && V.ons ks l
end
theorem ons_mem {ks : List Nat} : ∀ {l : List V}, V.ons ks l = true → ∀ x ∈ l, V.on ks x = true
  | [], _, x, h => by cases h
  | y :: l, h, x, hx => by
    simp only [V.ons, Bool.and_eq_true] at h
    rcases List.mem_cons.1 hx with rfl | hx
    · exact h.1
    · exact ons_mem h.2 x hx
theorem ons_d (ks : List Nat) : ∀ l : List D, V.ons ks (l.map V.d) = true
  | [] => rfl
  | x :: l => by simp [V.ons, V.on, ons_d ks l]
def Res.on (ks : List Nat) : Res → Bool
  | .box _ _ cs => V.ons ks cs
  | .row _ _ xs => xs.all (V.ons ks)
  | .env _ => true
  | .mp _ => true
theorem on_dd (ks : List Nat) (ys : List (List D)) : (dd ys).all (V.ons ks) = true := by
  unfold dd
  rw [List.all_map, List.all_eq_true]
  intro x _
  exact ons_d ks x
theorem RelV.on {O : Nat → Prop} {ks : List Nat} (hm : ∀ h x, h ∈ ks → m h = some x → m' h = some x) {x : Value} {y : V} (hr : RelV w O m x y) (ho : y.on ks = true) : RelV w O m' x y := by
  induction hr with
  | d x y h => exact .d x y h
  | bp h off b e => exact .bp h off b (hm _ _ (by simpa [V.on] using ho) e)
  | rv h x e e1 => exact .rv h x (hm _ _ (by simpa [V.on] using ho) e) e1
  | ep h k i j b o n c e => exact .ep h k i j b o n c (hm _ _ (by simpa [V.on] using ho) e)
  | rp b off cs f hb hlt hc hr => exact .rp b off cs f hb hlt hc hr
  | sv h n b cap e hc hx => exact .sv h n b cap (hm _ _ (by simpa [V.on] using ho) e) hc hx
  | clo fn first caps cf cc s1 s2 h1 h2 ih1 ih2 =>
    simp only [V.on, Bool.and_eq_true] at ho
    exact .clo fn first caps cf cc s1 s2 (fun j x y hx hy => ih1 j x y hx hy (ons_mem ho.1 y (List.mem_of_getElem? hy))) (fun j x y hx hy => ih2 j x y hx hy (ons_mem ho.2 y (List.mem_of_getElem? hy)))
  | agg vs cs hs h1 h ih =>
    simp only [V.on] at ho
    exact .agg vs cs hs h1 (fun j x y hx hy => ih j x y hx hy (ons_mem ho y (List.mem_of_getElem? hy)))
  | tup vs cs hs h ih =>
    simp only [V.on] at ho
    exact .tup vs cs hs (fun j x y hx hy => ih j x y hx hy (ons_mem ho y (List.mem_of_getElem? hy)))
  | gt x y h ih => exact .gt x y (ih (by simpa [V.on] using ho))
  | gf y => exact .gf y
  | kn x Q h => exact .kn x Q h
  | any x => exact .any x
theorem Res.Holds.on {O : Nat → Prop} {ks : List Nat} (hm : ∀ h x, h ∈ ks → m h = some x → m' h = some x) {x : Value} {r : Res} (hr : r.Holds w O m x) (ho : r.on ks = true) : r.Holds w O m' x := by
  cases r with
  | box b ty cs =>
    obtain ⟨bb, hbb, cur, rfl, h1, h2, h3, h4⟩ := hr
    simp only [Res.on] at ho
    exact ⟨bb, hbb, cur, rfl, h1, h2, h3, fun j v c hv hc => (h4 j v c hv hc).on hm (ons_mem ho c (List.mem_of_getElem? hc))⟩
  | row ty k xs =>
    rcases hr with h | ⟨b, off, cap, cur, rfl, h1, h2, h3, h4, h5, h6, h7⟩
    · exact .inl h
    · simp only [Res.on, List.all_eq_true] at ho
      exact .inr ⟨b, off, cap, cur, rfl, h1, h2, h3, h4, h5, h6, fun i j x y v hx hy hv => (h7 i j x y v hx hy hv).on hm (ons_mem (ho x (List.mem_of_getElem? hx)) y (List.mem_of_getElem? hy))⟩
  | env A => exact hr
  | mp es => exact hr
def St.on (ks : List Nat) (s : St) : Bool := s.fr.all (fun p => V.on ks p.2) && s.L.all (fun p => Res.on ks p.2)
theorem Wk.drop {s' : St} (hf : ∀ p ∈ s'.fr, p ∈ s.fr) (hL : ∀ p ∈ s'.L, p ∈ s.L) (hn : (keys s'.L).Nodup) (hon : s'.on (keys s'.L) = true) : Wk n s s' := by
  classical
  intro fo m a w g
  let m' : Nat → Option Value := fun h => if h ∈ keys s'.L then m h else none
  have hm' : ∀ h x, m' h = some x → m h = some x ∧ h ∈ keys s'.L := by
    intro h x hx
    by_cases hh : h ∈ keys s'.L
    · simp only [m', if_pos hh] at hx; exact ⟨hx, hh⟩
    · simp only [m', if_neg hh] at hx; cases hx
  have hmm : ∀ h x, h ∈ keys s'.L → m h = some x → m' h = some x := by
    intro h x hh hx
    simp only [m', if_pos hh]; exact hx
  have hown : ∀ b, own m' b → own m b := by
    rintro b ⟨h, x, hx, hb⟩
    exact ⟨h, x, (hm' h x hx).1, hb⟩
  have hO : ∀ b, b < w.heap.size → OO fo m' b → OO fo m b := fun b _ ho => ho.imp (hown b) id
  simp only [St.on, Bool.and_eq_true, List.all_eq_true] at hon
  refine ⟨m', ⟨g.size, ?_, ?_, g.defers⟩, ⟨rfl, rfl, rfl, Nat.le_refl _, fun _ _ _ => rfl, fun b _ ho => hown b ho⟩⟩
  · intro t x hx
    obtain ⟨h1, h2⟩ := g.fr t x (hf _ hx)
    exact ⟨h1, (h2.on hmm (hon.1 _ hx)).mono (Keep.refl w _) hO (fun _ _ e => e)⟩
  · refine ⟨hn, fun h x hx => (hm' h x hx).2, ?_, ?_, g.inv.folt, ?_, g.inv.glob.mono (Keep.refl w _) hO⟩
    · intro h h' x x' b hx hx' hb hb'
      exact g.inv.apart h h' x x' b (hm' h x hx).1 (hm' h' x' hx').1 hb hb'
    · intro h x b hx hb; exact g.inv.others h x b (hm' h x hx).1 hb
    · intro h r hr
      obtain ⟨x, hx, hh⟩ := g.inv.holds h r (hL _ hr)
      have hk : h ∈ keys s'.L := List.mem_map.2 ⟨_, hr, rfl⟩
      exact ⟨x, hmm h x hk hx, (hh.on hmm (hon.2 _ hr)).mono (fun _ _ => rfl) (Keep.refl w _) hO (fun _ _ e => e)⟩
theorem Wk.rem (h : Nat) : Wk n s (s.rem h) := by
  classical
  intro fo m a w g
  let m' : Nat → Option Value := fun i => if i = h then none else m i
  have hm : ∀ i x, i ≠ h → m i = some x → m' i = some x := fun i x hne hx => by simp only [m', if_neg hne]; exact hx
  have hm' : ∀ i x, m' i = some x → i ≠ h ∧ m i = some x := by
    intro i x hx
    by_cases e : i = h
    · simp only [m', if_pos e] at hx; cases hx
    · simp only [m', if_neg e] at hx; exact ⟨e, hx⟩
  have hown : ∀ b, own m' b → own m b := by
    rintro b ⟨i, x, hx, hb⟩
    exact ⟨i, x, (hm' i x hx).2, hb⟩
  have hO : ∀ b, b < w.heap.size → OO fo m' b → OO fo m b := fun b _ ho => ho.imp (hown b) id
  have hi := g.inv
  have hkeys : keys (St.rem h s).L = (keys s.L).filter (· != h) := by
    simp only [keys, St.rem, remL_eq, List.map_map]
    rw [List.filter_map]
    rfl
  refine ⟨m', ⟨g.size, ?_, ?_, g.defers⟩, ⟨rfl, rfl, rfl, Nat.le_refl _, fun _ _ _ => rfl, fun b _ ho => hown b ho⟩⟩
  · intro t x hx
    obtain ⟨p, hp, he⟩ := List.mem_map.1 hx
    simp only [Prod.mk.injEq] at he
    obtain ⟨rfl, rfl⟩ := he
    obtain ⟨h1, h2⟩ := g.fr p.1 p.2 hp
    exact ⟨h1, (h2.kill hm).mono (Keep.refl w _) hO (fun _ _ e => e)⟩
  · have hrem : (St.rem h s).L = (s.L.filter fun p => p.1 != h).map fun p => (p.1, p.2.kill h) := remL_eq h s.L
    refine ⟨?_, ?_, ?_, ?_, hi.folt, ?_, hi.glob.mono (Keep.refl w _) hO⟩
    · rw [hkeys]; exact hi.nodup.sublist List.filter_sublist
    · intro i x hx
      rw [hkeys, List.mem_filter]
      exact ⟨hi.dom i x (hm' i x hx).2, by simpa using (hm' i x hx).1⟩
    · intro i j x y b hx hy hb hb'
      exact hi.apart i j x y b (hm' i x hx).2 (hm' j y hy).2 hb hb'
    · intro i x b hx hb; exact hi.others i x b (hm' i x hx).2 hb
    · intro i r hr
      rw [hrem] at hr
      obtain ⟨p, hp, he⟩ := List.mem_map.1 hr
      simp only [Prod.mk.injEq] at he
      obtain ⟨rfl, rfl⟩ := he
      rw [List.mem_filter] at hp
      obtain ⟨x, hx, hh⟩ := hi.holds p.1 p.2 hp.1
      have hne : p.1 ≠ h := by simpa using hp.2
      exact ⟨x, hm _ _ hne hx, (hh.kill hm).mono (fun _ _ => rfl) (Keep.refl w _) hO (fun _ _ e => e)⟩
def makesNew : Op → Bool
  | .alloc _ | .box .. | .makeSlice .. | .buildSlice .. | .makeMap .. => true
  | _ => false
def St.fgt (s : St) (o : Oper) : St :=
  match o.dst with
  | some h => if makesNew o.op && (keys s.L).contains h then s.rem h else s
  | none => s
theorem Wk.fgt (o : Oper) : Wk n s (s.fgt o) := by
  unfold St.fgt
  split
  · split
    · exact Wk.rem _
    · exact Wk.refl n s
  · exact Wk.refl n s
theorem AOps.weaken {ops : Array Oper} {l : List Oper} {s' : St} {Q : AX → St → Prop} (h : Wk n s s') (k : AOps P n ops l s' Q) : AOps P n ops l s Q := by
  intro fo m0 w0 m a w st g
  obtain ⟨m', g', st'⟩ := h fo m a w g
  exact k fo m0 w0 m' a w (st.trans st') g'
end
def resV (P : Program) (s : St) : ResultVar → Option (V × Prop)
  | .tmp t => some (s.get t, True)
  | .cell a t => loadV P s.L t (s.get a)
def resVs (P : Program) (s : St) : List ResultVar → Option (List V × Prop)
  | [] => some ([], True)
  | r :: l => match resV P s r, resVs P s l with
    | some (x, c), some (xs, d) => some (x :: xs, c ∧ d)
    | _, _ => none
def tupV : List V → V
  | [x] => x
  | l => .tup l
def resOf (tmps : Array Value) (r : ResultVar) : Sem Value :=
  match r with
  | .tmp t => pure (tmps.getD t undef)
  | .cell a t => do loadVar t (← asAddr (tmps.getD a undef))
theorem results_eq (fn : Func) (tmps : Array Value) : results fn tmps = (do let vs ← fn.results.mapM (resOf tmps); pure (if h : vs.size = 1 then vs[0] else .tuple vs)) := rfl
def FPost (P : Program) (rs : List ResultVar) (R : AE → Heap → Prop) (x : AX) (s : St) : Prop :=
  match x with
  | .normal | .ret => match resVs P s rs with
    | some (xs, c) => c ∧ R (.ret (tupV xs)) s.L
    | none => False
  | .pan v => R (.pan v) s.L
  | _ => False
theorem resVs_sound {P : Program} {fo : FO} {n : Nat} {m : Nat → Option Value} {s : St} {a : Act} {w : World} (g : G fo n m s a w) : ∀ (l : List ResultVar) {xs : List V} {c : Prop}, resVs P s l = some (xs, c) → c →
    ∃ vs : List Value, (l.mapM (resOf a.tmps)).run P w = .ok vs w ∧ vs.length = xs.length ∧
      ∀ (j : Nat) (v : Value) (x : V), vs[j]? = some v → xs[j]? = some x → RelV w (OO fo m) m v x
  | [], xs, c, h, _ => by
    simp only [resVs, Option.some.injEq, Prod.mk.injEq] at h
    obtain ⟨rfl, _⟩ := h
    exact ⟨[], by simp, rfl, by simp⟩
  | r :: l, xs, c, h, hc => by
    simp only [resVs] at h
    split at h
    · rename_i x c1 ys d h1 h2
      simp only [Option.some.injEq, Prod.mk.injEq] at h
      obtain ⟨rfl, rfl⟩ := h
      obtain ⟨vs, hv1, hv2, hv3⟩ := resVs_sound g l h2 hc.2
      have hone : ∃ v, (resOf a.tmps r).run P w = .ok v w ∧ RelV w (OO fo m) m v x := by
        cases r with
        | tmp t =>
          simp only [resV, Option.some.injEq, Prod.mk.injEq] at h1
          obtain ⟨rfl, _⟩ := h1
          exact ⟨_, rfl, get_rel g t⟩
        | cell ad t =>
          simp only [resV] at h1
          obtain ⟨v, hv, hr⟩ := loadV_sound h1 hc.1 g.inv (get_rel g ad)
          refine ⟨v, ?_, hr⟩
          have hp : ∃ p, a.tmps.getD ad undef = .pointer (some p) := by
            have hgr := get_rel g ad
            unfold loadV at h1
            split at h1
            · cases h1
            · split at h1
              · rename_i hb; rw [hb] at hgr; obtain ⟨b, _, e⟩ := bp_inv hgr; exact ⟨_, e⟩
              · rename_i hb; rw [hb] at hgr; obtain ⟨b, off, f, e, _⟩ := rp_inv hgr; exact ⟨_, e⟩
              · rename_i hb; rw [hb] at hgr; obtain ⟨b, o, n, c, _, e⟩ := ep_inv hgr; exact ⟨_, e⟩
              · cases h1
          obtain ⟨p, hp⟩ := hp
          rw [hp] at hv
          simp only [resOf, hp]
          simpa [Instr.loadAt, Instr.sureAddr, asAddr] using hv
      obtain ⟨v, hv, hr⟩ := hone
      refine ⟨v :: vs, ?_, by simp [hv2], ?_⟩
      · rw [List.mapM_cons]
        simp only [Sem.run_bind]
        rw [hv]
        simp only [Result.andThen_ok]
        rw [hv1]
        rfl
      · intro j v' x' hv' hx'
        match j with
        | 0 => simp only [List.getElem?_cons_zero, Option.some.injEq] at hv' hx'; subst hv'; subst hx'; exact hr
        | j + 1 => simp only [List.getElem?_cons_succ] at hv' hx'; exact hv3 j v' x' hv' hx'
    · cases h
theorem results_sound {P : Program} {fo : FO} {n : Nat} {m : Nat → Option Value} {s : St} {a : Act} {w : World} (g : G fo n m s a w) {fn : Func} {xs : List V} {c : Prop} (h : resVs P s fn.results.toList = some (xs, c)) (hc : c) :
    ∃ v, (results fn a.tmps).run P w = .ok v w ∧ RelV w (OO fo m) m v (tupV xs) := by
  obtain ⟨vs, h1, h2, h3⟩ := resVs_sound g _ h hc
  rw [results_eq, Array.mapM_eq_mapM_toList]
  simp only [Sem.run_bind, Sem.run_map]
  rw [h1]
  simp only [Result.andThen_ok]
  match vs, xs, h2, h3 with
  | [v], [x], _, h3 =>
    refine ⟨v, by simp, ?_⟩
    simpa [tupV] using h3 0 v x rfl rfl
  | [], [], _, h3 =>
    refine ⟨.tuple #[], by simp, ?_⟩
    exact .tup _ _ rfl (by simp)
  | v1 :: v2 :: vs, x1 :: x2 :: xs, h2, h3 =>
    refine ⟨.tuple (v1 :: v2 :: vs).toArray, by simp, ?_⟩
    simp only [tupV]
    exact .tup _ _ (by simpa using h2) (fun j v x hv hx => h3 j v x (by simpa using hv) hx)
theorem G.others {fo : FO} {n : Nat} {m : Nat → Option Value} {s : St} {a : Act} {w w' : World} (g : G fo n m s a w) (hs : w.heap.size ≤ w'.heap.size) (hb : ∀ b, b < w.heap.size → ¬ fo.f b → w'.heap[b]? = w.heap[b]?) : G fo n m s a w' := by
  have hk : Keep w (OO fo m) w' := ⟨hs, fun b h1 h2 => hb b h1 (fun h => h2 (.inr h))⟩
  refine ⟨g.size, fun t x hx => ⟨(g.fr t x hx).1, (g.fr t x hx).2.mono hk (fun _ _ h => h) (fun _ _ h => h)⟩, ⟨g.inv.nodup, g.inv.dom, g.inv.apart, g.inv.others, fun b hf => Nat.lt_of_lt_of_le (g.inv.folt b hf) hs, fun h r hr => ?_, g.inv.glob.mono hk (fun _ _ h => h)⟩, g.defers⟩
  obtain ⟨x, hx, hh⟩ := g.inv.holds h r hr
  exact ⟨x, hx, hh.mono (fun b hb' => hb b (g.inv.lt hx hb') (g.inv.others h x b hx hb')) hk (fun _ _ h => h) (fun _ _ h => h)⟩
theorem Inv.less {fo fo' : FO} {m : Nat → Option Value} {L : Heap} {w : World} (h : ∀ b, fo'.f b → fo.f b) (hi : Inv fo m L w) : Inv fo' m L w := by
  refine ⟨hi.nodup, hi.dom, hi.apart, fun i x b hx hb hf => hi.others i x b hx hb (h b hf), fun b hf => hi.folt b (h b hf), fun i r hr => ?_, hi.glob.mono (Keep.refl w _) (fun b _ hb => hb.imp id (h b))⟩
  obtain ⟨x, hx, hh⟩ := hi.holds i r hr
  exact ⟨x, hx, hh.mono (fun _ _ => rfl) (Keep.refl w _) (fun b _ hb => hb.imp id (h b)) (fun _ _ h => h)⟩
def setO (w : World) (r : Nat) (o : Obj) : World := { w with heap := w.heap.setIfInBounds r o }
theorem setO_size (w : World) (r : Nat) (o : Obj) : (setO w r o).heap.size = w.heap.size := by simp [setO]
theorem setO_ne {w : World} {r b : Nat} {o : Obj} (h : b ≠ r) : (setO w r o).heap[b]? = w.heap[b]? := by simp [setO, Array.getElem?_setIfInBounds, Ne.symm h]
theorem run_getO {P : Program} {w : World} {r : Nat} {o : Obj} (h : w.heap[r]? = some o) (ho : ∀ c e f, o ≠ .cells c e f) : (getObj r).run P w = .ok o w := by
  unfold getObj
  simp only [Sem.run]
  rw [h]
  cases o with
  | cells c e f => exact (ho c e f rfl).elim
  | _ => rfl
theorem run_setO {P : Program} {w : World} {r : Nat} {o o' : Obj} (h : w.heap[r]? = some o) (ho : ∀ c e f, o ≠ .cells c e f) : (setObj r o').run P w = .ok () (setO w r o') := by
  unfold setObj
  simp only [Sem.run]
  rw [h]
  cases o with
  | cells c e f => exact (ho c e f rfl).elim
  | _ => rfl
theorem leaves_marks {P : Program} {fn : Func} {n : Nat} {tmps : Array Value} {R : Ending → World → Prop} {u : FrameMode} (hu : u ≠ .run) : ∀ (ms : List Nat) (w : World), ms.Nodup → (∀ r ∈ ms, w.heap[r]? = some (.deferred (some []))) →
    (∀ w', w'.os = w.os → w'.tape = w.tape → w'.output = w.output → w.heap.size ≤ w'.heap.size → (∀ b, b ∉ ms → w'.heap[b]? = w.heap[b]?) → LeavesInM Fence.wide n P fn tmps R [] u w') → LeavesInM Fence.wide n P fn tmps R (ms.map (fun r => ⟨.collected r, #[]⟩)) u w
  | [], w, _, _, h => h w rfl rfl rfl (Nat.le_refl _) (fun _ _ => rfl)
  | r :: ms, w, hn, hm, h => by
    have hr := hm r List.mem_cons_self
    rw [List.nodup_cons] at hn
    refine ⟨hu, .inl ⟨r, setO w r (.deferred none), rfl, ?_, ?_⟩⟩
    · simp [Instr.takeDeferred, Sem.run_bind, run_getO hr (by simp), run_setO hr (by simp)]
    · refine leaves_marks hu ms _ hn.2 (fun r' hr' => ?_) (fun w' h1 h2 h3 h4 h5 => h w' h1 h2 h3 (Nat.le_trans (by rw [setO_size]; exact Nat.le_refl _) h4) (fun b hb => ?_))
      · have : r ≠ r' := fun e => hn.1 (e ▸ hr')
        rw [setO_ne (Ne.symm this)]
        exact hm r' (List.mem_cons_of_mem _ hr')
      · simp only [List.mem_cons, not_or] at hb
        rw [h5 b hb.2]
        exact setO_ne hb.1
theorem ACalls.of_AWP0 {P : Program} {f : FuncId} {fn : Func} {c : Code} {args : List V} {L : Heap} {R : AE → Heap → Prop} (hf : P.funcs[f]? = some fn) (hb : fn.body = some c) (hn : args.length ≤ fn.ntmps)
    (h : AWP P fn.ntmps c ⟨argFrame 0 args, L⟩ (FPost P fn.results.toList R)) {fo : FO} {m : Nat → Option Value} {w : World} {xs : Array Value} (hD : fo.D = []) (hr0 : fo.r = none) (hnm : fo.nm = false) (hi : Inv fo m L w) (hx : RelVs w (OO fo m) m xs args) : Calls P f xs w (CPost fo m w R) := by
  refine callsIn_wide.1 (callsIn_of_wp_marks (n := 0) hf hb trivial ?_)
  have hsz : (xs ++ Array.replicate (fn.ntmps - xs.size) undef).size = fn.ntmps := by
    have := hx.1
    simp; omega
  have g : G fo fn.ntmps m ⟨argFrame 0 args, L⟩ { tmps := xs ++ Array.replicate (fn.ntmps - xs.size) undef, defers := [] } w := by
    refine ⟨hsz, ?_, hi, hD.symm⟩
    intro t y hy
    obtain ⟨h1, h2, h3⟩ := mem_argFrame hy
    simp only [Nat.sub_zero, Nat.zero_add] at h2 h3
    refine ⟨by omega, ?_⟩
    have hlt : t < xs.size := by rw [hx.1]; exact h3
    have : (xs ++ Array.replicate (fn.ntmps - xs.size) undef).getD t undef = xs[t] := by
      simp [Array.getD, hlt]
      omega
    rw [this]
    exact hx.2 t _ y (Array.getElem?_eq_getElem hlt) h2
  have h0 := h fo m _ w (fun _ => ⟨hr0, hnm⟩) g
  rw [hr0] at h0
  refine Code.wpIn_mono (F := Fence.wide) ?_ h0
  rintro e a' w' ⟨ms, m', x, s', hm, hq, g', hx', st⟩
  have hdef : a'.defers = ms.map (fun r => ⟨.collected r, #[]⟩) := by
    rw [g'.defers]
    simp [FO.mark, hD]
  have stp : ∀ w2 : World, w2.os = w'.os → w2.tape = w'.tape → w2.output = w'.output → w'.heap.size ≤ w2.heap.size → (∀ b, b ∉ ms → w2.heap[b]? = w'.heap[b]?) →
      G (fo.mark ms) fn.ntmps m' s' a' w2 ∧ Inv fo m' s'.L w2 ∧ Step w (own m) w2 (own m') := by
    intro w2 h1 h2 h3 h4 h5
    have g2 := g'.others h4 (fun b _ hnf => h5 b (fun hb => hnf (.inr hb)))
    refine ⟨g2, g2.inv.less (fun b hb => Or.inl hb), ⟨h1.trans st.os, h2.trans st.tape, h3.trans st.output, Nat.le_trans st.size h4, fun b hb ho => ?_, st.owned⟩⟩
    rw [h5 b (fun hbm => by have := (hm.2 b hbm).1; omega)]
    exact st.block b hb ho
  have less : ∀ {w2 : World} {v : Value} {y : V}, RelV w2 (OO (fo.mark ms) m') m' v y → RelV w2 (OO fo m') m' v y := fun h => h.mono (Keep.refl _ _) (fun b _ hb => hb.imp id Or.inl) (fun _ _ h => h)
  have retn : ∀ (ys : List V) (c' : Prop), resVs P s' fn.results.toList = some (ys, c') → c' → R (.ret (tupV ys)) s'.L → LeavesInM Fence.wide 0 P fn a'.tmps (CPost fo m w R) a'.defers .returning w' := by
    intro ys c' hr hc hR
    rw [hdef]
    refine leaves_marks (by simp) ms w' hm.1.1 (fun r hr => (hm.2 r hr).2) (fun w2 h1 h2 h3 h4 h5 => ?_)
    obtain ⟨g2, i2, st2⟩ := stp w2 h1 h2 h3 h4 h5
    obtain ⟨v, k1, k2⟩ := results_sound g2 hr hc
    exact ⟨v, k1, m', _, _, hR, less k2, i2, st2⟩
  cases e with
  | normal =>
    cases x <;> simp only [Exits] at hx'
    simp only [FPost] at hq
    split at hq
    · rename_i ys c' hr
      exact retn ys c' hr hq.1 hq.2
    · exact hq.elim
  | ret =>
    cases x <;> simp only [Exits] at hx'
    simp only [FPost] at hq
    split at hq
    · rename_i ys c' hr
      exact retn ys c' hr hq.1 hq.2
    · exact hq.elim
  | panic ch =>
    cases x <;> simp only [Exits] at hx'
    simp only [FPost] at hq
    show LeavesInM Fence.wide 0 P fn a'.tmps (CPost fo m w R) a'.defers (.panicking ch) w'
    rw [hdef]
    refine leaves_marks (by simp) ms w' hm.1.1 (fun r hr => (hm.2 r hr).2) (fun w2 h1 h2 h3 h4 h5 => ?_)
    obtain ⟨g2, i2, st2⟩ := stp w2 h1 h2 h3 h4 h5
    obtain ⟨v, older, rfl, hold, hv⟩ := hx'
    exact ⟨m', _, _, hq, ⟨v, older, rfl, hold, less (hv.mono ⟨h4, fun b hb ho => h5 b (fun hbm => ho (.inr (.inr hbm)))⟩ (fun _ _ h => h) (fun _ _ h => h))⟩, i2, st2⟩
  | exit i => cases x <;> simp only [Exits] at hx'; exact hq.elim
  | goto i => cases x <;> simp only [Exits] at hx'; exact hq.elim
  | outgrown => cases x <;> simp only [Exits] at hx'
theorem ACalls.of_AWP {P : Program} {f : FuncId} {fn : Func} {c : Code} {args : List V} {L : Heap} {R : AE → Heap → Prop} (hf : P.funcs[f]? = some fn) (hb : fn.body = some c) (hn : args.length ≤ fn.ntmps)
    (h : AWP P fn.ntmps c ⟨argFrame 0 args, L⟩ (FPost P fn.results.toList R)) : ACalls P f args L R := by
  intro fo m w xs hi hx
  have key : ∀ fo : FO, fo.D = [] → fo.r = none → fo.nm = false → Inv fo m L w → RelVs w (OO fo m) m xs args → Calls P f xs w (CPost fo m w R) := by
    clear hi hx fo
    intro fo hD hr0 hnm hi hx
    exact ACalls.of_AWP0 hf hb hn h hD hr0 hnm hi hx
  exact (key ⟨fo.f, [], none, false⟩ rfl rfl rfl ⟨hi.nodup, hi.dom, hi.apart, hi.others, hi.folt, hi.holds, hi.glob⟩ hx).mono fun _ _ ⟨m', r, L', h1, h2, h3, h4⟩ => ⟨m', r, L', h1, h2, ⟨h3.nodup, h3.dom, h3.apart, h3.others, h3.folt, h3.holds, h3.glob⟩, h4⟩
end Go.Ab

namespace Go.Ab
section
variable {P : Program} {w w' : World} {fo : FO} {m m' : Nat → Option Value} {L : Heap} {n : Nat} {s : St} {a : Act} {Q : AX → St → Prop}
def OpT (P : Program) (o : Oper) (ρa : Operand → V) (L : Heap) (x : V) : Prop :=
  ∀ fo m (ρ : Operand → Value) w, Inv fo m L w → (∀ z, z ∈ o.op.operands → RelV w (OO fo m) m (ρ z) (ρa z)) →
    (∃ v, (execOp ρ o).run P w = .ok (.value v) w ∧ RelV w (OO fo m) m v x) ∨
    ∃ f args, (execOp ρ o).run P w = .ok (.enter f args) w ∧ Calls P f args w (fun e w' => ∃ v, e = .returned v ∧ RelV w' (OO fo m) m v x ∧ Inv fo m L w' ∧ Step w (own m) w' (own m))
theorem OpT.of_Q {o : Oper} {ρa : Operand → V} {x : V} (h : OpQ P o ρa L x) : OpT P o ρa L x := fun fo m ρ w hi hr => .inl (h fo m ρ w hi hr)
def enters (P : Program) (f : FuncId) : Bool :=
  match P.funcs[f]? with
  | some fn => fn.name != "runtime.NumGoroutine" && fn.body.isSome
  | none => false
theorem run_callFunc {f : FuncId} (h : enters P f = true) (args : Array Value) (w : World) : (callFunc f args).run P w = .ok (.enter f args) w := by
  unfold enters at h
  split at h
  · rename_i fn hf
    simp only [Bool.and_eq_true, bne_iff_ne, ne_eq] at h
    cases hb : fn.body with
    | none => rw [hb] at h; simp at h
    | some c => simp [callFunc, hf, h.1, hb]
  · cases h
def callee (ρ : Operand → V) (c : Call) : Option (FuncId × List V) :=
  match c.callee with
  | .value fo => match ρ fo with
    | .clo (.func f) first caps => some (f, first ++ c.args.toList.map ρ ++ caps)
    | _ => none
  | _ => none
theorem clo_inv {x : Value} {fn : Fn} {cf cc : List V} {O : Nat → Prop} (hr : RelV w O m x (.clo fn cf cc)) : ∃ first caps : Array Value, x = .func fn first caps ∧ first.size = cf.length ∧ caps.size = cc.length ∧
    (∀ (j : Nat) (x : Value) (y : V), first[j]? = some x → cf[j]? = some y → RelV w O m x y) ∧ (∀ (j : Nat) (x : Value) (y : V), caps[j]? = some x → cc[j]? = some y → RelV w O m x y) := by
  cases hr with
  | clo _ first caps _ _ s1 s2 h1 h2 => exact ⟨first, caps, rfl, s1, s2, h1, h2⟩
theorem RelVs.append {O : Nat → Prop} {xs xs' : Array Value} {ys ys' : List V} (h : RelVs w O m xs ys) (h' : RelVs w O m xs' ys') : RelVs w O m (xs ++ xs') (ys ++ ys') := by
  refine ⟨by simp [h.1, h'.1], fun j x y hx hy => ?_⟩
  rw [Array.getElem?_append] at hx
  rw [List.getElem?_append] at hy
  rw [h.1] at hx
  split at hx
  · rename_i hj; rw [if_pos hj] at hy; exact h.2 j x y hx hy
  · rename_i hj; rw [if_neg hj] at hy; exact h'.2 _ x y hx hy
theorem map_rel2 {ρ : Operand → Value} {ρa : Operand → V} {O : Nat → Prop} (l : Array Operand) (h : ∀ z, z ∈ l → RelV w O m (ρ z) (ρa z)) :
    ∀ (j : Nat) (x : Value) (y : V), (l.map ρ)[j]? = some x → (l.toList.map ρa)[j]? = some y → RelV w O m x y := by
  intro j x y hx hy
  rw [Array.getElem?_map] at hx
  rw [List.getElem?_map, Array.getElem?_toList] at hy
  obtain ⟨z, hz, rfl⟩ := Option.map_eq_some_iff.1 hx
  obtain ⟨z', hz', rfl⟩ := Option.map_eq_some_iff.1 hy
  rw [hz] at hz'
  obtain rfl := Option.some.inj hz'
  exact h z (Array.mem_of_getElem? hz)
theorem call_enters {o : Oper} {c : Call} {ρ : Operand → Value} {ρa : Operand → V} {f : FuncId} {args : List V} {O : Nat → Prop} (hop : o.op = .call c) (hc : callee ρa c = some (f, args)) (he : enters P f = true)
    (hr : ∀ z, z ∈ o.op.operands → RelV w O m (ρ z) (ρa z)) : ∃ xs, (execOp ρ o).run P w = .ok (.enter f xs) w ∧ RelVs w O m xs args := by
  unfold callee at hc
  split at hc
  · rename_i fop hcal
    split at hc
    · rename_i f' first caps hfo
      simp only [Option.some.injEq, Prod.mk.injEq] at hc
      obtain ⟨rfl, rfl⟩ := hc
      have h1 := hr fop (by rw [hop]; simp [Op.operands, Call.operands, hcal])
      rw [hfo] at h1
      obtain ⟨fa, ca, e, s1, s2, g1, g2⟩ := clo_inv h1
      refine ⟨fa ++ c.args.map ρ ++ ca, ?_, ?_⟩
      · have := run_callFunc he (fa ++ c.args.map ρ ++ ca) w
        simp only [execOp, hop, resolve, hcal, e, Deferred.ofValue, Sem.run_bind, Sem.run_pure, Result.andThen_ok, invoke]
        exact this
      · refine (RelVs.append ⟨s1, g1⟩ ?_).append ⟨s2, g2⟩
        refine ⟨by simp, ?_⟩
        exact map_rel2 c.args fun z hz => hr z (by rw [hop]; simp [Op.operands, Call.operands, hz])
    · cases hc
  · cases hc
theorem Inv.grown (hi : Inv fo m L w) (hs : w.heap.size ≤ w'.heap.size) (hb : ∀ b, b < w.heap.size → w'.heap[b]? = w.heap[b]?) : Inv fo m L w' := by
  refine ⟨hi.nodup, hi.dom, hi.apart, hi.others, fun b hf => Nat.lt_of_lt_of_le (hi.folt b hf) hs, ?_, hi.glob.mono ⟨hs, fun b hb' _ => hb b hb'⟩ (fun _ _ e => e)⟩
  intro h r hr
  obtain ⟨x, hx, hh⟩ := hi.holds h r hr
  exact ⟨x, hx, hh.mono (fun b hbx => hb b (hi.lt hx hbx)) ⟨hs, fun b hb' _ => hb b hb'⟩ (fun _ _ e => e) (fun _ _ e => e)⟩
def noneM : Nat → Option Value := fun _ => none
theorem noneM_own (b : Nat) : ¬ own noneM b := by rintro ⟨h, x, hx, _⟩; cases hx
theorem Inv.none_ (hi : Inv fo m L w) {fo1 : FO} (hf : ∀ b, fo1 b → OO fo m b) : Inv fo1 noneM [] w :=
  ⟨by simp [keys], (by intro h x hx; cases hx), (by intro h h' x x' b hx; cases hx), (by intro h x b hx; cases hx), (fun b hb => hi.OO_lt (hf b hb)), (by intro h r hr; cases hr), hi.glob.mono (Keep.refl w _) (fun b _ hb => hb.elim (fun h => (noneM_own b h).elim) (hf b))⟩
theorem OpT.call {o : Oper} {c : Call} {ρa : Operand → V} {f : FuncId} {args : List V} {x : V} (hop : o.op = .call c) (hc : callee ρa c = some (f, args)) (he : enters P f = true) (ho : V.ons [] args = true) (hx : x.on [] = true)
    (h : ACalls P f args [] (fun r _ => r = .ret x)) : OpT P o ρa L x := by
  intro fo m ρ w hi hr
  obtain ⟨xs, h1, h2⟩ := call_enters (P := P) hop hc he hr
  refine .inr ⟨f, xs, h1, ?_⟩
  have hrel : RelVs w (OO (OO fo m) noneM) noneM xs args := by
    refine ⟨h2.1, fun j v y hv hy => ?_⟩
    have := (h2.2 j v y hv hy).on (ks := []) (m' := noneM) (by simp) (ons_mem ho y (List.mem_of_getElem? hy))
    exact this.mono (Keep.refl w _) (fun b _ hb => hb.elim (fun h => (noneM_own b h).elim) id) (fun _ _ e => e)
  refine (h (OO fo m) noneM w xs (hi.none_ fun b hb => hb) hrel).mono ?_
  rintro e w' ⟨m1, r, L', rfl, he', hi', st⟩
  cases e with
  | returned v =>
    simp only [Ends] at he'
    refine ⟨v, rfl, ?_, hi.grown st.size (fun b hb => st.block b hb (noneM_own b)), ⟨st.os, st.tape, st.output, st.size, fun b hb _ => st.block b hb (noneM_own b), fun b hb h => h⟩⟩
    have := he'.on (ks := []) (m' := m) (by simp) hx
    exact this.mono (Keep.refl w' _) (fun b _ hb => .inr hb) (fun _ _ e => e)
  | panicked ch => simp only [Ends] at he'
  | outgrown => simp only [Ends] at he'
theorem AOps.quietT {ops : Array Oper} {o : Oper} {rest : List Oper} {x : V} (hg : o.guard = none) (hd : ∀ d, o.dst = some d → d < n) (h : OpT P o s.ev s.L x) (k : AOps P n ops rest (s.put o.dst x) Q) : AOps P n ops (o :: rest) s Q := by
  intro fo m0 w0 m a w st g
  rcases h fo m a.eval w g.inv (fun z _ => eval_rel g z) with ⟨v, hrun, hr⟩ | ⟨f, args, hrun, hc⟩
  · exact wpList_ok (by simp [Region.wanted, hg]) hrun (.inl rfl) (k fo m0 w0 m _ w st (g.put hd hr))
  · unfold wpListIn
    rw [if_pos (by simp [Region.wanted, hg])]
    refine owp_enter hrun ?_
    refine hc.mono ?_
    rintro e w' ⟨v, rfl, hr, hi', st'⟩
    have hkeep : Keep w (OO fo m) w' := ⟨st'.size, fun b hb ho => st'.block b hb (fun h => ho (.inl h))⟩
    have g' : G fo n m s a w' := ⟨g.size, fun t y hy => ⟨(g.fr t y hy).1, (g.fr t y hy).2.mono hkeep (fun _ _ h => h) (fun _ _ h => h)⟩, hi', g.defers⟩
    exact k fo m0 w0 m _ w' (st.trans st') (g'.put hd hr)
theorem AOps.guardedT {ops : Array Oper} {o : Oper} {rest : List Oper} {b : Bool} {x : V} (hgd : guardV ops s o = some (some b)) (hd : ∀ d, o.dst = some d → d < n)
    (h : b = true → ∃ ρa : Operand → V, (∀ z, z ∈ o.op.operands → ∀ w O m v, RelV w O m v (s.ev z) → RelV w O m v (ρa z)) ∧ OpT P o ρa s.L x) (k : AOps P n ops rest (s.put o.dst (.gd b x)) Q) : AOps P n ops (o :: rest) s Q := by
  intro fo m0 w0 m a w st g
  have hw := guard_wanted g hgd
  cases b with
  | true =>
    obtain ⟨ρa, h1, h2⟩ := h rfl
    rcases h2 fo m a.eval w g.inv (fun z hz => h1 z hz _ _ _ _ (eval_rel g z)) with ⟨v, hrun, hr⟩ | ⟨f, args, hrun, hc⟩
    · exact wpList_ok hw hrun (.inl rfl) (k fo m0 w0 m _ w st (g.put hd (.gt _ _ hr)))
    · unfold wpListIn
      rw [if_pos hw]
      refine owp_enter hrun ?_
      refine hc.mono ?_
      rintro e w' ⟨v, rfl, hr, hi', st'⟩
      have hkeep : Keep w (OO fo m) w' := ⟨st'.size, fun b hb ho => st'.block b hb (fun h => ho (.inl h))⟩
      have g' : G fo n m s a w' := ⟨g.size, fun t y hy => ⟨(g.fr t y hy).1, (g.fr t y hy).2.mono hkeep (fun _ _ h => h) (fun _ _ h => h)⟩, hi', g.defers⟩
      exact k fo m0 w0 m _ w' (st.trans st') (g'.put hd (.gt _ _ hr))
  | false =>
    unfold wpListIn
    rw [if_neg (by rw [hw]; simp)]
    exact ⟨fun _ _ => trivial, k fo m0 w0 m _ w st (g.put hd (.gf _))⟩
def OKCall (P : Program) (f : FuncId) (args : List V) (L : Heap) (x : V) : Prop := ∀ (o : Oper) (c : Call) (ρa : Operand → V), o.op = .call c → callee ρa c = some (f, args) → OpT P o ρa L x
def CallA (P : Program) : Option (FuncId × List V) → Heap → V → Prop
  | some (f, args), L, x => OKCall P f args L x
  | none, _, _ => False
def CallC (P : Program) (s : St) (o : Oper) (x : V) : Prop :=
  match o.op with
  | .call c => CallA P (callee s.ev c) s.L x
  | _ => False
def CallG (P : Program) (s : St) (o : Oper) (x : V) : Prop :=
  uncs s o.op.operands.toList ∧ match o.op with
  | .call c => CallA P (callee (fun z => (s.ev z).un) c) s.L x
  | _ => False
theorem CallA.opT {o : Oper} {c : Call} {ρa : Operand → V} {x : V} (hop : o.op = .call c) (h : CallA P (callee ρa c) L x) : OpT P o ρa L x := by
  cases hc : callee ρa c with
  | none => rw [hc] at h; exact h.elim
  | some p =>
    obtain ⟨f, args⟩ := p
    rw [hc] at h
    exact h o c ρa hop hc
theorem CallC.opT {o : Oper} {x : V} (h : CallC P s o x) : OpT P o s.ev s.L x := by
  unfold CallC at h
  split at h
  · rename_i c hc; exact CallA.opT hc h
  · exact h.elim
theorem CallG.opT {o : Oper} {x : V} (h : CallG P s o x) : ∃ ρa : Operand → V, (∀ z, z ∈ o.op.operands → ∀ w O m v, RelV w O m v (s.ev z) → RelV w O m v (ρa z)) ∧ OpT P o ρa s.L x := by
  unfold CallG at h
  refine ⟨fun z => (s.ev z).un, fun z hz w O m v hr => un_rel hr (uncs_mem h.1 z (by simpa using hz)), ?_⟩
  have h2 := h.2
  split at h2
  · rename_i c hc; exact CallA.opT hc h2
  · exact h2.elim
def isCall (o : Oper) : Bool :=
  match o.op with
  | .call { callee := .value _, .. } => true
  | _ => false
def callStep (P : Program) (ops : Array Oper) (s : St) (o : Oper) (us : List V) : Option (St × Prop × List V) :=
  match us with
  | [] => none
  | x :: us => match guardV ops s o with
    | some none => some (s.put o.dst x, CallC P s o x, us)
    | some (some g) => some (s.put o.dst (.gd g x), g = true → CallG P s o x, us)
    | none => none
def runC (P : Program) (ops : Array Oper) : List Oper → St → (Nat → Nat) → List V → (St → List Oper → Prop) → Prop
  | [], s, _, _, K => K s []
  | o :: rest, s, bs, us, K =>
    if isCall o then
      match callStep P ops s o us with
      | some (s', c, us') => c ∧ runC P ops rest s' bs us' K
      | none => K s (o :: rest)
    else
    match stepQ P ops s o with
    | some (s', c) => c ∧ runC P ops rest s' bs us K
    | none =>
      match guardV ops s o with
      | some none => match stepL P (s.fgt o) o (bs 0 + 1) with
        | some (x, s', c) => c ∧ runC P ops rest (s'.put o.dst x) (fun i => bs (i + 1)) us K
        | none => K s (o :: rest)
      | some (some true) => match stepL P (unO s o) o (bs 0 + 1) with
        | some (x, s', c) => (loudM o = true ∧ uncs s o.op.operands.toList ∧ c) ∧ runC P ops rest (St.put ⟨killO (killOf (unO s o) o) s.fr, s'.L⟩ o.dst (.gd true x)) (fun i => bs (i + 1)) us K
        | none => K s (o :: rest)
      | some (some false) => runC P ops rest (s.put o.dst (.gd false .any)) bs us K
      | none => K s (o :: rest)
def KK (P : Program) (n : Nat) (ops : Array Oper) (Q : AX → St → Prop) (s : St) : List Oper → Prop
  | [] => Q .normal s
  | r => AOps P n ops r s Q
theorem KK_ops {ops : Array Oper} {r : List Oper} (h : KK P n ops Q s r) : AOps P n ops r s Q := by
  cases r with
  | nil => exact AOps.nil h
  | cons o r => exact h
def dstsOk (n : Nat) (l : List Oper) : Bool := l.all fun o => match o.dst with | some d => decide (d < n) | none => true
theorem runC_sound {ops : Array Oper} : ∀ (l : List Oper) (s : St) (us : List V), dstsOk n l = true →
    (∀ bs, runC P ops l s bs us (KK P n ops Q)) → AOps P n ops l s Q
  | [], s, us, _, h => KK_ops (h (fun _ => 0))
  | o :: rest, s, us, hd, h => by
    have hd1 : ∀ d, o.dst = some d → d < n := by
      intro d hd'
      simp only [dstsOk, List.all_cons, Bool.and_eq_true] at hd
      have := hd.1
      rw [hd'] at this
      simpa using this
    have hd2 : dstsOk n rest = true := by
      simp only [dstsOk, List.all_cons, Bool.and_eq_true] at hd; exact hd.2
    have h0 := h (fun _ => 0)
    rw [runC] at h0
    split at h0
    · rename_i hcall
      split at h0
      · rename_i s' c us' hcs
        have hall : ∀ bs, c ∧ runC P ops rest s' bs us' (KK P n ops Q) := by
          intro bs
          have := h bs
          rw [runC, if_pos hcall, hcs] at this
          exact this
        have hrest := runC_sound rest s' us' hd2 (fun bs => (hall bs).2)
        have hc := h0.1
        unfold callStep at hcs
        split at hcs
        · cases hcs
        · split at hcs
          · rename_i hg
            simp only [Option.some.injEq, Prod.mk.injEq] at hcs
            obtain ⟨rfl, rfl, rfl⟩ := hcs
            exact AOps.quietT (guardV_none hg) hd1 (CallC.opT hc) hrest
          · rename_i g hg
            simp only [Option.some.injEq, Prod.mk.injEq] at hcs
            obtain ⟨rfl, rfl, rfl⟩ := hcs
            exact AOps.guardedT hg hd1 (fun hb => CallG.opT (hc hb)) hrest
          · cases hcs
      · exact h0
    · rename_i hcall
      split at h0
      · rename_i s' c hq
        have hall : ∀ bs, c ∧ runC P ops rest s' bs us (KK P n ops Q) := by
          intro bs
          have := h bs
          rw [runC, if_neg hcall, hq] at this
          exact this
        exact stepQ_sound hd1 hq h0.1 (runC_sound rest s' us hd2 (fun bs => (hall bs).2))
      · rename_i hq
        split at h0
        · rename_i hgn
          split at h0
          · rename_i x0 s0 c0 hl
            have hall : ∀ (bs : Nat → Nat) (x : V) (s' : St) (c : Prop), stepL P (s.fgt o) o (bs 0 + 1) = some (x, s', c) → c ∧ runC P ops rest (s'.put o.dst x) (fun i => bs (i + 1)) us (KK P n ops Q) := by
              intro bs x s' c hb
              have := h bs
              rw [runC, if_neg hcall, hq] at this
              simp only [hgn, hb] at this
              exact this
            refine AOps.weaken (Wk.fgt o) (AOps.loud (guardV_none hgn) hd1 (stepL_sound hl h0.1) ?_)
            rintro x s' ⟨b, c, hb⟩
            exact runC_sound rest _ us hd2 (fun bs => (hall (fun i => match i with | 0 => b | i + 1 => bs i) x s' c hb).2)
          · exact h0
        · rename_i hgn
          split at h0
          · rename_i x0 s0 c0 hl
            have hall : ∀ (bs : Nat → Nat) (x : V) (s' : St) (c : Prop), stepL P (unO s o) o (bs 0 + 1) = some (x, s', c) → (loudM o = true ∧ uncs s o.op.operands.toList ∧ c) ∧ runC P ops rest (St.put ⟨killO (killOf (unO s o) o) s.fr, s'.L⟩ o.dst (.gd true x)) (fun i => bs (i + 1)) us (KK P n ops Q) := by
              intro bs x s' c hb
              have := h bs
              rw [runC, if_neg hcall, hq] at this
              simp only [hgn, hb] at this
              exact this
            refine AOps.loudG hgn hd1 (fun _ => ⟨_, x0, s0, c0, hl, h0.1⟩) (fun _ x s' b c hb => ?_) (fun h => by cases h)
            exact runC_sound rest _ us hd2 (fun bs => (hall (fun i => match i with | 0 => b | i + 1 => bs i) x s' c hb).2)
          · exact h0
        · rename_i hgn
          have hall : ∀ bs, runC P ops rest (s.put o.dst (.gd false .any)) bs us (KK P n ops Q) := by
            intro bs
            have := h bs
            rw [runC, if_neg hcall, hq] at this
            simp only [hgn] at this
            exact this
          exact AOps.loudG hgn hd1 (fun h => by cases h) (fun h => by cases h) (fun _ => runC_sound rest _ us hd2 hall)
        · exact h0
def codeK (P : Program) (n : Nat) : Code → St → (AX → St → Prop) → Prop
  | .skip, s, Q => Q .normal s
  | .seq x y, s, Q => codeK P n x s (AX.then (fun s' => codeK P n y s' Q) Q)
  | .cond c x y, s, Q => match s.ev c with
    | .d (.v (.bool b)) => (b = true → codeK P n x s Q) ∧ (b = false → codeK P n y s Q)
    | _ => False
  | .block id c, s, Q => codeK P n c s (AX.inBlock id Q)
  | .exit id, s, Q => Q (.exit id) s
  | .ret, s, Q => Q .ret s
  | .region id ops draw, s, Q => if draw then AWP P n (.region id ops draw) s Q else dstsOk n ops.toList = true ∧ ∀ bs, runC P ops ops.toList s bs [] (KK P n ops Q)
  | c, s, Q => AWP P n c s Q
theorem AX.then_mono {f g : St → Prop} {Q Q' : AX → St → Prop} (h : ∀ s, f s → g s) (hq : ∀ x s, Q x s → Q' x s) (x : AX) (s : St) (hx : AX.then f Q x s) : AX.then g Q' x s := by
  cases x <;> simp only [AX.then] at hx ⊢ <;> first | exact h _ hx | exact hq _ _ hx
theorem wp_region_toList {r : Option Nat} {id : Nat} {ops : Array Oper} {Q : Exit → Act → World → Prop} {a : Act} {w : World} (h : wpListIn (wr r) 0 P ops Q ops.toList a w) : (Code.region id ops false).wpIn (wr r) 0 P Q a w := wpIn_region_list h
theorem codeK_sound : ∀ (c : Code) (s : St) (Q : AX → St → Prop), codeK P n c s Q → AWP P n c s Q
  | .skip, s, Q, h => AWP.skip h
  | .seq x y, s, Q, h => AWP.seq (AWP.mono (codeK_sound x s _ h) (AX.then_mono (fun s' h' => codeK_sound y s' Q h') (fun _ _ h => h)))
  | .cond c x y, s, Q, h => by
    simp only [codeK] at h
    split at h
    · rename_i b hb
      exact AWP.cond hb (fun hb => codeK_sound x s Q (h.1 hb)) (fun hb => codeK_sound y s Q (h.2 hb))
    · exact h.elim
  | .block id c, s, Q, h => AWP.block (codeK_sound c s _ h)
  | .exit id, s, Q, h => AWP.exit h
  | .ret, s, Q, h => AWP.ret h
  | .region id ops draw, s, Q, h => by
    simp only [codeK] at h
    split at h
    · exact h
    · rename_i hd
      have : draw = false := by simpa using hd
      subst this
      intro fo m a w _ g
      exact wp_region_toList (runC_sound ops.toList s [] h.1 h.2 fo m w m a w (Step.refl w _) g)
  | .loop c, s, Q, h => h
  | .rangeFunc .., s, Q, h => h
  | .scope c, s, Q, h => h
  | .label l, s, Q, h => h
  | .goto l, s, Q, h => h
  | .refuse _, s, Q, h => h
end
end Go.Ab

namespace Go.Ab
section
variable {P : Program} {n : Nat} {Q : AX → St → Prop}
def YOp (P : Program) (ops : Array Oper) (o : Oper) (s : St) (x : V) : Prop :=
  ∀ fo m (a : Act) w, Inv fo m s.L w → (∀ t, t ∈ o.looksAt ops → RelV w (OO fo m) m (a.tmps.getD t undef) (s.get t)) →
    ∀ (next : Act → World → Prop) (Q' : Exit → Act → World → Prop), (∀ v w', RelV w' (OO fo m) m v x → Inv fo m s.L w' → Step w (own m) w' (own m) → next (a.put o.dst v) w') →
      if Region.wanted o (yielded ops a.tmps) then o.wpIn (wr fo.r) 0 P a w next Q' else next (a.put o.dst undef) w
theorem eval_of_slots {s : St} {w : World} {fo : FO} {m : Nat → Option Value} {a : Act} {z : Operand} (hgb : Globs w (OO fo m)) (h : ∀ t, z = .tmp t → RelV w (OO fo m) m (a.tmps.getD t undef) (s.get t)) : RelV w (OO fo m) m (a.eval z) (s.ev z) := by
  cases z with
  | tmp t => exact h t rfl
  | const v =>
    simp only [Act.eval, St.ev]
    unfold evConst
    split
    · rename_i h; exact .d _ _ (.v _ h)
    · exact .any _
  | global i => exact glob_rel hgb i
  | func f => exact .clo _ _ _ _ _ rfl rfl (by simp) (by simp)
theorem looks_operand {ops : Array Oper} {o : Oper} {t : Tmp} (h : Operand.tmp t ∈ o.op.operands) : t ∈ o.looksAt ops := by
  unfold Oper.looksAt
  refine List.mem_append.2 (.inl (List.mem_filterMap.2 ⟨.tmp t, by simpa using h, rfl⟩))
theorem looks_guard {ops : Array Oper} {o : Oper} {j : Nat} {want : Bool} {t : Tmp} (h : o.guard = some (j, want)) (ht : (ops[j]?).bind (·.dst) = some t) : t ∈ o.looksAt ops := by
  unfold Oper.looksAt
  refine List.mem_append.2 (.inr ?_)
  simp [h, ht]
theorem guard_wanted' {ops : Array Oper} {o : Oper} {s : St} {w : World} {fo : FO} {m : Nat → Option Value} {a : Act} (hs : ∀ t, t ∈ o.looksAt ops → RelV w (OO fo m) m (a.tmps.getD t undef) (s.get t)) {b : Bool} (h : guardV ops s o = some (some b)) :
    Region.wanted o (yielded ops a.tmps) = b := by
  unfold guardV at h
  split at h
  · cases h
  · rename_i j want hg
    split at h
    · rename_i t ht
      have hr := hs t (looks_guard hg ht)
      have hy : ∀ b', a.tmps.getD t undef = .bool b' → Region.wanted o (yielded ops a.tmps) = (b' == want) := by
        intro b' hb'
        have hs : a.tmps[t]? = some (.bool b') := by
          simp only [Array.getD_eq_getD_getElem?] at hb'
          cases hx : a.tmps[t]? with
          | none => rw [hx] at hb'; simp [undef] at hb'
          | some x => rw [hx] at hb'; simp only [Option.getD_some] at hb'; rw [hb']
        simp only [Region.wanted, hg, yielded, ht, Option.bind_some, hs]
        cases b' <;> cases want <;> rfl
      split at h
      · rename_i b' hget
        simp only [Option.some.injEq] at h
        subst h
        rw [hget] at hr
        exact hy b' hr.v_inv
      · rename_i g0 x0 hget
        rcases gdG_some h with ⟨rfl, hb⟩ | ⟨b', rfl, hb⟩
        · simp only [Option.some.injEq] at hb
          subst hb
          rw [hget] at hr
          generalize hv : a.tmps.getD t undef = v at hr
          cases hr with
          | gf _ =>
            have hs : yielded ops a.tmps j = none := by
              simp only [yielded, ht, Option.bind_some]
              simp only [Array.getD_eq_getD_getElem?] at hv
              cases hx : a.tmps[t]? with
              | none => rfl
              | some x => rw [hx] at hv; simp only [Option.getD_some] at hv; rw [hv]; rfl
            simp [Region.wanted, hg, hs]
        · simp only [Option.some.injEq] at hb
          subst hb
          rw [hget] at hr
          generalize hv : a.tmps.getD t undef = v at hr
          cases hr with
          | gt _ _ hr => rw [hy b' (by rw [hv]; exact hr.v_inv)]; simp
          | gf _ =>
            have hs : yielded ops a.tmps j = none := by
              simp only [yielded, ht, Option.bind_some]
              simp only [Array.getD_eq_getD_getElem?] at hv
              cases hx : a.tmps[t]? with
              | none => rfl
              | some x => rw [hx] at hv; simp only [Option.getD_some] at hv; rw [hv]; rfl
            simp [Region.wanted, hg, hs]
      · cases h
    · cases h
theorem opT_wp {o : Oper} {ρa : Operand → V} {L : Heap} {x : V} (h : OpT P o ρa L x) {fo : FO} {m : Nat → Option Value} {a : Act} {w : World} (hi : Inv fo m L w) (hr : ∀ z, z ∈ o.op.operands → RelV w (OO fo m) m (a.eval z) (ρa z))
    {next : Act → World → Prop} {Q' : Exit → Act → World → Prop} (k : ∀ v w', RelV w' (OO fo m) m v x → Inv fo m L w' → Step w (own m) w' (own m) → next (a.put o.dst v) w') : o.wpIn (wr fo.r) 0 P a w next Q' := by
  rcases h fo m a.eval w hi hr with ⟨v, hrun, hr'⟩ | ⟨f, args, hrun, hc⟩
  · exact owp_val hrun (.inl rfl) (k v w hr' hi (Step.refl w _))
  · refine owp_enter hrun ?_
    refine hc.mono ?_
    rintro e w' ⟨v, rfl, hr', hi', st'⟩
    exact k v w' hr' hi' st'
theorem yop_plain {ops : Array Oper} {o : Oper} {s : St} {x : V} (hg : o.guard = none) (h : OpT P o s.ev s.L x) : YOp P ops o s x := by
  intro fo m a w hi hs next Q' k
  rw [if_pos (by simp [Region.wanted, hg])]
  exact opT_wp h hi (fun z hz => eval_of_slots hi.glob (fun t ht => hs t (looks_operand (by rw [← ht]; exact hz)))) k
theorem yop_guard {ops : Array Oper} {o : Oper} {s : St} {x : V} {b : Bool} (hgd : guardV ops s o = some (some b))
    (h : b = true → ∃ ρa : Operand → V, (∀ z, z ∈ o.op.operands → ∀ w O m v, RelV w O m v (s.ev z) → RelV w O m v (ρa z)) ∧ OpT P o ρa s.L x) : YOp P ops o s (.gd b x) := by
  intro fo m a w hi hs next Q' k
  have hw := guard_wanted' hs hgd
  cases b with
  | true =>
    obtain ⟨ρa, h1, h2⟩ := h rfl
    rw [if_pos hw]
    exact opT_wp h2 hi (fun z hz => h1 z hz _ _ _ _ (eval_of_slots hi.glob (fun t ht => hs t (looks_operand (by rw [← ht]; exact hz))))) (fun v w' hr => k v w' (.gt _ _ hr))
  | false =>
    rw [if_neg (by rw [hw]; simp)]
    exact k undef w (.gf _) hi (Step.refl w _)
def runD (P : Program) (ops : Array Oper) : List Oper → St → List V → (St → Prop) → Prop
  | [], s, _, K => K s
  | o :: rest, s, us, K =>
    if isCall o then
      match callStep P ops s o us with
      | some (s', c, us') => c ∧ runD P ops rest s' us' K
      | none => False
    else
    match stepQ P ops s o with
    | some (s', c) => c ∧ runD P ops rest s' us K
    | none => False
inductive Trace (P : Program) (ops : Array Oper) : List Oper → St → List (St × V) → St → Prop
  | nil (s : St) : Trace P ops [] s [] s
  | cons {o : Oper} {rest : List Oper} {s : St} {x : V} {l : List (St × V)} {s' : St} (h : YOp P ops o s x) (k : Trace P ops rest (s.put o.dst x) l s') : Trace P ops (o :: rest) s ((s, x) :: l) s'
theorem runD_trace {ops : Array Oper} {K : St → Prop} : ∀ (l : List Oper) (s : St) (us : List V), runD P ops l s us K → ∃ tr s', Trace P ops l s tr s' ∧ K s'
  | [], s, us, h => ⟨[], s, .nil s, h⟩
  | o :: rest, s, us, h => by
    rw [runD] at h
    split at h
    · rename_i hcall
      split at h
      · rename_i s' c us' hcs
        obtain ⟨tr, s1, h1, h2⟩ := runD_trace rest s' us' h.2
        have hc := h.1
        unfold callStep at hcs
        split at hcs
        · cases hcs
        · split at hcs
          · rename_i hg
            simp only [Option.some.injEq, Prod.mk.injEq] at hcs
            obtain ⟨rfl, rfl, rfl⟩ := hcs
            exact ⟨_, _, .cons (yop_plain (guardV_none hg) (CallC.opT hc)) h1, h2⟩
          · rename_i g hg
            simp only [Option.some.injEq, Prod.mk.injEq] at hcs
            obtain ⟨rfl, rfl, rfl⟩ := hcs
            exact ⟨_, _, .cons (yop_guard hg (fun hb => CallG.opT (hc hb))) h1, h2⟩
          · cases hcs
      · exact h.elim
    · split at h
      · rename_i s' c hq
        obtain ⟨tr, s1, h1, h2⟩ := runD_trace rest s' us h.2
        have hc := h.1
        unfold stepQ at hq
        split at hq
        · rename_i hg
          split at hq
          · rename_i x c' hx
            simp only [Option.some.injEq, Prod.mk.injEq] at hq
            obtain ⟨rfl, rfl⟩ := hq
            exact ⟨_, _, .cons (yop_plain (guardV_none hg) (.of_Q (q2_sound hx hc))) h1, h2⟩
          · cases hq
        · rename_i b hg
          split at hq
          · cases hq
          · simp only [Option.some.injEq, Prod.mk.injEq] at hq
            obtain ⟨rfl, rfl⟩ := hq
            refine ⟨_, _, .cons (yop_guard hg (fun hb => ?_)) h1, h2⟩
            obtain ⟨k1, k2⟩ := hc hb
            obtain ⟨c', h3, h4⟩ := gcon_sound k1
            exact ⟨_, gρ_rel k2, .of_Q (q2_sound h3 h4)⟩
        · cases hq
      · exact h.elim
def writes (ops : List Oper) (t : Tmp) : Option Nat := ops.findIdx? fun o => o.dst == some t
def indep (ops : List Oper) : Bool :=
  (ops.zipIdx.all fun (o, i) =>
    (match o.dst with | some d => writes ops d == some i | none => true) &&
    (o.after.toList.all fun e => !Region.binds .any e || decide (e.on < i)) &&
    ((o.looksAt ops.toArray).all fun t => match writes ops t with
      | none => true
      | some j => if j < i then o.after.toList.any fun e => Region.binds .any e && e.on == j
        else decide (i < j) && (match ops[j]? with | some oj => oj.after.toList.any fun e => Region.binds .any e && e.on == i | none => false)))
theorem Trace.len {ops : Array Oper} {l : List Oper} {s s' : St} {tr : List (St × V)} (h : Trace P ops l s tr s') : tr.length = l.length ∧ s'.L = s.L := by
  induction h with
  | nil s => exact ⟨rfl, rfl⟩
  | @cons o rest s x l s' h k ih =>
    refine ⟨by simp [ih.1], ih.2.trans ?_⟩
    unfold St.put
    split <;> rfl
theorem Trace.at {ops : Array Oper} {l : List Oper} {s s' : St} {tr : List (St × V)} (h : Trace P ops l s tr s') : ∀ (i : Nat) (si : St) (xi : V), tr[i]? = some (si, xi) → si.L = s.L ∧ ∃ o : Oper, l[i]? = some o ∧ YOp P ops o si xi := by
  induction h with
  | nil s => intro i si xi h; simp at h
  | @cons o rest s x l s' h k ih =>
    intro i si xi hi
    cases i with
    | zero =>
      simp only [List.getElem?_cons_zero, Option.some.injEq, Prod.mk.injEq] at hi
      obtain ⟨rfl, rfl⟩ := hi
      exact ⟨rfl, o, rfl, h⟩
    | succ i =>
      simp only [List.getElem?_cons_succ] at hi ⊢
      obtain ⟨h1, h2⟩ := ih i si xi hi
      refine ⟨h1.trans ?_, h2⟩
      unfold St.put
      split <;> rfl
theorem getF_delF {t d : Nat} (h : t ≠ d) : ∀ l : List (Nat × V), getF t (delF d l) = getF t l
  | [] => rfl
  | (k, x) :: l => by
    rw [delF, getF]
    split
    · rename_i hk; subst hk; rw [if_neg (fun e => h e.symm)]; exact getF_delF h l
    · rw [getF, getF_delF h l]
theorem get_put {s : St} {o : Option Nat} {x : V} {t : Nat} (h : o ≠ some t) : (s.put o x).get t = s.get t := by
  cases o with
  | none => rfl
  | some d =>
    have hne : t ≠ d := fun e => h (by rw [e])
    simp only [St.put, St.get, getF]
    rw [if_neg (fun e => hne e.symm), getF_delF hne]
theorem get_put_same {s : St} {x : V} {t : Nat} : (s.put (some t) x).get t = x := by simp [St.put, St.get, getF]
theorem Trace.get_old {ops : Array Oper} {l : List Oper} {s s' : St} {tr : List (St × V)} (h : Trace P ops l s tr s') (t : Nat) : ∀ (i : Nat) (si : St) (xi : V), tr[i]? = some (si, xi) → (∀ (j : Nat) (o : Oper), j < i → l[j]? = some o → o.dst ≠ some t) → si.get t = s.get t := by
  induction h with
  | nil s => intro i si xi h; simp at h
  | @cons o rest s x l s' h k ih =>
    intro i si xi hi hn
    cases i with
    | zero =>
      simp only [List.getElem?_cons_zero, Option.some.injEq, Prod.mk.injEq] at hi
      rw [hi.1]
    | succ i =>
      simp only [List.getElem?_cons_succ] at hi
      rw [ih i si xi hi (fun j o' hj ho => hn (j + 1) o' (by omega) (by simpa using ho)), get_put (hn 0 o (by omega) rfl)]
theorem Trace.get_new {ops : Array Oper} {l : List Oper} {s s' : St} {tr : List (St × V)} (h : Trace P ops l s tr s') (t : Nat) : ∀ (i j : Nat) (si : St) (xi : V) (sj : St) (xj : V) (o : Oper), tr[i]? = some (si, xi) → j < i → tr[j]? = some (sj, xj) → l[j]? = some o → o.dst = some t →
    (∀ (j' : Nat) (o' : Oper), j < j' → j' < i → l[j']? = some o' → o'.dst ≠ some t) → si.get t = xj := by
  induction h with
  | nil s => intro i j si xi sj xj o h; simp at h
  | @cons o rest s x l s' h k ih =>
    intro i j si xi sj xj o' hi hji hj ho hd hn
    cases i with
    | zero => omega
    | succ i =>
      simp only [List.getElem?_cons_succ] at hi
      cases j with
      | zero =>
        simp only [List.getElem?_cons_zero, Option.some.injEq, Prod.mk.injEq] at hj ho
        obtain ⟨rfl, rfl⟩ := hj
        subst ho
        rw [k.get_old t i si xi hi (fun j' o' hj' ho' => hn (j' + 1) o' (by omega) (by omega) (by simpa using ho'))]
        rw [hd]; exact get_put_same
      | succ j =>
        simp only [List.getElem?_cons_succ] at hj ho
        exact ih i j si xi sj xj o' hi (by omega) hj ho hd (fun j' o'' h1 h2 h3 => hn (j' + 1) o'' (by omega) (by omega) (by simpa using h3))
theorem mem_put {s : St} {d : Option Nat} {x : V} {p : Nat × V} (h : p ∈ (s.put d x).fr) : (d = some p.1 ∧ x = p.2) ∨ (p ∈ s.fr ∧ d ≠ some p.1) := by
  cases d with
  | none => exact .inr ⟨h, by simp⟩
  | some d =>
    simp only [St.put, List.mem_cons] at h
    rcases h with rfl | h
    · exact .inl ⟨rfl, rfl⟩
    · obtain ⟨h1, h2⟩ := mem_delF h
      exact .inr ⟨h1, fun e => h2 (Option.some.inj e).symm⟩
theorem Trace.mem {ops : Array Oper} {l : List Oper} {s s' : St} {tr : List (St × V)} (h : Trace P ops l s tr s') : ∀ p, p ∈ s'.fr → (∃ (j : Nat) (o : Oper) (sj : St), l[j]? = some o ∧ o.dst = some p.1 ∧ tr[j]? = some (sj, p.2)) ∨ (p ∈ s.fr ∧ ∀ (j : Nat) (o : Oper), l[j]? = some o → o.dst ≠ some p.1) := by
  induction h with
  | nil s => intro p hp; exact .inr ⟨hp, by simp⟩
  | @cons o rest s x l s' h k ih =>
    intro p hp
    rcases ih p hp with ⟨j, o', sj, h1, h2, h3⟩ | ⟨h1, h2⟩
    · exact .inl ⟨j + 1, o', sj, by simpa using h1, h2, by simpa using h3⟩
    · rcases mem_put h1 with ⟨hd, hx⟩ | ⟨h3, h4⟩
      · exact .inl ⟨0, o, s, rfl, hd, by simp [hx]⟩
      · refine .inr ⟨h3, fun j o' hj => ?_⟩
        cases j with
        | zero => simp only [List.getElem?_cons_zero, Option.some.injEq] at hj; subst hj; exact h4
        | succ j => simp only [List.getElem?_cons_succ] at hj; exact h2 j o' hj
theorem writes_some {ops : List Oper} {t : Tmp} {j : Nat} (h : writes ops t = some j) : ∃ o, ops[j]? = some o ∧ o.dst = some t := by
  unfold writes at h
  obtain ⟨hj, h1, _⟩ := List.findIdx?_eq_some_iff_getElem.1 h
  exact ⟨ops[j], List.getElem?_eq_getElem hj, by simpa using h1⟩
theorem writes_none {ops : List Oper} {t : Tmp} (h : writes ops t = none) {j : Nat} {o : Oper} (hj : ops[j]? = some o) : o.dst ≠ some t := by
  unfold writes at h
  have := List.findIdx?_eq_none_iff.1 h o (List.mem_of_getElem? hj)
  simpa using this
theorem indep_at {ops : List Oper} (h : indep ops = true) {i : Nat} {o : Oper} (hi : ops[i]? = some o) :
    (∀ d, o.dst = some d → writes ops d = some i) ∧ (∀ e ∈ o.after, Region.binds .any e = true → e.on < i) ∧
    ∀ t ∈ o.looksAt ops.toArray, ∀ j, writes ops t = some j → (j < i ∧ ∃ e ∈ o.after, Region.binds .any e = true ∧ e.on = j) ∨ (i < j ∧ ∃ oj, ops[j]? = some oj ∧ ∃ e ∈ oj.after, Region.binds .any e = true ∧ e.on = i) := by
  unfold indep at h
  rw [List.all_eq_true] at h
  have hm : (o, i) ∈ ops.zipIdx := by
    rw [List.mem_zipIdx_iff_getElem?]; exact hi
  have := h _ hm
  simp only [Bool.and_eq_true, List.all_eq_true] at this
  obtain ⟨⟨h1, h2⟩, h3⟩ := this
  refine ⟨?_, ?_, ?_⟩
  · intro d hd
    rw [hd] at h1
    simpa using h1
  · intro e he hb
    have := h2 e (by simpa using he)
    rw [hb] at this
    simpa using this
  · intro t ht j hj
    have := h3 t ht
    rw [hj] at this
    simp only at this
    split at this
    · rename_i hlt
      left
      rw [List.any_eq_true] at this
      obtain ⟨e, he, h4⟩ := this
      simp only [Bool.and_eq_true, beq_iff_eq] at h4
      exact ⟨hlt, e, by simpa using he, h4.1, h4.2⟩
    · right
      simp only [Bool.and_eq_true, decide_eq_true_eq] at this
      obtain ⟨h4, h5⟩ := this
      split at h5
      · rename_i oj hoj
        rw [List.any_eq_true] at h5
        obtain ⟨e, he, h6⟩ := h5
        simp only [Bool.and_eq_true, beq_iff_eq] at h6
        exact ⟨h4, oj, hoj, e, by simpa using he, h6.1, h6.2⟩
      · cases h5
structure Mid (fo : FO) (m : Nat → Option Value) (m0 : Nat → Option Value) (w0 : World) (n : Nat) (l : List Oper) (s : St) (tr : List (St × V)) (listed : Array Bool) (a : Act) (w : World) : Prop where
  size : a.tmps.size = n
  defers : a.defers = fo.D
  inv : Inv fo m s.L w
  step : Step w0 (own m0) w (own m)
  lsz : listed.size = l.length
  done : ∀ (j : Nat) (o : Oper) (sj : St) (xj : V) (d : Nat), l[j]? = some o → tr[j]? = some (sj, xj) → o.dst = some d → listed.getD j false = true → RelV w (OO fo m) m (a.tmps.getD d undef) xj
  todo : ∀ t, (∀ (j : Nat) (o : Oper), l[j]? = some o → o.dst = some t → listed.getD j false = false) → RelV w (OO fo m) m (a.tmps.getD t undef) (s.get t)
  rest : ∀ p, p ∈ s.fr → (∀ (j : Nat) (o : Oper), l[j]? = some o → o.dst ≠ some p.1) → RelV w (OO fo m) m (a.tmps.getD p.1 undef) p.2
  closed : ∀ (j : Nat) (o : Oper), l[j]? = some o → listed.getD j false = true → ∀ e ∈ o.after, Region.binds .any e = true → listed.getD e.on false = true
theorem getD_lt {listed : Array Bool} {i : Nat} {b c : Bool} (h : i < listed.size) : listed.getD i b = listed.getD i c := by simp [Array.getD, h]
theorem any_order {l : List Oper} {s s' : St} {tr : List (St × V)} (ht : Trace P l.toArray l s tr s') (hin : indep l = true) (hd : dstsOk n l = true) (hq : Q .normal s') {fo : FO} {m m0 : Nat → Option Value} {w0 : World}
    (hfr : ∀ p, p ∈ s.fr → p.1 < n) :
    ∀ (fuel : Nat) (listed : Array Bool) (un : List Nat) (a : Act) (w : World), un.length ≤ fuel → (∀ i, i < l.length → listed.getD i false = false → i ∈ un) →
      Mid fo m m0 w0 n l s tr listed a w → wpAnyIn (wr fo.r) 0 P .any l.toArray (Post fo n m0 w0 Q) fuel listed a w := by
  have hdl : ∀ (i : Nat) (o : Oper) (d : Nat), l[i]? = some o → o.dst = some d → d < n := by
    intro i o d hi ho
    unfold dstsOk at hd
    rw [List.all_eq_true] at hd
    have := hd o (List.mem_of_getElem? hi)
    rw [ho] at this
    simpa using this
  obtain ⟨hlen, hL⟩ := ht.len
  have htr : ∀ i : Nat, i < l.length → ∃ (si : St) (xi : V), tr[i]? = some (si, xi) := by
    intro i hi
    exact ⟨_, _, List.getElem?_eq_getElem (by omega)⟩
  have fin : ∀ (listed : Array Bool) (a : Act) (w : World), (∀ i, i < l.length → listed.getD i false = true) → Mid fo m m0 w0 n l s tr listed a w → Post fo n m0 w0 Q .normal a w := by
    intro listed a w hall M
    refine .of m .normal s' hq ⟨M.size, ?_, by rw [hL]; exact M.inv, M.defers⟩ trivial M.step
    intro t x hx
    rcases ht.mem (t, x) hx with ⟨j, o, sj, h1, h2, h3⟩ | ⟨h1, h2⟩
    · exact ⟨hdl j o t h1 h2, M.done j o sj x t h1 h3 h2 (hall j (List.getElem?_eq_some_iff.1 h1).1)⟩
    · exact ⟨hfr _ h1, M.rest _ h1 h2⟩
  have ready_nil : ∀ (listed : Array Bool), listed.size = l.length → (∀ (j : Nat) (o : Oper), l[j]? = some o → listed.getD j false = true → ∀ e ∈ o.after, Region.binds .any e = true → listed.getD e.on false = true) →
      Region.ready .any l.toArray listed = [] → ∀ i, i < l.length → listed.getD i false = true := by
    intro listed hsz _ hr i
    induction i using Nat.strongRecOn with
    | _ i ih =>
      intro hi
      cases hb : listed.getD i false with
      | true => rfl
      | false =>
        exfalso
        have hmem : i ∈ Region.ready .any l.toArray listed := by
          refine mem_ready.2 ⟨by rw [getD_lt (c := false) (by omega)]; exact hb, l[i], by simp [hi], fun e he hbd => ?_⟩
          have := (indep_at hin (List.getElem?_eq_getElem hi)).2.1 e he hbd
          exact ih e.on this (by omega)
        rw [hr] at hmem
        cases hmem
  intro fuel
  induction fuel with
  | zero =>
    intro listed un a w hun hall M
    have h0 : ∀ i, i < l.length → listed.getD i false = true := by
      intro i hi
      cases hb : listed.getD i false with
      | true => rfl
      | false => have h9 := hall i hi hb; have h8 : un = [] := List.eq_nil_of_length_eq_zero (by omega); rw [h8] at h9; cases h9
    refine ⟨?_, fin listed a w h0 M⟩
    rw [List.eq_nil_iff_forall_not_mem]
    intro j hj
    obtain ⟨h1, o, h2, _⟩ := mem_ready.1 hj
    have hjl : j < l.length := by have := (Array.getElem?_eq_some_iff.1 h2).1; simpa using this
    rw [getD_lt (c := false) (by have := M.lsz; omega)] at h1
    rw [h0 j hjl] at h1
    cases h1
  | succ fuel ih =>
    intro listed un a w hun hall M
    refine ⟨fun hr => fin listed a w (ready_nil listed M.lsz M.closed hr) M, ?_⟩
    intro i hi
    obtain ⟨h1, o, h2, h3⟩ := mem_ready.1 hi
    have hil : i < l.length := by have := (Array.getElem?_eq_some_iff.1 h2).1; simpa using this
    have hio : l[i]? = some o := by simpa using h2
    rw [getD_lt (c := false) (by have := M.lsz; omega)] at h1
    obtain ⟨si, xi, htri⟩ := htr i hil
    obtain ⟨hsL, o', ho', hy⟩ := ht.at i si xi htri
    rw [hio] at ho'
    obtain rfl := Option.some.inj ho'
    obtain ⟨i1, i2, i3⟩ := indep_at hin hio
    have uniq : ∀ (t : Nat) (j : Nat) (o'' : Oper), l[j]? = some o'' → o''.dst = some t → writes l t = some j := fun t j o'' hj hd => (indep_at hin hj).1 t hd
    have hslots : ∀ t, t ∈ o.looksAt l.toArray → RelV w (OO fo m) m (a.tmps.getD t undef) (si.get t) := by
      intro t htl
      cases hw : writes l t with
      | none =>
        rw [ht.get_old t i si xi htri (fun j o'' _ hj => writes_none hw hj)]
        exact M.todo t (fun j o'' hj hd => (writes_none hw hj hd).elim)
      | some j =>
        obtain ⟨oj, hoj, hdj⟩ := writes_some hw
        obtain ⟨sj, xj, htrj⟩ := htr j (List.getElem?_eq_some_iff.1 hoj).1
        rcases i3 t htl j hw with ⟨hlt, e, he, hb, hon⟩ | ⟨hlt, oj', hoj', e, he, hb, hon⟩
        · rw [ht.get_new t i j si xi sj xj oj htri hlt htrj hoj hdj (fun j' o'' hjj _ hj' hd' => by
            have := uniq t j' o'' hj' hd'
            rw [hw] at this
            have := Option.some.inj this
            omega)]
          exact M.done j oj sj xj t hoj htrj hdj (by rw [← hon]; exact h3 e he hb)
        · rw [ht.get_old t i si xi htri (fun j' o'' hj' ho'' hd' => by
            have := uniq t j' o'' ho'' hd'
            rw [hw] at this
            have := Option.some.inj this
            omega)]
          refine M.todo t (fun j' o'' hj' hd' => ?_)
          have := uniq t j' o'' hj' hd'
          rw [hw] at this
          obtain rfl := Option.some.inj this
          cases hb' : listed.getD j false with
          | false => rfl
          | true =>
            rw [hoj] at hoj'
            obtain rfl := Option.some.inj hoj'
            have := M.closed j oj hoj hb' e he hb
            rw [hon, h1] at this
            cases this
    have hrun := hy fo m a w (by rw [hsL]; exact M.inv) hslots (wpAnyIn (wr fo.r) 0 P .any l.toArray (Post fo n m0 w0 Q) fuel (listed.setIfInBounds i true)) (Post fo n m0 w0 Q) (fun v w' hr hi' st => by
      rw [hsL] at hi'
      have hkeep : Keep w (OO fo m) w' := ⟨st.size, fun b hb ho => st.block b hb (fun h => ho (.inl h))⟩
      have mono : ∀ {v : Value} {x : V}, RelV w (OO fo m) m v x → RelV w' (OO fo m) m v x := fun h => h.mono hkeep (fun _ _ h => h) (fun _ _ h => h)
      have hne : ∀ t, o.dst ≠ some t → (a.put o.dst v).tmps.getD t undef = a.tmps.getD t undef := by
        intro t hn
        cases hdd : o.dst with
        | none => rfl
        | some d =>
          have : d ≠ t := fun e => hn (by rw [hdd, e])
          simp [Act.put, Array.getElem?_setIfInBounds_ne this]
      have hset : ∀ j, (listed.setIfInBounds i true).getD j false = true ↔ (j = i ∨ listed.getD j false = true) := by
        intro j
        by_cases hj : j = i
        · subst hj
          have hjs : j < listed.size := by have := M.lsz; omega
          simp [Array.getD, hjs]
        · have : ¬ i = j := fun e => hj e.symm
          simp only [Array.getD_eq_getD_getElem?, Array.getElem?_setIfInBounds_ne this, hj, false_or]
      refine ih (listed.setIfInBounds i true) (un.erase i) (a.put o.dst v) w' ?_ ?_ ?_
      · have hmem := hall i hil h1
        rw [List.length_erase_of_mem hmem]; omega
      · intro j hj hb
        have hnj : ¬ ((listed.setIfInBounds i true).getD j false = true) := by rw [hb]; simp
        rw [hset] at hnj
        have hji : j ≠ i := fun e => hnj (.inl e)
        have hb2 : listed.getD j false = false := by
          cases hx : listed.getD j false with
          | false => rfl
          | true => exact (hnj (.inr hx)).elim
        exact (List.mem_erase_of_ne hji).2 (hall j hj hb2)
      · refine ⟨?_, ?_, hi', M.step.trans st, by simpa using M.lsz, ?_, ?_, ?_, ?_⟩
        · cases hdd : o.dst <;> simp [Act.put, M.size]
        · cases hdd : o.dst <;> simp [Act.put, M.defers]
        · intro j oj sj xj d hoj htrj hdj hb
          by_cases hji : j = i
          · subst hji
            rw [hio] at hoj
            obtain rfl := Option.some.inj hoj
            rw [htri] at htrj
            obtain ⟨rfl, rfl⟩ := Prod.mk.inj (Option.some.inj htrj)
            have hdn := hdl j o d hio hdj
            have : (a.put o.dst v).tmps.getD d undef = v := by
              have hsz := M.size
              rw [hdj]
              simp [Act.put, Array.getD, hsz, hdn]
            rw [this]; exact hr
          · have hnd : o.dst ≠ some d := by
              intro e
              have q1 := uniq d i o hio e
              have q2 := uniq d j oj hoj hdj
              rw [q1] at q2
              exact hji (Option.some.inj q2).symm
            rw [hne d hnd]
            exact mono (M.done j oj sj xj d hoj htrj hdj (((hset j).1 hb).resolve_left hji))
        · intro t hall'
          have hnd : o.dst ≠ some t := by
            intro e
            have := hall' i o hio e
            have h4 := (hset i).2 (.inl rfl)
            rw [this] at h4; cases h4
          rw [hne t hnd]
          refine mono (M.todo t (fun j oj hoj hdj => ?_))
          have := hall' j oj hoj hdj
          cases hx : listed.getD j false with
          | false => rfl
          | true => have h4 := (hset j).2 (.inr hx); rw [this] at h4; cases h4
        · intro p hp hnw
          rw [hne p.1 (hnw i o hio)]
          exact mono (M.rest p hp hnw)
        · intro j oj hoj hb e he hbd
          rw [hset]
          rcases (hset j).1 hb with rfl | hb'
          · rw [hio] at hoj
            obtain rfl := Option.some.inj hoj
            exact .inr (h3 e he hbd)
          · exact .inr (M.closed j oj hoj hb' e he hbd))
    unfold wpOpIn
    rw [h2]
    simp only
    split
    · rename_i hw; rw [if_pos hw] at hrun; exact hrun
    · rename_i hw; rw [if_neg hw] at hrun; exact ⟨fun _ _ => trivial, hrun⟩
theorem AWP.regionD {id : Nat} {l : List Oper} {s : St} (us : List V) (hm : P.follows .mixedOrders = true) (hin : indep l = true) (hd : dstsOk n l = true) (h : runD P l.toArray l s us (Q .normal)) : AWP P n (.region id l.toArray true) s Q := by
  intro fo m a w _ g
  obtain ⟨tr, s', ht, hq⟩ := runD_trace l s us h
  refine wpIn_region_any hm ?_
  have := any_order (P := P) (n := n) (Q := Q) ht hin hd hq (fo := fo) (m := m) (m0 := m) (w0 := w) (fun p hp => (g.fr p.1 p.2 hp).1) l.toArray.size (Array.replicate l.toArray.size false) (List.range l.length) a { w with drawn := w.drawn + 1 }
    (by simp) (fun i hi _ => by simpa using hi) ?_
  · exact this
  · have st : Step w (own m) { w with drawn := w.drawn + 1 } (own m) := ⟨rfl, rfl, rfl, Nat.le_refl _, fun _ _ _ => rfl, fun _ _ h => h⟩
    have mono : ∀ {v : Value} {x : V}, RelV w (OO fo m) m v x → RelV { w with drawn := w.drawn + 1 } (OO fo m) m v x := fun h => h.mono st.keep (fun _ _ h => h) (fun _ _ h => h)
    refine ⟨g.size, g.defers, g.inv.grown (Nat.le_refl _) (fun _ _ => rfl), st, by simp, ?_, fun t _ => mono (get_rel g t), fun p hp _ => mono (g.fr p.1 p.2 hp).2, ?_⟩
    · intro j o sj xj d _ _ _ hb
      have : (Array.replicate l.toArray.size false).getD j false = false := by simp [Array.getD]
      rw [this] at hb; cases hb
    · intro j o _ hb
      have : (Array.replicate l.toArray.size false).getD j false = false := by simp [Array.getD]
      rw [this] at hb; cases hb
end
end Go.Ab

namespace Go.Ab
attribute [simp] runC runD callStep stepQ stepL guardV q2 q1 loadV fieldAddrV fieldV indexAddrV indexV binV unV lenV convV extractV nilCheckV callV lookupV lookRes doSData doUStr doMapSet meOf keyFits ME.val pickV_true pickV_false pickV_bb pickV_gb pickV_bg loudG loudM kO killO killOf opSlots unE unO St.fgt makesNew St.rem remL sameTmp sliceV bndV moreV boolEqV maxminV ifcV asrtV nilEqV isCst allD ofIfc eqAggV gρ gU gval gcon buildV fillV putAt doStore doMake doLit litRows doCut doAppend srcV
  St.put St.get St.ev evConst V.cl V.un V.unc uncs Op.operands Call.operands argFrame keys Heap.upd V.kill V.kills Res.kill St.kill AX.then AX.inBlock KK dstsOk isCall FPost resVs resV tupV boolV intV strV V.on V.ons Res.on St.on
  Value.oneCell' callee CallA CallC CallG cutRow List.lookup getF delF
@[simp] theorem kills_dmap (h : Nat) (l : List D) : V.kills h (l.map V.d) = l.map V.d := kills_d h l
@[simp] theorem map_kills_dd (h : Nat) (ys : List (List D)) : (dd ys).map (V.kills h) = dd ys := kill_dd h ys
@[simp] theorem ons_dmap (ks : List Nat) (l : List D) : V.ons ks (l.map V.d) = true := ons_d ks l
@[simp] theorem all_ons_dd (ks : List Nat) (ys : List (List D)) : (dd ys).all (V.ons ks) = true := on_dd ks ys
@[simp] theorem dd_length (ys : List (List D)) : (dd ys).length = ys.length := by simp [dd]
@[simp] theorem dd_append (xs ys : List (List D)) : dd xs ++ dd ys = dd (xs ++ ys) := by simp [dd]
@[simp] theorem dd_nil : dd [] = [] := rfl
@[simp] theorem dd_get (ys : List (List D)) (i : Nat) : (dd ys)[i]? = ys[i]?.map (·.map V.d) := by simp [dd]
@[simp] theorem dd_take (ys : List (List D)) (i : Nat) : (dd ys).take i = dd (ys.take i) := by simp [dd]
def encI (l : List Int) : List (List D) := l.map fun n => [.v (.int .i64 n)]
@[simp] theorem encI_length (l : List Int) : (encI l).length = l.length := by simp [encI]
@[simp] theorem encI_get (l : List Int) (i : Nat) : (encI l)[i]? = l[i]?.map fun n => [.v (.int .i64 n)] := by simp [encI]
@[simp] theorem encI_append (a b : List Int) : encI a ++ encI b = encI (a ++ b) := by simp [encI]
@[simp] theorem encI_cellAt (l : List Int) (i : Nat) : cellAt (dd (encI l)) i 0 [V.d (D.v (.int .i64 0))] = V.d (D.v (.int .i64 (l[i]?.getD 0))) := by
  unfold cellAt
  rw [dd_get, encI_get]
  cases l[i]? <;> rfl
def encB (l : List Bool) : List (List D) := l.map fun b => [.v (.bool b)]
@[simp] theorem encB_nil : encB [] = [] := rfl
def encS (l : List ByteArray) : List (List D) := l.map fun s => [.v (.string s)]
@[simp] theorem encS_length (l : List ByteArray) : (encS l).length = l.length := by simp [encS]
@[simp] theorem encS_nil : encS [] = [] := rfl
def encSl {α : Type} (g : List α → List (List D)) (l : List (List α)) : List (List D) := l.map fun y => [.sl (g y)]
section
variable {α : Type} {g : List α → List (List D)}
@[simp] theorem encSl_length (l : List (List α)) : (encSl g l).length = l.length := by simp [encSl]
@[simp] theorem encSl_get (l : List (List α)) (i : Nat) : (encSl g l)[i]? = l[i]?.map fun y => [.sl (g y)] := by simp [encSl]
@[simp] theorem encSl_nil : encSl g [] = [] := rfl
end
@[simp] theorem encI_nil : encI [] = [] := rfl
@[simp] theorem encI_take (l : List Int) (i : Nat) : (encI l).take i = encI (l.take i) := by simp [encI]
@[simp] theorem int_beq (a b : Int) : (a == b) = decide (a = b) := rfl
theorem bytes_toList (a b : ByteArray) : a.toList = b.toList ↔ a = b := by
  constructor
  · intro h
    rw [ByteArray.toList_eq, ByteArray.toList_eq] at h
    cases a; cases b
    simpa using h
  · intro h; rw [h]
theorem bytes_beq (a b : ByteArray) : (a.toList == b.toList) = decide (a = b) := by
  rw [Bool.eq_iff_iff]
  simp [bytes_toList]
theorem inR_i64 {n : Int} : inR .i64 n ↔ -9223372036854775808 ≤ n ∧ n ≤ 9223372036854775807 := by
  unfold inR IntKind.min IntKind.max
  simp [IntKind.bits, IntKind.signed]
end Go.Ab

namespace Go.Ab
def unD : List V → Option (List D)
  | [] => some []
  | .d x :: l => match unD l with
    | some r => some (x :: r)
    | none => none
  | _ :: _ => none
def undd : List (List V) → Option (List (List D))
  | [] => some []
  | x :: l => match unD x, undd l with
    | some y, some r => some (y :: r)
    | _, _ => none
@[simp] theorem unD_map (l : List D) : unD (l.map V.d) = some l := by
  induction l with
  | nil => rfl
  | cons x l ih => simp [unD, ih]
@[simp] theorem undd_dd (ys : List (List D)) : undd (dd ys) = some ys := by
  induction ys with
  | nil => rfl
  | cons x l ih => simp only [dd, List.map_cons, undd, unD_map]; rw [show List.map (fun x => List.map V.d x) l = dd l from rfl, ih]
theorem unD_eq : ∀ {l : List V} {r : List D}, unD l = some r → l = r.map V.d
  | [], r, h => by simp only [unD, Option.some.injEq] at h; subst h; rfl
  | .d x :: l, r, h => by
    rw [unD] at h
    split at h
    · rename_i r' hr
      simp only [Option.some.injEq] at h
      subst h
      rw [unD_eq hr]; rfl
    · cases h
  | .bp _ _ :: _, _, h => by simp [unD] at h
  | .rv _ :: _, _, h => by simp [unD] at h
  | .ep _ _ _ _ :: _, _, h => by simp [unD] at h
  | .rp _ :: _, _, h => by simp [unD] at h
  | .sv _ _ :: _, _, h => by simp [unD] at h
  | .clo _ _ _ :: _, _, h => by simp [unD] at h
  | .agg _ :: _, _, h => by simp [unD] at h
  | .tup _ :: _, _, h => by simp [unD] at h
  | .gd _ _ :: _, _, h => by simp [unD] at h
  | .any :: _, _, h => by simp [unD] at h
  | .kn _ :: _, _, h => by simp [unD] at h
theorem undd_eq : ∀ {l : List (List V)} {r : List (List D)}, undd l = some r → l = dd r
  | [], r, h => by simp only [undd, Option.some.injEq] at h; subst h; rfl
  | x :: l, r, h => by
    rw [undd] at h
    split at h
    · rename_i y r' hy hr
      simp only [Option.some.injEq] at h
      subst h
      rw [unD_eq hy, undd_eq hr]; rfl
    · cases h
def cellD (L : Heap) : V → Option D
  | .d (.v (.slice none 0 0)) => some (.sl [])
  | .d x => some x
  | .rv h => match L.lookup h with
    | some (.row _ _ xs) => match undd xs with
      | some ys => some (.sl ys)
      | none => none
    | _ => none
  | _ => none
def cellsD (L : Heap) : List V → Option (List D)
  | [] => some []
  | x :: l => match cellD L x, cellsD L l with
    | some y, some r => some (y :: r)
    | _, _ => none
theorem cellsD_get {L : Heap} : ∀ {l : List V} {r : List D}, cellsD L l = some r → l.length = r.length ∧ ∀ (j : Nat) (d : D), r[j]? = some d → ∃ y, l[j]? = some y ∧ cellD L y = some d
  | [], r, h => by simp only [cellsD, Option.some.injEq] at h; subst h; simp
  | x :: l, r, h => by
    rw [cellsD] at h
    split at h
    · rename_i y r' hy hr
      simp only [Option.some.injEq] at h
      subst h
      obtain ⟨h1, h2⟩ := cellsD_get hr
      refine ⟨by simp [h1], fun j d hj => ?_⟩
      match j with
      | 0 => simp only [List.getElem?_cons_zero, Option.some.injEq] at hj; subst hj; exact ⟨x, rfl, hy⟩
      | j + 1 => simpa using h2 j d (by simpa using hj)
    · cases h
mutual
def V.fz (L : Heap) : V → V
  | .d (.v (.slice none 0 0)) => .d (.sl [])
  | .rv h => match L.lookup h with
    | some (.row _ _ xs) => match undd xs with
      | some ys => .d (.sl ys)
      | none => .any
    | _ => .any
  | .bp h off => match L.lookup h with
    | some (.box _ _ cs) => match cellsD L cs with
      | some ds => .rp (ds.drop off)
      | none => .any
    | _ => .any
  | .sv _ _ => .any
  | .clo fn f c => .clo fn (V.fzs L f) (V.fzs L c)
  | .agg cs => .agg (V.fzs L cs)
  | .tup cs => .tup (V.fzs L cs)
  | x => x
def V.fzs (L : Heap) : List V → List V
  | [] => []
  | x :: l => V.fz L x :: V.fzs L l
end
section
variable {P : Program} {w w' : World} {fo : FO} {m m' : Nat → Option Value} {L : Heap} {n : Nat} {s : St} {a : Act} {Q : AX → St → Prop}
theorem fzs_get {L : Heap} : ∀ (l : List V) (j : Nat), (V.fzs L l)[j]? = l[j]?.map (V.fz L)
  | [], j => by simp [V.fzs]
  | x :: l, 0 => by simp [V.fzs]
  | x :: l, j + 1 => by simp [V.fzs, fzs_get l j]
theorem fzs_len {L : Heap} : ∀ (l : List V), (V.fzs L l).length = l.length
  | [] => by simp [V.fzs]
  | x :: l => by simp [V.fzs, fzs_len l]
theorem nil_rel {O : Nat → Prop} : RelD w O (.slice none 0 0) (.sl []) := .sl none 0 0 [] 0 0 0 (fun _ _ => undef) rfl (by omega) (by simp [maxLen]) (by omega) (by simp) (by omega) (by simp)
theorem row_data (hi : Inv fo m L w) {h k : Nat} {ty : TypeId} {ys : List (List D)} (hl : L.lookup h = some (.row ty k (dd ys))) {v : Value} (hv : m h = some v) : RelD w fo v (.sl ys) := by
  obtain ⟨x, hx, hh⟩ := hi.holds h _ (lookup_mem hl)
  rw [hv] at hx
  obtain rfl := Option.some.inj hx
  rcases hh with ⟨rfl, hy⟩ | ⟨b, off, cap, cur, rfl, hb, h1, h2, h3, h4, h5, h6⟩
  · have : ys = [] := by
      cases ys with
      | nil => rfl
      | cons y l => simp [dd] at hy
    subst this
    exact nil_rel
  · have hlen : (dd ys).length = ys.length := by simp [dd]
    rw [hlen] at h1 ⊢
    have hget : ∀ (i : Nat) (x : List D), ys[i]? = some x → (dd ys)[i]? = some (x.map V.d) := by
      intro i x hx; simp [dd, hx]
    have hkx : ∀ (i : Nat) (x : List D), ys[i]? = some x → x.length = k := by
      intro i x hx
      have := h4 i _ (hget i x hx)
      simpa using this
    have hbd : ∀ i j, i < ys.length → j < k → off + i * k + j < cur.size := by
      intro i j hi hj
      have : (i + 1) * k ≤ cap * k := Nat.mul_le_mul_right _ (by omega)
      rw [Nat.add_mul, Nat.one_mul] at this
      omega
    refine .sl (some ⟨b, off, none⟩) ys.length cap ys k b off (fun i j => cur.getD (off + i * k + j) undef) rfl h1 h2 (fun _ => ⟨rfl, hi.others h _ b hv rfl, (Array.getElem?_eq_some_iff.1 hb).1⟩) hkx ?_ ?_
    · intro i j hi hj
      have := hbd i j hi hj
      simp [World.cell?, hb, Array.getD, this]
    · intro i j x y hx hy
      have hj : j < k := by have := (List.getElem?_eq_some_iff.1 hy).1; have := hkx i x hx; omega
      have hil := (List.getElem?_eq_some_iff.1 hx).1
      have hlt := hbd i j hil hj
      have := h6 i j _ (.d y) (cur[off + i * k + j]) (hget i x hx) (by simp [hy]) (Array.getElem?_eq_getElem hlt)
      have h7 := this.d_inv
      have e : cur.getD (off + i * k + j) undef = cur[off + i * k + j] := by simp [Array.getD, hlt]
      rw [e]
      exact h7.mono (Keep.refl w _) (fun b _ hb => .inr hb)
theorem cellD_rel (hi : Inv fo m L w) {v : Value} {y : V} {d : D} (h : RelV w (OO fo m) m v y) (hd : cellD L y = some d) : RelD w fo v d := by
  unfold cellD at hd
  split at hd
  · have := h.v_inv
    rw [this]
    simp only [Option.some.injEq] at hd
    subst hd
    exact nil_rel
  · simp only [Option.some.injEq] at hd
    subst hd
    exact h.d_inv.mono (Keep.refl w _) (fun b _ hb => .inr hb)
  · split at hd
    · rename_i ty k xs hl
      split at hd
      · rename_i ys hys
        simp only [Option.some.injEq] at hd
        subst hd
        rw [undd_eq hys] at hl
        cases h with
        | rv _ _ e _ => exact row_data hi hl e
      · cases hd
    · cases hd
  · cases hd
theorem box_data (hi : Inv fo m L w) {h off b0 : Nat} {ty : TypeId} {cs : List V} {ds : List D} (hl : L.lookup h = some (.box b0 ty cs)) (hd : cellsD L cs = some ds) {b : Nat} (hv : m h = some (.pointer (some ⟨b, 0, none⟩))) :
    RelV w fo noneM (.pointer (some ⟨b, off, none⟩)) (.rp (ds.drop off)) := by
  obtain ⟨x, hx, bb, _, cur, rfl, hb, hs, h1, h2⟩ := hi.holds h _ (lookup_mem hl)
  rw [hv] at hx
  simp only [Option.some.injEq, Value.pointer.injEq, Addr.mk.injEq] at hx
  obtain ⟨rfl, _⟩ := hx
  obtain ⟨k1, k2⟩ := cellsD_get hd
  refine .rp b off _ (fun j => cur.getD (off + j) undef) (hi.others h _ b hv rfl) (Array.getElem?_eq_some_iff.1 hb).1 (fun j hj => ?_) (fun j y hy => ?_)
  · have hlt : off + j < cur.size := by simp at hj; omega
    simp [World.cell?, hb, Array.getD, hlt]
  · rw [List.getElem?_drop] at hy
    obtain ⟨z, hz, hzd⟩ := k2 _ _ hy
    have hlt : off + j < cur.size := by have := (List.getElem?_eq_some_iff.1 hz).1; omega
    have := cellD_rel hi (h2 (off + j) _ z (Array.getElem?_eq_getElem hlt) hz) hzd
    simpa [Array.getD, hlt] using this
theorem fz_rel (hi : Inv fo m L w) {v : Value} {y : V} (h : RelV w (OO fo m) m v y) : (y.fz L).on [] = true → RelV w fo noneM v (y.fz L) := by
  have hD : ∀ {x : Value} {d : D}, RelD w (OO fo m) x d → RelD w fo x d := fun h => h.mono (Keep.refl w _) (fun b _ hb => .inr hb)
  induction h with
  | d x y h =>
    intro _
    unfold V.fz
    split
    · rename_i heq; cases heq; cases h; exact .d _ _ nil_rel
    · rename_i heq; cases heq
    · rename_i heq; cases heq
    · rename_i heq; cases heq
    · rename_i heq; cases heq
    · rename_i heq; cases heq
    · rename_i heq; cases heq
    · exact .d _ _ (hD h)
  | bp h off b e =>
    intro _
    simp only [V.fz]
    split
    · rename_i b0 ty cs hl
      split
      · rename_i ds hds; exact box_data hi hl hds e
      · exact .any _
    · exact .any _
  | rv h x e e1 =>
    intro _
    simp only [V.fz]
    split
    · rename_i ty k xs hl
      split
      · rename_i ys hys
        rw [undd_eq hys] at hl
        exact .d _ _ (row_data hi hl e)
      · exact .any _
    · exact .any _
  | ep h k i j b o n c e => intro ho; simp [V.fz, V.on] at ho
  | rp b off cs f hb hlt hc hr => intro _; simp only [V.fz]; exact .rp b off cs f (fun hf => hb (.inr hf)) hlt hc (fun j y hy => hD (hr j y hy))
  | sv h n b cap e hc hx => intro _; simp only [V.fz]; exact .any _
  | clo fn first caps cf cc s1 s2 h1 h2 ih1 ih2 =>
    intro ho
    simp only [V.fz, V.on, Bool.and_eq_true] at ho ⊢
    refine .clo fn first caps _ _ (by rw [fzs_len]; exact s1) (by rw [fzs_len]; exact s2) ?_ ?_
    · intro j x y hx hy
      have hyo := ons_mem ho.1 y (List.mem_of_getElem? hy)
      rw [fzs_get] at hy
      obtain ⟨z, hz, rfl⟩ := Option.map_eq_some_iff.1 hy
      exact ih1 j x z hx hz hyo
    · intro j x y hx hy
      have hyo := ons_mem ho.2 y (List.mem_of_getElem? hy)
      rw [fzs_get] at hy
      obtain ⟨z, hz, rfl⟩ := Option.map_eq_some_iff.1 hy
      exact ih2 j x z hx hz hyo
  | agg vs cs hs h1 h ih =>
    intro ho
    simp only [V.fz, V.on] at ho ⊢
    refine .agg vs _ (by rw [fzs_len]; exact hs) h1 ?_
    intro j x y hx hy
    have hyo := ons_mem ho y (List.mem_of_getElem? hy)
    rw [fzs_get] at hy
    obtain ⟨z, hz, rfl⟩ := Option.map_eq_some_iff.1 hy
    exact ih j x z hx hz hyo
  | tup vs cs hs h ih =>
    intro ho
    simp only [V.fz, V.on] at ho ⊢
    refine .tup vs _ (by rw [fzs_len]; exact hs) ?_
    intro j x y hx hy
    have hyo := ons_mem ho y (List.mem_of_getElem? hy)
    rw [fzs_get] at hy
    obtain ⟨z, hz, rfl⟩ := Option.map_eq_some_iff.1 hy
    exact ih j x z hx hz hyo
  | gt x y h ih =>
    intro ho
    simp only [V.fz, V.on] at ho ⊢
    exact (RelV.on (ks := []) (m' := noneM) (by simp) (.gt x y h) (by simpa [V.on] using ho)).mono (Keep.refl w _) (fun b _ hb => .inr hb) (fun _ _ e => e)
  | gf y => intro _; simp only [V.fz]; exact .gf y
  | kn x Q h => intro _; simp only [V.fz]; exact .kn x Q h
  | any x => intro _; simp only [V.fz]; exact .any x
theorem ACalls.data {f : FuncId} {args : List V} {L : Heap} {x : V} (h : ACalls P f args L (fun r L' => ∃ y, r = .ret y ∧ y.fz L' = x)) (hx : x.on [] = true) : ACalls P f args L (fun r L' => r = .ret x ∧ L' = []) := by
  intro fo m w xs hi hr
  refine (h fo m w xs hi hr).mono ?_
  rintro e w' ⟨m1, r, L1, ⟨y, rfl, rfl⟩, he, hi', st⟩
  cases e with
  | returned v =>
    simp only [Ends] at he
    refine ⟨noneM, .ret (y.fz L1), [], ⟨rfl, rfl⟩, ?_, hi'.none_ (fun b hb => .inr hb), ⟨st.os, st.tape, st.output, st.size, st.block, fun b _ hb => (noneM_own b hb).elim⟩⟩
    simp only [Ends]
    exact (fz_rel hi' he hx).mono (Keep.refl w' _) (fun b _ hb => hb.elim (fun h => (noneM_own b h).elim) id) (fun _ _ e => e)
  | panicked ch => simp only [Ends] at he
  | outgrown => simp only [Ends] at he
mutual
def V.scal : V → Bool
  | .d (.v _) => true
  | .agg cs => V.scals cs
  | .tup cs => V.scals cs
  | _ => false
def V.scals : List V → Bool
  | [] => true
  | x :: l => V.scal x && V.scals l
end
theorem scals_mem : ∀ {l : List V}, V.scals l = true → ∀ x ∈ l, V.scal x = true
  | [], _, x, h => by cases h
  | y :: l, h, x, hx => by
    simp only [V.scals, Bool.and_eq_true] at h
    rcases List.mem_cons.1 hx with rfl | hx
    · exact h.1
    · exact scals_mem h.2 x hx
theorem scal_rel {O O' : Nat → Prop} {v : Value} {y : V} (h : RelV w O m v y) : y.scal = true → RelV w' O' m' v y := by
  induction h with
  | d x y h =>
    intro hs
    cases y with
    | v u => cases h with | v _ h1 => exact .d _ _ (.v _ h1)
    | sl xs => simp [V.scal] at hs
    | ifc t ag cs => simp [V.scal] at hs
  | bp h off b e => intro hs; simp [V.scal] at hs
  | rv h x e e1 => intro hs; simp [V.scal] at hs
  | ep h k i j b o n c e => intro hs; simp [V.scal] at hs
  | rp b off cs f hb hlt hc hr => intro hs; simp [V.scal] at hs
  | sv h n b cap e hc hx => intro hs; simp [V.scal] at hs
  | clo fn first caps cf cc s1 s2 h1 h2 ih1 ih2 => intro hs; simp [V.scal] at hs
  | agg vs cs hs h1 h ih =>
    intro hsc
    simp only [V.scal] at hsc
    exact .agg vs cs hs h1 (fun j x y hx hy => ih j x y hx hy (scals_mem hsc y (List.mem_of_getElem? hy)))
  | tup vs cs hs h ih =>
    intro hsc
    simp only [V.scal] at hsc
    exact .tup vs cs hs (fun j x y hx hy => ih j x y hx hy (scals_mem hsc y (List.mem_of_getElem? hy)))
  | gt x y h ih => intro hs; simp [V.scal] at hs
  | gf y => intro hs; simp [V.scal] at hs
  | kn x Q h => intro hs; simp [V.scal] at hs
  | any x => intro hs; simp [V.scal] at hs
theorem OpT.lend {o : Oper} {c : Call} {ρa : Operand → V} {f : FuncId} {args : List V} {x : V} (hop : o.op = .call c) (hc : callee ρa c = some (f, args)) (he : enters P f = true) (ho : V.ons [] (V.fzs L args) = true) (hx : x.scal = true)
    (h : ACalls P f (V.fzs L args) [] (fun r _ => r = .ret x)) : OpT P o ρa L x := by
  intro fo m ρ w hi hr
  obtain ⟨xs, h1, h2⟩ := call_enters (P := P) hop hc he hr
  refine .inr ⟨f, xs, h1, ?_⟩
  have hrel : RelVs w (OO fo noneM) noneM xs (V.fzs L args) := by
    refine ⟨by rw [fzs_len]; exact h2.1, fun j v y hv hy => ?_⟩
    have hyo := ons_mem ho y (List.mem_of_getElem? hy)
    rw [fzs_get] at hy
    obtain ⟨z, hz, rfl⟩ := Option.map_eq_some_iff.1 hy
    exact (fz_rel hi (h2.2 j v z hv hz) hyo).mono (Keep.refl w _) (fun b _ hb => hb.elim (fun h => (noneM_own b h).elim) id) (fun _ _ e => e)
  refine (h fo noneM w xs (hi.none_ fun b hb => .inr hb) hrel).mono ?_
  rintro e w' ⟨m1, r, L', rfl, he', hi', st⟩
  cases e with
  | returned v =>
    simp only [Ends] at he'
    exact ⟨v, rfl, scal_rel he' hx, hi.grown st.size (fun b hb => st.block b hb (noneM_own b)), ⟨st.os, st.tape, st.output, st.size, fun b hb _ => st.block b hb (noneM_own b), fun b hb h => h⟩⟩
  | panicked ch => simp only [Ends] at he'
  | outgrown => simp only [Ends] at he'
theorem call_core {o : Oper} {c : Call} {f : FuncId} {args : List V} {L1 L2 : Heap} {R : AE → Heap → Prop}
    (hop : o.op = .call c) (hc : callee s.ev c = some (f, args)) (he : enters P f = true) (ho : V.ons (keys L1) args = true) (hL : s.L.Perm (L1 ++ L2)) (hon : L1.all (fun p => Res.on (keys L1) p.2) = true)
    (hL2 : ∀ p ∈ L2, Res.on (keys L2 ++ (L1.filterMap fun p => match p.2 with | .box (_ + 1) _ _ => some p.1 | _ => none)) p.2 = true)
    (h : ACalls P f args L1 R)
    (hstay : ∀ r L1', R r L1' → (∃ x, r = .ret x) ∧ (∀ k ∈ keys L1', k ∉ keys L2) ∧ ∀ k b ty cs, (k, Res.box (b + 1) ty cs) ∈ L1 → ∃ ty' cs', (k, Res.box (b + 1) ty' cs') ∈ L1')
    {fo : FO} {m : Nat → Option Value} {a : Act} {w : World} (g : G fo n m s a w) {next : Act → World → Prop} {Q' : Exit → Act → World → Prop}
    (k : ∀ x L1' mm v w', R (.ret x) L1' → RelV w' (OO fo mm) mm v x → Inv fo mm (L1' ++ L2) w' → Step w (own m) w' (own mm) →
      (∀ h y, h ∈ keys L2 ++ (L1.filterMap fun p => match p.2 with | .box (_ + 1) _ _ => some p.1 | _ => none) → m h = some y → mm h = some y) →
      Keep w (OO fo m) w' → (∀ b, b < w.heap.size → OO fo mm b → OO fo m b) → next (a.put o.dst v) w') : o.wpIn (wr fo.r) 0 P a w next Q' := by
  classical
  obtain ⟨xs, h1, h2⟩ := call_enters (P := P) (w := w) (m := m) (O := OO fo m) hop hc he (fun z _ => eval_rel g z)
  have hi := g.inv
  have hkeys : ∀ x, x ∈ keys s.L ↔ x ∈ keys L1 ∨ x ∈ keys L2 := by
    intro x
    have : (keys s.L).Perm (keys (L1 ++ L2)) := hL.map _
    rw [this.mem_iff]
    simp [keys]
  have hnd : (keys L1).Nodup ∧ (keys L2).Nodup ∧ ∀ x, x ∈ keys L1 → x ∉ keys L2 := by
    have hp : (keys s.L).Perm (keys L1 ++ keys L2) := by simpa [keys] using hL.map (·.1)
    have := hp.nodup_iff.1 hi.nodup
    rw [List.nodup_append] at this
    exact ⟨this.1, this.2.1, fun x h1 h2 => this.2.2 x h1 x h2 rfl⟩
  let m1 : Nat → Option Value := fun h => if h ∈ keys L1 then m h else none
  let m2 : Nat → Option Value := fun h => if h ∈ keys L2 then m h else none
  have hm1 : ∀ h x, m1 h = some x → m h = some x ∧ h ∈ keys L1 := by
    intro h x hx
    by_cases hh : h ∈ keys L1
    · simp only [m1, if_pos hh] at hx; exact ⟨hx, hh⟩
    · simp only [m1, if_neg hh] at hx; cases hx
  have hm2 : ∀ h x, m2 h = some x → m h = some x ∧ h ∈ keys L2 := by
    intro h x hx
    by_cases hh : h ∈ keys L2
    · simp only [m2, if_pos hh] at hx; exact ⟨hx, hh⟩
    · simp only [m2, if_neg hh] at hx; cases hx
  have hm1' : ∀ h x, h ∈ keys L1 → m h = some x → m1 h = some x := fun h x hh hx => by simp only [m1, if_pos hh]; exact hx
  have hm2' : ∀ h x, h ∈ keys L2 → m h = some x → m2 h = some x := fun h x hh hx => by simp only [m2, if_pos hh]; exact hx
  let fo1 : FO := fun b => fo b ∨ own m2 b
  have hown : ∀ b, own m b ↔ own m1 b ∨ own m2 b := by
    intro b
    constructor
    · rintro ⟨h, x, hx, hb⟩
      rcases (hkeys h).1 (hi.dom h x hx) with hh | hh
      · exact .inl ⟨h, x, hm1' h x hh hx, hb⟩
      · exact .inr ⟨h, x, hm2' h x hh hx, hb⟩
    · rintro (⟨h, x, hx, hb⟩ | ⟨h, x, hx, hb⟩)
      · exact ⟨h, x, (hm1 h x hx).1, hb⟩
      · exact ⟨h, x, (hm2 h x hx).1, hb⟩
  have hOO : ∀ b, OO fo1 m1 b ↔ OO fo m b := by
    intro b
    unfold OO
    rw [hown b]
    constructor
    · rintro (h | h | h)
      · exact .inl (.inl h)
      · exact .inr h
      · exact .inl (.inr h)
    · rintro ((h | h) | h)
      · exact .inl h
      · exact .inr (.inr h)
      · exact .inr (.inl h)
  have hi1 : Inv fo1 m1 L1 w := by
    refine ⟨hnd.1, fun h x hx => (hm1 h x hx).2, ?_, ?_, ?_, ?_, hi.glob.mono (Keep.refl w _) (fun b _ hb => (hOO b).1 hb)⟩
    · intro h h' x x' b hx hx' hb hb'
      exact hi.apart h h' x x' b (hm1 h x hx).1 (hm1 h' x' hx').1 hb hb'
    · rintro h x b hx hb (hf | ⟨h', x', hx', hb'⟩)
      · exact hi.others h x b (hm1 h x hx).1 hb hf
      · have := hi.apart h h' x x' b (hm1 h x hx).1 (hm2 h' x' hx').1 hb hb'
        subst this
        exact hnd.2.2 h (hm1 h x hx).2 (hm2 h x' hx').2
    · rintro b (hf | ⟨h', x', hx', hb'⟩)
      · exact hi.folt b hf
      · exact hi.lt (hm2 h' x' hx').1 hb'
    · intro h r hr
      obtain ⟨x, hx, hh⟩ := hi.holds h r (hL.mem_iff.2 (List.mem_append_left _ hr))
      have hk : h ∈ keys L1 := List.mem_map.2 ⟨_, hr, rfl⟩
      rw [List.all_eq_true] at hon
      exact ⟨x, hm1' h x hk hx, (hh.on hm1' (hon _ hr)).mono (fun _ _ => rfl) (Keep.refl w _) (fun b _ hb => (hOO b).1 hb) (fun _ _ e => e)⟩
  have hrel : RelVs w (OO fo1 m1) m1 xs args := by
    refine ⟨h2.1, fun j v y hv hy => ?_⟩
    exact ((h2.2 j v y hv hy).on hm1' (ons_mem ho y (List.mem_of_getElem? hy))).mono (Keep.refl w _) (fun b _ hb => (hOO b).1 hb) (fun _ _ e => e)
  refine owp_enter h1 ?_
  refine (h fo1 m1 w xs hi1 hrel).mono ?_
  rintro e w' ⟨m1', r, L1', hR, he', hi', st'⟩
  obtain ⟨⟨x, rfl⟩, hdis, hbox⟩ := hstay r L1' hR
  cases e with
  | panicked ch => simp only [Ends] at he'
  | outgrown => simp only [Ends] at he'
  | returned v =>
    simp only [Ends] at he'
    let mm : Nat → Option Value := fun h => if h ∈ keys L1' then m1' h else m2 h
    have hmm1 : ∀ h y, m1' h = some y → mm h = some y := fun h y hy => by simp only [mm, if_pos (hi'.dom h y hy)]; exact hy
    have hmm2 : ∀ h y, m2 h = some y → mm h = some y := by
      intro h y hy
      have : h ∉ keys L1' := fun hh => hdis h hh (hm2 h y hy).2
      simp only [mm, if_neg this]; exact hy
    have hmmi : ∀ h y, mm h = some y → (m1' h = some y ∧ h ∈ keys L1') ∨ (m2 h = some y ∧ h ∉ keys L1') := by
      intro h y hy
      by_cases hh : h ∈ keys L1'
      · simp only [mm, if_pos hh] at hy; exact .inl ⟨hy, hh⟩
      · simp only [mm, if_neg hh] at hy; exact .inr ⟨hy, hh⟩
    have hownm : ∀ b, own mm b ↔ own m1' b ∨ own m2 b := by
      intro b
      constructor
      · rintro ⟨h, y, hy, hb⟩
        rcases hmmi h y hy with ⟨hy, _⟩ | ⟨hy, _⟩
        · exact .inl ⟨h, y, hy, hb⟩
        · exact .inr ⟨h, y, hy, hb⟩
      · rintro (⟨h, y, hy, hb⟩ | ⟨h, y, hy, hb⟩)
        · exact ⟨h, y, hmm1 h y hy, hb⟩
        · exact ⟨h, y, hmm2 h y hy, hb⟩
    have hOOm : ∀ b, OO fo mm b ↔ OO fo1 m1' b := by
      intro b
      unfold OO
      rw [hownm b]
      constructor
      · rintro ((h | h) | h)
        · exact .inl h
        · exact .inr (.inr h)
        · exact .inr (.inl h)
      · rintro (h | h | h)
        · exact .inl (.inl h)
        · exact .inr h
        · exact .inl (.inr h)
    have hO' : ∀ b, b < w.heap.size → OO fo mm b → OO fo m b := by
      intro b hb ho'
      rcases (hOOm b).1 ho' with h | h | h
      · exact .inl ((hown b).2 (.inl (st'.owned b hb h)))
      · exact .inr h
      · exact .inl ((hown b).2 (.inr h))
    have hkeep : Keep w (OO fo m) w' := ⟨st'.size, fun b hb hno => st'.block b hb (fun h => hno (.inl ((hown b).2 (.inl h))))⟩
    have hboxm : ∀ h y, h ∈ keys L2 ++ (L1.filterMap fun p => match p.2 with | .box (_ + 1) _ _ => some p.1 | _ => none) → m h = some y → mm h = some y := by
      intro h y hh hy
      rcases List.mem_append.1 hh with hh | hh
      · exact hmm2 h y (hm2' h y hh hy)
      · obtain ⟨p, hp, hpe⟩ := List.mem_filterMap.1 hh
        obtain ⟨q, r⟩ := p
        cases r with
        | row ty k xs => simp at hpe
        | env A => simp at hpe
        | mp es => simp at hpe
        | box b0 ty cs =>
          cases b0 with
          | zero => simp at hpe
          | succ b =>
          simp only [Option.some.injEq] at hpe
          subst hpe
          obtain ⟨ty', cs', hb'⟩ := hbox q b ty cs hp
          obtain ⟨z, hz, hzh⟩ := hi'.holds q _ hb'
          obtain ⟨bb1, hb1, cur', e1, _⟩ := hzh
          obtain ⟨u, hu, huh⟩ := hi1.holds q _ hp
          obtain ⟨bb2, hb2, cur, e2, _⟩ := huh
          obtain rfl : bb1 = b := by omega
          obtain rfl : bb2 = bb1 := by omega
          have := (hm1 q u hu).1
          rw [hy] at this
          obtain rfl := Option.some.inj this
          rw [e2, ← e1]
          exact hmm1 q z hz
    have hinv : Inv fo mm (L1' ++ L2) w' := by
      refine ⟨?_, ?_, ?_, ?_, fun b hf => Nat.lt_of_lt_of_le (hi.folt b hf) st'.size, ?_, hi.glob.mono hkeep hO'⟩
      · show (keys (L1' ++ L2)).Nodup
        rw [show keys (L1' ++ L2) = keys L1' ++ keys L2 by simp [keys], List.nodup_append]
        exact ⟨hi'.nodup, hnd.2.1, fun x h1 y h2 e => hdis x h1 (by rw [e]; exact h2)⟩
      · intro h y hy
        show h ∈ keys (L1' ++ L2)
        rw [show keys (L1' ++ L2) = keys L1' ++ keys L2 by simp [keys]]
        rcases hmmi h y hy with ⟨_, hh⟩ | ⟨hy, _⟩
        · exact List.mem_append_left _ hh
        · exact List.mem_append_right _ (hm2 h y hy).2
      · intro h h' y y' b hy hy' hb hb'
        rcases hmmi h y hy with ⟨hy, _⟩ | ⟨hy, _⟩ <;> rcases hmmi h' y' hy' with ⟨hy', _⟩ | ⟨hy', _⟩
        · exact hi'.apart h h' y y' b hy hy' hb hb'
        · exact (hi'.others h y b hy hb (.inr ⟨h', y', hy', hb'⟩)).elim
        · exact (hi'.others h' y' b hy' hb' (.inr ⟨h, y, hy, hb⟩)).elim
        · exact hi.apart h h' y y' b (hm2 h y hy).1 (hm2 h' y' hy').1 hb hb'
      · intro h y b hy hb hf
        rcases hmmi h y hy with ⟨hy, _⟩ | ⟨hy, _⟩
        · exact hi'.others h y b hy hb (.inl hf)
        · exact hi.others h y b (hm2 h y hy).1 hb hf
      · intro h r hr
        rcases List.mem_append.1 hr with hr | hr
        · obtain ⟨z, hz, hzh⟩ := hi'.holds h r hr
          exact ⟨z, hmm1 h z hz, hzh.mono (fun _ _ => rfl) (Keep.refl w' _) (fun b _ hb => (hOOm b).1 hb) hmm1⟩
        · obtain ⟨z, hz, hzh⟩ := hi.holds h r (hL.mem_iff.2 (List.mem_append_right _ hr))
          have hk : h ∈ keys L2 := List.mem_map.2 ⟨_, hr, rfl⟩
          refine ⟨z, hmm2 h z (hm2' h z hk hz), (hzh.on hboxm (hL2 _ hr)).mono (fun b hb => ?_) hkeep hO' (fun _ _ e => e)⟩
          exact st'.block b (hi.lt hz hb) (fun ho1 => by
            obtain ⟨h', y', hy', hb'⟩ := ho1
            have := hi.apart h h' z y' b hz (hm1 h' y' hy').1 hb hb'
            subst this
            exact hnd.2.2 h (hm1 h y' hy').2 hk)
    have stt : Step w (own m) w' (own mm) := by
      refine ⟨st'.os, st'.tape, st'.output, st'.size, fun b hb hno => st'.block b hb (fun h => hno ((hown b).2 (.inl h))), fun b hb ho' => ?_⟩
      rcases (hownm b).1 ho' with h | h
      · exact (hown b).2 (.inl (st'.owned b hb h))
      · exact (hown b).2 (.inr h)
    have hrx : RelV w' (OO fo mm) mm v x := he'.mono (Keep.refl w' _) (fun b _ hb => (hOOm b).1 hb) hmm1
    exact k x L1' mm v w' hR hrx hinv stt hboxm hkeep hO'
theorem AOps.callG {ops : Array Oper} {o : Oper} {rest : List Oper} {c : Call} {f : FuncId} {args : List V} {L1 L2 : Heap} {R : AE → Heap → Prop} (hg : o.guard = none) (hd : ∀ d, o.dst = some d → d < n)
    (hop : o.op = .call c) (hc : callee s.ev c = some (f, args)) (he : enters P f = true) (ho : V.ons (keys L1) args = true) (hL : s.L.Perm (L1 ++ L2)) (hon : L1.all (fun p => Res.on (keys L1) p.2) = true)
    (hfr : ∀ p ∈ s.fr, V.on (keys L2 ++ (L1.filterMap fun p => match p.2 with | .box (_ + 1) _ _ => some p.1 | _ => none)) p.2 = true)
    (hL2 : ∀ p ∈ L2, Res.on (keys L2 ++ (L1.filterMap fun p => match p.2 with | .box (_ + 1) _ _ => some p.1 | _ => none)) p.2 = true)
    (h : ACalls P f args L1 R)
    (hstay : ∀ r L1', R r L1' → (∃ x, r = .ret x) ∧ (∀ k ∈ keys L1', k ∉ keys L2) ∧ ∀ k b ty cs, (k, Res.box (b + 1) ty cs) ∈ L1 → ∃ ty' cs', (k, Res.box (b + 1) ty' cs') ∈ L1')
    (k : ∀ x L1', R (.ret x) L1' → AOps P n ops rest (St.put { s with L := L1' ++ L2 } o.dst x) Q) : AOps P n ops (o :: rest) s Q := by
  intro fo m0 w0 m a w st g
  unfold wpListIn
  rw [if_pos (by simp [Region.wanted, hg])]
  refine call_core hop hc he ho hL hon hL2 h hstay g fun x L1' mm v w' hR hrx hinv stt hbx hkeep hO' => ?_
  have g' : G fo n mm { s with L := L1' ++ L2 } a w' := ⟨g.size, fun t y hy => by
    obtain ⟨q1, q2⟩ := g.fr t y hy
    exact ⟨q1, (q2.on hbx (hfr _ hy)).mono hkeep hO' (fun _ _ e => e)⟩, hinv, g.defers⟩
  exact k x L1' hR fo m0 w0 mm _ w' (st.trans stt) (g'.put hd hrx)
end
end Go.Ab

namespace Go.Ab
attribute [simp] cellD cellsD V.fz V.fzs V.scal V.scals unD undd
def isBox : Res → Bool
  | .box (_ + 1) _ _ => true
  | _ => false
section
variable {P : Program} {w w' : World} {fo : FO} {m m' : Nat → Option Value} {L : Heap} {n : Nat} {s : St} {a : Act} {Q : AX → St → Prop}
theorem OKCall.pure {f : FuncId} {args : List V} {x : V} (he : enters P f = true) (ho : V.ons [] args = true) (hx : x.on [] = true) (h : ACalls P f args [] (fun r _ => r = .ret x)) : OKCall P f args L x :=
  fun _ _ _ hop hc => OpT.call hop hc he ho hx h
attribute [simp] isBox
@[simp] theorem dd_snoc (xs : List (List D)) (x : List D) : dd xs ++ [x.map V.d] = dd (xs ++ [x]) := by simp [dd]
end
end Go.Ab
