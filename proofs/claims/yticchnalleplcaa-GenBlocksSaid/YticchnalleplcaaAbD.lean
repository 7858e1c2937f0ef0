/-
  The engine, part D: 'q1' is sound.
-/
import Derived.Test.YticchnalleplcaaAbC
set_option linter.unusedSimpArgs false
set_option linter.unusedVariables false
namespace Go.Ab

def OpQ (P : Program) (o : Oper) (ρa : Operand → V) (L : Heap) (x : V) : Prop :=
  ∀ fo m (ρ : Operand → Value) w, Inv fo m L w → (∀ z, z ∈ o.op.operands → RelV w (OO fo m) m (ρ z) (ρa z)) →
    ∃ v, (execOp ρ o).run P w = .ok (.value v) w ∧ RelV w (OO fo m) m v x

section
variable {P : Program} {w : World} {fo : Nat → Prop} {m : Nat → Option Value} {L : Heap}

theorem lookup_mem {α : Type} {h : Nat} {r : α} : ∀ {L : List (Nat × α)}, L.lookup h = some r → (h, r) ∈ L
  | [], e => by simp at e
  | (k, y) :: l, e => by
    rw [List.lookup_cons] at e
    by_cases hk : h = k
    · subst hk; simp at e; subst e; exact List.mem_cons_self
    · have : (h == k) = false := by simpa using hk
      rw [this] at e
      exact List.mem_cons_of_mem _ (lookup_mem e)

theorem relbool {x : Value} {b : Bool} (h : RelV w (OO fo m) m x (boolV b)) : x = .bool b := h.v_inv
theorem relint {x : Value} {k : IntKind} {n : Int} (h : RelV w (OO fo m) m x (.d (.v (.int k n)))) : x = .int k n := h.v_inv
theorem mkbool (b : Bool) : RelV w (OO fo m) m (.bool b) (boolV b) := .d _ _ (.v _ rfl)
theorem mkint (k : IntKind) (n : Int) : RelV w (OO fo m) m (.int k n) (intV k n) := .d _ _ (.v _ rfl)
theorem mkstr (s : ByteArray) : RelV w (OO fo m) m (.string s) (strV s) := .d _ _ (.v _ rfl)

theorem gd_inv {x : Value} {g : Bool} {y : V} (h : RelV w (OO fo m) m x (.gd g y)) (hg : g = true) : RelV w (OO fo m) m x y := by
  subst hg
  cases h with
  | gt _ _ h => exact h

theorem run_asBool (b : Bool) : (asBool (.bool b)).run P w = .ok b w := rfl

theorem un_rel {O : Nat → Prop} {v : Value} {x : V} (h : RelV w O m v x) (hc : x.unc) : RelV w O m v x.un := by
  cases x with
  | gd g y =>
    simp only [V.unc] at hc
    subst hc
    cases h with
    | gt _ _ h => exact h
  | _ => exact h

theorem pickV_sound {t : Bool} {a b : V} {x : V} {c : Prop} (h : pickV t a b = some (x, c)) (hc : c) {va vb : Value} (ha : RelV w (OO fo m) m va a) (hb : RelV w (OO fo m) m vb b) :
    RelV w (OO fo m) m (if t then va else vb) x := by
  cases t with
  | true =>
    simp only [pickV, Option.some.injEq, Prod.mk.injEq] at h
    obtain ⟨rfl, rfl⟩ := h
    exact un_rel ha hc
  | false =>
    simp only [pickV, Option.some.injEq, Prod.mk.injEq] at h
    obtain ⟨rfl, rfl⟩ := h
    exact un_rel hb hc

theorem bp_inv {x : Value} {h off : Nat} (hr : RelV w (OO fo m) m x (.bp h off)) : ∃ b, m h = some (.pointer (some ⟨b, 0, none⟩)) ∧ x = .pointer (some ⟨b, off, none⟩) := by
  cases hr with
  | bp _ _ b e => exact ⟨b, e, rfl⟩
theorem rp_inv {x : Value} {cs : List D} (hr : RelV w (OO fo m) m x (.rp cs)) : ∃ (b off : Nat) (f : Nat → Value), x = .pointer (some ⟨b, off, none⟩) ∧ ¬ (OO fo m) b ∧ b < w.heap.size ∧
    (∀ j, j < cs.length → w.cell? ⟨b, off + j, none⟩ = some (f j)) ∧ ∀ (j : Nat) (y : D), cs[j]? = some y → RelD w (OO fo m) (f j) y := by
  cases hr with
  | rp b off _ f hb hlt hc hr => exact ⟨b, off, f, rfl, hb, hlt, hc, hr⟩
theorem ep_inv {x : Value} {h k i j : Nat} (hr : RelV w (OO fo m) m x (.ep h k i j)) : ∃ b o n c, m h = some (.slice (some ⟨b, o, none⟩) n c) ∧ x = .pointer (some ⟨b, o + i * k + j, none⟩) := by
  cases hr with
  | ep _ _ _ _ b o n c e => exact ⟨b, o, n, c, e, rfl⟩
theorem rv_inv {x : Value} {h : Nat} (hr : RelV w (OO fo m) m x (.rv h)) : m h = some x := by
  cases hr with
  | rv _ _ e _ => exact e
theorem agg_inv {x : Value} {cs : List V} (hr : RelV w (OO fo m) m x (.agg cs)) : ∃ vs : Array Value, x = .agg vs ∧ vs.size = cs.length ∧ (∀ (j : Nat) (x : Value), vs[j]? = some x → x.oneCell' = true) ∧
    ∀ (j : Nat) (x : Value) (y : V), vs[j]? = some x → cs[j]? = some y → RelV w (OO fo m) m x y := by
  cases hr with
  | agg vs _ hs h1 h => exact ⟨vs, rfl, hs, h1, h⟩
theorem tup_inv {x : Value} {cs : List V} (hr : RelV w (OO fo m) m x (.tup cs)) : ∃ vs : Array Value, x = .tuple vs ∧ vs.size = cs.length ∧
    ∀ (j : Nat) (x : Value) (y : V), vs[j]? = some x → cs[j]? = some y → RelV w (OO fo m) m x y := by
  cases hr with
  | tup vs _ hs h => exact ⟨vs, rfl, hs, h⟩

/-- A box's cells in the world. -/
theorem box_cells (hi : Inv fo m L w) {h b : Nat} {ty : TypeId} {cs : List V} (hl : (h, Res.box b ty cs) ∈ L) :
    ∃ bb, (b = 0 ∨ b = bb + 1) ∧ m h = some (.pointer (some ⟨bb, 0, none⟩)) ∧ ∃ cur : Array Value, w.heap[bb]? = some (.cells cur ty (0, 0)) ∧ cur.size = cs.length ∧ (∀ (j : Nat) (v : Value), cur[j]? = some v → v.oneCell' = true) ∧
      (∀ j, w.cell? ⟨bb, j, none⟩ = cur[j]?) ∧ ∀ (j : Nat) (v : Value) (c : V), cur[j]? = some v → cs[j]? = some c → RelV w (OO fo m) m v c := by
  obtain ⟨x, hx, bb, hbb, cur, rfl, hh, hs, h1, hr⟩ := hi.holds h _ hl
  exact ⟨bb, hbb, hx, cur, hh, hs, h1, fun j => by simp [World.cell?, hh], hr⟩

theorem row_cells (hi : Inv fo m L w) {h k : Nat} {ty : TypeId} {xs : List (List V)} (hl : (h, Res.row ty k xs) ∈ L) (hne : 0 < xs.length) :
    ∃ b off cap cur, m h = some (.slice (some ⟨b, off, none⟩) xs.length cap) ∧ w.heap[b]? = some (.cells cur ty (0, 0)) ∧ xs.length ≤ cap ∧ cap ≤ maxLen ∧ off + cap * k ≤ cur.size ∧
      (∀ (i : Nat) (x : List V), xs[i]? = some x → x.length = k) ∧ (∀ (j : Nat) (v : Value), cur[j]? = some v → v.oneCell' = true) ∧ (∀ j, w.cell? ⟨b, j, none⟩ = cur[j]?) ∧
      ∀ (i j : Nat) (x : List V) (y : V) (v : Value), xs[i]? = some x → x[j]? = some y → cur[off + i * k + j]? = some v → RelV w (OO fo m) m v y := by
  obtain ⟨x, hx, hh⟩ := hi.holds h _ hl
  rcases hh with ⟨_, rfl⟩ | ⟨b, off, cap, cur, rfl, hb, h1, h2, h3, h4, h5, h6⟩
  · simp at hne
  · exact ⟨b, off, cap, cur, hx, hb, h1, h2, h3, h4, h5, fun j => by simp [World.cell?, hb], h6⟩

theorem row_nil (hi : Inv fo m L w) {h k : Nat} {ty : TypeId} {xs : List (List V)} (hl : (h, Res.row ty k xs) ∈ L) : ∃ a cap, m h = some (.slice a xs.length cap) := by
  obtain ⟨x, hx, hh⟩ := hi.holds h _ hl
  rcases hh with ⟨rfl, rfl⟩ | ⟨b, off, cap, cur, rfl, _⟩
  · exact ⟨none, 0, hx⟩
  · exact ⟨_, cap, hx⟩

/-- cells [off, off+k) of a box as an aggregate -/
theorem agg_of_cells {k : Nat} {f : Nat → Value} {cs : List V} (hlen : cs.length = k) (h1 : ∀ j, j < k → (f j).oneCell' = true) (hr : ∀ (j : Nat) (y : V), cs[j]? = some y → RelV w (OO fo m) m (f j) y) :
    RelV w (OO fo m) m (.agg ((List.range k).map f).toArray) (.agg cs) := by
  refine .agg _ _ (by simp [hlen]) ?_ ?_
  · intro j x hx
    simp only [List.getElem?_toArray, List.getElem?_map] at hx
    obtain ⟨i, hi, rfl⟩ := Option.map_eq_some_iff.1 hx
    have := List.getElem?_eq_some_iff.1 hi
    obtain ⟨hlt, he⟩ := this
    simp at hlt he
    subst he
    exact h1 j hlt
  · intro j x y hx hy
    simp only [List.getElem?_toArray, List.getElem?_map] at hx
    obtain ⟨i, hi, rfl⟩ := Option.map_eq_some_iff.1 hx
    obtain ⟨hlt, he⟩ := List.getElem?_eq_some_iff.1 hi
    simp at he
    subst he
    exact hr j y hy

theorem relD_oneCell {x : Value} {y : D} {O : Nat → Prop} (h : RelD w O x y) : x.oneCell' = true := by
  cases h <;> first | rfl | assumption

theorem loadV_sound {t : TypeId} {a x : V} {c : Prop} (h : loadV P L t a = some (x, c)) (hc : c) (hi : Inv fo m L w) {va : Value} (ha : RelV w (OO fo m) m va a) :
    ∃ v, (Instr.loadAt t va).run P w = .ok v w ∧ RelV w (OO fo m) m v x := by
  unfold loadV at h
  split at h
  · cases h
  · rename_i g k hA
    split at h
    · -- box
      rename_i hh off
      split at h
      · rename_i bb0 ty cs hl
        obtain ⟨bb, hbb, hm, cur, hheap, hs, hone, hcell, hrel⟩ := box_cells hi (lookup_mem hl)
        obtain ⟨b, e, rfl⟩ := bp_inv ha
        rw [hm] at e
        obtain rfl : bb = b := by simpa using e
        cases g with
        | true =>
          simp only [if_true, Option.some.injEq, Prod.mk.injEq] at h
          obtain ⟨rfl, rfl⟩ := h
          have hcur : ∀ j, j < k → cur[off + j]? = some (cur.getD (off + j) undef) := fun j hj => by simp [Array.getD, show off + j < cur.size by omega]
          refine ⟨_, run_load_agg hA (f := fun j => cur.getD (off + j) undef) (fun j hj => ?_), agg_of_cells ?_ ?_ ?_⟩
          · rw [hcell]; exact hcur j hj
          · simp; omega
          · intro j hj; exact hone (off + j) _ (hcur j hj)
          · intro j y hy
            rw [List.getElem?_take] at hy
            split at hy
            · rename_i hj
              rw [List.getElem?_drop] at hy
              exact hrel (off + j) _ y (hcur j hj) hy
            · cases hy
        | false =>
          simp only [Bool.false_eq_true, if_false, Option.some.injEq, Prod.mk.injEq] at h
          obtain ⟨rfl, rfl⟩ := h
          have h1 : cur[off]? = some (cur[off]'(by omega)) := Array.getElem?_eq_getElem (by omega)
          have h2 : cs[off]? = some (cs[off]'hc) := List.getElem?_eq_getElem hc
          exact ⟨_, run_load_one hA (by rw [hcell]; exact h1), by rw [h2]; exact hrel off _ _ h1 h2⟩
      · cases h
    · -- rp
      rename_i cs
      obtain ⟨b, off, f, rfl, hb, hlt, hcell, hrel⟩ := rp_inv ha
      cases g with
      | true =>
        simp only [if_true, Option.some.injEq, Prod.mk.injEq] at h
        obtain ⟨rfl, rfl⟩ := h
        refine ⟨_, run_load_agg hA (f := f) (fun j hj => hcell j (by omega)), agg_of_cells (by simp; omega) ?_ ?_⟩
        · intro j hj; exact relD_oneCell (hrel j _ (List.getElem?_eq_getElem (by omega)))
        · intro j y hy
          rw [List.getElem?_map, List.getElem?_take] at hy
          split at hy
          · obtain ⟨z, hz, rfl⟩ := Option.map_eq_some_iff.1 hy
            exact .d _ _ (hrel j z hz)
          · cases hy
      | false =>
        simp only [Bool.false_eq_true, if_false, Option.some.injEq, Prod.mk.injEq] at h
        obtain ⟨rfl, rfl⟩ := h
        have h2 : cs[0]? = some (cs[0]'hc) := List.getElem?_eq_getElem hc
        exact ⟨_, run_load_one hA (by simpa using hcell 0 hc), by rw [h2]; exact .d _ _ (hrel 0 _ h2)⟩
    · -- ep
      rename_i hh k' i j
      split at h
      · rename_i ty k'' xs hl
        obtain ⟨b, o, n, cc, e, rfl⟩ := ep_inv ha
        cases g with
        | true =>
          simp only [if_true, Option.some.injEq, Prod.mk.injEq] at h
          obtain ⟨rfl, rfl⟩ := h
          obtain ⟨hix, hjk, rfl⟩ := hc
          obtain ⟨b', off, cap, cur, hm, hheap, hcap, hmax, hsz, hlen, hone, hcell, hrel⟩ := row_cells hi (lookup_mem hl) (by omega)
          rw [hm] at e
          simp only [Option.some.injEq, Value.slice.injEq, Addr.mk.injEq] at e
          obtain ⟨⟨rfl, rfl, _⟩, _, _⟩ := e
          have hget : xs[i]? = some xs[i] := List.getElem?_eq_getElem hix
          have hl2 := hlen i _ hget
          have hbd : (i + 1) * k' ≤ cap * k' := Nat.mul_le_mul_right _ (by omega)
          rw [Nat.add_mul, Nat.one_mul] at hbd
          have hcur : ∀ q, q < k → cur[off + i * k' + j + q]? = some (cur.getD (off + i * k' + j + q) undef) := fun q hq => by simp [Array.getD, show off + i * k' + j + q < cur.size by omega]
          refine ⟨_, run_load_agg hA (f := fun q => cur.getD (off + i * k' + j + q) undef) (fun q hq => ?_), agg_of_cells ?_ ?_ ?_⟩
          · rw [hcell]; exact hcur q hq
          · rw [aggAt_lt hix]; simp; omega
          · intro q hq; exact hone _ _ (hcur q hq)
          · intro q y hy
            rw [aggAt_lt hix, List.getElem?_take] at hy
            split at hy
            · rename_i hq
              simp only [List.getElem?_drop] at hy
              exact hrel i (j + q) _ y _ hget hy (by rw [← Nat.add_assoc]; exact hcur q hq)
            · cases hy
        | false =>
          simp only [Bool.false_eq_true, if_false, Option.some.injEq, Prod.mk.injEq] at h
          obtain ⟨rfl, rfl⟩ := h
          obtain ⟨hix, hjk, rfl⟩ := hc
          obtain ⟨b', off, cap, cur, hm, hheap, hcap, hmax, hsz, hlen, hone, hcell, hrel⟩ := row_cells hi (lookup_mem hl) (by omega)
          rw [hm] at e
          simp only [Option.some.injEq, Value.slice.injEq, Addr.mk.injEq] at e
          obtain ⟨⟨rfl, rfl, _⟩, _, _⟩ := e
          have hget : xs[i]? = some xs[i] := List.getElem?_eq_getElem hix
          have hl2 := hlen i _ hget
          have hbd : (i + 1) * k' ≤ cap * k' := Nat.mul_le_mul_right _ (by omega)
          rw [Nat.add_mul, Nat.one_mul] at hbd
          have h1 : cur[off + i * k' + j]? = some (cur[off + i * k' + j]'(by omega)) := Array.getElem?_eq_getElem (by omega)
          have h2 : xs[i][j]? = some (xs[i][j]'(by omega)) := List.getElem?_eq_getElem (by omega)
          exact ⟨_, run_load_one hA (by rw [hcell]; exact h1), by rw [cellAt_lt hix, h2]; exact hrel i j _ _ _ hget h2 h1⟩
      · cases h
    · cases h

theorem fieldAddrV_sound {t : TypeId} {f : Nat} {a x : V} {c : Prop} (h : fieldAddrV P t f a = some (x, c)) {va : Value} (ha : RelV w (OO fo m) m va a) :
    ∃ v, (Instr.fieldAt t va f).run P w = .ok v w ∧ RelV w (OO fo m) m v x := by
  unfold fieldAddrV at h
  split at h
  · cases h
  · rename_i o g k hF
    split at h
    · simp only [Option.some.injEq, Prod.mk.injEq] at h
      obtain ⟨rfl, _⟩ := h
      obtain ⟨b, e, rfl⟩ := bp_inv ha
      exact ⟨_, run_fieldAt' hF, .bp _ _ b e⟩
    · simp only [Option.some.injEq, Prod.mk.injEq] at h
      obtain ⟨rfl, _⟩ := h
      obtain ⟨b, off, f', rfl, hb, hlt, hcell, hrel⟩ := rp_inv ha
      refine ⟨_, run_fieldAt' hF, .rp b (off + o) _ (fun j => f' (o + j)) hb hlt (fun j hj => ?_) (fun j y hy => ?_)⟩
      · rw [Nat.add_assoc]; exact hcell (o + j) (by simp at hj; omega)
      · rw [List.getElem?_drop] at hy; exact hrel _ y hy
    · simp only [Option.some.injEq, Prod.mk.injEq] at h
      obtain ⟨rfl, _⟩ := h
      obtain ⟨b, oo, n, cc, e, rfl⟩ := ep_inv ha
      refine ⟨_, run_fieldAt' hF, ?_⟩
      rw [Nat.add_assoc]
      exact .ep _ _ _ _ b oo n cc e
    · cases h

/-- A part of an aggregate. -/
theorem part_sound {vs : Array Value} {cs : List V} {o k : Nat} {g : Bool} {ft : TypeId} (h4 : (isAgg ft).run P w = .ok g w) (h5 : (sizeOf ft).run P w = .ok k w) (hs : vs.size = cs.length)
    (h1 : ∀ (j : Nat) (x : Value), vs[j]? = some x → x.oneCell' = true) (hr : ∀ (j : Nat) (x : Value) (y : V), vs[j]? = some x → cs[j]? = some y → RelV w (OO fo m) m x y)
    (hb : if g then o + k ≤ cs.length else o < cs.length) :
    ∃ v, (part ft vs o).run P w = .ok v w ∧ RelV w (OO fo m) m v (if g then .agg ((cs.drop o).take k) else cs[o]?.getD .any) := by
  cases g with
  | true =>
    simp only [if_true] at hb
    refine ⟨.agg (vs.extract o (o + k)), by simp [part, h4, h5], ?_⟩
    simp only [if_true]
    refine .agg _ _ (by simp; omega) ?_ ?_
    · intro j x hx
      rw [Array.getElem?_extract] at hx
      split at hx
      · exact h1 _ x hx
      · cases hx
    · intro j x y hx hy
      rw [Array.getElem?_extract] at hx
      rw [List.getElem?_take] at hy
      split at hx
      · split at hy
        · rw [List.getElem?_drop] at hy
          exact hr _ x y hx hy
        · cases hy
      · cases hx
  | false =>
    simp only [Bool.false_eq_true, if_false] at hb ⊢
    have h2 : vs[o]? = some (vs[o]'(by omega)) := Array.getElem?_eq_getElem (by omega)
    have h3 : cs[o]? = some (cs[o]'hb) := List.getElem?_eq_getElem hb
    exact ⟨vs[o]'(by omega), by simp [part, h4, h2], by rw [h3]; exact hr o _ _ h2 h3⟩

theorem fieldV_sound {t : TypeId} {f : Nat} {a x : V} {c : Prop} (h : fieldV P t f a = some (x, c)) (hc : c) {va : Value} (ha : RelV w (OO fo m) m va a) :
    ∃ v, (Instr.field t va f).run P w = .ok v w ∧ RelV w (OO fo m) m v x := by
  unfold fieldV at h
  split at h
  · cases h
  · rename_i o g k hF
    split at h
    · rename_i cs
      obtain ⟨fs, fl, h1, h2, h3, h4, h5, h6⟩ := tyF_spec hF w
      obtain ⟨vs, rfl, hs, h7, hr⟩ := agg_inv ha
      have hh : (if g then o + k ≤ cs.length else o < cs.length) ∧ x = (if g then .agg ((cs.drop o).take k) else cs[o]?.getD .any) := by
        cases g <;> simp only [Bool.false_eq_true, if_false, if_true, Option.some.injEq, Prod.mk.injEq] at h <;> obtain ⟨rfl, rfl⟩ := h <;> exact ⟨by simpa using hc, by simp⟩
      obtain ⟨v, hv, hrel⟩ := part_sound h4 h5 hs h7 hr hh.1
      refine ⟨v, ?_, by rw [hh.2]; exact hrel⟩
      simp [Instr.field, h1, h2, asAgg, h3, hv]
    · cases h


theorem rv_slice (hi : Inv fo m L w) {h k : Nat} {ty : TypeId} {xs : List (List V)} (hl : L.lookup h = some (.row ty k xs)) {x : Value} (hr : RelV w (OO fo m) m x (.rv h)) : ∃ a cap, m h = some x ∧ x = .slice a xs.length cap := by
  obtain ⟨a, cap, e⟩ := row_nil hi (lookup_mem hl)
  have := rv_inv hr
  rw [e] at this
  simp only [Option.some.injEq] at this
  exact ⟨a, cap, by rw [e, this], this.symm⟩

theorem tyA_of_E {t e : TypeId} {k : Nat} (h : tyE P t = some (e, k)) : ∃ d, (underlying t).run P w = .ok d w ∧ d = .slice e := ⟨_, (tyE_spec h w).1, rfl⟩

theorem indexAddrV_sound {t : TypeId} {a i x : V} {c : Prop} (h : indexAddrV P L t a i = some (x, c)) (hc : c) (hi : Inv fo m L w) {va vi : Value} (ha : RelV w (OO fo m) m va a) (hv : RelV w (OO fo m) m vi i) :
    ∃ v, (Instr.indexAt t va vi).run P w = .ok v w ∧ RelV w (OO fo m) m v x := by
  unfold indexAddrV at h
  split at h
  · rename_i kk n
    obtain rfl := hv.v_inv
    split at h
    · rename_i e k xs hE
      simp only [Option.some.injEq, Prod.mk.injEq] at h
      obtain ⟨rfl, rfl⟩ := h
      obtain ⟨⟨h0, h1⟩, h2⟩ := hc
      obtain ⟨b, off, k', cap, rfl, hk, hrel⟩ := sl_elem (m := m) ha.d_inv h1
      have hkk : k' = k := by
        rw [List.getElem?_eq_getElem h1] at h2
        rw [← h2]; exact (hk _ (List.getElem_mem h1)).symm
      subst hkk
      obtain ⟨h3, h4⟩ := tyE_spec hE w
      refine ⟨_, ?_, by rw [List.getElem?_eq_getElem h1] at hrel ⊢; exact hrel⟩
      have hlt : n < xs.length := by omega
      simp [Instr.indexAt, asIntOf, h3, h4, h0, hlt, Addr.add_lit]
    · rename_i e k hh hE
      split at h
      · rename_i ty k' xs hl
        simp only [Option.some.injEq, Prod.mk.injEq] at h
        obtain ⟨rfl, rfl⟩ := h
        obtain ⟨⟨h0, h1⟩, rfl⟩ := hc
        obtain ⟨b, off, cap, cur, hm, -⟩ := row_cells hi (lookup_mem hl) (by omega)
        have := rv_inv ha
        rw [hm] at this
        obtain rfl := Option.some.inj this
        obtain ⟨h3, h4⟩ := tyE_spec hE w
        have hlt : n < xs.length := by omega
        refine ⟨.pointer (some ⟨b, off + n.toNat * k + 0, none⟩), ?_, .ep _ _ _ _ b off _ _ hm⟩
        simp [Instr.indexAt, asIntOf, h3, h4, h0, hlt, Addr.add_lit]
      · cases h
    · split at h
      · rename_i len g k hh off hA _ _
        simp only [Option.some.injEq, Prod.mk.injEq] at h
        obtain ⟨rfl, rfl⟩ := h
        obtain ⟨h0, h1⟩ := hc
        obtain ⟨e, h3, h5, h4⟩ := tyArr_spec hA w
        obtain ⟨b, e', rfl⟩ := bp_inv ha
        refine ⟨_, ?_, .bp _ _ b e'⟩
        simp [Instr.indexAt, asIntOf, h3, h4, h0, h1, Addr.add_lit, Instr.sureAddr]
      · rename_i len g k cs hA _ _
        simp only [Option.some.injEq, Prod.mk.injEq] at h
        obtain ⟨rfl, rfl⟩ := h
        obtain ⟨h0, h1⟩ := hc
        obtain ⟨e, h3, h5, h4⟩ := tyArr_spec hA w
        obtain ⟨b, off, f', rfl, hb, hlt, hcell, hrel⟩ := rp_inv ha
        refine ⟨.pointer (some ⟨b, off + n.toNat * k, none⟩), ?_, .rp b (off + n.toNat * k) _ (fun j => f' (n.toNat * k + j)) hb hlt (fun j hj => ?_) (fun j y hy => ?_)⟩
        · simp [Instr.indexAt, asIntOf, h3, h4, h0, h1, Addr.add_lit, Instr.sureAddr]
        · rw [Nat.add_assoc]; exact hcell (n.toNat * k + j) (by simp at hj; omega)
        · rw [List.getElem?_drop] at hy; exact hrel _ y hy
      · cases h
  · cases h

theorem tyStr_spec {t : TypeId} (h : tyStr P t = true) (w : World) : (underlying t).run P w = .ok .string w := by
  unfold tyStr at h
  split at h
  · rename_i h'; exact run_underlying h' w
  · cases h

theorem indexV_sound {t : TypeId} {a i x : V} {c : Prop} (h : indexV P t a i = some (x, c)) (hc : c) {va vi : Value} (ha : RelV w (OO fo m) m va a) (hv : RelV w (OO fo m) m vi i) :
    ∃ v, (Instr.index t va vi).run P w = .ok v w ∧ RelV w (OO fo m) m v x := by
  unfold indexV at h
  split at h
  · rename_i kk n
    obtain rfl := hv.v_inv
    split at h
    · rename_i s
      obtain rfl := ha.v_inv
      split at h
      · rename_i hs
        simp only [Option.some.injEq, Prod.mk.injEq] at h
        obtain ⟨rfl, rfl⟩ := h
        obtain ⟨h0, h1⟩ := hc
        have e1 : s[n.toNat]? = some (s[n.toNat]'h1) := by simp [h1]
        have e2 : s.data.toList[n.toNat]? = some (s[n.toNat]'h1) := by
          rw [Array.getElem?_toList]
          exact Array.getElem?_eq_getElem h1
        refine ⟨.int .u8 (s[n.toNat]'h1).toNat, ?_, ?_⟩
        · simp [Instr.index, asIntOf, tyStr_spec hs w, h0, e1]
        · rw [e2]; exact mkint _ _
      · cases h
    · rename_i cs
      split at h
      · rename_i len hA
        simp only [Option.some.injEq, Prod.mk.injEq] at h
        obtain ⟨rfl, rfl⟩ := h
        obtain ⟨⟨h0, h1⟩, h2⟩ := hc
        obtain ⟨vs, rfl, hs, h7, hr⟩ := agg_inv ha
        obtain ⟨e, h3, h5, h4⟩ := tyArr_spec hA w
        obtain ⟨v, hv', hrel⟩ := part_sound (o := n.toNat) h5 h4 hs h7 hr (by simp; omega)
        refine ⟨v, ?_, by simpa using hrel⟩
        simp [Instr.index, asIntOf, h3, h4, h0, h1, hv']
      · cases h
    · cases h
  · cases h

theorem inR_wrap {k : IntKind} {n : Int} (h : inR k n) : k.wrap n = n := by
  unfold inR IntKind.min IntKind.max at h
  unfold IntKind.wrap
  cases k <;> simp [IntKind.bits, IntKind.signed] at * <;> omega

theorem binV_sound {op : BinOp} {t : TypeId} {xo yo : Operand} {a b x : V} {c : Prop} (h : binV op a b = some (x, c)) (hc : c) {va vb : Value} (ha : RelV w (OO fo m) m va a) (hb : RelV w (OO fo m) m vb b) :
    ∃ v, (do eqGuard op t xo yo va vb; binOp op t va vb : Sem Value).run P w = .ok v w ∧ RelV w (OO fo m) m v x := by
  unfold binV at h
  split at h
  · rename_i k p k' q
    obtain rfl := ha.v_inv
    obtain rfl := hb.v_inv
    have hg : (eqGuard op t xo yo (.int k p) (.int k' q)).run P w = .ok () w := by
      cases op <;> simp [eqGuard]
    rw [Sem.run_bind, hg]
    simp only [Result.andThen_ok]
    split at h
    · simp only [Option.some.injEq, Prod.mk.injEq] at h
      obtain ⟨rfl, rfl⟩ := h
      exact ⟨_, by simp [binOp, Op.shift, Int.not_lt.2 hc], mkint _ _⟩
    · simp only [Option.some.injEq, Prod.mk.injEq] at h
      obtain ⟨rfl, rfl⟩ := h
      exact ⟨_, by simp [binOp, Op.shift, Int.not_lt.2 hc], mkint _ _⟩
    all_goals (split at h; rotate_left; cases h; rename_i hk; subst hk)
    case h_3 | h_4 | h_5 =>
      split at h
      · rename_i hk; subst hk
        simp only [Option.some.injEq, Prod.mk.injEq] at h
        obtain ⟨rfl, rfl⟩ := h
        exact ⟨_, by simp only [binOp, Op.intArith, ne_eq, not_true_eq_false, if_false, Sem.run_pure]; rw [inR_wrap hc], mkint _ _⟩
      · simp only [Option.some.injEq, Prod.mk.injEq] at h
        obtain ⟨rfl, rfl⟩ := h
        exact ⟨_, by simp [binOp, Op.intArith], mkint _ _⟩
    case h_6 | h_7 =>
      simp only [Option.some.injEq, Prod.mk.injEq] at h
      obtain ⟨rfl, rfl⟩ := h
      exact ⟨_, by simp [binOp, Op.intDiv, hc], mkint _ _⟩
    case h_8 | h_9 | h_10 | h_11 =>
      simp only [Option.some.injEq, Prod.mk.injEq] at h
      obtain ⟨rfl, rfl⟩ := h
      exact ⟨_, by simp only [binOp, Op.intBits, ne_eq, not_true_eq_false, if_false, Sem.run_pure], mkint _ _⟩
    all_goals
      simp only [Option.some.injEq, Prod.mk.injEq] at h
      obtain ⟨rfl, rfl⟩ := h
      exact ⟨_, by simp [binOp, Op.intCmp], mkbool _⟩
  · rename_i p q
    obtain rfl := ha.v_inv
    obtain rfl := hb.v_inv
    have hg : (eqGuard op t xo yo (.string p) (.string q)).run P w = .ok () w := by
      cases op <;> simp [eqGuard]
    rw [Sem.run_bind, hg]
    simp only [Result.andThen_ok]
    split at h
    · simp only [Option.some.injEq, Prod.mk.injEq] at h
      obtain ⟨rfl, rfl⟩ := h
      exact ⟨_, by simp only [binOp, Op.stringOp]; rw [if_neg (Int.not_lt.2 hc)]; rfl, mkstr _⟩
    · simp only [Option.some.injEq, Prod.mk.injEq] at h
      obtain ⟨rfl, rfl⟩ := h
      exact ⟨_, by simp [binOp, Op.stringOp], mkbool _⟩
    · simp only [Option.some.injEq, Prod.mk.injEq] at h
      obtain ⟨rfl, rfl⟩ := h
      exact ⟨_, by simp [binOp, Op.stringOp], mkbool _⟩
    · cases h
  · cases h

theorem unV_sound {op : UnOp} {a x : V} {c : Prop} (h : unV op a = some (x, c)) (hc : c) {va : Value} (ha : RelV w (OO fo m) m va a) :
    ∃ v, (Op.unary op va).run P w = .ok v w ∧ RelV w (OO fo m) m v x := by
  unfold unV at h
  split at h
  · obtain rfl := ha.v_inv
    simp only [Option.some.injEq, Prod.mk.injEq] at h
    obtain ⟨rfl, rfl⟩ := h
    exact ⟨_, rfl, mkbool _⟩
  · rename_i k n
    obtain rfl := ha.v_inv
    split at h
    · rename_i hk; subst hk
      simp only [Option.some.injEq, Prod.mk.injEq] at h
      obtain ⟨rfl, rfl⟩ := h
      refine ⟨.int .i64 (-n), ?_, mkint _ _⟩
      simp only [Op.unary, Op.intArith, Sem.run_pure]
      rw [show (0 : Int) - n = -n by omega, inR_wrap hc]
    · simp only [Option.some.injEq, Prod.mk.injEq] at h
      obtain ⟨rfl, rfl⟩ := h
      exact ⟨_, rfl, mkint _ _⟩
  · cases h

theorem lenV_sound {t ty : TypeId} {a x : V} {c : Prop} (h : lenV P L t a = some (x, c)) (hi : Inv fo m L w) {va : Value} (ha : RelV w (OO fo m) m va a) :
    ∃ v, (Builtin.len_ #[t] ty #[va]).run P w = .ok v w ∧ RelV w (OO fo m) m v x := by
  unfold lenV at h
  split at h
  · obtain rfl := ha.v_inv
    split at h
    · rename_i s hs
      simp only [Option.some.injEq, Prod.mk.injEq] at h
      obtain ⟨rfl, rfl⟩ := h
      exact ⟨_, by simp [Builtin.len_, tyStr_spec hs w]; rfl, mkint _ _⟩
    · cases h
  · split at h
    · rename_i hE
      simp only [Option.some.injEq, Prod.mk.injEq] at h
      obtain ⟨rfl, rfl⟩ := h
      obtain ⟨⟨e, k⟩, hE'⟩ := Option.isSome_iff_exists.1 hE
      obtain ⟨a', cap, rfl, -⟩ := ha.d_inv.sl_inv
      exact ⟨_, by simp [Builtin.len_, (tyE_spec hE' w).1]; rfl, mkint _ _⟩
    · cases h
  · split at h
    · rename_i hE
      simp only [Option.some.injEq, Prod.mk.injEq] at h
      obtain ⟨rfl, rfl⟩ := h
      obtain ⟨⟨e, k⟩, hE'⟩ := Option.isSome_iff_exists.1 hE
      obtain rfl := ha.v_inv
      exact ⟨_, by simp [Builtin.len_, (tyE_spec hE' w).1]; rfl, mkint _ _⟩
    · cases h
  · split at h
    · rename_i hl
      split at h
      · rename_i hE
        simp only [Option.some.injEq, Prod.mk.injEq] at h
        obtain ⟨rfl, rfl⟩ := h
        obtain ⟨⟨e, k⟩, hE'⟩ := Option.isSome_iff_exists.1 hE
        obtain ⟨a', cap, _, rfl⟩ := rv_slice hi hl ha
        exact ⟨_, by simp [Builtin.len_, (tyE_spec hE' w).1]; rfl, mkint _ _⟩
      · cases h
    · cases h
  · cases h

theorem tyInt_spec {t : TypeId} {k : IntKind} (h : tyInt P t = some k) (w : World) : (underlying t).run P w = .ok (.int k) w := by
  unfold tyInt at h
  split at h
  · rename_i h'; simp only [Option.some.injEq] at h; subst h; exact run_underlying h' w
  · cases h

theorem convV_sound {src dst : TypeId} {a x : V} {c : Prop} (h : convV P src dst a = some (x, c)) (hc : c) {va : Value} (ha : RelV w (OO fo m) m va a) :
    ∃ v, (convert src dst va).run P w = .ok v w ∧ RelV w (OO fo m) m v x := by
  unfold convV at h
  split at h
  · rename_i k n k' hd
    obtain rfl := ha.v_inv
    split at h
    · rename_i hs
      obtain ⟨ks, hs⟩ := Option.isSome_iff_exists.1 hs
      have hrun : (convert src dst (.int k n)).run P w = .ok (.int k' (k'.wrap n)) w := by
        simp [convert, tyInt_spec hs w, tyInt_spec hd w, Conv.intToInt]
      split at h
      · rename_i hk; subst hk
        simp only [Option.some.injEq, Prod.mk.injEq] at h
        obtain ⟨rfl, rfl⟩ := h
        exact ⟨_, by rw [hrun, inR_wrap hc], mkint _ _⟩
      · simp only [Option.some.injEq, Prod.mk.injEq] at h
        obtain ⟨rfl, rfl⟩ := h
        exact ⟨_, hrun, mkint _ _⟩
    · cases h
  · rename_i s hd
    obtain rfl := ha.v_inv
    split at h
    · rename_i hs
      simp only [Bool.and_eq_true] at hs
      simp only [Option.some.injEq, Prod.mk.injEq] at h
      obtain ⟨rfl, rfl⟩ := h
      exact ⟨_, by simp [convert, tyStr_spec hs.1 w, tyStr_spec hs.2 w], mkstr _⟩
    · cases h
  · cases h

theorem mem_operands_args {f : Operand} {l : List Operand} {z : Operand} (h : z ∈ l) : z ∈ #[f] ++ l.toArray := by simp [h]

theorem map_rel {ρ : Operand → Value} {ρa : Operand → V} (l : Array Operand) (h : ∀ z, z ∈ l → RelV w (OO fo m) m (ρ z) (ρa z)) :
    ∀ (j : Nat) (x : Value) (y : V), (l.map ρ)[j]? = some x → (l.toList.map ρa)[j]? = some y → RelV w (OO fo m) m x y := by
  intro j x y hx hy
  rw [Array.getElem?_map] at hx
  rw [List.getElem?_map, Array.getElem?_toList] at hy
  obtain ⟨z, hz, rfl⟩ := Option.map_eq_some_iff.1 hx
  obtain ⟨z', hz', rfl⟩ := Option.map_eq_some_iff.1 hy
  rw [hz] at hz'
  obtain rfl := Option.some.inj hz'
  exact h z (Array.mem_of_getElem? hz)

theorem q1_sound {ρa : Operand → V} {o : Oper} {x : V} {c : Prop} (h : q1 P ρa L o = some (x, c)) (hc : c) : OpQ P o ρa L x := by
  intro fo m ρ w hi hr
  obtain ⟨dst, op, ty, pos, after, guard⟩ := o
  unfold q1 at h
  simp only at h hr
  split at h
  · simp only [Option.some.injEq, Prod.mk.injEq] at h; obtain ⟨rfl, _⟩ := h
    exact ⟨_, rfl, hr _ (by simp [Op.operands])⟩
  · simp only [Option.some.injEq, Prod.mk.injEq] at h; obtain ⟨rfl, _⟩ := h
    exact ⟨_, rfl, hr _ (by simp [Op.operands])⟩
  · rename_i co ao bo
    split at h
    · rename_i t ht
      have h1 := hr co (by simp [Op.operands]); rw [ht] at h1
      refine ⟨_, ?_, pickV_sound h hc (hr ao (by simp [Op.operands])) (hr bo (by simp [Op.operands]))⟩
      simp only [execOp]; rw [h1.v_inv]; cases t <;> simp [asBool]
    · cases h
  · obtain ⟨v, h1, h2⟩ := loadV_sound h hc hi (hr _ (by simp [Op.operands]))
    exact ⟨v, by simp [execOp, h1], h2⟩
  · obtain ⟨v, h1, h2⟩ := fieldAddrV_sound (w := w) h (hr _ (by simp [Op.operands]))
    exact ⟨v, by simp [execOp, h1], h2⟩
  · obtain ⟨v, h1, h2⟩ := fieldV_sound (w := w) h hc (hr _ (by simp [Op.operands]))
    exact ⟨v, by simp [execOp, h1], h2⟩
  · rename_i t xo io
    obtain ⟨v, h1, h2⟩ := indexAddrV_sound h hc hi (hr xo (by simp [Op.operands])) (hr io (by simp [Op.operands]))
    exact ⟨v, by simp [execOp, h1], h2⟩
  · rename_i t xo io
    obtain ⟨v, h1, h2⟩ := indexV_sound (w := w) h hc (hr xo (by simp [Op.operands])) (hr io (by simp [Op.operands]))
    exact ⟨v, by simp [execOp, h1], h2⟩
  · rename_i bop t xo yo yt
    obtain ⟨v, h1, h2⟩ := binV_sound (P := P) (w := w) (t := t) (xo := xo) (yo := yo) h hc (hr xo (by simp [Op.operands])) (hr yo (by simp [Op.operands]))
    refine ⟨v, ?_, h2⟩
    simp only [execOp]
    rw [Sem.run_bind, h1]; rfl
  · obtain ⟨v, h1, h2⟩ := unV_sound (P := P) (w := w) h hc (hr _ (by simp [Op.operands]))
    exact ⟨v, by simp [execOp, h1], h2⟩
  · obtain ⟨v, h1, h2⟩ := convV_sound (w := w) h hc (hr _ (by simp [Op.operands]))
    exact ⟨v, by simp [execOp, h1], h2⟩
  · rename_i xo i
    have hx := hr xo (by simp [Op.operands])
    unfold extractV at h
    split at h
    · rename_i vs hvs
      simp only [Option.some.injEq, Prod.mk.injEq] at h; obtain ⟨rfl, rfl⟩ := h
      rw [hvs] at hx
      obtain ⟨us, hu, hs, hrel⟩ := tup_inv hx
      have h2 : us[i]? = some (us[i]'(by omega)) := Array.getElem?_eq_getElem (by omega)
      have h3 : vs[i]? = some (vs[i]'hc) := List.getElem?_eq_getElem hc
      exact ⟨us[i]'(by omega), by simp [execOp, hu, Instr.extract, h2], by rw [h3]; exact hrel i _ _ h2 h3⟩
    · cases h
  · rename_i xo
    have hx := hr xo (by simp [Op.operands])
    unfold nilCheckV at h
    split at h
    · rename_i hv
      simp only [Option.some.injEq, Prod.mk.injEq] at h; obtain ⟨rfl, _⟩ := h
      rw [hv] at hx
      obtain ⟨b, e, hp⟩ := bp_inv hx
      exact ⟨ρ xo, by simp [execOp, hp], hx⟩
    · rename_i hv
      simp only [Option.some.injEq, Prod.mk.injEq] at h; obtain ⟨rfl, _⟩ := h
      rw [hv] at hx
      obtain ⟨b, off, f', hp, -⟩ := rp_inv hx
      exact ⟨ρ xo, by simp [execOp, hp], hx⟩
    · rename_i hv
      simp only [Option.some.injEq, Prod.mk.injEq] at h; obtain ⟨rfl, _⟩ := h
      rw [hv] at hx
      obtain ⟨b, oo, n, cc, e, hp⟩ := ep_inv hx
      exact ⟨ρ xo, by simp [execOp, hp], hx⟩
    · cases h
  · rename_i fn first caps
    simp only [Option.some.injEq, Prod.mk.injEq] at h; obtain ⟨rfl, _⟩ := h
    refine ⟨.func fn (first.map ρ) (caps.map ρ), by simp [execOp, Instr.makeFunc], .clo _ _ _ _ _ (by simp) (by simp) ?_ ?_⟩
    · exact map_rel first fun z hz => hr z (by simp [Op.operands, hz])
    · exact map_rel caps fun z hz => hr z (by simp [Op.operands, hz])
  · rename_i cl
    obtain ⟨callee, args, argTypes⟩ := cl
    unfold callV at h
    split at h
    · rename_i xo t hcal hargs htys
      simp only at hcal hargs htys
      obtain rfl : args = #[xo] := by rw [← Array.toList_inj]; exact hargs
      obtain rfl : argTypes = #[t] := by rw [← Array.toList_inj]; exact htys
      subst hcal
      obtain ⟨v, h1, h2⟩ := lenV_sound (ty := ty) h hi (hr xo (by simp [Op.operands, Call.operands]))
      exact ⟨v, by simp [execOp, resolve, invoke, builtin, h1], h2⟩
    · cases h
  · cases h

end
end Go.Ab
