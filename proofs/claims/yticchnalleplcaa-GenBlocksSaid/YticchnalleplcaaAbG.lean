/-
  The engine, part G: literals, make, append, stores into owned rows, cuts of owned rows.
-/
import Derived.Test.YticchnalleplcaaAbF
import Derived.Great.BuildSlice
set_option linter.unusedSimpArgs false
set_option linter.unusedVariables false
namespace Go.Ab

theorem foldl_splice (off : Nat) : ∀ (l : List Value) (j0 : Nat) (cells : Array Value), off + j0 + l.length ≤ cells.size →
    ((l.zipIdx j0).foldl (fun (cs : Array Value) (p : Value × Nat) => cs.setIfInBounds (off + p.2) p.1) cells).toList = cells.toList.take (off + j0) ++ l ++ cells.toList.drop (off + j0 + l.length)
  | [], j0, cells, _ => by simp
  | v :: l, j0, cells, h => by
    simp only [List.zipIdx_cons, List.foldl_cons]
    rw [foldl_splice off l (j0 + 1) _ (by simp at h ⊢; omega)]
    have e := list_seg_step cells.toList (off + j0) v l (by simp at h ⊢; omega)
    simpa [Array.toList_setIfInBounds, Nat.add_assoc] using e

theorem fold_splice' (off : Nat) (v cells : Array Value) (h : off + v.size ≤ cells.size) :
    (v.zipIdx.foldl (fun (cs : Array Value) (p : Value × Nat) => cs.setIfInBounds (off + p.2) p.1) cells).toList = cells.toList.take off ++ v.toList ++ cells.toList.drop (off + v.size) := by
  have := foldl_splice off v.toList 0 cells (by simpa using h)
  rw [← Array.foldl_toList, Array.toList_zipIdx]
  simpa using this

/-- Filling abstractly. -/
def fillV (place : Nat → Option (Nat × Nat)) (cells : List V) : List (Nat × V) → Option (List V × Prop)
  | [] => some (cells, True)
  | (i, x) :: rest =>
    match place i, x.cl with
    | some (off, size), some cs =>
      match fillV place (putAt off cs cells) rest with
      | some (r, c) => some (r, (cs.length = size ∧ off + size ≤ cells.length) ∧ c)
      | none => none
    | _, _ => none

section
variable {P : Program} {w w' : World} {fo : Nat → Prop} {m m' : Nat → Option Value} {L : Heap} {n : Nat} {s : St} {a : Act}

theorem fill_sound {O : Nat → Prop} {place : Nat → Option (Nat × Nat)} : ∀ (ps : List (Nat × Value)) (qs : List (Nat × V)) (cells : Array Value) (cv : List V) {r : List V} {c : Prop},
    ps.length = qs.length → (∀ (j : Nat) (p : Nat × Value) (q : Nat × V), ps[j]? = some p → qs[j]? = some q → p.1 = q.1 ∧ RelV w O m p.2 q.2) →
    cells.size = cv.length → (∀ u ∈ cells.toList, u.oneCell' = true) → (∀ (j : Nat) (u : Value) (c : V), cells[j]? = some u → cv[j]? = some c → RelV w O m u c) →
    fillV place cv qs = some (r, c) → c →
    ∃ cells', Instr.fill place cells ps = some cells' ∧ cells'.size = r.length ∧ (∀ u ∈ cells'.toList, u.oneCell' = true) ∧ (∀ (j : Nat) (u : Value) (c : V), cells'[j]? = some u → r[j]? = some c → RelV w O m u c)
  | [], [], cells, cv, r, c, _, _, hs, h1, h2, hf, hc => by
    simp only [fillV, Option.some.injEq, Prod.mk.injEq] at hf
    obtain ⟨rfl, rfl⟩ := hf
    exact ⟨cells, rfl, hs, h1, h2⟩
  | [], _ :: _, _, _, _, _, hl, _, _, _, _, _, _ => by simp at hl
  | _ :: _, [], _, _, _, _, hl, _, _, _, _, _, _ => by simp at hl
  | (i, v) :: ps, (i', x) :: qs, cells, cv, r, c, hl, hr, hs, h1, h2, hf, hc => by
    obtain ⟨hii, hrel⟩ := hr 0 (i, v) (i', x) rfl rfl
    simp only at hii hrel
    subst hii
    simp only [fillV] at hf
    split at hf
    · rename_i off size cs hpl hcl
      split at hf
      · rename_i r' c' hf'
        simp only [Option.some.injEq, Prod.mk.injEq] at hf
        obtain ⟨rfl, rfl⟩ := hf
        obtain ⟨⟨hsz, hoff⟩, hc'⟩ := hc
        obtain ⟨g1, g2, g3⟩ := cl_sound hrel hcl
        have hfit : off + v.cells.size ≤ cells.size := by omega
        have e1 := fold_splice' off v.cells cells hfit
        have hlen : v.cells.toList.length = cs.length := by simp [g1]
        have hsp := fun j => getElem?_splice cells.toList v.cells.toList off (by simp; omega) j
        have hsp2 := fun j => getElem?_splice cv cs off (by omega) j
        obtain ⟨cells', k1, k2, k3, k4⟩ := fill_sound ps qs (v.cells.zipIdx.foldl (fun (cs : Array Value) (p : Value × Nat) => cs.setIfInBounds (off + p.2) p.1) cells) (putAt off cs cv)
          (by simpa using hl) (fun j p q hp hq => hr (j + 1) p q (by simpa using hp) (by simpa using hq))
          (by rw [putAt_length (by omega), ← hs, ← Array.length_toList, e1]; simp; omega)
          (by
            rw [e1]; intro u hu
            simp only [List.mem_append] at hu
            rcases hu with (hu | hu) | hu
            · exact h1 u (List.mem_of_mem_take hu)
            · exact g2 u hu
            · exact h1 u (List.mem_of_mem_drop hu))
          (by
            intro j u c hu hc2
            rw [← Array.getElem?_toList, e1, ← Array.length_toList, hsp] at hu
            unfold putAt at hc2
            rw [hsp2] at hc2
            rw [hlen] at hu
            split at hu
            · rename_i hj; rw [if_pos hj] at hc2; exact g3 _ u c (by rw [← Array.getElem?_toList]; exact hu) hc2
            · rename_i hj; rw [if_neg hj] at hc2; exact h2 j u c (by rw [← Array.getElem?_toList]; exact hu) hc2)
          hf' hc'
        refine ⟨cells', ?_, k2, k3, k4⟩
        rw [Instr.fill]
        simp only [hpl]
        have hne : ¬ (v.cells.size ≠ size || decide (off + v.cells.size > cells.size)) = true := by
          simp; omega
        rw [if_neg hne]
        exact k1
      · cases hf
    · cases hf

/-- of a type: how a literal of it is filled -/
def tyB (P : Program) (t : TypeId) : Option (List Value × List (Nat × Nat)) :=
  match P.info? t, P.underlying t with
  | some it, some (.struct fields) =>
    match it.zero, fields.toList.mapM (fun f => (P.info? f.type).map fun i => (f.offset, i.size)) with
    | some z, some places => if z.cells.all (·.oneCell') then some (z.cells.toList, places) else none
    | _, _ => none
  | some it, some (.array n e) =>
    match it.zero, P.info? e with
    | some z, some ie => if z.cells.all (·.oneCell') then some (z.cells.toList, (List.range n).map fun i => (i * ie.size, ie.size)) else none
    | _, _ => none
  | _, _ => none

def buildV (P : Program) (t : TypeId) (qs : List (Nat × V)) : Option (V × Prop) :=
  match tyB P t with
  | some (z, places) =>
    match fillV (places[·]?) (z.map fun x => .d (.v x)) qs with
    | some (r, c) => some (.agg r, c)
    | none => none
  | none => none

theorem fill_place_congr {p q : Nat → Option (Nat × Nat)} : ∀ (l : List (Nat × Value)), (∀ x ∈ l, ∀ y, p x.1 = some y → q x.1 = some y) → ∀ {cells cells' : Array Value}, Instr.fill p cells l = some cells' → Instr.fill q cells l = some cells'
  | [], _, _, _, h => h
  | (i, v) :: l, hpq, cells, cells', h => by
    rw [Instr.fill] at h ⊢
    cases hp : p i with
    | none => simp [hp] at h
    | some y =>
      obtain ⟨off, size⟩ := y
      rw [hpq (i, v) (by simp) _ hp]
      simp only [hp] at h ⊢
      split at h
      · cases h
      · rename_i hne
        rw [if_neg hne]
        exact fill_place_congr l (fun x hx => hpq x (by simp [hx])) h

theorem buildV_sound {O : Nat → Prop} {t : TypeId} {ps : Array (Nat × Value)} {qs : List (Nat × V)} {x : V} {c : Prop} (hl : ps.toList.length = qs.length)
    (hr : ∀ (j : Nat) (p : Nat × Value) (q : Nat × V), ps.toList[j]? = some p → qs[j]? = some q → p.1 = q.1 ∧ RelV w O m p.2 q.2) (h : buildV P t qs = some (x, c)) (hc : c) :
    ∃ v, (Instr.build t ps).run P w = .ok v w ∧ RelV w O m v x := by
  unfold buildV at h
  split at h
  · rename_i z places hB
    split at h
    · rename_i r c' hf
      simp only [Option.some.injEq, Prod.mk.injEq] at h
      obtain ⟨rfl, rfl⟩ := h
      unfold tyB at hB
      split at hB
      · rename_i it fields hit hu
        split at hB
        · rename_i zz pl hz hp
          split at hB
          · rename_i hall
            simp only [Option.some.injEq, Prod.mk.injEq] at hB
            obtain ⟨rfl, rfl⟩ := hB
            have hone : ∀ u ∈ zz.cells.toList, u.oneCell' = true := by
              rw [Array.all_eq_true'] at hall
              intro u hu; exact hall u (by simpa using hu)
            obtain ⟨cells', k1, k2, k3, k4⟩ := fill_sound (w := w) (O := O) (m := m) ps.toList qs zz.cells _ hl hr (by simp) hone (by
              intro j u c hu hc; exact rel_vals hone j u c (by rw [Array.getElem?_toList]; exact hu) hc) hf hc
            refine ⟨.agg cells', run_build w t ps cells' ?_, .agg _ _ k2 (fun j u hu => k3 u (List.mem_of_getElem? (by rw [Array.getElem?_toList]; exact hu))) k4⟩
            unfold Program.built
            simp only [hit, hu, hz, hp]
            simpa using k1
          · cases hB
        · cases hB
      · rename_i it nn e hit hu
        split at hB
        · rename_i zz ie hz hie
          split at hB
          · rename_i hall
            simp only [Option.some.injEq, Prod.mk.injEq] at hB
            obtain ⟨rfl, rfl⟩ := hB
            have hone : ∀ u ∈ zz.cells.toList, u.oneCell' = true := by
              rw [Array.all_eq_true'] at hall
              intro u hu; exact hall u (by simpa using hu)
            obtain ⟨cells', k1, k2, k3, k4⟩ := fill_sound (w := w) (O := O) (m := m) ps.toList qs zz.cells _ hl hr (by simp) hone (by
              intro j u c hu hc; exact rel_vals hone j u c (by rw [Array.getElem?_toList]; exact hu) hc) hf hc
            refine ⟨.agg cells', run_build w t ps cells' ?_, .agg _ _ k2 (fun j u hu => k3 u (List.mem_of_getElem? (by rw [Array.getElem?_toList]; exact hu))) k4⟩
            unfold Program.built
            simp only [hit, hu, hz, hie]
            refine fill_place_congr ps.toList ?_ k1
            intro x _ y hy
            rw [List.getElem?_map] at hy
            obtain ⟨q, hq, rfl⟩ := Option.map_eq_some_iff.1 hy
            obtain ⟨h1, h2⟩ := List.getElem?_eq_some_iff.1 hq
            simp at h2
            rw [h2]
          · cases hB
        · cases hB
      · cases hB
    · cases h
  · cases h

/-- of a slice's type: its elements' type, cells, bytes, zero cells -/
def tySl (P : Program) (t : TypeId) : Option (TypeId × Nat × Nat × List Value) :=
  match P.underlying t with
  | some (.slice e) => match P.info? e with
    | some i => match i.zero with
      | some z => if z.cells.all (·.oneCell') && z.cells.size == i.size then some (e, i.size, i.bytes, z.cells.toList) else none
      | none => none
    | none => none
  | _ => none

theorem tySl_spec {t e : TypeId} {k by_ : Nat} {z : List Value} (h : tySl P t = some (e, k, by_, z)) :
    ∃ i zv, P.underlying t = some (.slice e) ∧ P.info? e = some i ∧ i.zero = some zv ∧ i.size = k ∧ i.bytes = by_ ∧ zv.cells.toList = z ∧ zv.cells.size = k ∧ ∀ x ∈ z, x.oneCell' = true := by
  unfold tySl at h
  split at h
  · rename_i e' he
    split at h
    · rename_i i hi
      split at h
      · rename_i zv hz
        split at h
        · rename_i hall
          simp only [Option.some.injEq, Prod.mk.injEq] at h
          obtain ⟨rfl, rfl, rfl, rfl⟩ := h
          simp only [Bool.and_eq_true, beq_iff_eq] at hall
          refine ⟨i, zv, he, hi, hz, rfl, rfl, rfl, hall.2, ?_⟩
          have := hall.1
          rw [Array.all_eq_true'] at this
          intro x hx; exact this x (by simpa using hx)
        · cases h
      · cases h
    · cases h
  · cases h

theorem tySl_E {t e : TypeId} {k by_ : Nat} {z : List Value} (h : tySl P t = some (e, k, by_, z)) : tyE P t = some (e, k) := by
  obtain ⟨i, zv, h1, h2, h3, h4, -⟩ := tySl_spec h
  simp [tyE, h1, h2, h4]

theorem madeCells_get {z : Array Value} {N k q : Nat} (hz : z.size = k) (hk : 0 < k) (hq : q < N) : (madeCells z N)[q]? = z[q % k]? := by
  subst hz
  have : q % z.size < z.size := Nat.mod_lt _ hk
  simp [madeCells, hq, this]

/-- make([]T, l, c) -/
theorem makeL {dst : Option Tmp} {t : TypeId} {lo co : Operand} {ty : TypeId} {pos : String} {after : Array Edge} {guard : Option (Nat × Bool)} {h k by_ : Nat} {e : TypeId} {z : List Value} {kl kc : IntKind} {l c : Int}
    (ht : tySl P t = some (e, k, by_, z)) (hl : s.ev lo = .d (.v (.int kl l))) (hc : s.ev co = .d (.v (.int kc c))) (hk : 0 < k) (hn : h ∉ keys s.L)
    (h0 : 0 ≤ l ∧ l ≤ c) (hb : c ≤ maxLen ∧ by_ * c.toNat ≤ 140737488355328) :
    OpL P n ⟨dst, .makeSlice t lo co, ty, pos, after, guard⟩ s (fun x s' => x = .rv h ∧ s' = { s with L := (h, .row e k (List.replicate l.toNat (z.map fun x => .d (.v x)))) :: s.L }) := by
  intro fo m a w g
  obtain ⟨i, zv, hu, hi, hz, hsize, hbytes, hzl, hzs, hone⟩ := tySl_spec ht
  have hel := eval_rel g lo
  have hec := eval_rel g co
  rw [hl] at hel
  rw [hc] at hec
  have hcm : c.toNat ≤ maxLen := by omega
  have hb' : (i.bytes : Int) * c ≤ 281474976710656 := by
    have e1 : (c.toNat : Int) = c := Int.toNat_of_nonneg (by omega)
    have e2 : ((by_ * c.toNat : Nat) : Int) ≤ 140737488355328 := by omega
    rw [Int.natCast_mul, e1, ← hbytes] at e2
    omega
  have hrun := run_make (P := P) w t e i zv hu hi hz kl kc l c h0.1 h0.2 hb' (by simp only [maxLen] at hb; omega)
  rw [hsize] at hrun
  have hx : ∀ b, blk (.slice (some ⟨w.heap.size, 0, none⟩) l.toNat c.toNat) = some b → w.heap.size ≤ b := by intro b hb; simp [blk] at hb; omega
  obtain ⟨g', st⟩ := g.new (Grows.alloc w (.cells (madeCells zv.cells (c.toNat * k)) e)) hn (x := .slice (some ⟨w.heap.size, 0, none⟩) l.toNat c.toNat)
    (r := .row e k (List.replicate l.toNat (z.map fun x => .d (.v x)))) hx (by
      refine .inr ⟨w.heap.size, 0, c.toNat, madeCells zv.cells (c.toNat * k), by simp, heap_alloc_new w _, by simp; omega, hcm, by simp [madeCells], ?_, ?_, ?_⟩
      · intro q x hq
        have := List.mem_of_getElem? hq
        rw [List.mem_replicate] at this
        rw [this.2]; simp [← hzl, hzs]
      · intro j u hu'
        have hj : j < c.toNat * k := by have := (Array.getElem?_eq_some_iff.1 hu').1; simpa [madeCells] using this
        rw [madeCells_get hzs hk hj] at hu'
        exact hone u (by rw [← hzl]; exact List.mem_of_getElem? (by rw [Array.getElem?_toList]; exact hu'))
      · intro p q x y u hx' hy hu'
        have hp := (List.getElem?_eq_some_iff.1 hx').1
        simp at hp
        have := List.mem_of_getElem? hx'
        rw [List.mem_replicate] at this
        obtain ⟨_, rfl⟩ := this
        have hq : q < k := by have := (List.getElem?_eq_some_iff.1 hy).1; simpa [← hzl, hzs] using this
        have hpc : (p + 1) * k ≤ c.toNat * k := Nat.mul_le_mul_right _ (by omega)
        rw [Nat.add_mul, Nat.one_mul] at hpc
        rw [Nat.zero_add, madeCells_get hzs hk (by omega), Nat.mul_comm p k, Nat.mul_add_mod, Nat.mod_eq_of_lt hq] at hu'
        exact rel_vals hone q u y (by rw [← hzl, Array.getElem?_toList]; exact hu') hy)
  refine ⟨_, _, _, _, _, _, ?_, .inl rfl, ⟨rfl, rfl⟩, .rv h _ (mset_same _ _) rfl, g', st⟩
  simp [execOp, hel.v_inv, hec.v_inv, hrun]


/-- a slice literal -/
theorem buildSliceL {dst : Option Tmp} {t : TypeId} {len : Nat} {ps : Array (Nat × Operand)} {ty : TypeId} {pos : String} {after : Array Edge} {guard : Option (Nat × Bool)} {h k by_ : Nat} {e : TypeId} {z : List Value} {r : List V} {c : Prop} {xs : List (List V)}
    (ht : tySl P t = some (e, k, by_, z)) (hk : 0 < k) (hn : h ∉ keys s.L) (hlen : len * k ≤ 2 ^ 24)
    (hf : fillV (fun i => some (i * k, k)) (List.replicate len (z.map fun x => V.d (.v x))).flatten (ps.toList.map fun p => (p.1, s.ev p.2)) = some (r, c)) (hc : c)
    (hxs : r = xs.flatten) (hxl : xs.length = len) (hxk : ∀ x ∈ xs, x.length = k) :
    OpL P n ⟨dst, .buildSlice t len ps, ty, pos, after, guard⟩ s (fun x s' => x = .rv h ∧ s' = { s with L := (h, .row e k xs) :: s.L }) := by
  intro fo m a w g
  obtain ⟨i, zv, hu, hi, hz, hsize, hbytes, hzl, hzs, hone⟩ := tySl_spec ht
  have hx : ∀ b, blk (.slice (some ⟨w.heap.size, 0, none⟩) len len) = some b → w.heap.size ≤ b := by intro b hb; simp [blk] at hb; omega
  -- the cells, as one list
  have hmade : ∀ q, (madeCells zv.cells (len * k))[q]? = if q < len * k then zv.cells[q % k]? else none := by
    intro q
    split
    · rename_i hq; exact madeCells_get hzs hk hq
    · rename_i hq; simp [madeCells, hq]
  have hflat : ∀ (N q : Nat), (List.replicate N (z.map fun x => V.d (.v x))).flatten[q]? = if q < N * k then (z.map fun x => V.d (.v x))[q % k]? else none := by
    intro N
    induction N with
    | zero => intro q; simp
    | succ N ih =>
      intro q
      rw [List.replicate_succ, List.flatten_cons, List.getElem?_append]
      have hzlen : (z.map fun x => V.d (.v x)).length = k := by simp [← hzl, hzs]
      rw [hzlen]
      split
      · rename_i hq
        rw [if_pos (by rw [Nat.add_mul]; omega), Nat.mod_eq_of_lt hq]
      · rename_i hq
        rw [ih]
        have : (q - k) % k = q % k := by rw [← Nat.mod_eq_sub_mod (by omega)]
        rw [this]
        rw [Nat.add_mul, Nat.one_mul]
        by_cases hq2 : q - k < N * k
        · rw [if_pos hq2, if_pos (by omega)]
        · rw [if_neg hq2, if_neg (by omega)]
  obtain ⟨cells', k1, k2, k3, k4⟩ := fill_sound (w := w) (O := OO fo m) (m := m) (place := fun i => some (i * k, k)) (ps.toList.map fun p => (p.1, a.eval p.2)) _ (madeCells zv.cells (len * k)) _
    (by simp) (by
      intro j p q hp hq
      rw [List.getElem?_map] at hp hq
      obtain ⟨y, hy, rfl⟩ := Option.map_eq_some_iff.1 hp
      rw [hy] at hq
      simp only [Option.map_some, Option.some.injEq] at hq
      subst hq
      exact ⟨rfl, eval_rel g _⟩) (by simp [madeCells, ← hzl, hzs]) (by
      intro u hu'
      obtain ⟨j, hj⟩ := List.getElem?_of_mem hu'
      rw [Array.getElem?_toList, hmade] at hj
      split at hj
      · exact hone u (by rw [← hzl]; exact List.mem_of_getElem? (by rw [Array.getElem?_toList]; exact hj))
      · cases hj) (by
      intro j u cc hu' hc'
      rw [hmade] at hu'
      rw [hflat] at hc'
      split at hu'
      · rename_i hj
        rw [if_pos hj] at hc'
        exact rel_vals hone _ u cc (by rw [← hzl, Array.getElem?_toList]; exact hu') hc'
      · cases hu') hf hc
  subst hxs
  -- where cell j of element i stands in the flat list
  have hat : ∀ (xs : List (List V)) (hxk : ∀ x ∈ xs, x.length = k) (i j : Nat) (x : List V) (y : V), xs[i]? = some x → x[j]? = some y → xs.flatten[i * k + j]? = some y := by
    intro xs
    induction xs with
    | nil => intro _ i j x y hx; simp at hx
    | cons x0 xs ih =>
      intro hxk i j x y hx hy
      have h0 : x0.length = k := hxk x0 (by simp)
      rw [List.flatten_cons, List.getElem?_append]
      cases i with
      | zero =>
        simp only [List.getElem?_cons_zero, Option.some.injEq] at hx
        subst hx
        have := (List.getElem?_eq_some_iff.1 hy).1
        rw [if_pos (by omega)]; simpa using hy
      | succ i =>
        simp only [List.getElem?_cons_succ] at hx
        rw [Nat.add_mul, Nat.one_mul, if_neg (by omega)]
        rw [show i * k + k + j - x0.length = i * k + j by omega]
        exact ih (fun x hx => hxk x (by simp [hx])) i j x y hx hy
  have hfl : ∀ (xs : List (List V)), (∀ x ∈ xs, x.length = k) → xs.flatten.length = xs.length * k := by
    intro xs
    induction xs with
    | nil => intro _; simp
    | cons x0 xs ih => intro hxk; rw [List.flatten_cons, List.length_append, ih (fun x hx => hxk x (by simp [hx])), hxk x0 (by simp), List.length_cons, Nat.add_mul]; omega
  have hgr := Grows.alloc w (.cells cells' e)
  have hlm : len ≤ maxLen := by
    have h1 : len * 1 ≤ len * k := Nat.mul_le_mul_left _ hk
    simp only [maxLen]; omega
  obtain ⟨g', st⟩ := g.new hgr hn (x := .slice (some ⟨w.heap.size, 0, none⟩) len len) (r := .row e k xs) hx (by
    refine .inr ⟨w.heap.size, 0, len, cells', by rw [hxl], heap_alloc_new w _, by omega, hlm, by rw [k2, hfl xs hxk, hxl]; omega, fun i x hx' => hxk x (List.mem_of_getElem? hx'), ?_, ?_⟩
    · intro j u hu'; exact k3 u (List.mem_of_getElem? (by rw [Array.getElem?_toList]; exact hu'))
    · intro i j x y u hx' hy hu'
      rw [Nat.zero_add] at hu'
      exact (k4 _ u y hu' (hat xs hxk i j x y hx' hy)).mono ⟨hgr.size, fun b hb _ => hgr.block b hb⟩ (OO_new g.inv hx) (mset_sub g.inv hn _))
  refine ⟨_, _, _, _, _, _, ?_, .inl rfl, ⟨rfl, rfl⟩, .rv h _ (mset_same _ _) rfl, g', st⟩
  by_cases h0 : len * k = 0
  · have hl0 : len = 0 := by
      rcases Nat.mul_eq_zero.1 h0 with h1 | h1
      · exact h1
      · omega
    have hcs : cells' = #[] := by
      have : cells'.size = 0 := by rw [k2, hfl xs hxk, hxl, hl0]; simp
      exact Array.eq_empty_of_size_eq_zero this
    subst hl0
    have hps : Instr.fill (fun i => some (i * k, k)) #[] (ps.toList.map fun p => (p.1, a.eval p.2)) = some #[] := by
      rw [hcs] at k1
      simpa [madeCells, Array.range_zero'] using k1
    subst hcs
    simp [execOp, Instr.buildSlice, run_underlying hu, sizeOf, typeInfo, hi, hsize, newRow, hps, Array.range_zero']
  · have := run_buildSlice (P := P) w t e len (ps.map fun p => (p.1, a.eval p.2)) cells' i zv hu hi hz (by rw [hsize]; omega) (by rw [hsize]; exact h0) (by
      rw [hsize]
      simpa [madeCells] using k1)
    simp only [execOp, Sem.run_bind, this, Result.andThen_ok]
    rfl

/-- a store into an owned row -/
theorem storeL_row {dst : Option Tmp} {t : TypeId} {ao xo : Operand} {ty : TypeId} {pos : String} {after : Array Edge} {guard : Option (Nat × Bool)} {h k k' i j : Nat} {g0 : Bool} {e : TypeId} {cs : List V} {xs : List (List V)}
    (ht : tyA P t = some (g0, k)) (ha : s.ev ao = .ep h k' i j) (hl : s.L.lookup h = some (.row e k' xs)) (hc : (s.ev xo).cl = some cs) (hk : cs.length = k) (hi : i < xs.length) (hj : j + k ≤ k') :
    OpL P n ⟨dst, .store t ao xo, ty, pos, after, guard⟩ s (fun x s' => x = .any ∧ s' = { s with L := Heap.upd s.L h (.row e k' (xs.set i (putAt j cs (xs[i]?.getD [])))) }) := by
  intro fo m a w g
  have hr := eval_rel g xo
  have hra := eval_rel g ao
  rw [ha] at hra
  obtain ⟨h1, h2, h3⟩ := cl_sound hr hc
  obtain ⟨b, off, cap, cur, hm, hheap, hcap, hmax, hsz, hlen, hone, hcell, hrel⟩ := row_cells g.inv (lookup_mem hl) (by omega)
  obtain ⟨b', o, n', c', e', hp⟩ := ep_inv hra
  rw [hm] at e'
  simp only [Option.some.injEq, Value.slice.injEq, Addr.mk.injEq] at e'
  obtain ⟨⟨rfl, rfl, _⟩, rfl, rfl⟩ := e'
  subst hk
  have hget : xs[i]? = some xs[i] := List.getElem?_eq_getElem hi
  have hli := hlen i _ hget
  have hbd : (i + 1) * k' ≤ cap * k' := Nat.mul_le_mul_right _ (by omega)
  rw [Nat.add_mul, Nat.one_mul] at hbd
  have hst := run_storeCells_at P b (off + i * k' + j) e (a.eval xo).cells.toList 0 cur w hheap (by simp; omega) h2
  obtain ⟨_, hszt⟩ := tyA_isAgg ht w
  have hlenc : (a.eval xo).cells.toList.length = cs.length := by simp [h1]
  simp only [Nat.add_zero, hlenc] at hst
  obtain ⟨g', st⟩ := g.upd hm (b := b) rfl (wrote_setRow w b (cur.toList.take (off + i * k' + j) ++ (a.eval xo).cells.toList ++ cur.toList.drop (off + i * k' + j + cs.length)).toArray)
      (r := .row e k' (xs.set i (putAt j cs (xs[i]?.getD [])))) (by
    have hsp := fun q => getElem?_splice cur.toList (a.eval xo).cells.toList (off + i * k' + j) (by simp; omega) q
    have hsp2 := fun q => getElem?_splice xs[i] cs j (by omega) q
    rw [hlenc] at hsp
    have hkeep : Keep w (OO fo m) (w.setRow b (cur.toList.take (off + i * k' + j) ++ (a.eval xo).cells.toList ++ cur.toList.drop (off + i * k' + j + cs.length)).toArray) :=
      ⟨(wrote_setRow w b _).size, fun c hc' ho => (wrote_setRow w b _).block c hc' (fun e => ho (.inl ⟨h, _, hm, by simp [blk, e]⟩))⟩
    refine .inr ⟨b, off, cap, _, by rw [List.length_set], setRow_heap w b cur _ e _ hheap, by rw [List.length_set]; exact hcap, hmax, ?_, ?_, ?_, ?_⟩
    · simp; omega
    · intro q x hx
      rw [List.getElem?_set] at hx
      split at hx
      · rename_i hq
        simp only [Option.some.injEq] at hx
        subst hx
        rw [hget]; simp only [Option.getD_some]
        rw [putAt_length (by omega)]; exact hli
      · exact hlen q x hx
    · intro q u hu
      rw [List.getElem?_toArray, hsp] at hu
      split at hu
      · exact h2 u (List.mem_of_getElem? hu)
      · exact hone q u (by rw [← Array.getElem?_toList]; exact hu)
    · intro p q x y u hx hy hu
      rw [List.getElem?_toArray, hsp] at hu
      refine RelV.mono hkeep (fun _ _ h => h) (fun _ _ h => h) ?_
      rw [List.getElem?_set] at hx
      split at hx
      · rename_i hip
        subst hip
        simp only [Option.some.injEq] at hx
        subst hx
        rw [hget] at hy; simp only [Option.getD_some] at hy
        unfold putAt at hy
        rw [hsp2] at hy
        split at hu
        · rename_i hq
          rw [if_pos (by omega)] at hy
          rw [show off + i * k' + q - (off + i * k' + j) = q - j by omega, Array.getElem?_toList] at hu
          exact h3 _ u y hu hy
        · rename_i hq
          rw [if_neg (by omega)] at hy
          exact hrel i q _ y u hget hy (by rw [← Array.getElem?_toList]; exact hu)
      · rename_i hip
        have hpl := (List.getElem?_eq_some_iff.1 hx).1
        have hqk : q < k' := by have := (List.getElem?_eq_some_iff.1 hy).1; have := hlen p x hx; omega
        have hne : ¬ (off + i * k' + j ≤ off + p * k' + q ∧ off + p * k' + q < off + i * k' + j + cs.length) := by
          rintro ⟨q1, q2⟩
          rcases Nat.lt_or_gt_of_ne hip with hlt | hlt
          · have := Nat.mul_le_mul_right k' (show i + 1 ≤ p by omega); rw [Nat.add_mul, Nat.one_mul] at this; omega
          · have := Nat.mul_le_mul_right k' (show p + 1 ≤ i by omega); rw [Nat.add_mul, Nat.one_mul] at this; omega
        rw [if_neg hne] at hu
        exact hrel p q x y u hx hy (by rw [← Array.getElem?_toList]; exact hu))
  refine ⟨.skip, undef, _, _, .any, _, ?_, .inr ⟨rfl, rfl⟩, ⟨rfl, rfl⟩, .any _, g', st⟩
  have hsz2 : (a.eval xo).cells.size = cs.length := h1
  simp [execOp, hp, Instr.storeAt, Instr.sureAddr, storeVar, hszt, hsz2, hst]

end
end Go.Ab
