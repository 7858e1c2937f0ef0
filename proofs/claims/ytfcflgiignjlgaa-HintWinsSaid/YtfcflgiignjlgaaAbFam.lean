/-
  The engine, part Fam: a row of slices, each of which is owned: the handles b, b + 1, ..
-/
import Derived.Test.YtfcflgiignjlgaaAbQ
set_option linter.unusedSimpArgs false
set_option linter.unusedVariables false
namespace Go.Ab

/-- n rows of data, under the handles b, b + 1, .. -/
def famd (b n : Nat) (ty : TypeId) (k : Nat) (A : Nat → List (List D)) : Heap := (List.range n).map fun i => (i + b, .row ty k (dd (A i)))
/-- the row of these handles -/
def hrow (b n : Nat) : List (List V) := (List.range n).map fun i => [.rv (i + b)]
def famKeys (b n : Nat) : List Nat := (List.range n).map fun i => i + b

section
variable {P : Program} {n : Nat} {s : St} {Q : AX → St → Prop} {L : Heap} {b N : Nat} {ty : TypeId} {k : Nat} {A : Nat → List (List D)}

theorem famd_lookup_none {h : Nat} : ∀ (l : List Nat), (∀ i ∈ l, i + b ≠ h) → List.lookup h (l.map fun i => (i + b, Res.row ty k (dd (A i)))) = none
  | [], _ => rfl
  | i :: l, hn => by
    have h1 : (h == i + b) = false := by simpa using fun e => hn i List.mem_cons_self e.symm
    simp only [List.map_cons, List.lookup, h1]
    exact famd_lookup_none l fun j hj => hn j (List.mem_cons_of_mem _ hj)
theorem famd_lookup_some {i : Nat} : ∀ (l : List Nat), i ∈ l → List.lookup (i + b) (l.map fun i => (i + b, Res.row ty k (dd (A i)))) = some (.row ty k (dd (A i)))
  | [], h => by cases h
  | j :: l, h => by
    by_cases e : j = i
    · subst e; simp [List.lookup]
    · have h1 : (i + b == j + b) = false := by simp; omega
      simp only [List.map_cons, List.lookup, h1]
      exact famd_lookup_some l ((List.mem_cons.1 h).resolve_left fun e' => e e'.symm)

@[simp] theorem famd_get (i : Nat) : List.lookup (i + b) (famd b N ty k A) = if i < N then some (.row ty k (dd (A i))) else none := by
  unfold famd
  split
  · exact famd_lookup_some _ (by simpa using ‹i < N›)
  · exact famd_lookup_none _ (by intro j hj; simp at hj; omega)
theorem famd_other {h : Nat} (hh : h < b) : List.lookup h (famd b N ty k A) = none := by
  unfold famd
  exact famd_lookup_none _ (by intro j hj; omega)
@[simp] theorem famd_keys : keys (famd b N ty k A) = famKeys b N := by simp [keys, famd, famKeys, Function.comp_def]
@[simp] theorem famd_keys' : List.map (·.1) (famd b N ty k A) = famKeys b N := by simp [famd, famKeys, Function.comp_def]
@[simp] theorem famKeys_mem (x : Nat) : x ∈ famKeys b N ↔ b ≤ x ∧ x < N + b := by
  unfold famKeys
  simp only [List.mem_map, List.mem_range]
  constructor
  · rintro ⟨i, h, rfl⟩; omega
  · rintro ⟨h1, h2⟩; exact ⟨x - b, by omega, by omega⟩
@[simp] theorem famKeys_contains (x : Nat) : (famKeys b N).contains x = (decide (b ≤ x) && decide (x < N + b)) := by
  rw [Bool.eq_iff_iff]; simp
theorem famKeys_nodup : (famKeys b N).Nodup := by
  unfold famKeys
  refine List.Pairwise.map _ (fun a b' h e => h ?_) List.nodup_range
  omega
@[simp] theorem famd_kill (h : Nat) : (famd b N ty k A).map (fun p => (p.1, p.2.kill h)) = famd b N ty k A := by
  unfold famd
  rw [List.map_map]
  apply List.map_congr_left
  intro i _
  simp [Res.kill, kill_dd]
@[simp] theorem famd_on (ks : List Nat) : (famd b N ty k A).all (fun p => Res.on ks p.2) = true := by
  simp [famd, List.all_map, Function.comp_def, Res.on, on_dd]
theorem famd_upd (i : Nat) (ys : List (List D)) : Heap.upd (famd b N ty k A) (i + b) (.row ty k (dd ys)) = famd b N ty k (fun j => if j = i then ys else A j) := by
  unfold famd Heap.upd
  rw [List.map_map]
  apply List.map_congr_left
  intro j _
  by_cases e : j = i
  · subst e; simp
  · have : ¬ j + b = i + b := by omega
    simp [this, e]
theorem famd_upd_other (h : Nat) (r : Res) (hh : h < b) : Heap.upd (famd b N ty k A) h r = famd b N ty k A := by
  unfold famd Heap.upd
  rw [List.map_map]
  apply List.map_congr_left
  intro j _
  have : ¬ j + b = h := by omega
  simp [this]
@[simp] theorem hrow_length : (hrow b N).length = N := by simp [hrow]
@[simp] theorem hrow_get (i : Nat) : (hrow b N)[i]? = if i < N then some [.rv (i + b)] else none := by
  unfold hrow
  rw [List.getElem?_map]
  split
  · rename_i h; simp [h]
  · rename_i h; rw [List.getElem?_eq_none (by simpa using h)]; rfl
theorem hrow_set_kill (i : Nat) : ((hrow b N).map (V.kills (i + b))).set i [.rv (i + b)] = hrow b N := by
  apply List.ext_getElem?
  intro j
  rw [List.getElem?_set]
  split
  · rename_i h
    subst h
    simp only [List.length_map, hrow_length]
    split
    · rename_i h; rw [hrow_get, if_pos h]
    · rename_i h; rw [hrow_get, if_neg h]
  · rename_i h
    rw [List.getElem?_map, hrow_get]
    split
    · have : ¬ j + b = i + b := by omega
      simp only [Option.map_some, V.kills, V.kill, if_neg this]
    · rfl
theorem hrow_on (ks : List Nat) (h : ∀ i, i < N → i + b ∈ ks) : (hrow b N).all (V.ons ks) = true := by
  simp only [hrow, List.all_map, List.all_eq_true, List.mem_range, Function.comp_def, V.ons, V.on, Bool.and_true]
  intro i hi
  simpa using h i hi

/-- Slices that are all nil, in an owned row: each is owned. -/
theorem Wk.famOwn (h b : Nat) {ty e : TypeId} {k kk N : Nat} {L1 : Heap} (hL : s.L = (h, .row ty k (List.replicate N [.d (.v (.slice none 0 0))])) :: L1) (hb : ∀ x ∈ keys s.L, x < b) :
    Wk n s ⟨s.fr, (h, .row ty k (hrow b N)) :: L1 ++ famd b N e kk (fun _ => [])⟩ := by
  intro fo m a w g
  obtain ⟨fr, L⟩ := s
  simp only at hL
  subst hL
  have hi := g.inv
  let m' : Nat → Option Value := fun i => if b ≤ i ∧ i < N + b then some (.slice none 0 0) else m i
  have hno : ∀ i, b ≤ i → m i = none := fun i hi' => not_key hi (fun hk => by have := hb i hk; omega)
  have hsub : ∀ i x, m i = some x → m' i = some x := by
    intro i x hx
    have : ¬ (b ≤ i ∧ i < N + b) := fun e => by rw [hno i e.1] at hx; cases hx
    simp only [m', if_neg this]; exact hx
  have hinv : ∀ i x bb, m' i = some x → blk x = some bb → m i = some x := by
    intro i x bb hx hbb
    by_cases e : b ≤ i ∧ i < N + b
    · simp only [m', if_pos e, Option.some.injEq] at hx; subst hx; simp [blk] at hbb
    · simpa only [m', if_neg e] using hx
  have hown : ∀ bb, Go.Ab.own m' bb ↔ Go.Ab.own m bb := by
    intro bb
    constructor
    · rintro ⟨i, x, hx, hbb⟩; exact ⟨i, x, hinv i x bb hx hbb, hbb⟩
    · rintro ⟨i, x, hx, hbb⟩; exact ⟨i, x, hsub i x hx, hbb⟩
  have hOO : ∀ bb, OO fo m' bb → OO fo m bb := fun bb hh => hh.imp (hown bb).1 id
  have mono : ∀ {v x}, RelV w (OO fo m) m v x → RelV w (OO fo m') m' v x := fun hr => hr.mono (Keep.refl w _) (fun bb _ hh => hOO bb hh) hsub
  refine ⟨m', ⟨g.size, fun t x hx => ⟨(g.fr t x hx).1, mono (g.fr t x hx).2⟩, ?_, g.defers⟩, Step.refl w _ |>.trans ⟨rfl, rfl, rfl, Nat.le_refl _, fun _ _ _ => rfl, fun bb _ hh => (hown bb).1 hh⟩⟩
  have hkey : keys ((h, Res.row ty k (hrow b N)) :: L1 ++ famd b N e kk (fun _ => [])) = (h :: keys L1) ++ famKeys b N := by
    have := famd_keys (b := b) (N := N) (ty := e) (k := kk) (A := fun _ => [])
    simp only [keys, List.map_append, List.map_cons] at this ⊢
    rw [this]
  refine ⟨?_, ?_, ?_, ?_, hi.folt, ?_⟩
  · rw [hkey, List.nodup_append]
    refine ⟨hi.nodup, famKeys_nodup, fun x hx y hy e => ?_⟩
    subst e
    have := hb x hx
    simp at hy
    omega
  · intro i x hx
    rw [hkey]
    by_cases e : b ≤ i ∧ i < N + b
    · exact List.mem_append_right _ (by simpa using e)
    · have : m i = some x := by simpa only [m', if_neg e] using hx
      exact List.mem_append_left _ (hi.dom i x this)
  · intro i j x y bb hx hy h1 h2
    exact hi.apart i j x y bb (hinv i x bb hx h1) (hinv j y bb hy h2) h1 h2
  · intro i x bb hx h1
    exact hi.others i x bb (hinv i x bb hx h1) h1
  · intro i r hr
    rcases List.mem_append.1 hr with hr | hr
    · rcases List.mem_cons.1 hr with hr | hr
      · simp only [Prod.mk.injEq] at hr
        obtain ⟨rfl, rfl⟩ := hr
        obtain ⟨x, hx, hh⟩ := hi.holds i _ List.mem_cons_self
        refine ⟨x, hsub i x hx, ?_⟩
        rcases hh with ⟨rfl, h2⟩ | ⟨bb, off, cap, cur, rfl, h2, h3, h4, h5, h6, h7, h8⟩
        · exact .inl ⟨rfl, by
            have : N = 0 := by simpa using congrArg List.length h2
            subst this; rfl⟩
        · refine .inr ⟨bb, off, cap, cur, by simp [hrow], h2, by simpa [hrow] using h3, h4, h5, ?_, h7, ?_⟩
          · intro j y hy
            have hj := h6 j
            rw [hrow_get] at hy
            split at hy
            · rename_i hlt
              simp only [Option.some.injEq] at hy
              subst hy
              have := hj _ (List.getElem?_replicate_of_lt hlt)
              simpa using this
            · cases hy
          · intro j l y z v hy hz hv
            rw [hrow_get] at hy
            split at hy
            · rename_i hlt
              simp only [Option.some.injEq] at hy
              subst hy
              cases l with
              | zero =>
                simp only [List.getElem?_cons_zero, Option.some.injEq] at hz
                subst hz
                have := h8 j 0 _ _ v (List.getElem?_replicate_of_lt hlt) rfl hv
                rw [this.bool_inv]
                refine .rv _ _ ?_ rfl
                simp only [m']
                rw [if_pos (by omega)]
              | succ l => simp at hz
            · cases hy
      · obtain ⟨x, hx, hh⟩ := hi.holds i r (List.mem_cons_of_mem _ hr)
        exact ⟨x, hsub i x hx, hh.mono (fun _ _ => rfl) (Keep.refl w _) (fun bb _ hh => hOO bb hh) hsub⟩
    · simp only [famd, List.mem_map, List.mem_range, Prod.mk.injEq] at hr
      obtain ⟨j, hj, rfl, rfl⟩ := hr
      refine ⟨.slice none 0 0, ?_, .inl ⟨rfl, rfl⟩⟩
      simp only [m']
      rw [if_pos (by omega)]

/-- A cell of a box that holds a nil slice: its row, empty, is owned. -/
theorem Wk.ownBox (c i h : Nat) {e k : Nat} {bk : Nat} {bt : TypeId} {cs : List V} (hl : s.L.lookup c = some (.box bk bt cs)) (hi : cs[i]? = some (.d (.v (.slice none 0 0)))) (hn : h ∉ keys s.L) :
    Wk n s ⟨s.fr, (h, .row e k []) :: Heap.upd s.L c (.box bk bt (cs.set i (.rv h)))⟩ := by
  intro fo m a w g
  obtain ⟨g', st⟩ := g.new (Grows.refl w) hn (x := .slice none 0 0) (r := .row e k []) (by intro b hb; simp [blk] at hb) (.inl ⟨rfl, rfl⟩)
  refine ⟨_, ⟨g'.size, g'.fr, ?_, g'.defers⟩, st⟩
  have hi' := g'.inv
  have hkey : keys ((h, Res.row e k []) :: Heap.upd s.L c (.box bk bt (cs.set i (.rv h)))) = keys ((h, Res.row e k []) :: s.L) := by
    have := keys_upd s.L c (.box bk bt (cs.set i (.rv h)))
    simp only [keys, List.map_cons] at this ⊢
    rw [this]
  have hmem := lookup_mem hl
  refine ⟨by rw [hkey]; exact hi'.nodup, fun j x hx => by rw [hkey]; exact hi'.dom j x hx, hi'.apart, hi'.others, hi'.folt, ?_⟩
  intro j r hr
  rcases List.mem_cons.1 hr with hr | hr
  · exact hi'.holds j r (by rw [hr]; exact List.mem_cons_self)
  · unfold Heap.upd at hr
    obtain ⟨p, hp, he⟩ := List.mem_map.1 hr
    split at he
    · rename_i hpc
      simp only [Prod.mk.injEq] at he
      obtain ⟨rfl, rfl⟩ := he
      obtain ⟨x, hx, hh⟩ := hi'.holds c _ (List.mem_cons_of_mem _ hmem)
      refine ⟨x, hx, ?_⟩
      obtain ⟨bb, hbb, cur, e1, e2, e3, e4, e5⟩ := hh
      refine ⟨bb, hbb, cur, e1, e2, by simpa using e3, e4, fun l v y hv hy => ?_⟩
      rw [List.getElem?_set] at hy
      split at hy
      · rename_i hil
        subst hil
        split at hy
        · simp only [Option.some.injEq] at hy
          subst hy
          have := e5 i v _ hv hi
          rw [this.bool_inv]
          exact .rv h _ (mset_same _ _) rfl
        · cases hy
      · exact e5 l v y hv hy
    · rw [he] at hp
      exact hi'.holds j r (List.mem_cons_of_mem _ hp)
@[simp] theorem encI_replicate (N : Nat) (v : Int) : List.replicate N [V.d (.v (.int .i64 v))] = dd (encI (List.replicate N v)) := by simp [dd, encI]

@[simp] theorem famd_mem (a : Nat) (r : Res) : (a, r) ∈ famd b N ty k A ↔ ∃ i, i < N ∧ i + b = a ∧ .row ty k (dd (A i)) = r := by
  simp [famd]
@[simp] theorem hrow_mem (x : List V) : x ∈ hrow b N ↔ ∃ i, i < N ∧ [.rv (i + b)] = x := by simp [hrow]
@[simp] theorem famd_map_upd (h : Nat) (r : Res) (hh : h < b) : List.map (fun p => if p.1 = h then (h, r) else p) (famd b N ty k A) = famd b N ty k A := famd_upd_other h r hh
@[simp] theorem famd_map_upd' (i : Nat) (ys : List (List D)) : List.map (fun p => if p.1 = i + b then (i + b, .row ty k (dd ys)) else p) (famd b N ty k A) = famd b N ty k (fun j => if j = i then ys else A j) := famd_upd i ys
@[simp] theorem hrow_getElem (i : Nat) (h : i < (hrow b N).length) : (hrow b N)[i]'h = [.rv (i + b)] := by simp [hrow]
theorem hrow_set_kill' (i : Nat) : ((hrow b N).map (V.kills (i + b))).set i [.rv (i + b)] = hrow b N := hrow_set_kill i
theorem famd_map {β : Type} (f : Nat × Res → β) : List.map f (famd b N ty k A) = (List.range N).map fun i => f (i + b, .row ty k (dd (A i))) := by
  simp [famd]
theorem famd_filter_no (f : Nat × Res → Bool) (h : ∀ i, f (i + b, .row ty k (dd (A i))) = false) : (famd b N ty k A).filter f = [] := by
  rw [List.filter_eq_nil_iff]
  rintro ⟨a, r⟩ hm
  obtain ⟨i, _, rfl, rfl⟩ := (famd_mem a r).1 hm
  simp [h i]
theorem famd_filter_all (f : Nat × Res → Bool) (h : ∀ i, f (i + b, .row ty k (dd (A i))) = true) : (famd b N ty k A).filter f = famd b N ty k A := by
  rw [List.filter_eq_self]
  rintro ⟨a, r⟩ hm
  obtain ⟨i, _, rfl, rfl⟩ := (famd_mem a r).1 hm
  exact h i
@[simp] theorem hrow_kill_other (h : Nat) (hh : h < b) : (hrow b N).map (V.kills h) = hrow b N := by
  unfold hrow
  rw [List.map_map]
  apply List.map_congr_left
  intro i _
  have : ¬ i + b = h := by omega
  simp [V.kills, V.kill, this]
theorem famd_eq : famd b N ty k A = (List.range N).map fun i => (i + b, .row ty k (dd (A i))) := rfl
@[simp] theorem famd_opn (bs : Nat → Nat) : (famd b N ty k A).map (fun p => (p.1, opnR bs p.1 p.2)) = famd b N ty k A := by
  simp [famd, Function.comp_def]
@[simp] theorem famd_rem (h : Nat) (hh : h < b) : remL h (famd b N ty k A) = famd b N ty k A := by
  rw [remL_eq, famd_filter_all _ (by intro i; simp; omega), famd_kill]
@[simp] theorem hrow_cellAt (i : Nat) (z : List V) (h : i < N) : cellAt (hrow b N) i 0 z = .rv (i + b) := by
  unfold cellAt
  rw [hrow_get, if_pos h]
  rfl
end
end Go.Ab
