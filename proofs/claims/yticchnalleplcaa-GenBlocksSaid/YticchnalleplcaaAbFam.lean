/-
  The engine, part Fam: a row of slices, each of which is owned: the handles b, b + 1, ..
-/
import Derived.Test.YticchnalleplcaaAbQ
set_option linter.unusedSimpArgs false
set_option linter.unusedVariables false
namespace Go.Ab

/-- n rows of data, under the handles b, b + 1, .. -/
def famd (b n : Nat) (ty : TypeId) (k : Nat) (A : Nat → List (List D)) : Heap := (List.range n).map fun i => (i + b, .row ty k (dd (A i)))
/-- the row of these handles -/
def hrow (b n : Nat) : List (List V) := (List.range n).map fun i => [.rv (i + b)]
def famKeys (b n : Nat) : List Nat := (List.range n).map fun i => i + b

section
variable {P : Program} {n : Nat} {s : St} {Q : AX → St → Prop} {L : Heap} {b N : Nat} {ty : TypeId} {k : Nat} {A : Nat → List (List D)}

theorem famd_lookup_none {h : Nat} : ∀ (l : List Nat), (∀ i ∈ l, i + b ≠ h) → List.lookup h (l.map fun i => (i + b, Res.row ty k (dd (A i)))) = none
  | [], _ => rfl
  | i :: l, hn => by
    have h1 : (h == i + b) = false := by simpa using fun e => hn i List.mem_cons_self e.symm
    simp only [List.map_cons, List.lookup, h1]
    exact famd_lookup_none l fun j hj => hn j (List.mem_cons_of_mem _ hj)
theorem famd_lookup_some {i : Nat} : ∀ (l : List Nat), i ∈ l → List.lookup (i + b) (l.map fun i => (i + b, Res.row ty k (dd (A i)))) = some (.row ty k (dd (A i)))
  | [], h => by cases h
  | j :: l, h => by
    by_cases e : j = i
    · subst e; simp [List.lookup]
    · have h1 : (i + b == j + b) = false := by simp; omega
      simp only [List.map_cons, List.lookup, h1]
      exact famd_lookup_some l ((List.mem_cons.1 h).resolve_left fun e' => e e'.symm)

@[simp] theorem famd_get (i : Nat) : List.lookup (i + b) (famd b N ty k A) = if i < N then some (.row ty k (dd (A i))) else none := by
  unfold famd
  split
  · exact famd_lookup_some _ (by simpa using ‹i < N›)
  · exact famd_lookup_none _ (by intro j hj; simp at hj; omega)
theorem famd_other {h : Nat} (hh : h < b) : List.lookup h (famd b N ty k A) = none := by
  unfold famd
  exact famd_lookup_none _ (by intro j hj; omega)
@[simp] theorem famd_keys : keys (famd b N ty k A) = famKeys b N := by simp [keys, famd, famKeys, Function.comp_def]
@[simp] theorem famd_keys' : List.map (·.1) (famd b N ty k A) = famKeys b N := by simp [famd, famKeys, Function.comp_def]
@[simp] theorem famKeys_mem (x : Nat) : x ∈ famKeys b N ↔ b ≤ x ∧ x < N + b := by
  unfold famKeys
  simp only [List.mem_map, List.mem_range]
  constructor
  · rintro ⟨i, h, rfl⟩; omega
  · rintro ⟨h1, h2⟩; exact ⟨x - b, by omega, by omega⟩
@[simp] theorem famKeys_contains (x : Nat) : (famKeys b N).contains x = (decide (b ≤ x) && decide (x < N + b)) := by
  rw [Bool.eq_iff_iff]; simp
theorem famKeys_nodup : (famKeys b N).Nodup := by
  unfold famKeys
  refine List.Pairwise.map _ (fun a b' h e => h ?_) List.nodup_range
  omega
@[simp] theorem famd_kill (h : Nat) : (famd b N ty k A).map (fun p => (p.1, p.2.kill h)) = famd b N ty k A := by
  unfold famd
  rw [List.map_map]
  apply List.map_congr_left
  intro i _
  simp [Res.kill, kill_dd]
@[simp] theorem famd_on (ks : List Nat) : (famd b N ty k A).all (fun p => Res.on ks p.2) = true := by
  simp [famd, List.all_map, Function.comp_def, Res.on, on_dd]
theorem famd_upd (i : Nat) (ys : List (List D)) : Heap.upd (famd b N ty k A) (i + b) (.row ty k (dd ys)) = famd b N ty k (fun j => if j = i then ys else A j) := by
  unfold famd Heap.upd
  rw [List.map_map]
  apply List.map_congr_left
  intro j _
  by_cases e : j = i
  · subst e; simp
  · have : ¬ j + b = i + b := by omega
    simp [this, e]
theorem famd_upd_other (h : Nat) (r : Res) (hh : h < b) : Heap.upd (famd b N ty k A) h r = famd b N ty k A := by
  unfold famd Heap.upd
  rw [List.map_map]
  apply List.map_congr_left
  intro j _
  have : ¬ j + b = h := by omega
  simp [this]
@[simp] theorem hrow_length : (hrow b N).length = N := by simp [hrow]
@[simp] theorem hrow_get (i : Nat) : (hrow b N)[i]? = if i < N then some [.rv (i + b)] else none := by
  unfold hrow
  rw [List.getElem?_map]
  split
  · rename_i h; simp [h]
  · rename_i h; rw [List.getElem?_eq_none (by simpa using h)]; rfl
theorem hrow_set_kill (i : Nat) : ((hrow b N).map (V.kills (i + b))).set i [.rv (i + b)] = hrow b N := by
  apply List.ext_getElem?
  intro j
  rw [List.getElem?_set]
  split
  · rename_i h
    subst h
    simp only [List.length_map, hrow_length]
    split
    · rename_i h; rw [hrow_get, if_pos h]
    · rename_i h; rw [hrow_get, if_neg h]
  · rename_i h
    rw [List.getElem?_map, hrow_get]
    split
    · have : ¬ j + b = i + b := by omega
      simp only [Option.map_some, V.kills, V.kill, if_neg this]
    · rfl
theorem hrow_on (ks : List Nat) (h : ∀ i, i < N → i + b ∈ ks) : (hrow b N).all (V.ons ks) = true := by
  simp only [hrow, List.all_map, List.all_eq_true, List.mem_range, Function.comp_def, V.ons, V.on, Bool.and_true]
  intro i hi
  simpa using h i hi

/-- Slices that are all nil, in an owned row: each is owned. -/
theorem Wk.famOwn (h b : Nat) {ty e : TypeId} {k kk N : Nat} {L1 : Heap} (hL : s.L = (h, .row ty k (List.replicate N [.d (.v (.slice none 0 0))])) :: L1) (hb : ∀ x ∈ keys s.L, x < b) :
    Wk n s ⟨s.fr, (h, .row ty k (hrow b N)) :: L1 ++ famd b N e kk (fun _ => [])⟩ := by
  intro fo m a w g
  obtain ⟨fr, L⟩ := s
  simp only at hL
  subst hL
  have hi := g.inv
  let m' : Nat → Option Value := fun i => if b ≤ i ∧ i < N + b then some (.slice none 0 0) else m i
  have hno : ∀ i, b ≤ i → m i = none := fun i hi' => not_key hi (fun hk => by have := hb i hk; omega)
  have hsub : ∀ i x, m i = some x → m' i = some x := by
    intro i x hx
    have : ¬ (b ≤ i ∧ i < N + b) := fun e => by rw [hno i e.1] at hx; cases hx
    simp only [m', if_neg this]; exact hx
  have hinv : ∀ i x bb, m' i = some x → blk x = some bb → m i = some x := by
    intro i x bb hx hbb
    by_cases e : b ≤ i ∧ i < N + b
    · simp only [m', if_pos e, Option.some.injEq] at hx; subst hx; simp [blk] at hbb
    · simpa only [m', if_neg e] using hx
  have hown : ∀ bb, Go.Ab.own m' bb ↔ Go.Ab.own m bb := by
    intro bb
    constructor
    · rintro ⟨i, x, hx, hbb⟩; exact ⟨i, x, hinv i x bb hx hbb, hbb⟩
    · rintro ⟨i, x, hx, hbb⟩; exact ⟨i, x, hsub i x hx, hbb⟩
  have hOO : ∀ bb, OO fo m' bb → OO fo m bb := fun bb hh => hh.imp (hown bb).1 id
  have mono : ∀ {v x}, RelV w (OO fo m) m v x → RelV w (OO fo m') m' v x := fun hr => hr.mono (Keep.refl w _) (fun bb _ hh => hOO bb hh) hsub
  refine ⟨m', ⟨g.size, fun t x hx => ⟨(g.fr t x hx).1, mono (g.fr t x hx).2⟩, ?_, g.defers⟩, Step.refl w _ |>.trans ⟨rfl, rfl, rfl, Nat.le_refl _, fun _ _ _ => rfl, fun bb _ hh => (hown bb).1 hh⟩⟩
  have hkey : keys ((h, Res.row ty k (hrow b N)) :: L1 ++ famd b N e kk (fun _ => [])) = (h :: keys L1) ++ famKeys b N := by
    have := famd_keys (b := b) (N := N) (ty := e) (k := kk) (A := fun _ => [])
    simp only [keys, List.map_append, List.map_cons] at this ⊢
    rw [this]
  refine ⟨?_, ?_, ?_, ?_, hi.folt, ?_⟩
  · rw [hkey, List.nodup_append]
    refine ⟨hi.nodup, famKeys_nodup, fun x hx y hy e => ?_⟩
    subst e
    have := hb x hx
    simp at hy
    omega
  · intro i x hx
    rw [hkey]
    by_cases e : b ≤ i ∧ i < N + b
    · exact List.mem_append_right _ (by simpa using e)
    · have : m i = some x := by simpa only [m', if_neg e] using hx
      exact List.mem_append_left _ (hi.dom i x this)
  · intro i j x y bb hx hy h1 h2
    exact hi.apart i j x y bb (hinv i x bb hx h1) (hinv j y bb hy h2) h1 h2
  · intro i x bb hx h1
    exact hi.others i x bb (hinv i x bb hx h1) h1
  · intro i r hr
    rcases List.mem_append.1 hr with hr | hr
    · rcases List.mem_cons.1 hr with hr | hr
      · simp only [Prod.mk.injEq] at hr
        obtain ⟨rfl, rfl⟩ := hr
        obtain ⟨x, hx, hh⟩ := hi.holds i _ List.mem_cons_self
        refine ⟨x, hsub i x hx, ?_⟩
        rcases hh with ⟨rfl, h2⟩ | ⟨bb, off, cap, cur, rfl, h2, h3, h4, h5, h6, h7, h8⟩
        · exact .inl ⟨rfl, by
            have : N = 0 := by simpa using congrArg List.length h2
            subst this; rfl⟩
        · refine .inr ⟨bb, off, cap, cur, by simp [hrow], h2, by simpa [hrow] using h3, h4, h5, ?_, h7, ?_⟩
          · intro j y hy
            have hj := h6 j
            rw [hrow_get] at hy
            split at hy
            · rename_i hlt
              simp only [Option.some.injEq] at hy
              subst hy
              have := hj _ (List.getElem?_replicate_of_lt hlt)
              simpa using this
            · cases hy
          · intro j l y z v hy hz hv
            rw [hrow_get] at hy
            split at hy
            · rename_i hlt
              simp only [Option.some.injEq] at hy
              subst hy
              cases l with
              | zero =>
                simp only [List.getElem?_cons_zero, Option.some.injEq] at hz
                subst hz
                have := h8 j 0 _ _ v (List.getElem?_replicate_of_lt hlt) rfl hv
                rw [this.bool_inv]
                refine .rv _ _ ?_ rfl
                simp only [m']
                rw [if_pos (by omega)]
              | succ l => simp at hz
            · cases hy
      · obtain ⟨x, hx, hh⟩ := hi.holds i r (List.mem_cons_of_mem _ hr)
        exact ⟨x, hsub i x hx, hh.mono (fun _ _ => rfl) (Keep.refl w _) (fun bb _ hh => hOO bb hh) hsub⟩
    · simp only [famd, List.mem_map, List.mem_range, Prod.mk.injEq] at hr
      obtain ⟨j, hj, rfl, rfl⟩ := hr
      refine ⟨.slice none 0 0, ?_, .inl ⟨rfl, rfl⟩⟩
      simp only [m']
      rw [if_pos (by omega)]

/-- A cell of a box that holds a nil slice: its row, empty, is owned. -/
theorem Wk.ownBox (c i h : Nat) {e k : Nat} {bk : Nat} {bt : TypeId} {cs : List V} (hl : s.L.lookup c = some (.box bk bt cs)) (hi : cs[i]? = some (.d (.v (.slice none 0 0)))) (hn : h ∉ keys s.L) :
    Wk n s ⟨s.fr, (h, .row e k []) :: Heap.upd s.L c (.box bk bt (cs.set i (.rv h)))⟩ := by
  intro fo m a w g
  obtain ⟨g', st⟩ := g.new (Grows.refl w) hn (x := .slice none 0 0) (r := .row e k []) (by intro b hb; simp [blk] at hb) (.inl ⟨rfl, rfl⟩)
  refine ⟨_, ⟨g'.size, g'.fr, ?_, g'.defers⟩, st⟩
  have hi' := g'.inv
  have hkey : keys ((h, Res.row e k []) :: Heap.upd s.L c (.box bk bt (cs.set i (.rv h)))) = keys ((h, Res.row e k []) :: s.L) := by
    have := keys_upd s.L c (.box bk bt (cs.set i (.rv h)))
    simp only [keys, List.map_cons] at this ⊢
    rw [this]
  have hmem := lookup_mem hl
  refine ⟨by rw [hkey]; exact hi'.nodup, fun j x hx => by rw [hkey]; exact hi'.dom j x hx, hi'.apart, hi'.others, hi'.folt, ?_⟩
  intro j r hr
  rcases List.mem_cons.1 hr with hr | hr
  · exact hi'.holds j r (by rw [hr]; exact List.mem_cons_self)
  · unfold Heap.upd at hr
    obtain ⟨p, hp, he⟩ := List.mem_map.1 hr
    split at he
    · rename_i hpc
      simp only [Prod.mk.injEq] at he
      obtain ⟨rfl, rfl⟩ := he
      obtain ⟨x, hx, hh⟩ := hi'.holds c _ (List.mem_cons_of_mem _ hmem)
      refine ⟨x, hx, ?_⟩
      obtain ⟨bb, hbb, cur, e1, e2, e3, e4, e5⟩ := hh
      refine ⟨bb, hbb, cur, e1, e2, by simpa using e3, e4, fun l v y hv hy => ?_⟩
      rw [List.getElem?_set] at hy
      split at hy
      · rename_i hil
        subst hil
        split at hy
        · simp only [Option.some.injEq] at hy
          subst hy
          have := e5 i v _ hv hi
          rw [this.bool_inv]
          exact .rv h _ (mset_same _ _) rfl
        · cases hy
      · exact e5 l v y hv hy
    · rw [he] at hp
      exact hi'.holds j r (List.mem_cons_of_mem _ hp)
@[simp] theorem encI_replicate (N : Nat) (v : Int) : List.replicate N [V.d (.v (.int .i64 v))] = dd (encI (List.replicate N v)) := by simp [dd, encI]

@[simp] theorem famd_mem (a : Nat) (r : Res) : (a, r) ∈ famd b N ty k A ↔ ∃ i, i < N ∧ i + b = a ∧ .row ty k (dd (A i)) = r := by
  simp [famd]
@[simp] theorem hrow_mem (x : List V) : x ∈ hrow b N ↔ ∃ i, i < N ∧ [.rv (i + b)] = x := by simp [hrow]
@[simp] theorem famd_map_upd (h : Nat) (r : Res) (hh : h < b) : List.map (fun p => if p.1 = h then (h, r) else p) (famd b N ty k A) = famd b N ty k A := famd_upd_other h r hh
@[simp] theorem famd_map_upd' (i : Nat) (ys : List (List D)) : List.map (fun p => if p.1 = i + b then (i + b, .row ty k (dd ys)) else p) (famd b N ty k A) = famd b N ty k (fun j => if j = i then ys else A j) := famd_upd i ys
@[simp] theorem hrow_getElem (i : Nat) (h : i < (hrow b N).length) : (hrow b N)[i]'h = [.rv (i + b)] := by simp [hrow]
theorem hrow_set_kill' (i : Nat) : ((hrow b N).map (V.kills (i + b))).set i [.rv (i + b)] = hrow b N := hrow_set_kill i
theorem famd_map {β : Type} (f : Nat × Res → β) : List.map f (famd b N ty k A) = (List.range N).map fun i => f (i + b, .row ty k (dd (A i))) := by
  simp [famd]
theorem famd_filter_no (f : Nat × Res → Bool) (h : ∀ i, f (i + b, .row ty k (dd (A i))) = false) : (famd b N ty k A).filter f = [] := by
  rw [List.filter_eq_nil_iff]
  rintro ⟨a, r⟩ hm
  obtain ⟨i, _, rfl, rfl⟩ := (famd_mem a r).1 hm
  simp [h i]
theorem famd_filter_all (f : Nat × Res → Bool) (h : ∀ i, f (i + b, .row ty k (dd (A i))) = true) : (famd b N ty k A).filter f = famd b N ty k A := by
  rw [List.filter_eq_self]
  rintro ⟨a, r⟩ hm
  obtain ⟨i, _, rfl, rfl⟩ := (famd_mem a r).1 hm
  exact h i
@[simp] theorem hrow_kill_other (h : Nat) (hh : h < b) : (hrow b N).map (V.kills h) = hrow b N := by
  unfold hrow
  rw [List.map_map]
  apply List.map_congr_left
  intro i _
  have : ¬ i + b = h := by omega
  simp [V.kills, V.kill, this]
theorem famd_eq : famd b N ty k A = (List.range N).map fun i => (i + b, .row ty k (dd (A i))) := rfl
@[simp] theorem famd_opn (bs : Nat → Nat) : (famd b N ty k A).map (fun p => (p.1, opnR bs p.1 p.2)) = famd b N ty k A := by
  simp [famd, Function.comp_def]
@[simp] theorem famd_rem (h : Nat) (hh : h < b) : remL h (famd b N ty k A) = famd b N ty k A := by
  rw [remL_eq, famd_filter_all _ (by intro i; simp; omega), famd_kill]
@[simp] theorem hrow_cellAt (i : Nat) (z : List V) (h : i < N) : cellAt (hrow b N) i 0 z = .rv (i + b) := by
  unfold cellAt
  rw [hrow_get, if_pos h]
  rfl

/-! ### A handle's new name -/
mutual
def V.ren (h g : Nat) : V → V
  | .bp i o => if i = h then .bp g o else .bp i o
  | .rv i => if i = h then .rv g else .rv i
  | .ep i k x y => if i = h then .ep g k x y else .ep i k x y
  | .clo fn f c => .clo fn (V.rens h g f) (V.rens h g c)
  | .agg cs => .agg (V.rens h g cs)
  | .tup cs => .tup (V.rens h g cs)
  | .gd b x => .gd b (V.ren h g x)
  | .d x => .d x
  | .rp cs => .rp cs
  | .any => .any
def V.rens (h g : Nat) : List V → List V
  | [] => []
  | x :: l => V.ren h g x :: V.rens h g l
end
theorem rens_eq (h g : Nat) : ∀ l : List V, V.rens h g l = l.map (V.ren h g)
  | [] => by simp [V.rens]
  | x :: l => by simp [V.rens, rens_eq h g l]
theorem rens_d (h g : Nat) (l : List D) : V.rens h g (l.map V.d) = l.map V.d := by
  rw [rens_eq, List.map_map]
  apply List.map_congr_left
  intro x _
  simp [V.ren]
def Res.ren (h g : Nat) : Res → Res
  | .box b ty cs => .box b ty (V.rens h g cs)
  | .row ty k xs => .row ty k (xs.map (V.rens h g))
theorem ren_dd (h g : Nat) (ys : List (List D)) : (dd ys).map (V.rens h g) = dd ys := by
  unfold dd
  rw [List.map_map]
  apply List.map_congr_left
  intro x _
  simp [rens_d]
def St.ren (h g : Nat) (s : St) : St := ⟨s.fr.map fun p => (p.1, p.2.ren h g), s.L.map fun p => (if p.1 = h then g else p.1, p.2.ren h g)⟩

theorem RelV.ren {w : World} {O : Nat → Prop} {m m' : Nat → Option Value} {h g : Nat} (hm : ∀ i x, i ≠ h → m i = some x → m' i = some x) (hg : ∀ x, m h = some x → m' g = some x) {x : Value} {y : V} (hr : RelV w O m x y) : RelV w O m' x (y.ren h g) := by
  induction hr with
  | d x y hd => simpa [V.ren] using RelV.d x y hd
  | bp i off b e =>
    simp only [V.ren]
    split
    · rename_i he; subst he; exact .bp g off b (hg _ e)
    · rename_i hne; exact .bp i off b (hm _ _ hne e)
  | rv i x e e1 =>
    simp only [V.ren]
    split
    · rename_i he; subst he; exact .rv g x (hg _ e) e1
    · rename_i hne; exact .rv i x (hm _ _ hne e) e1
  | ep i k p q b o n c e =>
    simp only [V.ren]
    split
    · rename_i he; subst he; exact .ep g k p q b o n c (hg _ e)
    · rename_i hne; exact .ep i k p q b o n c (hm _ _ hne e)
  | rp b off cs f hb hlt hc hr => simpa [V.ren] using RelV.rp b off cs f hb hlt hc hr
  | clo fn first caps cf cc s1 s2 h1 h2 ih1 ih2 =>
    simp only [V.ren, rens_eq]
    refine .clo fn first caps _ _ (by simpa using s1) (by simpa using s2) ?_ ?_
    · intro j x y hx hy
      rw [List.getElem?_map] at hy
      obtain ⟨z, hz, rfl⟩ := Option.map_eq_some_iff.1 hy
      exact ih1 j x z hx hz
    · intro j x y hx hy
      rw [List.getElem?_map] at hy
      obtain ⟨z, hz, rfl⟩ := Option.map_eq_some_iff.1 hy
      exact ih2 j x z hx hz
  | agg vs cs hs h1 h2 ih =>
    simp only [V.ren, rens_eq]
    refine .agg vs _ (by simpa using hs) h1 ?_
    intro j x y hx hy
    rw [List.getElem?_map] at hy
    obtain ⟨z, hz, rfl⟩ := Option.map_eq_some_iff.1 hy
    exact ih j x z hx hz
  | tup vs cs hs h2 ih =>
    simp only [V.ren, rens_eq]
    refine .tup vs _ (by simpa using hs) ?_
    intro j x y hx hy
    rw [List.getElem?_map] at hy
    obtain ⟨z, hz, rfl⟩ := Option.map_eq_some_iff.1 hy
    exact ih j x z hx hz
  | gt x y hr ih => simpa [V.ren] using RelV.gt x _ ih
  | gf y => simpa [V.ren] using RelV.gf (y.ren h g)
  | any x => simpa [V.ren] using RelV.any x

theorem Res.Holds.ren {w : World} {O : Nat → Prop} {m m' : Nat → Option Value} {h g : Nat} (hm : ∀ i x, i ≠ h → m i = some x → m' i = some x) (hg : ∀ x, m h = some x → m' g = some x) {x : Value} {r : Res} (hh : r.Holds w O m x) : (r.ren h g).Holds w O m' x := by
  cases r with
  | box b ty cs =>
    obtain ⟨bb, hbb, cur, rfl, h1, h2, h3, h4⟩ := hh
    simp only [Res.ren, rens_eq]
    refine ⟨bb, hbb, cur, rfl, h1, by simpa using h2, h3, fun j v c hv hc => ?_⟩
    rw [List.getElem?_map] at hc
    obtain ⟨z, hz, rfl⟩ := Option.map_eq_some_iff.1 hc
    exact (h4 j v z hv hz).ren hm hg
  | row ty k xs =>
    simp only [Res.ren]
    rcases hh with ⟨rfl, rfl⟩ | ⟨b, off, cap, cur, rfl, h1, h2, h3, h4, h5, h6, h7⟩
    · exact .inl ⟨rfl, rfl⟩
    · refine .inr ⟨b, off, cap, cur, by simp, h1, by simpa using h2, h3, h4, fun i x hx => ?_, h6, fun i j x y v hx hy hv => ?_⟩
      · rw [List.getElem?_map] at hx
        obtain ⟨z, hz, rfl⟩ := Option.map_eq_some_iff.1 hx
        rw [rens_eq, List.length_map]
        exact h5 i z hz
      · rw [List.getElem?_map] at hx
        obtain ⟨z, hz, rfl⟩ := Option.map_eq_some_iff.1 hx
        rw [rens_eq, List.getElem?_map] at hy
        obtain ⟨y', hy', rfl⟩ := Option.map_eq_some_iff.1 hy
        exact (h7 i j z y' v hz hy' hv).ren hm hg

/-- A handle is named anew. -/
theorem Wk.ren (h g : Nat) (hg : g ∉ keys s.L) : Wk n s (s.ren h g) := by
  classical
  intro fo m a w gg
  let m' : Nat → Option Value := fun i => if i = g then m h else if i = h then none else m i
  have hi := gg.inv
  have hgn : ∀ x, m g ≠ some x := fun x hx => hg (hi.dom g x hx)
  have hm : ∀ i x, i ≠ h → m i = some x → m' i = some x := by
    intro i x hne hx
    have : i ≠ g := fun e => hgn x (e ▸ hx)
    simp only [m', if_neg this, if_neg hne]; exact hx
  have hmg : ∀ x, m h = some x → m' g = some x := fun x hx => by simp only [m', if_pos]; exact hx
  have hm' : ∀ i x, m' i = some x → ∃ j, m j = some x ∧ i = (if j = h then g else j) := by
    intro i x hx
    by_cases e : i = g
    · simp only [m', if_pos e] at hx; exact ⟨h, hx, by simp [e]⟩
    · simp only [m', if_neg e] at hx
      by_cases e2 : i = h
      · simp only [if_pos e2] at hx; cases hx
      · simp only [if_neg e2] at hx; exact ⟨i, hx, by rw [if_neg e2]⟩
  have hown : ∀ b, Ab.own m' b ↔ Ab.own m b := by
    intro b
    constructor
    · rintro ⟨i, x, hx, hb⟩
      obtain ⟨j, hj, _⟩ := hm' i x hx
      exact ⟨j, x, hj, hb⟩
    · rintro ⟨i, x, hx, hb⟩
      by_cases e : i = h
      · subst e; exact ⟨g, x, hmg x hx, hb⟩
      · exact ⟨i, x, hm i x e hx, hb⟩
  have hO : ∀ b, b < w.heap.size → OO fo m' b → OO fo m b := fun b _ ho => ho.imp (hown b).1 id
  have hkey : ∀ i, i ∈ keys s.L → (if i = h then g else i) ∈ keys (s.ren h g).L := by
    intro i hi'
    obtain ⟨p, hp, rfl⟩ := List.mem_map.1 hi'
    exact List.mem_map.2 ⟨_, List.mem_map.2 ⟨p, hp, rfl⟩, rfl⟩
  refine ⟨m', ⟨gg.size, ?_, ?_, gg.defers⟩, ⟨rfl, rfl, rfl, Nat.le_refl _, fun _ _ _ => rfl, fun b _ ho => (hown b).1 ho⟩⟩
  · intro t x hx
    obtain ⟨p, hp, he⟩ := List.mem_map.1 hx
    simp only [Prod.mk.injEq] at he
    obtain ⟨rfl, rfl⟩ := he
    obtain ⟨h1, h2⟩ := gg.fr p.1 p.2 hp
    exact ⟨h1, (h2.ren hm hmg).mono (Keep.refl w _) hO (fun _ _ e => e)⟩
  · refine ⟨?_, ?_, ?_, ?_, hi.folt, ?_⟩
    · have : keys (s.ren h g).L = (keys s.L).map fun i => if i = h then g else i := by
        simp [keys, St.ren, Function.comp_def]
      rw [this]
      have hnd := hi.nodup
      unfold List.Nodup at hnd ⊢
      rw [List.pairwise_map]
      refine List.Pairwise.imp_of_mem (fun {a b} ha hb hab => ?_) hnd
      have h1 : a ≠ g := fun e => hg (e ▸ ha)
      have h2 : b ≠ g := fun e => hg (e ▸ hb)
      split <;> split
      · rename_i e1 e2; exact (hab (e1.trans e2.symm)).elim
      · exact fun e => h2 e.symm
      · exact h1
      · exact hab
    · intro i x hx
      obtain ⟨j, hj, rfl⟩ := hm' i x hx
      exact hkey j (hi.dom j x hj)
    · intro i j x y b hx hy hb hb'
      obtain ⟨i', hi1, rfl⟩ := hm' i x hx
      obtain ⟨j', hj1, rfl⟩ := hm' j y hy
      rw [hi.apart i' j' x y b hi1 hj1 hb hb']
    · intro i x b hx hb
      obtain ⟨j, hj, _⟩ := hm' i x hx
      exact hi.others j x b hj hb
    · intro i r hr
      obtain ⟨p, hp, he⟩ := List.mem_map.1 hr
      simp only [Prod.mk.injEq] at he
      obtain ⟨rfl, rfl⟩ := he
      obtain ⟨x, hx, hh⟩ := hi.holds p.1 p.2 hp
      refine ⟨x, ?_, (hh.ren hm hmg).mono (fun _ _ => rfl) (Keep.refl w _) hO (fun _ _ e => e)⟩
      split
      · rename_i e; rw [e] at hx; exact hmg x hx
      · rename_i e; exact hm _ x e hx
attribute [simp] V.ren V.rens Res.ren St.ren rens_d ren_dd

/-! ### Functions that are lent resources, and make others on their way -/
def EPost (P : Program) (rs : List ResultVar) (R : AE → Heap → Prop) (hs : List Nat) (x : AX) (s : St) : Prop :=
  match x with
  | .normal | .ret => (s.pick [] hs).on (keys (s.pick [] hs).L) = true ∧ FPost P rs R .ret (s.pick [] hs)
  | _ => False
theorem AWP.epost {P : Program} {c : Code} {rs : List ResultVar} {R : AE → Heap → Prop} (hs : List Nat) (hh : hs.Nodup) (h : AWP P n c s (EPost P rs R hs)) : AWP P n c s (FPost P rs R) := by
  intro fo m a w g
  refine Code.wp_mono (fun e a1 w1 hp => ?_) (h fo m a w g)
  obtain ⟨m', x, s', hq, g', he, st⟩ := hp
  have key : ∀ y, (s'.pick [] hs).on (keys (s'.pick [] hs).L) = true ∧ FPost P rs R .ret (s'.pick [] hs) → (∀ m2, Exits w1 (OO fo m2) m2 e y) → FPost P rs R .ret (s'.pick [] hs) = FPost P rs R y (s'.pick [] hs) → Post fo n m w (FPost P rs R) e a1 w1 := by
    intro y h1 h2 h3
    obtain ⟨m2, g2, st2⟩ := Wk.pick [] hs (by simp) hh h1.1 fo m' a1 w1 g'
    exact ⟨m2, y, s'.pick [] hs, h3 ▸ h1.2, g2, h2 m2, st.trans st2⟩
  cases x with
  | normal =>
    refine key .normal hq (fun m2 => ?_) rfl
    cases e <;> simp [Exits] at he ⊢
  | ret =>
    refine key .ret hq (fun m2 => ?_) rfl
    cases e <;> simp [Exits] at he ⊢
  | _ => exact hq.elim
theorem ACalls.runP {P : Program} (hs : List Nat) (hh : hs.Nodup) {f : FuncId} {args : List V} {R : AE → Heap → Prop} {fn : Func} {c : Code} (hf : P.funcs[f]? = some fn) (hb : fn.body = some c) (hn : args.length ≤ fn.ntmps)
    (h : codeK P fn.ntmps c ⟨argFrame 0 args, L⟩ (kontK P fn.ntmps (EPost P fn.results.toList R hs) [])) : ACalls P f args L R :=
  ACalls.of_AWP hf hb hn (AWP.epost hs hh (codeK_sound _ _ _ h))
attribute [simp] EPost
end
end Go.Ab
