/-
  How far states are, in plain Lean, second part: where the search begins, how long it lasts; the reference's rounds come to the same.
-/
import Derived.Test.YtfcflgiignjlgaaAbHbfs
set_option linter.unusedSimpArgs false
set_option linter.unusedVariables false
namespace Go.Ab

def cnt (out : List Int) : Nat := (out.filter fun v => decide (0 ≤ v)).length

theorem cnt_le (out : List Int) : cnt out ≤ out.length := List.length_filter_le _ _

theorem cnt_set : ∀ (l : List Int) (i : Nat) (v : Int), i < l.length → l.getD i 0 = -1 → 0 ≤ v → cnt (l.set i v) = cnt l + 1
  | [], i, v, h, _, _ => by simp at h
  | a :: l, 0, v, h, h1, h2 => by
    have ha : a = -1 := by simpa using h1
    subst ha
    simp [cnt, List.filter_cons, h2]
  | a :: l, i + 1, v, h, h1, h2 => by
    have := cnt_set l i v (by simpa using h) (by simpa using h1) h2
    simp only [cnt, List.set_cons_succ, List.filter_cons] at this ⊢
    split <;> simp [this]

theorem visit_cnt {x y : Int} {out q : List Int} {B : Int} (hy : y.toNat < out.length) (hx : 0 ≤ out.getD x.toNat 0 ∧ out.getD x.toNat 0 ≤ B) (hB : ∀ v ∈ out, -1 ≤ v ∧ v ≤ B + 1) :
    cnt (visit x (out, q) y).1 + q.length = cnt out + (visit x (out, q) y).2.length ∧ (visit x (out, q) y).1.length = out.length ∧ (∀ v ∈ (visit x (out, q) y).1, -1 ≤ v ∧ v ≤ B + 1) ∧ (visit x (out, q) y).1.getD x.toNat 0 = out.getD x.toNat 0 := by
  unfold visit
  split
  · rename_i hn
    have hn : out.getD y.toNat 0 = -1 := hn
    simp only
    refine ⟨?_, by simp, ?_, ?_⟩
    · rw [cnt_set _ _ _ hy hn (by omega)]; simp; omega
    · intro v hv
      rcases List.mem_or_eq_of_mem_set hv with hv | rfl
      · exact hB v hv
      · omega
    · rw [getD_set _ _ _ _ hy]
      split
      · rename_i e; rw [e, hn] at hx; omega
      · rfl
  · exact ⟨rfl, rfl, hB, rfl⟩

theorem visits_cnt {x : Int} {B : Int} : ∀ (l out q : List Int), (∀ y ∈ l, y.toNat < out.length) → (0 ≤ out.getD x.toNat 0 ∧ out.getD x.toNat 0 ≤ B) → (∀ v ∈ out, -1 ≤ v ∧ v ≤ B + 1) →
    cnt (l.foldl (visit x) (out, q)).1 + q.length = cnt out + (l.foldl (visit x) (out, q)).2.length ∧ (l.foldl (visit x) (out, q)).1.length = out.length ∧ (∀ v ∈ (l.foldl (visit x) (out, q)).1, -1 ≤ v ∧ v ≤ B + 1) ∧ (l.foldl (visit x) (out, q)).1.getD x.toNat 0 = out.getD x.toNat 0
  | [], out, q, _, _, hB => ⟨rfl, rfl, hB, rfl⟩
  | y :: l, out, q, hl, hx, hB => by
    obtain ⟨h1, h2, h3, h4⟩ := visit_cnt (q := q) (hl y List.mem_cons_self) hx hB
    rw [List.foldl_cons]
    obtain ⟨g1, g2, g3, g4⟩ := visits_cnt l (visit x (out, q) y).1 (visit x (out, q) y).2 (fun z hz => by rw [h2]; exact hl z (List.mem_cons_of_mem _ hz)) (by rw [h4]; exact hx) h3
    have e : (visit x (out, q) y) = ((visit x (out, q) y).1, (visit x (out, q) y).2) := rfl
    rw [← e] at g1 g2 g3 g4
    exact ⟨by omega, by rw [g2, h2], g3, by rw [g4, h4]⟩

theorem far0_len (g : GGraph) : (far0 g).length = g.States.length := by simp [far0]
theorem far0_get (g : GGraph) (i : Nat) (h : i < g.States.length) : (far0 g).getD i 0 = if won g i then 0 else -1 := by
  unfold far0 won
  rw [List.getD_eq_getElem?_getD, List.getElem?_map, List.getElem?_eq_getElem h]
  simp
theorem queue0_mem (g : GGraph) (n : Nat) (y : Int) : y ∈ queue0 g n ↔ 0 ≤ y ∧ y < n ∧ won g y.toNat = true := by
  unfold queue0
  simp only [List.mem_map, List.mem_filter, List.mem_range]
  constructor
  · rintro ⟨a, ⟨h1, h2⟩, rfl⟩; exact ⟨by omega, by omega, by simpa using h2⟩
  · rintro ⟨h1, h2, h3⟩; exact ⟨y.toNat, ⟨by omega, h3⟩, by omega⟩

theorem bi_start (g : GGraph) (es : List GEdge) : BI g.States.length es (won g) (fun _ => False) (far0 g) (queue0 g g.States.length) := by
  have hz : ∀ y ∈ queue0 g g.States.length, (far0 g).getD y.toNat 0 = 0 := by
    intro y hy
    obtain ⟨h1, h2, h3⟩ := (queue0_mem _ _ _).1 hy
    rw [far0_get _ _ (by omega), if_pos h3]
  have hle : ∀ v, v < g.States.length → (far0 g).getD v 0 ≤ 0 := by
    intro v hv; rw [far0_get _ _ hv]; split <;> omega
  refine ⟨far0_len g, ?_, ?_, ?_, ?_, ?_, ?_, ?_⟩
  · intro v
    by_cases h : v < g.States.length
    · rw [far0_get _ _ h]; split <;> omega
    · rw [List.getD_eq_getElem?_getD, List.getElem?_eq_none (by rw [far0_len]; omega)]; simp
  · intro v hv
    rw [far0_get _ _ hv]
    cases won g v <;> simp
  · intro y hy
    have := hz y hy
    obtain ⟨h1, h2, h3⟩ := (queue0_mem _ _ _).1 hy
    exact ⟨h1, h2, by omega⟩
  · refine List.Pairwise.imp_of_mem (R := fun _ _ => True) (fun {a b} ha hb _ => ?_) (List.pairwise_of_forall (fun _ _ => trivial))
    rw [hz a ha, hz b hb]; omega
  · intro y hy v hv
    have := hle v hv
    rw [hz y hy]; omega
  · intro v hv h
    have := hle v hv
    omega
  · intro v hv h0 hq
    exfalso
    refine hq ((queue0_mem _ _ _).2 ⟨by omega, by omega, ?_⟩)
    rw [far0_get _ _ hv] at h0
    cases hw : won g v with
    | true => simpa using hw
    | false => rw [hw] at h0; simp at h0

theorem cnt_start (g : GGraph) : cnt (far0 g) = (queue0 g g.States.length).length := by
  have h : ∀ k, k ≤ g.States.length → cnt ((far0 g).take k) = (queue0 g k).length := by
    intro k hk
    induction k with
    | zero => simp [cnt, queue0]
    | succ k ih =>
      have hlt : k < (far0 g).length := by rw [far0_len]; omega
      have e : (far0 g).take (k + 1) = (far0 g).take k ++ [(far0 g).getD k 0] := by
        rw [List.take_add_one, List.getD_eq_getElem?_getD, List.getElem?_eq_getElem hlt]; rfl
      rw [e, far0_get _ _ (by omega)]
      have ih := ih (by omega)
      simp only [cnt, queue0, List.filter_append, List.length_append, List.range_succ, List.map_append] at ih ⊢
      rw [ih]
      cases hw : won g k <;> simp [hw]
  have := h g.States.length (Nat.le_refl _)
  rwa [List.take_of_length_le (by rw [far0_len]; omega)] at this

/-! ### The search as a whole -/

def bfs (g : GGraph) (k : Nat) : List Int × List Int := bfsN (goods g) (far0 g, queue0 g g.States.length) k

theorem goods_good (g : GGraph) : ∀ e ∈ goods g, goodE g.States.length e = true := fun e he => (List.mem_filter.1 he).2

theorem bfs_bi (g : GGraph) (k : Nat) : BI g.States.length (goods g) (won g) (fun _ => False) (bfs g k).1 (bfs g k).2 := bfs_law (goods_good g) (bi_start g (goods g)) k

theorem adjM_mem {g : GGraph} {v : Nat} {y : Int} (h : y ∈ adjM (goods g) v) : 0 ≤ y ∧ y < g.States.length := by
  unfold adjM at h
  obtain ⟨e, he, rfl⟩ := List.mem_map.1 h
  exact (goodE_iff.1 (goods_good g e (List.mem_filter.1 he).1)).1

/-- What is known at the head of round k, all queues before it not empty. -/
def BH (g : GGraph) (k : Nat) : Prop := cnt (bfs g k).1 = k + (bfs g k).2.length ∧ ∀ v ∈ (bfs g k).1, -1 ≤ v ∧ v ≤ (k : Int)

theorem bh_start (g : GGraph) : BH g 0 := by
  refine ⟨by simp only [bfs, bfsN, cnt_start]; omega, ?_⟩
  intro v hv
  simp only [bfs, bfsN, far0, List.mem_map] at hv
  obtain ⟨w, _, rfl⟩ := hv
  split <;> simp

theorem bh_step {g : GGraph} {k : Nat} (h : BH g k) (hq : (bfs g k).2 ≠ []) : BH g (k + 1) := by
  have hb := bfs_bi g k
  have hs : bfs g (k + 1) = bfsStep (goods g) (bfs g k) := rfl
  unfold BH at h ⊢
  rw [hs]
  generalize bfs g k = s at h hq hb
  obtain ⟨out, q⟩ := s
  cases q with
  | nil => exact (hq rfl).elim
  | cons x q =>
    simp only [bfsStep]
    have hxq := hb.inq x List.mem_cons_self
    have hle : out.getD x.toNat 0 ≤ k := by
      have hlt : x.toNat < out.length := by rw [hb.len]; omega
      rw [List.getD_eq_getElem?_getD, List.getElem?_eq_getElem hlt]
      exact (h.2 _ (List.getElem_mem hlt)).2
    obtain ⟨h1, h2, h3, h4⟩ := visits_cnt (x := x) (B := k) (adjM (goods g) x.toNat) out q (fun y hy => by have := adjM_mem hy; rw [hb.len]; omega) ⟨hxq.2.2, hle⟩ (fun v hv => by have := h.2 v hv; exact ⟨this.1, by omega⟩)
    have h5 := h.1
    simp only [List.length_cons] at h5
    exact ⟨by omega, fun v hv => by have := h3 v hv; exact ⟨this.1, by push_cast; exact this.2⟩⟩

theorem bh_lt {g : GGraph} {k : Nat} (h : BH g k) (hq : (bfs g k).2 ≠ []) : k < g.States.length := by
  have h1 := cnt_le (bfs g k).1
  have h2 := (bfs_bi g k).len
  have h3 : 0 < (bfs g k).2.length := List.length_pos_iff.2 hq
  have := h.1
  omega

/-! ### One law, one answer -/

theorem FarLaw.le {n : Nat} {es : List GEdge} {won : Nat → Bool} {f f' : List Int} (h : FarLaw n es won f) (h' : FarLaw n es won f') (hg : ∀ e ∈ es, goodE n e = true) : ∀ (k : Nat) (v : Nat), v < n → f.getD v 0 = k → 0 ≤ f'.getD v 0 ∧ f'.getD v 0 ≤ k
  | 0, v, hv, hk => by
    have := (h'.zero v hv).2 ((h.zero v hv).1 (by simpa using hk))
    omega
  | k + 1, v, hv, hk => by
    obtain ⟨e, he, e1, e2⟩ := h.next v hv (by omega)
    have hge := goodE_iff.1 (hg e he)
    have ih := FarLaw.le h h' hg k e.To.toNat (by omega) (by omega)
    have := h'.edge e he ih.1
    rw [e1] at this
    omega

theorem FarLaw.unique {n : Nat} {es : List GEdge} {won : Nat → Bool} {f f' : List Int} (h : FarLaw n es won f) (h' : FarLaw n es won f') (hg : ∀ e ∈ es, goodE n e = true) : f = f' := by
  apply List.ext_getElem?
  intro v
  by_cases hv : v < n
  · have key : f.getD v 0 = f'.getD v 0 := by
      have l1 := h.low v
      have l2 := h'.low v
      by_cases a : 0 ≤ f.getD v 0
      · have := h.le h' hg (f.getD v 0).toNat v hv (by omega)
        have := h'.le h hg (f'.getD v 0).toNat v hv (by omega)
        omega
      · by_cases b : 0 ≤ f'.getD v 0
        · have := h'.le h hg (f'.getD v 0).toNat v hv (by omega)
          omega
        · omega
    rw [List.getD_eq_getElem?_getD, List.getD_eq_getElem?_getD] at key
    have e1 : v < f.length := by rw [h.len]; exact hv
    have e2 : v < f'.length := by rw [h'.len]; exact hv
    rw [List.getElem?_eq_getElem e1, List.getElem?_eq_getElem e2] at key ⊢
    simpa using key
  · rw [List.getElem?_eq_none (by rw [h.len]; omega), List.getElem?_eq_none (by rw [h'.len]; omega)]

/-- A state that is m far: there are more than m states. -/
theorem FarLaw.bound {n : Nat} {es : List GEdge} {won : Nat → Bool} {f : List Int} (h : FarLaw n es won f) (hg : ∀ e ∈ es, goodE n e = true) {v : Nat} (hv : v < n) : f.getD v 0 < n := by
  -- below each value that is met all smaller ones are met
  have down : ∀ (k : Nat) (v : Nat), v < n → f.getD v 0 = k → ∀ j, j ≤ k → ∃ u, u < n ∧ f.getD u 0 = (j : Int) := by
    intro k
    induction k with
    | zero => intro v hv hk j hj; exact ⟨v, hv, by rw [show j = 0 by omega]; exact hk⟩
    | succ k ih =>
      intro v hv hk j hj
      by_cases e : j = k + 1
      · exact ⟨v, hv, by rw [e]; exact hk⟩
      · obtain ⟨e', he, e1, e2⟩ := h.next v hv (by omega)
        have hge := goodE_iff.1 (hg e' he)
        exact ih e'.To.toNat (by omega) (by omega) j (by omega)
  by_cases h0 : 0 ≤ f.getD v 0
  · generalize hm : (f.getD v 0).toNat = m
    have hex := down m v hv (by omega)
    have hsub : (List.range (m + 1)) ⊆ (f.map Int.toNat) := by
      intro j hj
      obtain ⟨u, hu, hu2⟩ := hex j (by simpa using Nat.lt_succ_iff.1 (List.mem_range.1 hj))
      have hlt : u < f.length := by rw [h.len]; exact hu
      rw [List.getD_eq_getElem?_getD, List.getElem?_eq_getElem hlt] at hu2
      exact List.mem_map.2 ⟨f[u], List.getElem_mem hlt, by simp at hu2; omega⟩
    have := (List.nodup_range (n := m + 1)).length_le_of_subset hsub
    simp at this
    rw [h.len] at this
    omega
  · omega

/-! ### The reference's rounds -/

def cut (f : List Int) (k : Nat) : List Int := f.map fun d => if d ≤ (k : Int) then d else -1

theorem cut_get (f : List Int) (k v : Nat) : (cut f k).getD v 0 = if f.getD v 0 ≤ (k : Int) then f.getD v 0 else -1 := by
  unfold cut
  rw [List.getD_eq_getElem?_getD, List.getD_eq_getElem?_getD, List.getElem?_map]
  cases f[v]? with
  | none => simp
  | some d => simp

theorem nearStep_get {n : Nat} {far out : List Int} {e : GEdge} (hl : out.length = n) (u : Nat) :
    (nearStep n far out e).getD u 0 = if goodE n e = true ∧ e.From.toNat = u ∧ 0 ≤ far.getD e.To.toNat 0 ∧ (out.getD u 0 < 0 ∨ far.getD e.To.toNat 0 + 1 < out.getD u 0) then far.getD e.To.toNat 0 + 1 else out.getD u 0 := by
  unfold nearStep
  by_cases hg : goodE n e = true
  · have hge := goodE_iff.1 hg
    simp only [hg, Bool.true_and, Bool.and_eq_true, Bool.or_eq_true, decide_eq_true_eq, true_and]
    by_cases hu : e.From.toNat = u
    · subst hu
      split
      · rename_i h
        rw [getD_set _ _ _ _ (by omega), if_pos rfl, if_pos ⟨rfl, h⟩]
      · rename_i h
        rw [if_neg (fun h' => h h'.2)]
    · rw [if_neg (c := e.From.toNat = u ∧ _) (fun h' => hu h'.1)]
      split
      · rw [getD_set _ _ _ _ (by omega), if_neg (fun h => hu h.symm)]
      · rfl
  · simp [hg]

theorem nearFold_law {n : Nat} {far : List Int} : ∀ (es : List GEdge) (out : List Int), out.length = n → ∀ u,
    let r := (es.foldl (nearStep n far) out).getD u 0
    (r = out.getD u 0 ∨ ∃ e ∈ es, goodE n e = true ∧ e.From.toNat = u ∧ 0 ≤ far.getD e.To.toNat 0 ∧ r = far.getD e.To.toNat 0 + 1) ∧
    (0 ≤ out.getD u 0 → 0 ≤ r ∧ r ≤ out.getD u 0) ∧ ∀ e ∈ es, goodE n e = true → e.From.toNat = u → 0 ≤ far.getD e.To.toNat 0 → 0 ≤ r ∧ r ≤ far.getD e.To.toNat 0 + 1
  | [], out, _, u => ⟨.inl rfl, fun h => ⟨h, Int.le_refl _⟩, by simp⟩
  | e :: es, out, hl, u => by
    have hl' : (nearStep n far out e).length = n := by rw [nearStep_len, hl]
    obtain ⟨a, b, c⟩ := nearFold_law (far := far) es (nearStep n far out e) hl' u
    have hs := nearStep_get (n := n) (far := far) (e := e) hl u
    simp only [List.foldl_cons]
    generalize (es.foldl (nearStep n far) (nearStep n far out e)).getD u 0 = r at a b c
    generalize (nearStep n far out e).getD u 0 = m at a b hs
    refine ⟨?_, ?_, ?_⟩
    · rcases a with a | ⟨e', h1, h2⟩
      · rw [a, hs]
        split
        · rename_i h; exact .inr ⟨e, List.mem_cons_self, h.1, h.2.1, h.2.2.1, rfl⟩
        · exact .inl rfl
      · exact .inr ⟨e', List.mem_cons_of_mem _ h1, h2⟩
    · intro h0
      split at hs <;> have := b (by omega) <;> omega
    · intro e' he' g1 g2 g3
      rcases List.mem_cons.1 he' with rfl | he'
      · split at hs
        · have := b (by omega); omega
        · rename_i h
          have h4 : ¬ (out.getD u 0 < 0 ∨ far.getD e'.To.toNat 0 + 1 < out.getD u 0) := fun h' => h ⟨g1, g2, g3, h'⟩
          have := b (by omega); omega
      · exact c e' he' g1 g2 g3

theorem near_cut {g : GGraph} {f : List Int} (h : FarLaw g.States.length (goods g) (won g) f) (k : Nat) : nearM g.States.length g.Edges (cut f k) = cut f (k + 1) := by
  have hlc : (cut f k).length = g.States.length := by simp [cut, h.len]
  apply List.ext_getElem?
  intro u
  by_cases hu : u < g.States.length
  · have hlt1 : u < (nearM g.States.length g.Edges (cut f k)).length := by rw [nearM_len, hlc]; exact hu
    have hlt2 : u < (cut f (k + 1)).length := by simp [cut, h.len]; exact hu
    obtain ⟨a, b, c⟩ := nearFold_law (far := cut f k) g.Edges (cut f k) hlc u
    have key : (nearM g.States.length g.Edges (cut f k)).getD u 0 = (cut f (k + 1)).getD u 0 := by
      unfold nearM
      generalize (g.Edges.foldl (nearStep g.States.length (cut f k)) (cut f k)).getD u 0 = r at a b c
      rw [cut_get] at a b ⊢
      have hlow := h.low u
      -- any candidate is at least f u
      have cand : ∀ e ∈ g.Edges, goodE g.States.length e = true → e.From.toNat = u → 0 ≤ (cut f k).getD e.To.toNat 0 → 0 ≤ f.getD u 0 ∧ f.getD u 0 ≤ (cut f k).getD e.To.toNat 0 + 1 ∧ (cut f k).getD e.To.toNat 0 ≤ k := by
        intro e he hge hfu h0
        rw [cut_get] at h0 ⊢
        split at h0
        · rename_i hle
          rw [if_pos hle]
          have := h.edge e (List.mem_filter.2 ⟨he, hge⟩) h0
          rw [hfu] at this
          exact ⟨this.1, this.2, hle⟩
        · omega
      by_cases h1 : f.getD u 0 ≤ (k : Int)
      · rw [if_pos h1] at a b
        rw [if_pos (by push_cast; omega)]
        rcases a with a | ⟨e, he, g1, g2, g3, g4⟩
        · exact a
        · have := cand e he g1 g2 g3
          have := b this.1
          omega
      · rw [if_neg h1] at a b
        by_cases h2 : f.getD u 0 = (k : Int) + 1
        · rw [if_pos (by push_cast; omega)]
          obtain ⟨e, he, e1, e2⟩ := h.next u hu (by omega)
          have hef := List.mem_filter.1 he
          have hk : (cut f k).getD e.To.toNat 0 = k := by rw [cut_get, if_pos (by omega)]; omega
          have := c e hef.1 hef.2 e1 (by omega)
          rcases a with a | ⟨e', he', g1, g2, g3, g4⟩
          · omega
          · have := cand e' he' g1 g2 g3; omega
        · rw [if_neg (by push_cast; omega)]
          rcases a with a | ⟨e', he', g1, g2, g3, g4⟩
          · exact a
          · have := cand e' he' g1 g2 g3; omega
    rw [List.getD_eq_getElem?_getD, List.getD_eq_getElem?_getD, List.getElem?_eq_getElem hlt1, List.getElem?_eq_getElem hlt2] at key
    rw [List.getElem?_eq_getElem hlt1, List.getElem?_eq_getElem hlt2]
    simpa using key
  · rw [List.getElem?_eq_none (by rw [nearM_len, hlc]; omega), List.getElem?_eq_none (by simp [cut, h.len]; omega)]

theorem farN_cut {g : GGraph} {f : List Int} (h : FarLaw g.States.length (goods g) (won g) f) : ∀ k, farN g k = cut f k
  | 0 => by
    apply List.ext_getElem?
    intro u
    by_cases hu : u < g.States.length
    · have hlt1 : u < (farN g 0).length := by rw [farN_len]; exact hu
      have hlt2 : u < (cut f 0).length := by simp [cut, h.len]; exact hu
      have key : (farN g 0).getD u 0 = (cut f 0).getD u 0 := by
        rw [cut_get]
        show (far0 g).getD u 0 = _
        rw [far0_get _ _ hu]
        have hz := h.zero u hu
        have hl := h.low u
        generalize f.getD u 0 = d at hz hl
        cases hw : won g u with
        | true => have := hz.2 hw; subst this; rfl
        | false =>
          have hne : d ≠ 0 := fun e => by have := hz.1 e; rw [hw] at this; cases this
          simp
          omega
      rw [List.getD_eq_getElem?_getD, List.getD_eq_getElem?_getD, List.getElem?_eq_getElem hlt1, List.getElem?_eq_getElem hlt2] at key
      rw [List.getElem?_eq_getElem hlt1, List.getElem?_eq_getElem hlt2]
      simpa using key
    · rw [List.getElem?_eq_none (by rw [farN_len]; omega), List.getElem?_eq_none (by simp [cut, h.len]; omega)]
  | k + 1 => by rw [farN, farN_cut h k, near_cut h]

theorem farM_law {g : GGraph} {f : List Int} (h : FarLaw g.States.length (goods g) (won g) f) : farM g = f := by
  unfold farM
  rw [farN_cut h]
  unfold cut
  conv => rhs; rw [← List.map_id f]
  apply List.map_congr_left
  intro d hd
  obtain ⟨i, hi, rfl⟩ := List.getElem_of_mem hd
  have := h.bound (goods_good g) (v := i) (by rw [← h.len]; exact hi)
  rw [List.getD_eq_getElem?_getD, List.getElem?_eq_getElem hi] at this
  simp at this
  rw [if_pos (by omega)]; rfl
end Go.Ab
