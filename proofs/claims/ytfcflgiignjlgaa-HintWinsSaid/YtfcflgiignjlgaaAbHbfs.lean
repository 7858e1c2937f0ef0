/-
  How far states are, in plain Lean: what the breadth-first search and the rounds of the reference yield is one and the same.
-/
import Derived.Test.YtfcflgiignjlgaaAbHedge
set_option linter.unusedSimpArgs false
set_option linter.unusedVariables false
namespace Go.Ab

def adjM (es : List GEdge) (v : Nat) : List Int := (es.filter fun e => e.To.toNat == v).map (·.From)
def visit (x : Int) (s : List Int × List Int) (y : Int) : List Int × List Int :=
  if s.1.getD y.toNat 0 = -1 then (s.1.set y.toNat (s.1.getD x.toNat 0 + 1), s.2 ++ [y]) else s
def bfsStep (es : List GEdge) (s : List Int × List Int) : List Int × List Int :=
  match s.2 with
  | [] => s
  | x :: q => (adjM es x.toNat).foldl (visit x) (s.1, q)
def bfsN (es : List GEdge) (s : List Int × List Int) : Nat → List Int × List Int
  | 0 => s
  | k + 1 => bfsStep es (bfsN es s k)
def won (g : GGraph) (i : Nat) : Bool := match g.States[i]? with | some w => decide (w.Over = 1) | none => false
def queue0 (g : GGraph) (i : Nat) : List Int := ((List.range i).filter (won g)).map fun i : Nat => (i : Int)
def goods (g : GGraph) : List GEdge := g.Edges.filter (goodE g.States.length)

/-- How far: the laws that determine it. -/
structure FarLaw (n : Nat) (es : List GEdge) (won : Nat → Bool) (f : List Int) : Prop where
  len : f.length = n
  low : ∀ v, -1 ≤ f.getD v 0
  zero : ∀ v, v < n → (f.getD v 0 = 0 ↔ won v = true)
  edge : ∀ e ∈ es, 0 ≤ f.getD e.To.toNat 0 → 0 ≤ f.getD e.From.toNat 0 ∧ f.getD e.From.toNat 0 ≤ f.getD e.To.toNat 0 + 1
  next : ∀ v, v < n → 0 < f.getD v 0 → ∃ e ∈ es, e.From.toNat = v ∧ f.getD e.To.toNat 0 = f.getD v 0 - 1

theorem goodE_iff {n : Nat} {e : GEdge} : goodE n e = true ↔ (0 ≤ e.From ∧ e.From < n) ∧ 0 ≤ e.To ∧ e.To < n := by
  simp [goodE, and_assoc]

/-! ### The breadth-first search -/

/-- What holds between rounds; x: the state that is looked at, with the edges that are still to come. -/
structure BI (n : Nat) (es : List GEdge) (won : Nat → Bool) (hold : Nat → Prop) (out : List Int) (q : List Int) : Prop where
  len : out.length = n
  low : ∀ v, -1 ≤ out.getD v 0
  zero : ∀ v, v < n → (out.getD v 0 = 0 ↔ won v = true)
  inq : ∀ y ∈ q, 0 ≤ y ∧ y < n ∧ 0 ≤ out.getD y.toNat 0
  sorted : q.Pairwise fun a b => out.getD a.toNat 0 ≤ out.getD b.toNat 0
  near : ∀ y ∈ q, ∀ v, v < n → out.getD v 0 ≤ out.getD y.toNat 0 + 1
  next : ∀ v, v < n → 0 < out.getD v 0 → ∃ e ∈ es, e.From.toNat = v ∧ out.getD e.To.toNat 0 = out.getD v 0 - 1
  done : ∀ v, v < n → 0 ≤ out.getD v 0 → (v : Int) ∉ q → ¬ hold v → ∀ e ∈ es, e.To.toNat = v → 0 ≤ out.getD e.From.toNat 0 ∧ out.getD e.From.toNat 0 ≤ out.getD v 0 + 1

theorem getD_set (l : List Int) (i j : Nat) (x : Int) (h : i < l.length) : (l.set i x).getD j 0 = if j = i then x else l.getD j 0 := by
  rw [List.getD_eq_getElem?_getD, List.getD_eq_getElem?_getD, List.getElem?_set]
  by_cases e : i = j
  · subst e; simp [h]
  · have : ¬ j = i := fun h => e h.symm
    simp [e, this]

/-- While x is looked at: what else holds. -/
structure BX (n : Nat) (es : List GEdge) (x : Int) (seen : List Int) (out : List Int) (q : List Int) : Prop where
  hx : 0 ≤ x ∧ x < n ∧ 0 ≤ out.getD x.toNat 0
  above : ∀ y ∈ q, out.getD x.toNat 0 ≤ out.getD y.toNat 0
  top : ∀ v, v < n → out.getD v 0 ≤ out.getD x.toNat 0 + 1
  seen : ∀ y ∈ seen, 0 ≤ out.getD y.toNat 0 ∧ out.getD y.toNat 0 ≤ out.getD x.toNat 0 + 1

theorem visit_ok {n : Nat} {es : List GEdge} {won : Nat → Bool} {x y : Int} {seen out q : List Int} (h : BI n es won (fun v => (v : Int) = x) out q) (hx : BX n es x seen out q) (hy : 0 ≤ y ∧ y < n) (he : ∃ e ∈ es, e.From = y ∧ e.To = x) :
    BI n es won (fun v => (v : Int) = x) (visit x (out, q) y).1 (visit x (out, q) y).2 ∧ BX n es x (seen ++ [y]) (visit x (out, q) y).1 (visit x (out, q) y).2 := by
  unfold visit
  obtain ⟨hx1, hx2, hx3⟩ := hx.hx
  split
  · rename_i hn
    have hn : out.getD y.toNat 0 = -1 := hn
    have hyl : y.toNat < out.length := by rw [h.len]; omega
    have hne : x.toNat ≠ y.toNat := by intro e; rw [e, hn] at hx3; omega
    have G : ∀ v, (out.set y.toNat (out.getD x.toNat 0 + 1)).getD v 0 = if v = y.toNat then out.getD x.toNat 0 + 1 else out.getD v 0 := fun v => getD_set _ _ _ _ hyl
    simp only
    generalize hd : out.getD x.toNat 0 = d at G hx3
    have hxa := hx.above
    have hxt := hx.top
    have hxs := hx.seen
    rw [hd] at hxa hxt hxs
    refine ⟨⟨by simp [h.len], ?_, ?_, ?_, ?_, ?_, ?_, ?_⟩, ⟨?_, ?_, ?_, ?_⟩⟩
    · intro v; rw [G]; have := h.low v; split <;> omega
    · intro v hv
      rw [G]
      split
      · rename_i e; subst e
        have := h.zero _ hv
        rw [hn] at this
        constructor
        · intro e; omega
        · intro e; have := this.2 e; omega
      · exact h.zero v hv
    · intro z hz
      rcases List.mem_append.1 hz with hz | hz
      · obtain ⟨a, b, c⟩ := h.inq z hz
        refine ⟨a, b, ?_⟩
        rw [G]; split <;> omega
      · rw [List.mem_singleton.1 hz]
        refine ⟨hy.1, hy.2, ?_⟩
        rw [G, if_pos rfl]; omega
    · rw [List.pairwise_append]
      refine ⟨h.sorted.imp_of_mem (fun {a b} ha hb hab => ?_), by simp, fun a ha b hb => ?_⟩
      · have h1 := (h.inq a ha).2.2
        have h2 := (h.inq b hb).2.2
        have e1 : a.toNat ≠ y.toNat := fun e => by rw [e, hn] at h1; omega
        have e2 : b.toNat ≠ y.toNat := fun e => by rw [e, hn] at h2; omega
        rw [G, G, if_neg e1, if_neg e2]; exact hab
      · rw [List.mem_singleton.1 hb, G, G, if_pos rfl]
        have h1 := (h.inq a ha)
        split
        · omega
        · exact hxt a.toNat (by omega)
    · intro z hz v hv
      have hlow : d ≤ (out.set y.toNat (d + 1)).getD z.toNat 0 := by
        rw [G]
        rcases List.mem_append.1 hz with hz | hz
        · have := hxa z hz
          split <;> omega
        · rw [List.mem_singleton.1 hz, if_pos rfl]; omega
      rw [G v]
      split
      · omega
      · have := hxt v hv; omega
    · intro v hv hp
      rw [G] at hp
      split at hp
      · rename_i e; subst e
        obtain ⟨e, he1, he2, he3⟩ := he
        refine ⟨e, he1, by rw [he2], ?_⟩
        rw [he3, G, G, if_pos rfl, if_neg hne, hd]; omega
      · rename_i e
        obtain ⟨e', h1, h2, h3⟩ := h.next v hv hp
        refine ⟨e', h1, h2, ?_⟩
        rw [G, G, if_neg e]
        split
        · rename_i e2; rw [e2, hn] at h3; omega
        · exact h3
    · intro v hv h0 hnq hnx e he1 he2
      rw [List.mem_append, List.mem_singleton, not_or] at hnq
      have hvy : v ≠ y.toNat := fun e => hnq.2 (by omega)
      rw [G, if_neg hvy] at h0
      obtain ⟨a, b⟩ := h.done v hv h0 hnq.1 hnx e he1 he2
      rw [G, G, if_neg hvy]
      split
      · rename_i e2; rw [e2, hn] at a; omega
      · exact ⟨a, b⟩
    · rw [G, if_neg hne, hd]; exact ⟨hx1, hx2, hx3⟩
    · intro z hz
      rw [G, G, if_neg hne, hd]
      rcases List.mem_append.1 hz with hz | hz
      · have := hxa z hz
        split <;> omega
      · rw [List.mem_singleton.1 hz, if_pos rfl]; omega
    · intro v hv
      rw [G, G, if_neg hne, hd]
      have := hxt v hv
      split <;> omega
    · intro z hz
      rw [G, G, if_neg hne, hd]
      rcases List.mem_append.1 hz with hz | hz
      · have := hxs z hz
        split <;> omega
      · rw [List.mem_singleton.1 hz, if_pos rfl]; omega
  · rename_i hn
    have hn : ¬ out.getD y.toNat 0 = -1 := hn
    refine ⟨h, hx.hx, hx.above, hx.top, ?_⟩
    intro z hz
    rcases List.mem_append.1 hz with hz | hz
    · exact hx.seen z hz
    · rw [List.mem_singleton.1 hz]
      have := h.low y.toNat
      exact ⟨by show 0 ≤ out.getD y.toNat 0; omega, hx.top _ (by omega)⟩

theorem visits_ok {n : Nat} {es : List GEdge} {won : Nat → Bool} {x : Int} : ∀ (l seen out q : List Int), BI n es won (fun v => (v : Int) = x) out q → BX n es x seen out q → (∀ y ∈ l, (0 ≤ y ∧ y < n) ∧ ∃ e ∈ es, e.From = y ∧ e.To = x) →
    BI n es won (fun v => (v : Int) = x) (l.foldl (visit x) (out, q)).1 (l.foldl (visit x) (out, q)).2 ∧ BX n es x (seen ++ l) (l.foldl (visit x) (out, q)).1 (l.foldl (visit x) (out, q)).2
  | [], seen, out, q, h, hx, _ => by simpa using ⟨h, hx⟩
  | y :: l, seen, out, q, h, hx, hl => by
    obtain ⟨h1, h2⟩ := visit_ok h hx (hl y List.mem_cons_self).1 (hl y List.mem_cons_self).2
    rw [List.foldl_cons]
    have := visits_ok l (seen ++ [y]) _ _ h1 h2 (fun z hz => hl z (List.mem_cons_of_mem _ hz))
    simpa using this

theorem step_bi {n : Nat} {es : List GEdge} {won : Nat → Bool} {out q : List Int} (hg : ∀ e ∈ es, goodE n e = true) (h : BI n es won (fun _ => False) out q) : BI n es won (fun _ => False) (bfsStep es (out, q)).1 (bfsStep es (out, q)).2 := by
  unfold bfsStep
  cases q with
  | nil => exact h
  | cons x q =>
    simp only
    have hxq := h.inq x List.mem_cons_self
    have hs := List.pairwise_cons.1 h.sorted
    have hB : BI n es won (fun v => (v : Int) = x) out q := by
      refine ⟨h.len, h.low, h.zero, fun y hy => h.inq y (List.mem_cons_of_mem _ hy), hs.2, fun y hy => h.near y (List.mem_cons_of_mem _ hy), h.next, ?_⟩
      intro v hv h0 hnq hnx
      exact h.done v hv h0 (by rw [List.mem_cons, not_or]; exact ⟨hnx, hnq⟩) (fun h => h)
    have hX : BX n es x [] out q := ⟨hxq, hs.1, fun v hv => h.near x List.mem_cons_self v hv, by simp⟩
    have hadj : ∀ y ∈ adjM es x.toNat, (0 ≤ y ∧ y < n) ∧ ∃ e ∈ es, e.From = y ∧ e.To = x := by
      intro y hy
      unfold adjM at hy
      obtain ⟨e, he, rfl⟩ := List.mem_map.1 hy
      rw [List.mem_filter] at he
      have hge := goodE_iff.1 (hg e he.1)
      have h2 : e.To.toNat = x.toNat := by simpa using he.2
      exact ⟨hge.1, e, he.1, rfl, by omega⟩
    obtain ⟨h1, h2⟩ := visits_ok (adjM es x.toNat) [] out q hB hX hadj
    generalize (adjM es x.toNat).foldl (visit x) (out, q) = r at h1 h2
    refine ⟨h1.len, h1.low, h1.zero, h1.inq, h1.sorted, h1.near, h1.next, ?_⟩
    intro v hv h0 hnq _ e he hev
    by_cases hvx : (v : Int) = x
    · have := h2.seen e.From (by
        simp only [List.nil_append, adjM, List.mem_map, List.mem_filter]
        exact ⟨e, ⟨he, by simp [hev]; omega⟩, rfl⟩)
      have hvv : v = x.toNat := by omega
      rw [hvv]; exact this
    · exact h1.done v hv h0 hnq hvx e he hev

theorem bfs_law {n : Nat} {es : List GEdge} {won : Nat → Bool} {s : List Int × List Int} (hg : ∀ e ∈ es, goodE n e = true) (h : BI n es won (fun _ => False) s.1 s.2) : ∀ k, BI n es won (fun _ => False) (bfsN es s k).1 (bfsN es s k).2
  | 0 => h
  | k + 1 => by
    have := bfs_law hg h k
    rw [bfsN]
    exact step_bi hg this

theorem bi_law {n : Nat} {es : List GEdge} {won : Nat → Bool} {out : List Int} (hg : ∀ e ∈ es, goodE n e = true) (h : BI n es won (fun _ => False) out []) : FarLaw n es won out := by
  refine ⟨h.len, h.low, h.zero, fun e he h0 => ?_, h.next⟩
  have hge := goodE_iff.1 (hg e he)
  exact h.done e.To.toNat (by omega) h0 (by simp) (fun h => h) e he rfl
end Go.Ab
