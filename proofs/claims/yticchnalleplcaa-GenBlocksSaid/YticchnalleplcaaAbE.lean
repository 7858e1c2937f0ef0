/-
  The engine, part E: how states change: new handles, changed resources, killed handles.
-/
import Derived.Test.YticchnalleplcaaAbD
set_option linter.unusedSimpArgs false
set_option linter.unusedVariables false
namespace Go.Ab

section
variable {P : Program} {w w' : World} {fo : Nat → Prop} {m m' : Nat → Option Value} {L : Heap} {n : Nat} {s : St} {a : Act}

theorem Res.Holds.mono {O O' : Nat → Prop} {x : Value} {r : Res} (h : r.Holds w O m x) (hb : ∀ b, blk x = some b → w'.heap[b]? = w.heap[b]?) (hk : Keep w O w')
    (hO : ∀ b, b < w.heap.size → O' b → O b) (hm : ∀ h x, m h = some x → m' h = some x) : r.Holds w' O' m' x := by
  cases r with
  | box b ty cs =>
    obtain ⟨bb, hbb, cur, rfl, h1, h2, h3, h4⟩ := h
    exact ⟨bb, hbb, cur, rfl, by rw [hb bb rfl]; exact h1, h2, h3, fun j v c hv hc => (h4 j v c hv hc).mono hk hO hm⟩
  | row ty k xs =>
    rcases h with h | ⟨b, off, cap, cur, rfl, h1, h2, h3, h4, h5, h6, h7⟩
    · exact .inl h
    · exact .inr ⟨b, off, cap, cur, rfl, by rw [hb b rfl]; exact h1, h2, h3, h4, h5, h6, fun i j x y v h1 h2 h3 => (h7 i j x y v h1 h2 h3).mono hk hO hm⟩

theorem Res.Holds.lt {O : Nat → Prop} {x : Value} {r : Res} (h : r.Holds w O m x) {b : Nat} (hb : blk x = some b) : b < w.heap.size := by
  cases r with
  | box b' ty cs =>
    obtain ⟨bb, hbb, cur, rfl, h1, _⟩ := h
    simp only [blk, Option.some.injEq] at hb
    subst hb
    exact (Array.getElem?_eq_some_iff.1 h1).1
  | row ty k xs =>
    rcases h with ⟨rfl, _⟩ | ⟨b', off, cap, cur, rfl, h1, _⟩
    · simp [blk] at hb
    · simp only [blk, Option.some.injEq] at hb
      subst hb
      exact (Array.getElem?_eq_some_iff.1 h1).1

theorem mem_of_key {h : Nat} (hk : h ∈ keys L) : ∃ r, (h, r) ∈ L := by
  obtain ⟨p, hp, rfl⟩ := List.mem_map.1 hk
  exact ⟨p.2, hp⟩

theorem Inv.lt (hi : Inv fo m L w) {h b : Nat} {x : Value} (hx : m h = some x) (hb : blk x = some b) : b < w.heap.size := by
  obtain ⟨r, hr⟩ := mem_of_key (hi.dom h x hx)
  obtain ⟨y, hy, hh⟩ := hi.holds h r hr
  rw [hx] at hy
  obtain rfl := Option.some.inj hy
  exact hh.lt hb

theorem Inv.OO_lt (hi : Inv fo m L w) {b : Nat} (h : OO fo m b) : b < w.heap.size := by
  rcases h with ⟨h, x, hx, hb⟩ | h
  · exact hi.lt hx hb
  · exact hi.folt b h

def mset (m : Nat → Option Value) (h : Nat) (x : Value) : Nat → Option Value := fun i => if i = h then some x else m i

theorem mset_same (h : Nat) (x : Value) : mset m h x h = some x := by simp [mset]
theorem mset_ne {h i : Nat} (x : Value) (hne : i ≠ h) : mset m h x i = m i := by simp [mset, hne]

theorem not_key (hi : Inv fo m L w) {h : Nat} (hn : h ∉ keys L) : m h = none := by
  cases hm : m h with
  | none => rfl
  | some x => exact (hn (hi.dom h x hm)).elim

theorem mset_sub (hi : Inv fo m L w) {h : Nat} (hn : h ∉ keys L) (x : Value) : ∀ i y, m i = some y → mset m h x i = some y := by
  intro i y hy
  have : i ≠ h := fun e => by rw [e, not_key hi hn] at hy; cases hy
  rw [mset_ne x this]; exact hy

/-- A new handle, whose block (if it has one) is new. -/
theorem Inv.new (hi : Inv fo m L w) {h : Nat} (hn : h ∉ keys L) {x : Value} {r : Res} (hs : w.heap.size ≤ w'.heap.size) (hsame : ∀ b, b < w.heap.size → w'.heap[b]? = w.heap[b]?)
    (hx : ∀ b, blk x = some b → w.heap.size ≤ b) (hh : r.Holds w' (OO fo (mset m h x)) (mset m h x) x) : Inv fo (mset m h x) ((h, r) :: L) w' := by
  have hsub := mset_sub hi hn x
  have hO : ∀ b, b < w.heap.size → OO fo (mset m h x) b → OO fo m b := by
    rintro b hb (⟨i, y, hy, hby⟩ | hf)
    · by_cases hih : i = h
      · subst hih; rw [mset_same] at hy; obtain rfl := Option.some.inj hy; have := hx b hby; omega
      · rw [mset_ne x hih] at hy; exact .inl ⟨i, y, hy, hby⟩
    · exact .inr hf
  refine ⟨?_, ?_, ?_, ?_, ?_, ?_⟩
  · simp only [keys, List.map_cons, List.nodup_cons]; exact ⟨hn, hi.nodup⟩
  · intro i y hy
    by_cases hih : i = h
    · subst hih; simp [keys]
    · rw [mset_ne x hih] at hy; exact List.mem_cons_of_mem _ (hi.dom i y hy)
  · intro i j y z b hy hz hby hbz
    by_cases hih : i = h <;> by_cases hjh : j = h
    · rw [hih, hjh]
    · subst hih; rw [mset_same] at hy; rw [mset_ne x hjh] at hz; obtain rfl := Option.some.inj hy
      have := hx b hby; have := hi.lt hz hbz; omega
    · subst hjh; rw [mset_same] at hz; rw [mset_ne x hih] at hy; obtain rfl := Option.some.inj hz
      have := hx b hbz; have := hi.lt hy hby; omega
    · rw [mset_ne x hih] at hy; rw [mset_ne x hjh] at hz; exact hi.apart i j y z b hy hz hby hbz
  · intro i y b hy hby hf
    by_cases hih : i = h
    · subst hih; rw [mset_same] at hy; obtain rfl := Option.some.inj hy
      have := hx b hby; have := hi.folt b hf; omega
    · rw [mset_ne x hih] at hy; exact hi.others i y b hy hby hf
  · intro b hf; exact Nat.lt_of_lt_of_le (hi.folt b hf) hs
  · intro i q hq
    rcases List.mem_cons.1 hq with hq | hq
    · simp only [Prod.mk.injEq] at hq
      obtain ⟨rfl, rfl⟩ := hq
      exact ⟨x, mset_same _ _, hh⟩
    · obtain ⟨y, hy, hyh⟩ := hi.holds i q hq
      exact ⟨y, hsub i y hy, hyh.mono (fun b hb => hsame b (hi.lt hy hb)) ⟨hs, fun b hb _ => hsame b hb⟩ hO hsub⟩

theorem OO_new (hi : Inv fo m L w) {h : Nat} {x : Value} (hx : ∀ b, blk x = some b → w.heap.size ≤ b) : ∀ b, b < w.heap.size → OO fo (mset m h x) b → OO fo m b := by
  rintro b hb (⟨i, y, hy, hby⟩ | hf)
  · by_cases hih : i = h
    · subst hih; rw [mset_same] at hy; obtain rfl := Option.some.inj hy; have := hx b hby; omega
    · rw [mset_ne x hih] at hy; exact .inl ⟨i, y, hy, hby⟩
  · exact .inr hf

theorem own_new {h : Nat} {x : Value} (hx : ∀ b, blk x = some b → w.heap.size ≤ b) : ∀ b, b < w.heap.size → own (mset m h x) b → own m b := by
  rintro b hb ⟨i, y, hy, hby⟩
  by_cases hih : i = h
  · subst hih; rw [mset_same] at hy; obtain rfl := Option.some.inj hy; have := hx b hby; omega
  · rw [mset_ne x hih] at hy; exact ⟨i, y, hy, hby⟩

/-- The world grows, nothing that is there changes. -/
structure Grows (w w' : World) : Prop where
  os : w'.os = w.os
  tape : w'.tape = w.tape
  output : w'.output = w.output
  size : w.heap.size ≤ w'.heap.size
  block : ∀ b, b < w.heap.size → w'.heap[b]? = w.heap[b]?

theorem Grows.alloc (w : World) (o : Obj) : Grows w (w.alloc o) :=
  ⟨rfl, rfl, rfl, by simp, fun b hb => Below.heap_alloc w o b hb⟩
where
  Below.heap_alloc (w : World) (o : Obj) (k : Nat) (h : k < w.heap.size) : (w.alloc o).heap[k]? = w.heap[k]? := by
    show (w.heap.push o)[k]? = _
    rw [Array.getElem?_push, if_neg (by omega)]

theorem G.new (g : G fo n m s a w) (gr : Grows w w') {h : Nat} (hn : h ∉ keys s.L) {x : Value} {r : Res} (hx : ∀ b, blk x = some b → w.heap.size ≤ b)
    (hh : r.Holds w' (OO fo (mset m h x)) (mset m h x) x) : G fo n (mset m h x) { s with L := (h, r) :: s.L } a w' ∧ Step w (own m) w' (own (mset m h x)) :=
  ⟨⟨g.size, fun t y hy => ⟨(g.fr t y hy).1, (g.fr t y hy).2.mono ⟨gr.size, fun b hb _ => gr.block b hb⟩ (OO_new g.inv hx) (mset_sub g.inv hn x)⟩, g.inv.new hn gr.size gr.block hx hh, g.defers⟩,
   ⟨gr.os, gr.tape, gr.output, gr.size, fun b hb _ => gr.block b hb, own_new hx⟩⟩

/-- A resource changes, its handle's value does not. -/
def Heap.upd (L : Heap) (h : Nat) (r : Res) : Heap := L.map fun p => if p.1 = h then (h, r) else p

theorem keys_upd (L : Heap) (h : Nat) (r : Res) : keys (Heap.upd L h r) = keys L := by
  unfold keys Heap.upd
  rw [List.map_map]
  apply List.map_congr_left
  intro p _
  simp only [Function.comp_apply]
  split <;> simp_all

/-- The world changes in one owned block. -/
structure Wrote (w : World) (b : Nat) (w' : World) : Prop where
  os : w'.os = w.os
  tape : w'.tape = w.tape
  output : w'.output = w.output
  size : w.heap.size ≤ w'.heap.size
  block : ∀ c, c < w.heap.size → c ≠ b → w'.heap[c]? = w.heap[c]?

theorem wrote_setRow (w : World) (b : Nat) (cs : Array Value) : Wrote w b (w.setRow b cs) :=
  ⟨rfl, rfl, rfl, by simp [World.setRow], fun c _ hne => by
    simp only [World.setRow, Array.getElem?_modify]
    rw [if_neg (by omega)]⟩

theorem Inv.upd (hi : Inv fo m L w) {h b : Nat} {x : Value} (hx : m h = some x) (hb : blk x = some b) (wr : Wrote w b w') {r : Res} (hh : r.Holds w' (OO fo m) m x) : Inv fo m (L.upd h r) w' := by
  have hkeep : Keep w (OO fo m) w' := ⟨wr.size, fun c hc ho => wr.block c hc (fun e => ho (.inl ⟨h, x, hx, by rw [hb, e]⟩))⟩
  refine ⟨by rw [keys_upd]; exact hi.nodup, by rw [keys_upd]; exact hi.dom, hi.apart, hi.others, fun b hf => Nat.lt_of_lt_of_le (hi.folt b hf) wr.size, ?_⟩
  intro i q hq
  unfold Heap.upd at hq
  obtain ⟨p, hp, he⟩ := List.mem_map.1 hq
  split at he
  · simp only [Prod.mk.injEq] at he
    obtain ⟨rfl, rfl⟩ := he
    exact ⟨x, hx, hh⟩
  · rename_i hne
    subst he
    obtain ⟨y, hy, hyh⟩ := hi.holds _ _ hp
    refine ⟨y, hy, hyh.mono (fun c hc => ?_) hkeep (fun _ _ h => h) (fun _ _ h => h)⟩
    refine wr.block c (hi.lt hy hc) (fun e => hne ?_)
    subst e
    exact hi.apart _ _ _ _ _ hy hx hc hb

theorem G.upd (g : G fo n m s a w) {h b : Nat} {x : Value} (hx : m h = some x) (hb : blk x = some b) (wr : Wrote w b w') {r : Res} (hh : r.Holds w' (OO fo m) m x) :
    G fo n m { s with L := Heap.upd s.L h r } a w' ∧ Step w (own m) w' (own m) := by
  have hkeep : Keep w (OO fo m) w' := ⟨wr.size, fun c hc ho => wr.block c hc (fun e => ho (.inl ⟨h, x, hx, by rw [hb, e]⟩))⟩
  exact ⟨⟨g.size, fun t y hy => ⟨(g.fr t y hy).1, (g.fr t y hy).2.mono hkeep (fun _ _ h => h) (fun _ _ h => h)⟩, g.inv.upd hx hb wr hh, g.defers⟩,
    ⟨wr.os, wr.tape, wr.output, wr.size, fun c hc ho => wr.block c hc (fun e => ho ⟨h, x, hx, by rw [hb, e]⟩), fun _ _ h => h⟩⟩

end

/-! ### Killing a handle: whatever names it is forgotten -/
mutual
def V.kill (h : Nat) : V → V
  | .bp i o => if i = h then .any else .bp i o
  | .rv i => if i = h then .any else .rv i
  | .ep i k x y => if i = h then .any else .ep i k x y
  | .clo fn f c => .clo fn (V.kills h f) (V.kills h c)
  | .agg cs => .agg (V.kills h cs)
  | .tup cs => .tup (V.kills h cs)
  | .gd b x => .gd b (V.kill h x)
  | .d x => .d x
  | .rp cs => .rp cs
  | .any => .any
def V.kills (h : Nat) : List V → List V
  | [] => []
  | x :: l => V.kill h x :: V.kills h l
end

theorem kills_eq (h : Nat) : ∀ l : List V, V.kills h l = l.map (V.kill h)
  | [] => by simp [V.kills]
  | x :: l => by simp [V.kills, kills_eq h l]

def dd (ys : List (List D)) : List (List V) := ys.map (·.map V.d)

theorem kills_d (h : Nat) (l : List D) : V.kills h (l.map V.d) = l.map V.d := by
  rw [kills_eq, List.map_map]
  apply List.map_congr_left
  intro x _
  simp [V.kill]

def Res.kill (h : Nat) : Res → Res
  | .box b ty cs => .box b ty (V.kills h cs)
  | .row ty k xs => .row ty k (xs.map (V.kills h))

theorem kill_dd (h : Nat) (ys : List (List D)) : (dd ys).map (V.kills h) = dd ys := by
  unfold dd
  rw [List.map_map]
  apply List.map_congr_left
  intro x _
  simp [kills_d]

def St.kill (h : Nat) (s : St) : St := ⟨s.fr.map fun p => (p.1, p.2.kill h), s.L.map fun p => (p.1, p.2.kill h)⟩

theorem RelV.kill {w : World} {O : Nat → Prop} {m m' : Nat → Option Value} {h : Nat} (hm : ∀ i x, i ≠ h → m i = some x → m' i = some x) {x : Value} {y : V} (hr : RelV w O m x y) : RelV w O m' x (y.kill h) := by
  induction hr with
  | d x y hd => simpa [V.kill] using RelV.d x y hd
  | bp i off b e =>
    simp only [V.kill]
    split
    · exact .any _
    · rename_i hne; exact .bp i off b (hm _ _ hne e)
  | rv i x e e1 =>
    simp only [V.kill]
    split
    · exact .any _
    · rename_i hne; exact .rv i x (hm _ _ hne e) e1
  | ep i k p q b o n c e =>
    simp only [V.kill]
    split
    · exact .any _
    · rename_i hne; exact .ep i k p q b o n c (hm _ _ hne e)
  | rp b off cs f hb hlt hc hr => simpa [V.kill] using RelV.rp b off cs f hb hlt hc hr
  | clo fn first caps cf cc s1 s2 h1 h2 ih1 ih2 =>
    simp only [V.kill, kills_eq]
    refine .clo fn first caps _ _ (by simpa using s1) (by simpa using s2) ?_ ?_
    · intro j x y hx hy
      rw [List.getElem?_map] at hy
      obtain ⟨z, hz, rfl⟩ := Option.map_eq_some_iff.1 hy
      exact ih1 j x z hx hz
    · intro j x y hx hy
      rw [List.getElem?_map] at hy
      obtain ⟨z, hz, rfl⟩ := Option.map_eq_some_iff.1 hy
      exact ih2 j x z hx hz
  | agg vs cs hs h1 h2 ih =>
    simp only [V.kill, kills_eq]
    refine .agg vs _ (by simpa using hs) h1 ?_
    intro j x y hx hy
    rw [List.getElem?_map] at hy
    obtain ⟨z, hz, rfl⟩ := Option.map_eq_some_iff.1 hy
    exact ih j x z hx hz
  | tup vs cs hs h2 ih =>
    simp only [V.kill, kills_eq]
    refine .tup vs _ (by simpa using hs) ?_
    intro j x y hx hy
    rw [List.getElem?_map] at hy
    obtain ⟨z, hz, rfl⟩ := Option.map_eq_some_iff.1 hy
    exact ih j x z hx hz
  | gt x y hr ih => simpa [V.kill] using RelV.gt x _ ih
  | gf y => simpa [V.kill] using RelV.gf (y.kill h)
  | any x => simpa [V.kill] using RelV.any x

theorem Res.Holds.kill {w : World} {O : Nat → Prop} {m m' : Nat → Option Value} {h : Nat} (hm : ∀ i x, i ≠ h → m i = some x → m' i = some x) {x : Value} {r : Res} (hh : r.Holds w O m x) : (r.kill h).Holds w O m' x := by
  cases r with
  | box b ty cs =>
    obtain ⟨bb, hbb, cur, rfl, h1, h2, h3, h4⟩ := hh
    simp only [Res.kill, kills_eq]
    refine ⟨bb, hbb, cur, rfl, h1, by simpa using h2, h3, fun j v c hv hc => ?_⟩
    rw [List.getElem?_map] at hc
    obtain ⟨z, hz, rfl⟩ := Option.map_eq_some_iff.1 hc
    exact (h4 j v z hv hz).kill hm
  | row ty k xs =>
    simp only [Res.kill]
    rcases hh with ⟨rfl, rfl⟩ | ⟨b, off, cap, cur, rfl, h1, h2, h3, h4, h5, h6, h7⟩
    · exact .inl ⟨rfl, rfl⟩
    · refine .inr ⟨b, off, cap, cur, by simp, h1, by simpa using h2, h3, h4, fun i x hx => ?_, h6, fun i j x y v hx hy hv => ?_⟩
      · rw [List.getElem?_map] at hx
        obtain ⟨z, hz, rfl⟩ := Option.map_eq_some_iff.1 hx
        rw [kills_eq, List.length_map]
        exact h5 i z hz
      · rw [List.getElem?_map] at hx
        obtain ⟨z, hz, rfl⟩ := Option.map_eq_some_iff.1 hx
        rw [kills_eq, List.getElem?_map] at hy
        obtain ⟨y', hy', rfl⟩ := Option.map_eq_some_iff.1 hy
        exact (h7 i j z y' v hz hy' hv).kill hm

end Go.Ab
