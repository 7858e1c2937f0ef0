/-
  The engine, part Fz: an owned row is given up and read as data from then on.
-/
import Derived.Test.YticchnalleplcaaAbR2
set_option linter.unusedSimpArgs false
set_option linter.unusedVariables false
namespace Go.Ab

mutual
def V.frz (h : Nat) (y : V) : V → V
  | .bp i o => if i = h then .any else .bp i o
  | .rv i => if i = h then y else .rv i
  | .ep i k a b => if i = h then .any else .ep i k a b
  | .clo fn f c => .clo fn (V.frzs h y f) (V.frzs h y c)
  | .agg cs => .agg (V.frzs h y cs)
  | .tup cs => .tup (V.frzs h y cs)
  | .gd b x => .gd b (V.frz h y x)
  | .d x => .d x
  | .rp cs => .rp cs
  | .any => .any
def V.frzs (h : Nat) (y : V) : List V → List V
  | [] => []
  | x :: l => V.frz h y x :: V.frzs h y l
end

theorem frzs_eq (h : Nat) (y : V) : ∀ l : List V, V.frzs h y l = l.map (V.frz h y)
  | [] => by simp [V.frzs]
  | x :: l => by simp [V.frzs, frzs_eq h y l]

@[simp] theorem frzs_dmap (h : Nat) (y : V) (l : List D) : V.frzs h y (l.map V.d) = l.map V.d := by
  rw [frzs_eq, List.map_map]
  apply List.map_congr_left
  intro x _
  simp [V.frz]

def Res.frz (h : Nat) (y : V) : Res → Res
  | .box b ty cs => .box b ty (V.frzs h y cs)
  | .row ty k xs => .row ty k (xs.map (V.frzs h y))

@[simp] theorem map_frzs_dd (h : Nat) (y : V) (ys : List (List D)) : (dd ys).map (V.frzs h y) = dd ys := by
  unfold dd
  rw [List.map_map]
  apply List.map_congr_left
  intro x _
  simp

section
variable {P : Program} {w w' : World} {fo : Nat → Prop} {m m' : Nat → Option Value} {L : Heap} {n : Nat} {s : St}

theorem RelV.frz {O O' : Nat → Prop} {h : Nat} {y : V} (hO : ∀ b, O' b → O b) (hm : ∀ i x, i ≠ h → m i = some x → m' i = some x) (hy : ∀ v, m h = some v → RelV w O' m' v y) {x : Value} {z : V} (hr : RelV w O m x z) : RelV w O' m' x (V.frz h y z) := by
  induction hr with
  | d x y hd => simpa [V.frz] using RelV.d x y (hd.mono (Keep.refl w _) (fun b _ hb => hO b hb))
  | bp i off b e =>
    simp only [V.frz]
    split
    · exact .any _
    · rename_i hne; exact .bp i off b (hm _ _ hne e)
  | rv i x e e1 =>
    simp only [V.frz]
    split
    · rename_i hh; subst hh; exact hy x e
    · rename_i hne; exact .rv i x (hm _ _ hne e) e1
  | ep i k p q b o n c e =>
    simp only [V.frz]
    split
    · exact .any _
    · rename_i hne; exact .ep i k p q b o n c (hm _ _ hne e)
  | rp b off cs f hb hlt hc hr => simpa [V.frz] using RelV.rp (m := m') b off cs f (fun h => hb (hO b h)) hlt hc (fun j y hy => (hr j y hy).mono (Keep.refl w _) (fun b _ hb => hO b hb))
  | clo fn first caps cf cc s1 s2 h1 h2 ih1 ih2 =>
    simp only [V.frz, frzs_eq]
    refine .clo fn first caps _ _ (by simpa using s1) (by simpa using s2) ?_ ?_
    · intro j x y' hx hy'
      rw [List.getElem?_map] at hy'
      obtain ⟨z, hz, rfl⟩ := Option.map_eq_some_iff.1 hy'
      exact ih1 j x z hx hz
    · intro j x y' hx hy'
      rw [List.getElem?_map] at hy'
      obtain ⟨z, hz, rfl⟩ := Option.map_eq_some_iff.1 hy'
      exact ih2 j x z hx hz
  | agg vs cs hs h1 h2 ih =>
    simp only [V.frz, frzs_eq]
    refine .agg vs _ (by simpa using hs) h1 ?_
    intro j x y' hx hy'
    rw [List.getElem?_map] at hy'
    obtain ⟨z, hz, rfl⟩ := Option.map_eq_some_iff.1 hy'
    exact ih j x z hx hz
  | tup vs cs hs h2 ih =>
    simp only [V.frz, frzs_eq]
    refine .tup vs _ (by simpa using hs) ?_
    intro j x y' hx hy'
    rw [List.getElem?_map] at hy'
    obtain ⟨z, hz, rfl⟩ := Option.map_eq_some_iff.1 hy'
    exact ih j x z hx hz
  | gt x y h ih => simpa [V.frz] using RelV.gt _ _ ih
  | gf y => simpa [V.frz] using RelV.gf _
  | any x => simpa [V.frz] using RelV.any _

theorem Res.Holds.frz {O O' : Nat → Prop} {h : Nat} {y : V} (hO : ∀ b, O' b → O b) (hm : ∀ i x, i ≠ h → m i = some x → m' i = some x) (hy : ∀ v, m h = some v → RelV w O' m' v y) {x : Value} {r : Res} (hr : r.Holds w O m x) : (r.frz h y).Holds w O' m' x := by
  cases r with
  | box b ty cs =>
    obtain ⟨bb, hbb, cur, rfl, h1, h2, h3, h4⟩ := hr
    refine ⟨bb, hbb, cur, rfl, h1, by rw [frzs_eq, List.length_map]; exact h2, h3, fun j v c hv hc => ?_⟩
    rw [frzs_eq, List.getElem?_map] at hc
    obtain ⟨z, hz, rfl⟩ := Option.map_eq_some_iff.1 hc
    exact (h4 j v z hv hz).frz hO hm hy
  | row ty k xs =>
    rcases hr with ⟨h1, h2⟩ | ⟨b, off, cap, cur, rfl, h1, h2, h3, h4, h5, h6, h7⟩
    · exact .inl ⟨h1, by simp [h2]⟩
    · refine .inr ⟨b, off, cap, cur, by rw [List.length_map], h1, by rw [List.length_map]; exact h2, h3, h4, ?_, h6, ?_⟩
      · intro i x hx
        rw [List.getElem?_map] at hx
        obtain ⟨z, hz, rfl⟩ := Option.map_eq_some_iff.1 hx
        rw [frzs_eq, List.length_map]
        exact h5 i z hz
      · intro i j x y' v hx hy' hv
        rw [List.getElem?_map] at hx
        obtain ⟨z, hz, rfl⟩ := Option.map_eq_some_iff.1 hx
        rw [frzs_eq, List.getElem?_map] at hy'
        obtain ⟨u, hu, rfl⟩ := Option.map_eq_some_iff.1 hy'
        exact (h7 i j z u v hz hu hv).frz hO hm hy

theorem row_data' {O' : Nat → Prop} (hi : Inv fo m L w) {h k : Nat} {ty : TypeId} {ys : List (List D)} (hl : L.lookup h = some (.row ty k (dd ys))) {v : Value} (hv : m h = some v) (hO : ∀ b, O' b → OO fo m b) (hb' : ∀ b, blk v = some b → ¬ O' b) : RelD w O' v (.sl ys) := by
  obtain ⟨x, hx, hh⟩ := hi.holds h _ (lookup_mem hl)
  rw [hv] at hx
  obtain rfl := Option.some.inj hx
  rcases hh with ⟨rfl, hy⟩ | ⟨b, off, cap, cur, rfl, hb, h1, h2, h3, h4, h5, h6⟩
  · have : ys = [] := by
      cases ys with
      | nil => rfl
      | cons y l => simp [dd] at hy
    subst this
    exact nil_rel
  · have hlen : (dd ys).length = ys.length := by simp [dd]
    rw [hlen] at h1 ⊢
    have hget : ∀ (i : Nat) (x : List D), ys[i]? = some x → (dd ys)[i]? = some (x.map V.d) := by
      intro i x hx; simp [dd, hx]
    have hkx : ∀ (i : Nat) (x : List D), ys[i]? = some x → x.length = k := by
      intro i x hx
      have := h4 i _ (hget i x hx)
      simpa using this
    have hbd : ∀ i j, i < ys.length → j < k → off + i * k + j < cur.size := by
      intro i j hi hj
      have : (i + 1) * k ≤ cap * k := Nat.mul_le_mul_right _ (by omega)
      rw [Nat.add_mul, Nat.one_mul] at this
      omega
    refine .sl (some ⟨b, off, none⟩) ys.length cap ys k b off (fun i j => cur.getD (off + i * k + j) undef) rfl h1 h2 (fun _ => ⟨rfl, hb' b rfl, (Array.getElem?_eq_some_iff.1 hb).1⟩) hkx ?_ ?_
    · intro i j hi hj
      have := hbd i j hi hj
      simp [World.cell?, hb, Array.getD, this]
    · intro i j x y hx hy
      have hj : j < k := by have := (List.getElem?_eq_some_iff.1 hy).1; have := hkx i x hx; omega
      have hil := (List.getElem?_eq_some_iff.1 hx).1
      have hlt := hbd i j hil hj
      have := h6 i j _ (.d y) (cur[off + i * k + j]) (hget i x hx) (by simp [hy]) (Array.getElem?_eq_getElem hlt)
      have h7 := this.d_inv
      have e : cur.getD (off + i * k + j) undef = cur[off + i * k + j] := by simp [Array.getD, hlt]
      rw [e]
      exact h7.mono (Keep.refl w _) (fun b _ hb => hO b hb)

def frzL (h : Nat) (y : V) : Heap → Heap
  | [] => []
  | (i, r) :: l => if i = h then frzL h y l else (i, Res.frz h y r) :: frzL h y l
theorem frzL_eq (h : Nat) (y : V) : ∀ L : Heap, frzL h y L = (L.filter fun p => p.1 != h).map fun p => (p.1, p.2.frz h y)
  | [] => rfl
  | (i, r) :: l => by
    rw [frzL, frzL_eq h y l]
    by_cases hi : i = h <;> simp [hi]

theorem Wk.freeze0 (h : Nat) {ty : TypeId} {k : Nat} {ys : List (List D)} (y' : D) (hy' : ∀ (w : World) O v, RelD w O v (.sl ys) → RelD w O v y') (hl : s.L.lookup h = some (.row ty k (dd ys))) :
    Wk n s ⟨s.fr.map fun p => (p.1, V.frz h (.d y') p.2), (s.L.filter fun p => p.1 != h).map fun p => (p.1, p.2.frz h (.d y'))⟩ := by
  intro fo m a w g
  let m' : Nat → Option Value := fun i => if i = h then none else m i
  have hm'1 : ∀ i x, m' i = some x → m i = some x ∧ i ≠ h := by
    intro i x hx
    simp only [m'] at hx
    split at hx
    · cases hx
    · rename_i hne; exact ⟨hx, hne⟩
  have hm'2 : ∀ i x, i ≠ h → m i = some x → m' i = some x := by
    intro i x hne hx
    simp only [m', if_neg hne]; exact hx
  have hown : ∀ b, Ab.own m' b → Ab.own m b := by
    rintro b ⟨i, x, hx, hb⟩
    exact ⟨i, x, (hm'1 i x hx).1, hb⟩
  have hOO : ∀ b, OO fo m' b → OO fo m b := fun b hb => hb.imp (hown b) id
  have hi := g.inv
  have hy : ∀ v, m h = some v → RelV w (OO fo m') m' v (.d y') := by
    intro v hv
    refine .d _ _ (hy' _ _ _ (row_data' hi hl hv hOO ?_))
    rintro b hb (⟨i, x, hx, hb'⟩ | hf)
    · have := hi.apart h i v x b hv (hm'1 i x hx).1 hb hb'
      exact (hm'1 i x hx).2 this.symm
    · exact hi.others h v b hv hb hf
  refine ⟨m', ⟨g.size, ?_, ⟨?_, ?_, ?_, ?_, hi.folt, ?_⟩, g.defers⟩, ⟨rfl, rfl, rfl, Nat.le_refl _, fun _ _ _ => rfl, fun b _ hb => hown b hb⟩⟩
  · intro t x hx
    obtain ⟨p, hp, e⟩ := List.mem_map.1 hx
    simp only [Prod.mk.injEq] at e
    obtain ⟨rfl, rfl⟩ := e
    obtain ⟨h1, h2⟩ := g.fr p.1 p.2 hp
    exact ⟨h1, h2.frz hOO hm'2 hy⟩
  · have : keys ((s.L.filter fun p => p.1 != h).map fun p => (p.1, p.2.frz h (.d y'))) = (keys s.L).filter fun i => i != h := by
      simp only [keys, List.map_map, List.filter_map]
      rfl
    show (keys ((s.L.filter fun p => p.1 != h).map fun p => (p.1, p.2.frz h (.d y')))).Nodup
    rw [this]
    exact hi.nodup.filter _
  · intro i x hx
    obtain ⟨h1, h2⟩ := hm'1 i x hx
    have := hi.dom i x h1
    simp only [keys, List.mem_map] at this ⊢
    obtain ⟨p, hp, rfl⟩ := this
    exact ⟨_, ⟨p, List.mem_filter.2 ⟨hp, by simpa using h2⟩, rfl⟩, rfl⟩
  · intro i i' x x' b hx hx' hb hb'
    exact hi.apart i i' x x' b (hm'1 i x hx).1 (hm'1 i' x' hx').1 hb hb'
  · intro i x b hx hb
    exact hi.others i x b (hm'1 i x hx).1 hb
  · intro i r hr
    obtain ⟨p, hp, e⟩ := List.mem_map.1 hr
    simp only [Prod.mk.injEq] at e
    obtain ⟨rfl, rfl⟩ := e
    obtain ⟨hp1, hp2⟩ := List.mem_filter.1 hp
    obtain ⟨x, hx, hh⟩ := hi.holds p.1 p.2 hp1
    exact ⟨x, hm'2 _ _ (by simpa using hp2) hx, hh.frz hOO hm'2 hy⟩

/-- An owned row of data is given up: it is data from here on. -/
theorem Wk.freeze (h : Nat) {ty : TypeId} {k : Nat} {ys : List (List D)} (hl : s.L.lookup h = some (.row ty k (dd ys))) :
    Wk n s ⟨s.fr.map fun p => (p.1, V.frz h (.d (.sl ys)) p.2), frzL h (.d (.sl ys)) s.L⟩ := by
  rw [frzL_eq]
  exact Wk.freeze0 h _ (fun _ _ _ h => h) hl

theorem RelD.nn {w : World} {O : Nat → Prop} {x : Value} {y : D} (h : RelD w O x y) : RelD w O x y.nn := by
  unfold D.nn
  split
  · cases h; exact nil_rel
  · exact h
theorem RelD.sl_nn {w : World} {O : Nat → Prop} {x : Value} {ys : List (List D)} (h : RelD w O x (.sl ys)) : RelD w O x (.sl (ys.map (·.map D.nn))) := by
  cases h with
  | sl a n cap xs k b off f hn hcap hmax ha hk hc hr =>
    refine .sl a n cap _ k b off f (by simpa using hn) hcap hmax ha ?_ hc ?_
    · intro i x hx
      rw [List.getElem?_map] at hx
      obtain ⟨z, hz, rfl⟩ := Option.map_eq_some_iff.1 hx
      rw [List.length_map]; exact hk i z hz
    · intro i j x y hx hy
      rw [List.getElem?_map] at hx
      obtain ⟨z, hz, rfl⟩ := Option.map_eq_some_iff.1 hx
      rw [List.getElem?_map] at hy
      obtain ⟨u, hu, rfl⟩ := Option.map_eq_some_iff.1 hy
      exact (hr i j z u hz hu).nn
theorem Wk.freezeN (h : Nat) {ty : TypeId} {k : Nat} {ys : List (List D)} (hl : s.L.lookup h = some (.row ty k (dd ys))) :
    Wk n s ⟨s.fr.map fun p => (p.1, V.frz h (.d (.sl (ys.map (·.map D.nn)))) p.2), frzL h (.d (.sl (ys.map (·.map D.nn)))) s.L⟩ := by
  rw [frzL_eq]
  exact Wk.freeze0 h _ (fun _ _ _ h => h.sl_nn) hl

attribute [simp] V.frz V.frzs Res.frz frzL D.nn
end
end Go.Ab
