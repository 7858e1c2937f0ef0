/-
  The texts Fz Y Z V T Gs, one behind the other.
-/
import Derived.Test.YticchnalleplcaaMg2
import Derived.ChangeShapes
import Derived.DataReads
import Derived.SizedLaws
import Derived.Carry
import Derived.OpenShut
import Derived.ChangeOld
import Derived.JoinedCond
import Derived.Deep.CondSized
import Derived.Test.YticchnalleplcaaProg
import Derived.KernelRfl
/-
  The engine, part Fz: an owned row is given up and read as data from then on.
-/
set_option linter.unusedSimpArgs false
set_option linter.unusedVariables false
namespace Go.Ab

mutual
def V.frz (h : Nat) (y : V) : V → V
  | .bp i o => if i = h then .any else .bp i o
  | .rv i => if i = h then y else .rv i
  | .ep i k a b => if i = h then .any else .ep i k a b
  | .clo fn f c => .clo fn (V.frzs h y f) (V.frzs h y c)
  | .agg cs => .agg (V.frzs h y cs)
  | .tup cs => .tup (V.frzs h y cs)
  | .gd b x => .gd b (V.frz h y x)
  | .d x => .d x
  | .rp cs => .rp cs
  | .any => .any
def V.frzs (h : Nat) (y : V) : List V → List V
  | [] => []
  | x :: l => V.frz h y x :: V.frzs h y l
end

theorem frzs_eq (h : Nat) (y : V) : ∀ l : List V, V.frzs h y l = l.map (V.frz h y)
  | [] => by simp [V.frzs]
  | x :: l => by simp [V.frzs, frzs_eq h y l]

@[simp] theorem frzs_dmap (h : Nat) (y : V) (l : List D) : V.frzs h y (l.map V.d) = l.map V.d := by
  rw [frzs_eq, List.map_map]
  apply List.map_congr_left
  intro x _
  simp [V.frz]

def Res.frz (h : Nat) (y : V) : Res → Res
  | .box b ty cs => .box b ty (V.frzs h y cs)
  | .row ty k xs => .row ty k (xs.map (V.frzs h y))

@[simp] theorem map_frzs_dd (h : Nat) (y : V) (ys : List (List D)) : (dd ys).map (V.frzs h y) = dd ys := by
  unfold dd
  rw [List.map_map]
  apply List.map_congr_left
  intro x _
  simp

section
variable {P : Program} {w w' : World} {fo : FO} {m m' : Nat → Option Value} {L : Heap} {n : Nat} {s : St}

theorem RelV.frz {O O' : Nat → Prop} {h : Nat} {y : V} (hO : ∀ b, O' b → O b) (hm : ∀ i x, i ≠ h → m i = some x → m' i = some x) (hy : ∀ v, m h = some v → RelV w O' m' v y) {x : Value} {z : V} (hr : RelV w O m x z) : RelV w O' m' x (V.frz h y z) := by
  induction hr with
  | d x y hd => simpa [V.frz] using RelV.d x y (hd.mono (Keep.refl w _) (fun b _ hb => hO b hb))
  | bp i off b e =>
    simp only [V.frz]
    split
    · exact .any _
    · rename_i hne; exact .bp i off b (hm _ _ hne e)
  | rv i x e e1 =>
    simp only [V.frz]
    split
    · rename_i hh; subst hh; exact hy x e
    · rename_i hne; exact .rv i x (hm _ _ hne e) e1
  | ep i k p q b o n c e =>
    simp only [V.frz]
    split
    · exact .any _
    · rename_i hne; exact .ep i k p q b o n c (hm _ _ hne e)
  | rp b off cs f hb hlt hc hr => simpa [V.frz] using RelV.rp (m := m') b off cs f (fun h => hb (hO b h)) hlt hc (fun j y hy => (hr j y hy).mono (Keep.refl w _) (fun b _ hb => hO b hb))
  | clo fn first caps cf cc s1 s2 h1 h2 ih1 ih2 =>
    simp only [V.frz, frzs_eq]
    refine .clo fn first caps _ _ (by simpa using s1) (by simpa using s2) ?_ ?_
    · intro j x y' hx hy'
      rw [List.getElem?_map] at hy'
      obtain ⟨z, hz, rfl⟩ := Option.map_eq_some_iff.1 hy'
      exact ih1 j x z hx hz
    · intro j x y' hx hy'
      rw [List.getElem?_map] at hy'
      obtain ⟨z, hz, rfl⟩ := Option.map_eq_some_iff.1 hy'
      exact ih2 j x z hx hz
  | agg vs cs hs h1 h2 ih =>
    simp only [V.frz, frzs_eq]
    refine .agg vs _ (by simpa using hs) h1 ?_
    intro j x y' hx hy'
    rw [List.getElem?_map] at hy'
    obtain ⟨z, hz, rfl⟩ := Option.map_eq_some_iff.1 hy'
    exact ih j x z hx hz
  | tup vs cs hs h2 ih =>
    simp only [V.frz, frzs_eq]
    refine .tup vs _ (by simpa using hs) ?_
    intro j x y' hx hy'
    rw [List.getElem?_map] at hy'
    obtain ⟨z, hz, rfl⟩ := Option.map_eq_some_iff.1 hy'
    exact ih j x z hx hz
  | gt x y h ih => simpa [V.frz] using RelV.gt _ _ ih
  | gf y => simpa [V.frz] using RelV.gf _
  | any x => simpa [V.frz] using RelV.any _

theorem Res.Holds.frz {O O' : Nat → Prop} {h : Nat} {y : V} (hO : ∀ b, O' b → O b) (hm : ∀ i x, i ≠ h → m i = some x → m' i = some x) (hy : ∀ v, m h = some v → RelV w O' m' v y) {x : Value} {r : Res} (hr : r.Holds w O m x) : (r.frz h y).Holds w O' m' x := by
  cases r with
  | box b ty cs =>
    obtain ⟨bb, hbb, cur, rfl, h1, h2, h3, h4⟩ := hr
    refine ⟨bb, hbb, cur, rfl, h1, by rw [frzs_eq, List.length_map]; exact h2, h3, fun j v c hv hc => ?_⟩
    rw [frzs_eq, List.getElem?_map] at hc
    obtain ⟨z, hz, rfl⟩ := Option.map_eq_some_iff.1 hc
    exact (h4 j v z hv hz).frz hO hm hy
  | row ty k xs =>
    rcases hr with ⟨h1, h2⟩ | ⟨b, off, cap, cur, rfl, h1, h2, h3, h4, h5, h6, h7⟩
    · exact .inl ⟨h1, by simp [h2]⟩
    · refine .inr ⟨b, off, cap, cur, by rw [List.length_map], h1, by rw [List.length_map]; exact h2, h3, h4, ?_, h6, ?_⟩
      · intro i x hx
        rw [List.getElem?_map] at hx
        obtain ⟨z, hz, rfl⟩ := Option.map_eq_some_iff.1 hx
        rw [frzs_eq, List.length_map]
        exact h5 i z hz
      · intro i j x y' v hx hy' hv
        rw [List.getElem?_map] at hx
        obtain ⟨z, hz, rfl⟩ := Option.map_eq_some_iff.1 hx
        rw [frzs_eq, List.getElem?_map] at hy'
        obtain ⟨u, hu, rfl⟩ := Option.map_eq_some_iff.1 hy'
        exact (h7 i j z u v hz hu hv).frz hO hm hy

theorem row_data' {O' : Nat → Prop} (hi : Inv fo m L w) {h k : Nat} {ty : TypeId} {ys : List (List D)} (hl : L.lookup h = some (.row ty k (dd ys))) {v : Value} (hv : m h = some v) (hO : ∀ b, O' b → OO fo m b) (hb' : ∀ b, blk v = some b → ¬ O' b) : RelD w O' v (.sl ys) := by
  obtain ⟨x, hx, hh⟩ := hi.holds h _ (lookup_mem hl)
  rw [hv] at hx
  obtain rfl := Option.some.inj hx
  rcases hh with ⟨rfl, hy⟩ | ⟨b, off, cap, cur, rfl, hb, h1, h2, h3, h4, h5, h6⟩
  · have : ys = [] := by
      cases ys with
      | nil => rfl
      | cons y l => simp [dd] at hy
    subst this
    exact nil_rel
  · have hlen : (dd ys).length = ys.length := by simp [dd]
    rw [hlen] at h1 ⊢
    have hget : ∀ (i : Nat) (x : List D), ys[i]? = some x → (dd ys)[i]? = some (x.map V.d) := by
      intro i x hx; simp [dd, hx]
    have hkx : ∀ (i : Nat) (x : List D), ys[i]? = some x → x.length = k := by
      intro i x hx
      have := h4 i _ (hget i x hx)
      simpa using this
    have hbd : ∀ i j, i < ys.length → j < k → off + i * k + j < cur.size := by
      intro i j hi hj
      have : (i + 1) * k ≤ cap * k := Nat.mul_le_mul_right _ (by omega)
      rw [Nat.add_mul, Nat.one_mul] at this
      omega
    refine .sl (some ⟨b, off, none⟩) ys.length cap ys k b off (fun i j => cur.getD (off + i * k + j) undef) rfl h1 h2 (fun _ => ⟨rfl, hb' b rfl, (Array.getElem?_eq_some_iff.1 hb).1⟩) hkx ?_ ?_
    · intro i j hi hj
      have := hbd i j hi hj
      simp [World.cell?, hb, Array.getD, this]
    · intro i j x y hx hy
      have hj : j < k := by have := (List.getElem?_eq_some_iff.1 hy).1; have := hkx i x hx; omega
      have hil := (List.getElem?_eq_some_iff.1 hx).1
      have hlt := hbd i j hil hj
      have := h6 i j _ (.d y) (cur[off + i * k + j]) (hget i x hx) (by simp [hy]) (Array.getElem?_eq_getElem hlt)
      have h7 := this.d_inv
      have e : cur.getD (off + i * k + j) undef = cur[off + i * k + j] := by simp [Array.getD, hlt]
      rw [e]
      exact h7.mono (Keep.refl w _) (fun b _ hb => hO b hb)

def frzL (h : Nat) (y : V) : Heap → Heap
  | [] => []
  | (i, r) :: l => if i = h then frzL h y l else (i, Res.frz h y r) :: frzL h y l
theorem frzL_eq (h : Nat) (y : V) : ∀ L : Heap, frzL h y L = (L.filter fun p => p.1 != h).map fun p => (p.1, p.2.frz h y)
  | [] => rfl
  | (i, r) :: l => by
    rw [frzL, frzL_eq h y l]
    by_cases hi : i = h <;> simp [hi]

theorem Wk.freeze0 (h : Nat) {ty : TypeId} {k : Nat} {ys : List (List D)} (y' : D) (hy' : ∀ (w : World) O v, RelD w O v (.sl ys) → RelD w O v y') (hl : s.L.lookup h = some (.row ty k (dd ys))) :
    Wk n s ⟨s.fr.map fun p => (p.1, V.frz h (.d y') p.2), (s.L.filter fun p => p.1 != h).map fun p => (p.1, p.2.frz h (.d y'))⟩ := by
  intro fo m a w g
  let m' : Nat → Option Value := fun i => if i = h then none else m i
  have hm'1 : ∀ i x, m' i = some x → m i = some x ∧ i ≠ h := by
    intro i x hx
    simp only [m'] at hx
    split at hx
    · cases hx
    · rename_i hne; exact ⟨hx, hne⟩
  have hm'2 : ∀ i x, i ≠ h → m i = some x → m' i = some x := by
    intro i x hne hx
    simp only [m', if_neg hne]; exact hx
  have hown : ∀ b, Ab.own m' b → Ab.own m b := by
    rintro b ⟨i, x, hx, hb⟩
    exact ⟨i, x, (hm'1 i x hx).1, hb⟩
  have hOO : ∀ b, OO fo m' b → OO fo m b := fun b hb => hb.imp (hown b) id
  have hi := g.inv
  have hy : ∀ v, m h = some v → RelV w (OO fo m') m' v (.d y') := by
    intro v hv
    refine .d _ _ (hy' _ _ _ (row_data' hi hl hv hOO ?_))
    rintro b hb (⟨i, x, hx, hb'⟩ | hf)
    · have := hi.apart h i v x b hv (hm'1 i x hx).1 hb hb'
      exact (hm'1 i x hx).2 this.symm
    · exact hi.others h v b hv hb hf
  refine ⟨m', ⟨g.size, ?_, ⟨?_, ?_, ?_, ?_, hi.folt, ?_⟩, g.defers⟩, ⟨rfl, rfl, rfl, Nat.le_refl _, fun _ _ _ => rfl, fun b _ hb => hown b hb⟩⟩
  · intro t x hx
    obtain ⟨p, hp, e⟩ := List.mem_map.1 hx
    simp only [Prod.mk.injEq] at e
    obtain ⟨rfl, rfl⟩ := e
    obtain ⟨h1, h2⟩ := g.fr p.1 p.2 hp
    exact ⟨h1, h2.frz hOO hm'2 hy⟩
  · have : keys ((s.L.filter fun p => p.1 != h).map fun p => (p.1, p.2.frz h (.d y'))) = (keys s.L).filter fun i => i != h := by
      simp only [keys, List.map_map, List.filter_map]
      rfl
    show (keys ((s.L.filter fun p => p.1 != h).map fun p => (p.1, p.2.frz h (.d y')))).Nodup
    rw [this]
    exact hi.nodup.filter _
  · intro i x hx
    obtain ⟨h1, h2⟩ := hm'1 i x hx
    have := hi.dom i x h1
    simp only [keys, List.mem_map] at this ⊢
    obtain ⟨p, hp, rfl⟩ := this
    exact ⟨_, ⟨p, List.mem_filter.2 ⟨hp, by simpa using h2⟩, rfl⟩, rfl⟩
  · intro i i' x x' b hx hx' hb hb'
    exact hi.apart i i' x x' b (hm'1 i x hx).1 (hm'1 i' x' hx').1 hb hb'
  · intro i x b hx hb
    exact hi.others i x b (hm'1 i x hx).1 hb
  · intro i r hr
    obtain ⟨p, hp, e⟩ := List.mem_map.1 hr
    simp only [Prod.mk.injEq] at e
    obtain ⟨rfl, rfl⟩ := e
    obtain ⟨hp1, hp2⟩ := List.mem_filter.1 hp
    obtain ⟨x, hx, hh⟩ := hi.holds p.1 p.2 hp1
    exact ⟨x, hm'2 _ _ (by simpa using hp2) hx, hh.frz hOO hm'2 hy⟩

/-- An owned row of data is given up: it is data from here on. -/
theorem Wk.freeze (h : Nat) {ty : TypeId} {k : Nat} {ys : List (List D)} (hl : s.L.lookup h = some (.row ty k (dd ys))) :
    Wk n s ⟨s.fr.map fun p => (p.1, V.frz h (.d (.sl ys)) p.2), frzL h (.d (.sl ys)) s.L⟩ := by
  rw [frzL_eq]
  exact Wk.freeze0 h _ (fun _ _ _ h => h) hl

theorem RelD.nn {w : World} {O : Nat → Prop} {x : Value} {y : D} (h : RelD w O x y) : RelD w O x y.nn := by
  unfold D.nn
  split
  · cases h; exact nil_rel
  · exact h
theorem RelD.sl_nn {w : World} {O : Nat → Prop} {x : Value} {ys : List (List D)} (h : RelD w O x (.sl ys)) : RelD w O x (.sl (ys.map (·.map D.nn))) := by
  cases h with
  | sl a n cap xs k b off f hn hcap hmax ha hk hc hr =>
    refine .sl a n cap _ k b off f (by simpa using hn) hcap hmax ha ?_ hc ?_
    · intro i x hx
      rw [List.getElem?_map] at hx
      obtain ⟨z, hz, rfl⟩ := Option.map_eq_some_iff.1 hx
      rw [List.length_map]; exact hk i z hz
    · intro i j x y hx hy
      rw [List.getElem?_map] at hx
      obtain ⟨z, hz, rfl⟩ := Option.map_eq_some_iff.1 hx
      rw [List.getElem?_map] at hy
      obtain ⟨u, hu, rfl⟩ := Option.map_eq_some_iff.1 hy
      exact (hr i j z u hz hu).nn
theorem Wk.freezeN (h : Nat) {ty : TypeId} {k : Nat} {ys : List (List D)} (hl : s.L.lookup h = some (.row ty k (dd ys))) :
    Wk n s ⟨s.fr.map fun p => (p.1, V.frz h (.d (.sl (ys.map (·.map D.nn)))) p.2), frzL h (.d (.sl (ys.map (·.map D.nn)))) s.L⟩ := by
  rw [frzL_eq]
  exact Wk.freeze0 h _ (fun _ _ _ h => h.sl_nn) hl

attribute [simp] V.frz V.frzs Res.frz frzL D.nn
end
end Go.Ab

/-
  The engine, part Y: what a given argument is: from the reading of a row to pure data, with its type's shape.
-/
set_option linter.unusedSimpArgs false
set_option linter.unusedVariables false
namespace Go.Ab
open Go.ChangeShapes Go.WideShapes Go.RowKit

/-- The kinds whose cell is taken as it stands. -/
def otherT : Option TypeDesc → Bool
  | some .bool | some (.int _) | some .string | some (.slice _) | some (.struct _) | some (.array _ _) => false
  | _ => true

/-- Data of a type. -/
inductive HasT (P : Program) : TypeId → List D → Prop
  | bool {t : TypeId} (b : Bool) (u : P.underlying t = some .bool) : HasT P t [.v (.bool b)]
  | int {t : TypeId} {k : IntKind} (n : Int) (u : P.underlying t = some (.int k)) (h : inR k n) : HasT P t [.v (.int k n)]
  | str {t : TypeId} (s : ByteArray) (u : P.underlying t = some .string) (h : s.size ≤ 140737488351232) : HasT P t [.v (.string s)]
  | sl {t e : TypeId} (xs : List (List D)) (u : P.underlying t = some (.slice e)) (hx : ∀ (i : Nat) (x : List D), xs[i]? = some x → HasT P e x) (hl : xs.length ≤ 9223372036854775807) (hw : xs.length * P.bytesOf e ≤ 140737488351232) : HasT P t [.sl xs]
  | struct {t : TypeId} {fs : Array Field} (yss : List (List D)) (u : P.underlying t = some (.struct fs)) (hl : yss.length = fs.size)
      (h : ∀ (i : Nat) (f : Field) (ys : List D), fs[i]? = some f → yss[i]? = some ys → HasT P f.type ys) : HasT P t yss.flatten
  | arr {t e : TypeId} {n : Nat} (yss : List (List D)) (u : P.underlying t = some (.array n e)) (hl : yss.length = n)
      (h : ∀ (i : Nat) (ys : List D), yss[i]? = some ys → HasT P e ys) : HasT P t yss.flatten
  | other {t : TypeId} (y : D) (u : otherT (P.underlying t) = true) : HasT P t [y]

/-! ### How much there is: as the statements' second form counts -/
mutual
def bD : D → Nat
  | .v (.string s) => s.size + 1
  | .v _ => 1
  | .sl xs => bDss xs + 1
  | .ifc _ _ _ => 1
def bDs : List D → Nat
  | [] => 0
  | x :: l => bD x + bDs l
def bDss : List (List D) → Nat
  | [] => 0
  | x :: l => bDs x + bDss l
end
mutual
def bulkW {H : Type} : DataW H → Nat
  | .lit (.string bytes) => bytes.length + 1
  | .lit _ => 1
  | .nil => 1
  | .ptr d => bulkW d + 1
  | .slice elems spare => bulkAll elems + bulkAll spare + 1
  | .agg parts => bulkAll parts + 1
  | .iface _ d => bulkW d + 1
  | .map entries => bulkEntries entries + 1
  | .held _ => 1
def bulkAll {H : Type} : List (DataW H) → Nat
  | [] => 0
  | d :: r => bulkW d + bulkAll r
def bulkEntries {H : Type} : List (Lit × DataW H) → Nat
  | [] => 0
  | x :: r => bulkEntry x + bulkEntries r
def bulkEntry {H : Type} : Lit × DataW H → Nat
  | (.string bytes, d) => bytes.length + bulkW d + 1
  | (_, d) => bulkW d + 1
end
theorem bulkW_pos {H : Type} (d : DataW H) : 1 ≤ bulkW d := by
  cases d with
  | lit l => cases l <;> simp [bulkW]
  | nil => simp [bulkW]
  | ptr d => simp [bulkW]
  | slice elems spare => simp [bulkW]
  | agg parts => simp [bulkW]
  | iface t d => simp [bulkW]
  | map entries => simp [bulkW]
  | held h => simp [bulkW]
theorem bDs_app (l r : List D) : bDs (l ++ r) = bDs l + bDs r := by
  induction l with
  | nil => simp [bDs]
  | cons x l ih => simp only [List.cons_append, bDs, ih]; omega
theorem bD_v {x : Value} (h : ∀ s, x ≠ .string s) : bD (.v x) = 1 := by
  cases x <;> first | exact absurd rfl (h _) | simp [bD]
/-- lists side by side: where each is at most the other, so are the sums -/
theorem bDss_le {H : Type} : ∀ (l : List (List D)) (r : List (DataW H)), l.length = r.length → (∀ (i : Nat) (x : List D) (d : DataW H), l[i]? = some x → r[i]? = some d → bDs x ≤ bulkW d) → bDss l ≤ bulkAll r
  | [], [], _, _ => by simp [bDss, bulkAll]
  | x :: l, d :: r, h, hb => by
    have h0 := hb 0 x d rfl rfl
    have h1 := bDss_le l r (by simpa using h) (fun i x d hx hd => hb (i + 1) x d (by simpa using hx) (by simpa using hd))
    simp only [bDss, bulkAll]; omega
  | [], _ :: _, h, _ => by simp at h
  | _ :: _, [], h, _ => by simp at h
theorem bDs_flatten (l : List (List D)) : bDs l.flatten = bDss l := by
  induction l with
  | nil => simp [bDs, bDss]
  | cons x l ih => simp only [List.flatten_cons, bDs_app, bDss, ih]

theorem add_none' {a : Addr} {i : Nat} (h : a.spot = none) : a.add i = ⟨a.block, a.off + i, none⟩ := by
  obtain ⟨b, o, s⟩ := a
  simp only at h
  subst h
  unfold Addr.add
  split
  · rename_i hi; subst hi; rfl
  · rfl

def contig (P : Program) : Nat → List Field → Option Nat
  | o, [] => some o
  | o, f :: fs => if f.offset = o then contig P (o + P.cellsOf f.type) fs else none

/-- What is asked of a program's types. -/
def fineB (P : Program) : Bool := (List.range P.types.size).all fun t => match P.underlying t with
  | some (.slice e) => decide (0 < P.cellsOf e) && decide (e < P.types.size)
  | some (.struct fs) => (contig P 0 fs.toList == some (P.cellsOf t)) && fs.toList.all fun f => decide (f.type < P.types.size)
  | some (.array n e) => (P.cellsOf t == n * P.cellsOf e) && decide (e < P.types.size)
  | _ => true

def RelC (w : World) (cs : List Value) (ys : List D) : Prop :=
  cs.length = ys.length ∧ ∀ (j : Nat) (x : Value) (y : D), cs[j]? = some x → ys[j]? = some y → x.oneCell' = true ∧ RelD w (fun _ => False) x y

theorem RelC.nil (w : World) : RelC w [] [] := ⟨rfl, by simp⟩
theorem RelC.one {w : World} {x : Value} {y : D} (h1 : x.oneCell' = true) (h : RelD w (fun _ => False) x y) : RelC w [x] [y] := by
  refine ⟨rfl, fun j x' y' hx hy => ?_⟩
  cases j with
  | zero => simp at hx hy; subst hx; subst hy; exact ⟨h1, h⟩
  | succ j => simp at hx
theorem RelC.append {w : World} {c1 c2 : List Value} {y1 y2 : List D} (h1 : RelC w c1 y1) (h2 : RelC w c2 y2) : RelC w (c1 ++ c2) (y1 ++ y2) := by
  refine ⟨by simp [h1.1, h2.1], fun j x y hx hy => ?_⟩
  by_cases hj : j < c1.length
  · rw [List.getElem?_append_left hj] at hx
    rw [List.getElem?_append_left (by rw [← h1.1]; exact hj)] at hy
    exact h1.2 j x y hx hy
  · rw [List.getElem?_append_right (by omega)] at hx
    rw [List.getElem?_append_right (by rw [← h1.1]; omega)] at hy
    rw [← h1.1] at hy
    exact h2.2 _ x y hx hy

theorem flat_fields {P : Program} {w : World} {cs : List Value} : ∀ (Hh : Nat → Field → List D → Prop) (fs : List Field) (o : Nat), contig P o fs = some cs.length →
    (∀ (i : Nat) f, fs[i]? = some f → ∃ ys, RelC w ((cs.drop f.offset).take (P.cellsOf f.type)) ys ∧ Hh i f ys) →
    ∃ yss : List (List D), yss.length = fs.length ∧ RelC w (cs.drop o) yss.flatten ∧ ∀ (i : Nat) (f : Field) (ys : List D), fs[i]? = some f → yss[i]? = some ys → Hh i f ys
  | _, [], o, hc, _ => by
    simp only [contig, Option.some.injEq] at hc
    subst hc
    exact ⟨[], rfl, by simp [RelC.nil], by simp⟩
  | Hh, f :: fs, o, hc, h => by
    rw [contig] at hc
    split at hc
    · rename_i hof
      obtain ⟨ys, h1, h2⟩ := h 0 f rfl
      obtain ⟨yss, h3, h4, h5⟩ := flat_fields (fun i => Hh (i + 1)) fs _ hc (fun i g hg => h (i + 1) g (by simpa using hg))
      refine ⟨ys :: yss, by simp [h3], ?_, fun i g zs hi hz => ?_⟩
      · have e : cs.drop o = ((cs.drop f.offset).take (P.cellsOf f.type)) ++ cs.drop (o + P.cellsOf f.type) := by
          rw [hof, ← List.drop_drop, List.take_append_drop]
        rw [e]
        exact h1.append h4
      · cases i with
        | zero => simp at hi hz; subst hi; subst hz; exact h2
        | succ i => exact h5 i g zs (by simpa using hi) (by simpa using hz)
    · cases hc

theorem flat_elems {w : World} {k : Nat} : ∀ (Hh : Nat → List D → Prop) (n : Nat) (cs : List Value), cs.length = n * k →
    (∀ i, i < n → ∃ ys, RelC w ((cs.drop (i * k)).take k) ys ∧ Hh i ys) →
    ∃ yss : List (List D), yss.length = n ∧ RelC w cs yss.flatten ∧ ∀ (i : Nat) (ys : List D), yss[i]? = some ys → Hh i ys
  | _, 0, cs, hl, _ => by
    have : cs = [] := List.length_eq_zero_iff.1 (by simpa using hl)
    subst this
    exact ⟨[], rfl, by simp [RelC.nil], by simp⟩
  | Hh, n + 1, cs, hl, h => by
    obtain ⟨ys, h1, h2⟩ := h 0 (by omega)
    have hl' : cs.length = n * k + k := by rw [hl, Nat.succ_mul]
    obtain ⟨yss, h3, h4, h5⟩ := flat_elems (k := k) (fun i => Hh (i + 1)) n (cs.drop k) (by simp [hl']) (fun i hi => by
      obtain ⟨ys, a, b⟩ := h (i + 1) (by omega)
      refine ⟨ys, ?_, b⟩
      rw [List.drop_drop, show k + i * k = (i + 1) * k by rw [Nat.succ_mul]; omega]
      exact a)
    refine ⟨ys :: yss, by simp [h3], ?_, fun i zs hz => ?_⟩
    · have := h1.append h4
      simpa using this
    · cases i with
      | zero => simp at hz; subst hz; exact h2
      | succ i => exact h5 i zs (by simpa using hz)

section
variable {H : Type} {enc : TypeId × Value → H} {P : Program} {w : World}

theorem weights_all {e : TypeId} {B : Nat} {l : List (DataW H)} (h : ∀ n ∈ DataW.weightsAll P e l, n ≤ B) {d : DataW H} (hd : d ∈ l) : ∀ n ∈ DataW.weights P e d, n ≤ B := by
  induction l with
  | nil => cases hd
  | cons a l ih =>
    simp only [DataW.weightsAll, List.mem_append] at h
    rcases List.mem_cons.1 hd with rfl | hd
    · exact fun n hn => h n (.inl hn)
    · exact ih (fun n hn => h n (.inr hn)) hd

theorem weights_each {B : Nat} : ∀ {ts : List TypeId} {l : List (DataW H)} (_ : ∀ n ∈ DataW.weightsEach P ts l, n ≤ B) {i : Nat} {t : TypeId} {d : DataW H} (_ : ts[i]? = some t) (_ : l[i]? = some d), ∀ n ∈ DataW.weights P t d, n ≤ B
  | [], _, _, i, _, _, ht, _ => by simp at ht
  | _ :: _, [], _, i, _, _, _, hd => by simp at hd
  | t0 :: ts, d0 :: l, h, i, t, d, ht, hd => by
    simp only [DataW.weightsEach, List.mem_append] at h
    cases i with
    | zero => simp at ht hd; subst ht; subst hd; exact fun n hn => h n (.inl hn)
    | succ i => exact weights_each (fun n hn => h n (.inr hn)) (by simpa using ht) (by simpa using hd)

theorem open_trod (hf : fineB P = true) : ∀ (fuel : Nat) (t : TypeId) (cs : List Value) (d : DataW H) (ps : List MemPlace), t < P.types.size →
    DataW.trod enc P w 0 (fun _ => true) true fuel t cs = some (d, ps) → (∀ n ∈ DataW.weights P t d, n ≤ reachBytes) → ∃ ys, RelC w cs ys ∧ HasT P t ys ∧ bDs ys ≤ bulkW d
  | 0, _, _, _, _, _, h, _ => by simp [DataW.trod] at h
  | fuel + 1, t, cs, d, ps, ht, h, hw => by
    have IH := open_trod hf fuel
    have hft : _ := List.all_eq_true.1 hf t (by simpa using ht)
    unfold DataW.trod at h
    split at h
    · rename_i b hu; exact ⟨_, RelC.one rfl (.v _ rfl), .bool _ hu, by have := bulkW_pos d; simp [bDs, bD]; omega⟩
    · rename_i k k' n hu
      split at h
      · rename_i hk
        obtain ⟨rfl, hk⟩ := hk
        exact ⟨_, RelC.one rfl (.v _ rfl), .int _ hu (by simpa [inR, Lit.wf] using hk), by have := bulkW_pos d; simp [bDs, bD]; omega⟩
      · cases h
    · rename_i k k' n hu; exact ⟨_, RelC.one rfl (.v _ rfl), .other _ (by simp [hu, otherT]), by have := bulkW_pos d; simp [bDs, bD]; omega⟩
    · rename_i s hu
      split at h
      · cases h
        refine ⟨_, RelC.one rfl (.v _ rfl), .str _ hu ?_, by simp only [bDs, bD, bulkW, Array.length_toList]; exact Nat.le_refl _⟩
        have := hw s.data.toList.length (by simp [DataW.weights])
        simpa [reachBytes] using this
      · cases h
    · rename_i e hu; exact ⟨_, RelC.one rfl (.v _ rfl), .other _ (by simp [hu, otherT]), by have := bulkW_pos d; simp [bDs, bD]; omega⟩
    · rename_i e a hu; exact ⟨_, RelC.one rfl (.v _ rfl), .other _ (by simp [hu, otherT]), by have := bulkW_pos d; simp [bDs, bD]; omega⟩
    · rename_i e hu
      exact ⟨_, RelC.one rfl (.sl none 0 0 [] 0 0 0 (fun _ _ => undef) rfl (Nat.le_refl _) (by unfold maxLen; omega) (by omega) (by simp) (by omega) (by simp)), .sl [] hu (by simp) (by simp) (by simp), by have := bulkW_pos d; simp [bDs, bD, bDss]; omega⟩
    · rename_i e a len cap hu
      rw [hu] at hft
      simp only [Bool.and_eq_true, decide_eq_true_eq] at hft
      simp only at h
      split at h
      · rename_i hb
        obtain ⟨_, hlc, hcm⟩ := hb
        obtain ⟨elems, he, h⟩ := Option.bind_eq_some_iff.1 h
        obtain ⟨rest, hr, h⟩ := Option.map_eq_some_iff.1 h
        simp only [Prod.mk.injEq] at h
        obtain ⟨rfl, _⟩ := h
        have hlen : elems.length = len := by simpa using mapM_some_length he
        simp only [if_true] at hr
        have hlr : rest.length = cap - len := by simpa using mapM_some_length hr
        have hwl : ∀ n ∈ (((elems.map (·.1)).length + (rest.map (·.1)).length) * P.bytesOf e) :: (DataW.weightsAll P e (elems.map (·.1)) ++ DataW.weightsAll P e (rest.map (·.1))), n ≤ reachBytes := by
          simpa [DataW.weights, hu] using hw
        have key : ∀ i, i < len → ∃ cs x, (w.cells? 0 (a.add (i * P.cellsOf e)) (P.cellsOf e)) = some cs ∧ RelC w cs x ∧ HasT P e x ∧ ∀ y, elems[i]? = some y → bDs x ≤ bulkW y.1 := fun i hi => by
          have hi' := mapM_some_get he i i (by simp [hi])
          obtain ⟨y, hy⟩ : ∃ y, elems[i]? = some y := ⟨_, List.getElem?_eq_getElem (by omega)⟩
          rw [hy] at hi'
          obtain ⟨cs', hcs, htr⟩ := Option.bind_eq_some_iff.1 hi'
          obtain ⟨yd, yp⟩ := y
          obtain ⟨x, hx1, hx2, hx3⟩ := IH e cs' yd yp hft.2 htr (weights_all (l := elems.map (·.1)) (fun n hn => hwl n (List.mem_cons_of_mem _ (List.mem_append_left _ hn))) (List.mem_map.2 ⟨(yd, yp), List.mem_of_getElem? hy, rfl⟩))
          exact ⟨cs', x, hcs, hx1, hx2, fun y' hy' => by rw [hy] at hy'; cases hy'; exact hx3⟩
        have kc : ∀ i, ∃ cs x, i < len → (w.cells? 0 (a.add (i * P.cellsOf e)) (P.cellsOf e)) = some cs ∧ RelC w cs x ∧ HasT P e x ∧ ∀ y, elems[i]? = some y → bDs x ≤ bulkW y.1 := fun i => by
          by_cases hi : i < len
          · obtain ⟨cs, x, h⟩ := key i hi; exact ⟨cs, x, fun _ => h⟩
          · exact ⟨[], [], fun h => absurd h hi⟩
        obtain ⟨fc, kc⟩ := Classical.axiomOfChoice kc
        obtain ⟨fx, kc⟩ := Classical.axiomOfChoice kc
        have spot : 0 < len → a.spot = none := fun h0 => by
          have := (World.cells?_some (kc 0 h0).1).2.2 0 hft.1
          have hx : ∃ v, (fc 0)[0]? = some v := ⟨_, List.getElem?_eq_getElem (by rw [(World.cells?_some (kc 0 h0).1).2.1]; exact hft.1)⟩
          obtain ⟨v, hv⟩ := hx
          rw [hv] at this
          have := World.cell?_spot this
          simpa [Addr.add] using this
        have cells : ∀ i j, i < len → j < P.cellsOf e → w.cell? ⟨a.block, a.off + i * P.cellsOf e + j, none⟩ = (fc i)[j]? := fun i j hi hj => by
          have := (World.cells?_some (kc i hi).1).2.2 j hj
          have hs := spot (by omega)
          rw [← this, add_none' hs, add_none' rfl]
        have lenc : ∀ i, i < len → (fc i).length = P.cellsOf e := fun i hi => (World.cells?_some (kc i hi).1).2.1
        refine ⟨_, RelC.one rfl (.sl (some a) len cap ((List.range len).map fx) (P.cellsOf e) a.block a.off (fun i j => (fc i).getD j undef) (by rw [List.length_map, List.length_range]) hlc hcm (fun h0 => ⟨?_, fun h => h, ?_⟩) ?_ ?_ ?_), .sl _ hu ?_ ?_ ?_, ?_⟩
        · obtain ⟨ab, ao, asp⟩ := a
          simp only at spot
          rw [spot h0]
        · have h1 := cells 0 0 h0 hft.1
          have : (fc 0)[0]? = some ((fc 0)[0]'(by rw [lenc 0 h0]; exact hft.1)) := List.getElem?_eq_getElem _
          rw [this] at h1
          exact lt_of_cell h1
        · intro i x hx
          obtain ⟨hi, rfl⟩ : i < len ∧ fx i = x := by
            simp only [List.getElem?_map, Option.map_eq_some_iff] at hx
            obtain ⟨i', hi', rfl⟩ := hx
            have hh : i < len := by
              have := (List.getElem?_eq_some_iff.1 hi').1
              simpa using this
            rw [List.getElem?_range hh] at hi'
            cases hi'
            exact ⟨hh, rfl⟩
          rw [← (kc i hi).2.1.1]
          exact lenc i hi
        · intro i j hi hj
          rw [cells i j hi hj, List.getElem?_eq_getElem (by rw [lenc i hi]; exact hj)]
          simp [List.getD_eq_getElem?_getD, List.getElem?_eq_getElem (show j < (fc i).length by rw [lenc i hi]; exact hj)]
        · intro i j x y hx hy
          obtain ⟨hi, rfl⟩ : i < len ∧ fx i = x := by
            simp only [List.getElem?_map, Option.map_eq_some_iff] at hx
            obtain ⟨i', hi', rfl⟩ := hx
            have hh : i < len := by
              have := (List.getElem?_eq_some_iff.1 hi').1
              simpa using this
            rw [List.getElem?_range hh] at hi'
            cases hi'
            exact ⟨hh, rfl⟩
          have hjl : j < (fc i).length := by
            rw [(kc i hi).2.1.1]
            exact (List.getElem?_eq_some_iff.1 hy).1
          refine ((kc i hi).2.1.2 j _ y (List.getElem?_eq_getElem hjl) hy).2 |> fun h => ?_
          simpa [List.getD_eq_getElem?_getD, List.getElem?_eq_getElem hjl] using h
        · intro i x hx
          simp only [List.getElem?_map, Option.map_eq_some_iff] at hx
          obtain ⟨i', hi', rfl⟩ := hx
          have hh : i < len := by
            have := (List.getElem?_eq_some_iff.1 hi').1
            simpa using this
          rw [List.getElem?_range hh] at hi'
          cases hi'
          exact (kc i hh).2.2.1
        · unfold maxLen at hcm; simp; omega
        · have := hwl _ List.mem_cons_self
          simp only [List.length_map, hlen, hlr, reachBytes] at this
          simp only [List.length_map, List.length_range]
          refine Nat.le_trans ?_ this
          exact Nat.mul_le_mul_right _ (by omega)
        · have hs := bDss_le ((List.range len).map fx) (elems.map (·.1)) (by simp [hlen]) (fun i x d hx hd => by
            simp only [List.getElem?_map, Option.map_eq_some_iff] at hx hd
            obtain ⟨i', hi', rfl⟩ := hx
            obtain ⟨y, hy, rfl⟩ := hd
            have hh : i < len := by
              have := (List.getElem?_eq_some_iff.1 hi').1
              simpa using this
            rw [List.getElem?_range hh] at hi'
            cases hi'
            exact (kc i hh).2.2.2 y hy)
          simp only [bDs, bD, bulkW]; omega
      · cases h
    · rename_i cs xo cs2 fs hu
      rw [hu] at hft
      simp only [Bool.and_eq_true, beq_iff_eq, List.all_eq_true, decide_eq_true_eq] at hft
      split at h
      · rename_i hcl
        obtain ⟨xs, hxs, h⟩ := Option.map_eq_some_iff.1 h
        simp only [Prod.mk.injEq] at h
        obtain ⟨rfl, _⟩ := h
        have hlen := mapM_some_length hxs
        obtain ⟨yss, h1, h2, h3⟩ := flat_fields (w := w) (cs := cs) (fun i f ys => HasT P f.type ys ∧ ∀ x, xs[i]? = some x → bDs ys ≤ bulkW x.1) fs.toList 0 (by rw [hcl]; exact hft.1) (fun i f hi => by
          have hfm : f ∈ fs.toList := List.mem_of_getElem? hi
          have := mapM_some_get hxs i f hi
          obtain ⟨x, hx⟩ : ∃ x, xs[i]? = some x := ⟨_, List.getElem?_eq_getElem (by rw [hlen]; exact (List.getElem?_eq_some_iff.1 hi).1)⟩
          rw [hx] at this
          obtain ⟨xd, xp⟩ := x
          obtain ⟨zs, z1, z2, z3⟩ := IH f.type _ xd xp (hft.2 f hfm) this (weights_each (ts := fs.toList.map (·.type)) (l := xs.map (·.1)) (by simpa [DataW.weights, hu] using hw) (i := i) (by simp only [List.getElem?_map, hi]; rfl) (by simp only [List.getElem?_map, hx]; rfl))
          exact ⟨zs, z1, z2, fun x' hx' => by rw [hx] at hx'; cases hx'; exact z3⟩)
        refine ⟨_, by simpa using h2, .struct yss hu (by simpa using h1) (fun i f ys hi hy => (h3 i f ys (by simpa using hi) hy).1), ?_⟩
        have hs := bDss_le yss (xs.map (·.1)) (by simp [h1, hlen]) (fun i ys d hy hd => by
          simp only [List.getElem?_map, Option.map_eq_some_iff] at hd
          obtain ⟨x, hx, rfl⟩ := hd
          have hif : i < fs.toList.length := by rw [← hlen]; exact (List.getElem?_eq_some_iff.1 hx).1
          exact (h3 i _ ys (List.getElem?_eq_getElem hif) hy).2 x hx)
        rw [bDs_flatten]
        simp only [bulkW]; omega
      · cases h
    · rename_i cs xo cs2 n e hu
      rw [hu] at hft
      simp only [Bool.and_eq_true, beq_iff_eq, decide_eq_true_eq] at hft
      split at h
      · rename_i hcl
        obtain ⟨xs, hxs, h⟩ := Option.map_eq_some_iff.1 h
        simp only [Prod.mk.injEq] at h
        obtain ⟨rfl, _⟩ := h
        have hlen : xs.length = n := by simpa using mapM_some_length hxs
        obtain ⟨yss, h1, h2, h3⟩ := flat_elems (w := w) (k := P.cellsOf e) (fun i ys => HasT P e ys ∧ ∀ x, xs[i]? = some x → bDs ys ≤ bulkW x.1) n cs (by rw [hcl]; exact hft.1) (fun i hi => by
          have := mapM_some_get hxs i i (by simp [hi])
          obtain ⟨x, hx⟩ : ∃ x, xs[i]? = some x := ⟨_, List.getElem?_eq_getElem (by omega)⟩
          rw [hx] at this
          obtain ⟨xd, xp⟩ := x
          obtain ⟨zs, z1, z2, z3⟩ := IH e _ xd xp hft.2 this (weights_all (l := xs.map (·.1)) (by simpa [DataW.weights, hu] using hw) (List.mem_map.2 ⟨_, List.mem_of_getElem? hx, rfl⟩))
          exact ⟨zs, z1, z2, fun x' hx' => by rw [hx] at hx'; cases hx'; exact z3⟩)
        refine ⟨_, h2, .arr yss hu h1 (fun i ys hy => (h3 i ys hy).1), ?_⟩
        have hs := bDss_le yss (xs.map (·.1)) (by simp [h1, hlen]) (fun i ys d hy hd => by
          simp only [List.getElem?_map, Option.map_eq_some_iff] at hd
          obtain ⟨x, hx, rfl⟩ := hd
          exact (h3 i ys hy).2 x hx)
        rw [bDs_flatten]
        simp only [bulkW]; omega
      · cases h
    · rename_i ms hu; exact ⟨_, RelC.one rfl (.v _ rfl), .other _ (by simp [hu, otherT]), by have := bulkW_pos d; simp [bDs, bD]; omega⟩
    · rename_i ms u v hu
      exact ⟨_, RelC.one rfl (.v _ rfl), .other _ (by simp [hu, otherT]), by have := bulkW_pos d; simp [bDs, bD]; omega⟩
    · rename_i hu; exact ⟨_, RelC.one rfl (.v _ rfl), .other _ (by simp [hu, otherT]), by have := bulkW_pos d; simp [bDs, bD]; omega⟩
    · rename_i hu; exact ⟨_, RelC.one rfl (.v _ rfl), .other _ (by simp [hu, otherT]), by have := bulkW_pos d; simp [bDs, bD]; omega⟩
    · rename_i hu; exact ⟨_, RelC.one rfl (.v _ rfl), .other _ (by simp [hu, otherT]), by have := bulkW_pos d; simp [bDs, bD]; omega⟩
    · rename_i hu; exact ⟨_, RelC.one rfl (.v _ rfl), .other _ (by simp [hu, otherT]), by have := bulkW_pos d; simp [bDs, bD]; omega⟩
    · rename_i hu; exact ⟨_, RelC.one rfl (.v _ rfl), .other _ (by simp [hu, otherT]), by have := bulkW_pos d; simp [bDs, bD]; omega⟩
    · rename_i hu; exact ⟨_, RelC.one rfl (.v _ rfl), .other _ (by simp [hu, otherT]), by have := bulkW_pos d; simp [bDs, bD]; omega⟩
    · rename_i hu; exact ⟨_, RelC.one rfl (.v _ rfl), .other _ (by simp [hu, otherT]), by have := bulkW_pos d; simp [bDs, bD]; omega⟩
    · rename_i hu; exact ⟨_, RelC.one rfl (.v _ rfl), .other _ (by simp [hu, otherT]), by have := bulkW_pos d; simp [bDs, bD]; omega⟩
    · cases h
end
end Go.Ab

/-
  The engine, part Z: from a function's contract to its row.
-/
set_option linter.unusedSimpArgs false
set_option linter.unusedVariables false
namespace Go.Ab
open Go.ChangeShapes Go.WideShapes Go.RowKit

/-- The value of an argument of a type. -/
def argV (P : Program) (t : TypeId) (ys : List D) : V :=
  match P.underlying t with
  | some (.struct _) | some (.array _ _) => .agg (ys.map .d)
  | _ => match ys with
    | [y] => .d y
    | _ => .any

section
variable {H : Type} {enc : TypeId × Value → H} {P : Program} {w : World}

theorem argV_rel {base : Nat} {t : TypeId} {v : Value} {ys : List D} (hc : RelC w v.cells.toList ys) (hok : Value.okWide P w .any base t v) : RelV w (OO (⟨fun _ => False, []⟩ : FO) noneM) noneM v (argV P t ys) := by
  have up : ∀ x y, RelD w (fun _ => False) x y → RelD w (OO (⟨fun _ => False, []⟩ : FO) noneM) x y := fun x y h =>
    h.mono (w := w) (Keep.refl _ _) (fun b _ ho => by rcases ho with ho | ho; exact absurd ho (noneM_own b); exact ho)
  have ag : ∀ cs : Array Value, v = .agg cs → RelV w (OO (⟨fun _ => False, []⟩ : FO) noneM) noneM v (.agg (ys.map .d)) := by
    rintro cs rfl
    have hcs : (Value.agg cs).cells.toList = cs.toList := rfl
    rw [hcs] at hc
    refine .agg cs _ (by simpa using hc.1) (fun j x hx => ?_) (fun j x y hx hy => ?_)
    · have hj : j < ys.length := by rw [← hc.1]; simpa using (Array.getElem?_eq_some_iff.1 hx).1
      exact (hc.2 j x _ (by simpa using hx) (List.getElem?_eq_getElem hj)).1
    · simp only [List.getElem?_map, Option.map_eq_some_iff] at hy
      obtain ⟨y', hy', rfl⟩ := hy
      exact .d _ _ (up _ _ (hc.2 j x _ (by simpa using hx) hy').2)
  unfold argV
  split
  · rename_i fs hu
    rw [Value.okWide, hu] at hok
    obtain ⟨cs, hv, _⟩ := hok
    exact ag cs hv
  · rename_i n e hu
    rw [Value.okWide, hu] at hok
    obtain ⟨cs, hv, _⟩ := hok
    exact ag cs hv
  · rename_i h1 h2
    split
    · rename_i y
      have hne : ∀ cs, v ≠ .agg cs := by
        rintro cs rfl
        rw [Value.okWide] at hok
        split at hok
        · rename_i fs hu; exact h1 fs hu
        · rename_i n e hu; exact h2 n e hu
        · unfold Cell.okWide at hok
          split at hok <;> first | (rename_i h; cases h; done) | skip
          unfold Cell.ok at hok
          split at hok <;> first | (rename_i h; cases h; done) | exact hok | simp_all
      have hcells : v.cells.toList = [v] := by
        cases v <;> first | rfl | exact absurd rfl (hne _)
      rw [hcells] at hc
      exact .d _ _ (up _ _ (hc.2 0 v y rfl rfl).2)
    · exact .any _

theorem open_all (hf : fineB P = true) {base : Nat} : ∀ (ts : List TypeId) (vs : List Value) (ds : List (DataW H)) (ps : List MemPlace), (∀ t ∈ ts, t < P.types.size) →
    DataW.TrodAll enc P w 0 (fun _ => true) true ts vs ds ps → (∀ n ∈ DataW.weightsEach P ts ds, n ≤ reachBytes) →
    (∀ (j : Nat) t v, ts[j]? = some t → vs[j]? = some v → Value.okWide P w .any base t v) →
    ∃ yss : List (List D), yss.length = ts.length ∧ (∀ (i : Nat) t ys, ts[i]? = some t → yss[i]? = some ys → HasT P t ys) ∧ vs.length = ts.length ∧ ds.length = ts.length ∧ bDss yss ≤ bulkAll ds ∧
      ∀ (j : Nat) x y, vs[j]? = some x → ((ts.zip yss).map fun p => argV P p.1 p.2)[j]? = some y → RelV w (OO (⟨fun _ => False, []⟩ : FO) noneM) noneM x y
  | [], [], [], _, _, _, _, _ => ⟨[], rfl, by simp, rfl, rfl, by simp [bDss], by simp⟩
  | t :: ts, v :: vs, d :: ds, ps, ht, h, hw, hok => by
    obtain ⟨p, q, h0, hr, rfl⟩ := h
    simp only [DataW.weightsEach, List.mem_append] at hw
    obtain ⟨yss, a1, a2, a3, a4, a6, a5⟩ := open_all hf ts vs ds q (fun t h => ht t (List.mem_cons_of_mem _ h)) hr (fun n hn => hw n (.inr hn)) (fun j t v h1 h2 => hok (j + 1) t v (by simpa using h1) (by simpa using h2))
    obtain ⟨fuel, h0⟩ := h0
    obtain ⟨ys, b1, b2, b3⟩ := open_trod hf fuel t _ d p (ht t List.mem_cons_self) h0 (fun n hn => hw n (.inl hn))
    refine ⟨ys :: yss, by simp [a1], fun i t' ys' hi hy => ?_, by simp [a3], by simp [a4], by simp only [bDss, bulkAll]; omega, fun j x y hx hy => ?_⟩
    · cases i with
      | zero => simp at hi hy; subst hi; subst hy; exact b2
      | succ i => exact a2 i t' ys' (by simpa using hi) (by simpa using hy)
    · cases j with
      | zero => simp at hx hy; subst hx; subst hy; exact argV_rel b1 (hok 0 t v rfl rfl)
      | succ j => exact a5 j x y (by simpa using hx) (by simpa using hy)
  | [], [], _ :: _, _, _, h, _, _ => h.elim
  | [], _ :: _, _, _, _, h, _, _ => h.elim
  | _ :: _, [], _, _, _, h, _, _ => h.elim
  | _ :: _, _ :: _, [], _, _, h, _, _ => h.elim

theorem trod_all_stays (hl : laidOutB P = true) {W W' : World} (hb : Below W.heap.size W W') : ∀ (ts : List TypeId) (vs : List Value) (ds : List (DataW H)) (ps : List MemPlace), (∀ t ∈ ts, P.readableRec t = true ∧ t < P.types.size) →
    DataW.TrodAll enc P W 0 (fun _ => true) true ts vs ds ps → (∀ x ∈ ps, x.block < W.heap.size) → DataW.TrodAll enc P W' 0 (fun b => decide (b < W.heap.size)) true ts vs ds ps
  | [], [], [], _, _, h, _ => h
  | t :: ts, v :: vs, d :: ds, ps, ht, h, hlt => by
    obtain ⟨p, q, h0, hr, rfl⟩ := h
    exact ⟨p, q, Below.trod hl (ht t List.mem_cons_self).1 (ht t List.mem_cons_self).2 h0 hb (fun x hx => hlt x (List.mem_append_left _ hx)),
      trod_all_stays hl hb ts vs ds q (fun t h => ht t (List.mem_cons_of_mem _ h)) hr (fun x hx => hlt x (List.mem_append_right _ hx)), rfl⟩
  | [], [], _ :: _, _, _, h, _ => h.elim
  | [], _ :: _, _, _, _, h, _ => h.elim
  | _ :: _, [], _, _, _, h, _ => h.elim
  | _ :: _, _ :: _, [], _, _, h, _ => h.elim
end

/-- The row of a function that returns true and leaves its arguments as they are. -/
theorem row_lifted {H : Type} {enc : TypeId × Value → H} {C : Checked} {os : Os} {f : FuncId} {fn : Func} {s : ChangeSpec} {a : Assume} {conds : List PathCond} {fresh handsOn : Bool} (tb : TypeId)
    (own : ownKnob C.prog.godebug = none) (started : os.Started) (noInit : C.prog.inits.idxOf? f = none) (hfn : C.prog.funcs[f]? = some fn)
    (witness : ∃ (w : World) (tape : Tape) (i : Input), w.os = os ∧ (w.forCall tape i).Shaped C.prog ∧ i.vars = [] ∧ Input.okWide C.prog (w.forCall tape i) .any w.heap.size f i ∧
      s.pre6 enc C.prog fn conds false (w.forCall tape i).memory i.args ∧ a.holds C.prog (lone (Frame.enter C.prog f i.args .normal) [] (w.forCall tape i)))
    (hfine : fineB C.prog = true) (laid : laidOutB C.prog = true)
    (hps : fn.params.toList.all (fun t => C.prog.readableRec t && decide (t < C.prog.types.size)) = true)
    (hres : fn.resultTypes = #[tb]) (htb : C.prog.underlying tb = some .bool) (hv : s.vars = [])
    (hs : ∀ ds : List (DataW H), ds.length = fn.params.size → s.fn H ds = { results := [.lit (.bool true)], args := ds })
    (walk : ∀ yss : List (List D), yss.length = fn.params.size → (∀ (i : Nat) t ys, fn.params[i]? = some t → yss[i]? = some ys → HasT C.prog t ys) →
      ACalls C.prog f ((fn.params.toList.zip yss).map fun p => argV C.prog p.1 p.2) [] (fun r _ => r = .ret (.d (.v (.bool true))))) :
    ReturnsInHanded a C os f .any (s.pre6 enc C.prog fn conds false) (s.post enc C.prog fn false fresh handsOn false) := by
  refine returnsInHanded_of_change_sized own started noInit hfn witness ?_
  intro W base args ds gs before hval hW _ hwt _
  have hW' := hW
  obtain ⟨p, q, hA, hV, rfl, hfz, hnd⟩ := hW
  rw [hv] at hV
  obtain ⟨rfl, rfl⟩ := trodVars_none hV
  simp only [List.append_nil] at hwt hW' ⊢
  rw [show s.plain.varTypes C.prog = [] by simp [ChangeSpec.plain, DataSpec.varTypes, hv], List.append_nil] at hwt
  have hps' : ∀ t ∈ fn.params.toList, C.prog.readableRec t = true ∧ t < C.prog.types.size := fun t h => by
    have := List.all_eq_true.1 hps t h
    simpa using this
  obtain ⟨yss, y1, y2, y3, y4, y6, y5⟩ := open_all (base := base) hfine fn.params.toList args.toList ds p (fun t h => (hps' t h).2) hA (fun n hn => by simpa using List.all_eq_true.1 hwt n hn) (fun j t v h1 h2 => hval j t v (by simpa using h1) (by simpa using h2))
  have hc := walk yss (by simpa using y1) (fun i t ys h1 h2 => y2 i t ys (by simpa using h1) h2)
  refine (hc (⟨fun _ => False, []⟩ : FO) noneM W args ⟨by simp [keys], by simp [noneM], by simp [noneM], by simp [noneM], by simp, by simp⟩ ⟨by simp at y1 y3; simp [y1, y3], fun j x y hx hy => y5 j x y (by simpa using hx) hy⟩).mono fun e W' ⟨m', r, L', hr, he, hi, hst⟩ => ?_
  subst hr
  cases e with
  | returned v =>
    simp only [Ends] at he
    have hb := he.bool_inv
    subst hb
    have bel : Below W.heap.size W W' := ⟨hst.os, hst.tape, hst.output, hst.size, fun k hk => hst.block k hk (noneM_own k)⟩
    have hlt : ∀ x ∈ p, x.block < W.heap.size := fun x hx => hW'.lt x (by simpa using hx)
    refine ⟨_, rfl, ds, [], p ++ [], [], p, [], by simpa using hW', ?_, ?_, by simp [hv, DataW.TrodVars, List.append_nil, hs ds (by simpa using y4)], bel.frame _, fun h => by cases h⟩
    · rw [List.append_nil, hs ds (by simpa using y4), hres]
      exact trodAll_mk1 (shut_bool htb _)
    · rw [List.append_nil, hs ds (by simpa using y4)]
      exact trod_all_stays laid bel _ _ _ _ hps' hA hlt
  | panicked c => simp only [Ends] at he
  | _ => simp only [Ends] at he
/-- The same where what comes in is of bulk at most N. -/
theorem row_lifted_upto {H : Type} {enc : TypeId × Value → H} {C : Checked} {os : Os} {f : FuncId} {fn : Func} {s : OpenSpec} {k : (H : Type) → List (DataW H) → Bool} (hk : s.cond = some k) {F : Stop.Interp} {a : Assume} {conds : List PathCond} {fresh handsOn : Bool} (tb : TypeId)
    (own : ownKnob C.prog.godebug = none) (started : os.Started) (noInit : C.prog.inits.idxOf? f = none) (hfn : C.prog.funcs[f]? = some fn)
    (witness : ∃ (w : World) (tape : Tape) (i : Input), w.os = os ∧ (w.forCall tape i).Shaped C.prog ∧ i.vars = [] ∧ Input.okWide C.prog (w.forCall tape i) .any w.heap.size f i ∧
      s.pre6 enc C.prog fn conds false (w.forCall tape i).memory i.args ∧ a.holds C.prog (lone (Frame.enter C.prog f i.args .normal) [] (w.forCall tape i)))
    (hfine : fineB C.prog = true) (laid : laidOutB C.prog = true)
    (hps : fn.params.toList.all (fun t => C.prog.readableRec t && decide (t < C.prog.types.size)) = true)
    (hres : fn.resultTypes = #[tb]) (htb : C.prog.underlying tb = some .bool) (hv : s.vars = []) (hvb : s.bare.vars = []) (hva : (s.at F).vars = []) (N : Nat) (hN : ∀ ds : List (DataW H), k H ds = true → bulkAll ds ≤ N)
    (hs : ∀ ds : List (DataW H), ds.length = fn.params.size → (s.at F).fn H ds = { results := [.lit (.bool true)], args := ds })
    (walk : ∀ yss : List (List D), yss.length = fn.params.size → (∀ (i : Nat) t ys, fn.params[i]? = some t → yss[i]? = some ys → HasT C.prog t ys) → bDss yss ≤ N →
      ACalls C.prog f ((fn.params.toList.zip yss).map fun p => argV C.prog p.1 p.2) [] (fun r _ => r = .ret (.d (.v (.bool true))))) :
    ReturnsInHanded a C os f .any (s.pre6 enc C.prog fn conds false) ((s.at F).post enc C.prog fn false fresh handsOn false) := by
  refine returnsInHanded_of_cond_sized hk own started noInit hfn witness ?_
  intro W base args ds gs before hval hW _ hkk hwt _
  have hW' := hW
  obtain ⟨p, q, hA, hV, rfl, hfz, hnd⟩ := hW
  rw [hv] at hV
  obtain ⟨rfl, rfl⟩ := trodVars_none hV
  simp only [List.append_nil] at hwt hW' hkk ⊢
  rw [show s.bare.plain.varTypes C.prog = [] by simp [ChangeSpec.plain, DataSpec.varTypes, hvb], List.append_nil] at hwt
  have hps' : ∀ t ∈ fn.params.toList, C.prog.readableRec t = true ∧ t < C.prog.types.size := fun t h => by
    have := List.all_eq_true.1 hps t h
    simpa using this
  obtain ⟨yss, y1, y2, y3, y4, y6, y5⟩ := open_all (base := base) hfine fn.params.toList args.toList ds p (fun t h => (hps' t h).2) hA (fun n hn => by simpa using List.all_eq_true.1 hwt n hn) (fun j t v h1 h2 => hval j t v (by simpa using h1) (by simpa using h2))
  have hc := walk yss (by simpa using y1) (fun i t ys h1 h2 => y2 i t ys (by simpa using h1) h2) (Nat.le_trans y6 (hN _ hkk))
  refine (hc (⟨fun _ => False, []⟩ : FO) noneM W args ⟨by simp [keys], by simp [noneM], by simp [noneM], by simp [noneM], by simp, by simp⟩ ⟨by simp at y1 y3; simp [y1, y3], fun j x y hx hy => y5 j x y (by simpa using hx) hy⟩).mono fun e W' ⟨m', r, L', hr, he, hi, hst⟩ => ?_
  subst hr
  cases e with
  | returned v =>
    simp only [Ends] at he
    have hb := he.bool_inv
    subst hb
    have bel : Below W.heap.size W W' := ⟨hst.os, hst.tape, hst.output, hst.size, fun k hk => hst.block k hk (noneM_own k)⟩
    have hlt : ∀ x ∈ p, x.block < W.heap.size := fun x hx => hW'.lt x (by simpa using hx)
    refine ⟨_, rfl, ds, [], p ++ [], [], p, [], by rw [hva]; rw [hv] at hW'; simpa using hW', ?_, ?_, by simp [hva, DataW.TrodVars, List.append_nil, hs ds (by simpa using y4)], bel.frame _, fun h => by cases h⟩
    · rw [List.append_nil, hs ds (by simpa using y4), hres]
      exact trodAll_mk1 (shut_bool htb _)
    · rw [List.append_nil, hs ds (by simpa using y4)]
      exact trod_all_stays laid bel _ _ _ _ hps' hA hlt
  | panicked c => simp only [Ends] at he
  | _ => simp only [Ends] at he
end Go.Ab

/-
  The engine, part V: taking typed data apart.
-/
set_option linter.unusedSimpArgs false
set_option linter.unusedVariables false
namespace Go.Ab

inductive TK where
  | bool
  | int (k : IntKind)
  | str
  | sl (e : TypeId) (bytes : Nat)
  | st (ts : List TypeId)
  | arr (n : Nat) (e : TypeId)
  | oth

def tyK (P : Program) (t : TypeId) : TK := match P.underlying t with
  | some .bool => .bool
  | some (.int k) => .int k
  | some .string => .str
  | some (.slice e) => .sl e (P.bytesOf e)
  | some (.struct fs) => .st (fs.toList.map (·.type))
  | some (.array n e) => .arr n e
  | _ => .oth

section
variable {P : Program} {t : TypeId} {ys : List D}

theorem HasT.bool_inv (h : HasT P t ys) (hk : tyK P t = .bool) : ∃ b, ys = [.v (.bool b)] := by
  cases h with
  | bool b u => exact ⟨b, rfl⟩
  | int n u h => simp [tyK, u] at hk
  | str s u h => simp [tyK, u] at hk
  | sl xs u hx hl hw => simp [tyK, u] at hk
  | struct yss u hl h => simp [tyK, u] at hk
  | arr yss u hl h => simp [tyK, u] at hk
  | other y u =>
    unfold tyK at hk
    split at hk <;> first | (simp_all [otherT]; done) | cases hk

theorem HasT.int_inv {k : IntKind} (h : HasT P t ys) (hk : tyK P t = .int k) : ∃ n, ys = [.v (.int k n)] ∧ inR k n := by
  cases h with
  | bool b u => simp [tyK, u] at hk
  | int n u h => simp [tyK, u] at hk; subst hk; exact ⟨n, rfl, h⟩
  | str s u h => simp [tyK, u] at hk
  | sl xs u hx hl hw => simp [tyK, u] at hk
  | struct yss u hl h => simp [tyK, u] at hk
  | arr yss u hl h => simp [tyK, u] at hk
  | other y u =>
    unfold tyK at hk
    split at hk <;> first | (simp_all [otherT]; done) | cases hk

theorem HasT.str_inv (h : HasT P t ys) (hk : tyK P t = .str) : ∃ s, ys = [.v (.string s)] ∧ s.size ≤ 140737488351232 := by
  cases h with
  | bool b u => simp [tyK, u] at hk
  | int n u h => simp [tyK, u] at hk
  | str s u h => exact ⟨s, rfl, h⟩
  | sl xs u hx hl hw => simp [tyK, u] at hk
  | struct yss u hl h => simp [tyK, u] at hk
  | arr yss u hl h => simp [tyK, u] at hk
  | other y u =>
    unfold tyK at hk
    split at hk <;> first | (simp_all [otherT]; done) | cases hk

theorem HasT.sl_inv {e : TypeId} {b : Nat} (h : HasT P t ys) (hk : tyK P t = .sl e b) : ∃ xs, ys = [.sl xs] ∧ (∀ x ∈ xs, HasT P e x) ∧ xs.length ≤ 9223372036854775807 ∧ xs.length * b ≤ 140737488351232 := by
  cases h with
  | bool b u => simp [tyK, u] at hk
  | int n u h => simp [tyK, u] at hk
  | str s u h => simp [tyK, u] at hk
  | sl xs u hx hl hw =>
    simp only [tyK, u, TK.sl.injEq] at hk
    obtain ⟨rfl, rfl⟩ := hk
    exact ⟨xs, rfl, fun x hx' => by obtain ⟨i, hi⟩ := List.getElem?_of_mem hx'; exact hx i x hi, hl, hw⟩
  | struct yss u hl h => simp [tyK, u] at hk
  | arr yss u hl h => simp [tyK, u] at hk
  | other y u =>
    unfold tyK at hk
    split at hk <;> first | (simp_all [otherT]; done) | cases hk

def HasTs (P : Program) : List TypeId → List D → Prop
  | [], ys => ys = []
  | t :: ts, ys => ∃ a b, ys = a ++ b ∧ HasT P t a ∧ HasTs P ts b

theorem hasTs_of : ∀ (fs : List Field) (yss : List (List D)), yss.length = fs.length → (∀ (i : Nat) (f : Field) (ys : List D), fs[i]? = some f → yss[i]? = some ys → HasT P f.type ys) → HasTs P (fs.map (·.type)) yss.flatten
  | [], [], _, _ => rfl
  | f :: fs, y :: yss, hl, h => ⟨y, yss.flatten, by simp, h 0 f y rfl rfl, hasTs_of fs yss (by simpa using hl) (fun i f' ys h1 h2 => h (i + 1) f' ys (by simpa using h1) (by simpa using h2))⟩
  | [], _ :: _, hl, _ => by simp at hl
  | _ :: _, [], hl, _ => by simp at hl

theorem HasT.st_inv {ts : List TypeId} (h : HasT P t ys) (hk : tyK P t = .st ts) : HasTs P ts ys := by
  cases h with
  | bool b u => simp [tyK, u] at hk
  | int n u h => simp [tyK, u] at hk
  | str s u h => simp [tyK, u] at hk
  | sl xs u hx hl hw => simp [tyK, u] at hk
  | struct yss u hl h =>
    simp only [tyK, u, TK.st.injEq] at hk
    subst hk
    exact hasTs_of _ yss (by simpa using hl) (fun i f ys h1 h2 => h i f ys (by simpa using h1) h2)
  | arr yss u hl h => simp [tyK, u] at hk
  | other y u =>
    unfold tyK at hk
    split at hk <;> first | (simp_all [otherT]; done) | cases hk

theorem HasT.arr_inv {e : TypeId} {n : Nat} (h : HasT P t ys) (hk : tyK P t = .arr n e) : ∃ yss : List (List D), ys = yss.flatten ∧ yss.length = n ∧ ∀ y ∈ yss, HasT P e y := by
  cases h with
  | bool b u => simp [tyK, u] at hk
  | int n u h => simp [tyK, u] at hk
  | str s u h => simp [tyK, u] at hk
  | sl xs u hx hl hw => simp [tyK, u] at hk
  | struct yss u hl h => simp [tyK, u] at hk
  | arr yss u hl h =>
    simp only [tyK, u, TK.arr.injEq] at hk
    obtain ⟨rfl, rfl⟩ := hk
    exact ⟨yss, rfl, hl, fun y hy => by obtain ⟨i, hi⟩ := List.getElem?_of_mem hy; exact h i y hi⟩
  | other y u =>
    unfold tyK at hk
    split at hk <;> first | (simp_all [otherT]; done) | cases hk
end

/-- Elements of which each is something's encoding. -/
theorem map_of {α : Type} {f : α → List D} {p : α → Prop} : ∀ {xs : List (List D)}, (∀ x ∈ xs, ∃ a, x = f a ∧ p a) → ∃ l : List α, xs = l.map f ∧ ∀ a ∈ l, p a
  | [], _ => ⟨[], rfl, by simp⟩
  | x :: xs, h => by
    obtain ⟨a, rfl, ha⟩ := h x List.mem_cons_self
    obtain ⟨l, rfl, hl⟩ := map_of (fun y hy => h y (List.mem_cons_of_mem _ hy))
    exact ⟨a :: l, rfl, by simpa using ⟨ha, hl⟩⟩

theorem flat_of {α : Type} {f : α → D} {p : α → Prop} : ∀ {xs : List (List D)}, (∀ x ∈ xs, ∃ a, x = [f a] ∧ p a) → ∃ l : List α, xs.flatten = l.map f ∧ xs.length = l.length ∧ ∀ a ∈ l, p a
  | [], _ => ⟨[], rfl, rfl, by simp⟩
  | x :: xs, h => by
    obtain ⟨a, rfl, ha⟩ := h x List.mem_cons_self
    obtain ⟨l, h1, h2, hl⟩ := flat_of (fun y hy => h y (List.mem_cons_of_mem _ hy))
    exact ⟨a :: l, by simp [h1], by simp [h2], by simpa using ⟨ha, hl⟩⟩
end Go.Ab

/-
  Facts on the types of this seat's program, by program (gsatool.py).
-/
set_option linter.unusedSimpArgs false
set_option linter.unusedVariables false
namespace Go.Ab
@[simp] theorem tyA_3 : tyA Go.Proofs.Try.prog 3 = some (false, 1) := by kernel_rfl
@[simp] theorem tyStr_3 : tyStr Go.Proofs.Try.prog 3 = false := by kernel_rfl
@[simp] theorem tySrc_3 : tySrc Go.Proofs.Try.prog 3 = false := by kernel_rfl
@[simp] theorem tyZ0_3 : tyZ0 Go.Proofs.Try.prog 3 = [D.v (.int .i64 0)] := by kernel_rfl
@[simp] theorem tyBool_3 : tyBool Go.Proofs.Try.prog 3 = false := by kernel_rfl
@[simp] theorem tyInt_3 : tyInt Go.Proofs.Try.prog 3 = some .i64 := by kernel_rfl
@[simp] theorem tyZ_3 : tyZ Go.Proofs.Try.prog 3 = some [.int .i64 0] := by kernel_rfl
@[simp] theorem tyConc_3 : tyConc Go.Proofs.Try.prog 3 = true := by kernel_rfl
@[simp] theorem tyIfc_3 : tyIfc Go.Proofs.Try.prog 3 = false := by kernel_rfl
@[simp] theorem hasZ_3 : hasZ Go.Proofs.Try.prog 3 = true := by kernel_rfl
@[simp] theorem zeroV_3 : zeroV Go.Proofs.Try.prog 3 = V.d (D.v (.int .i64 0)) := by kernel_rfl
@[simp] theorem tyE_3 : tyE Go.Proofs.Try.prog 3 = none := by kernel_rfl
@[simp] theorem tyA_4 : tyA Go.Proofs.Try.prog 4 = some (false, 1) := by kernel_rfl
@[simp] theorem tyStr_4 : tyStr Go.Proofs.Try.prog 4 = false := by kernel_rfl
@[simp] theorem tySrc_4 : tySrc Go.Proofs.Try.prog 4 = false := by kernel_rfl
@[simp] theorem tyZ0_4 : tyZ0 Go.Proofs.Try.prog 4 = [D.v (.bool false)] := by kernel_rfl
@[simp] theorem tyBool_4 : tyBool Go.Proofs.Try.prog 4 = true := by kernel_rfl
@[simp] theorem tyInt_4 : tyInt Go.Proofs.Try.prog 4 = none := by kernel_rfl
@[simp] theorem tyZ_4 : tyZ Go.Proofs.Try.prog 4 = some [.bool false] := by kernel_rfl
@[simp] theorem tyConc_4 : tyConc Go.Proofs.Try.prog 4 = true := by kernel_rfl
@[simp] theorem tyIfc_4 : tyIfc Go.Proofs.Try.prog 4 = false := by kernel_rfl
@[simp] theorem hasZ_4 : hasZ Go.Proofs.Try.prog 4 = true := by kernel_rfl
@[simp] theorem zeroV_4 : zeroV Go.Proofs.Try.prog 4 = V.d (D.v (.bool false)) := by kernel_rfl
@[simp] theorem tyE_4 : tyE Go.Proofs.Try.prog 4 = none := by kernel_rfl
@[simp] theorem tyA_5 : tyA Go.Proofs.Try.prog 5 = some (false, 1) := by kernel_rfl
@[simp] theorem tyStr_5 : tyStr Go.Proofs.Try.prog 5 = false := by kernel_rfl
@[simp] theorem tySrc_5 : tySrc Go.Proofs.Try.prog 5 = false := by kernel_rfl
@[simp] theorem tyZ0_5 : tyZ0 Go.Proofs.Try.prog 5 = [D.v (.int .u8 0)] := by kernel_rfl
@[simp] theorem tyBool_5 : tyBool Go.Proofs.Try.prog 5 = false := by kernel_rfl
@[simp] theorem tyInt_5 : tyInt Go.Proofs.Try.prog 5 = some .u8 := by kernel_rfl
@[simp] theorem tyZ_5 : tyZ Go.Proofs.Try.prog 5 = some [.int .u8 0] := by kernel_rfl
@[simp] theorem tyConc_5 : tyConc Go.Proofs.Try.prog 5 = true := by kernel_rfl
@[simp] theorem tyIfc_5 : tyIfc Go.Proofs.Try.prog 5 = false := by kernel_rfl
@[simp] theorem hasZ_5 : hasZ Go.Proofs.Try.prog 5 = true := by kernel_rfl
@[simp] theorem zeroV_5 : zeroV Go.Proofs.Try.prog 5 = V.d (D.v (.int .u8 0)) := by kernel_rfl
@[simp] theorem tyE_5 : tyE Go.Proofs.Try.prog 5 = none := by kernel_rfl
@[simp] theorem tyA_9 : tyA Go.Proofs.Try.prog 9 = some (false, 1) := by kernel_rfl
@[simp] theorem tyStr_9 : tyStr Go.Proofs.Try.prog 9 = true := by kernel_rfl
@[simp] theorem tySrc_9 : tySrc Go.Proofs.Try.prog 9 = true := by kernel_rfl
@[simp] theorem tyZ0_9 : tyZ0 Go.Proofs.Try.prog 9 = [D.v (.string ⟨#[]⟩)] := by kernel_rfl
@[simp] theorem tyBool_9 : tyBool Go.Proofs.Try.prog 9 = false := by kernel_rfl
@[simp] theorem tyInt_9 : tyInt Go.Proofs.Try.prog 9 = none := by kernel_rfl
@[simp] theorem tyZ_9 : tyZ Go.Proofs.Try.prog 9 = some [.string ⟨#[]⟩] := by kernel_rfl
@[simp] theorem tyConc_9 : tyConc Go.Proofs.Try.prog 9 = true := by kernel_rfl
@[simp] theorem tyIfc_9 : tyIfc Go.Proofs.Try.prog 9 = false := by kernel_rfl
@[simp] theorem hasZ_9 : hasZ Go.Proofs.Try.prog 9 = true := by kernel_rfl
@[simp] theorem zeroV_9 : zeroV Go.Proofs.Try.prog 9 = V.d (D.v (.string ⟨#[]⟩)) := by kernel_rfl
@[simp] theorem tyE_9 : tyE Go.Proofs.Try.prog 9 = none := by kernel_rfl
@[simp] theorem tyA_22 : tyA Go.Proofs.Try.prog 22 = some (false, 1) := by kernel_rfl
@[simp] theorem tyStr_22 : tyStr Go.Proofs.Try.prog 22 = false := by kernel_rfl
@[simp] theorem tySrc_22 : tySrc Go.Proofs.Try.prog 22 = true := by kernel_rfl
@[simp] theorem tyZ0_22 : tyZ0 Go.Proofs.Try.prog 22 = [D.sl []] := by kernel_rfl
@[simp] theorem tyBool_22 : tyBool Go.Proofs.Try.prog 22 = false := by kernel_rfl
@[simp] theorem tyInt_22 : tyInt Go.Proofs.Try.prog 22 = none := by kernel_rfl
@[simp] theorem tyZ_22 : tyZ Go.Proofs.Try.prog 22 = some [.slice none 0 0] := by kernel_rfl
@[simp] theorem tyConc_22 : tyConc Go.Proofs.Try.prog 22 = true := by kernel_rfl
@[simp] theorem tyIfc_22 : tyIfc Go.Proofs.Try.prog 22 = false := by kernel_rfl
@[simp] theorem hasZ_22 : hasZ Go.Proofs.Try.prog 22 = true := by kernel_rfl
@[simp] theorem zeroV_22 : zeroV Go.Proofs.Try.prog 22 = V.d (D.v (.slice none 0 0)) := by kernel_rfl
@[simp] theorem tyE_22 : tyE Go.Proofs.Try.prog 22 = some (9, 1) := by kernel_rfl
@[simp] theorem tySl_22 : tySl Go.Proofs.Try.prog 22 = some (9, 1, 16, [.string ⟨#[]⟩]) := by kernel_rfl
@[simp] theorem tyArr_22 : tyArr Go.Proofs.Try.prog 22 = none := by kernel_rfl
@[simp] theorem tyA_23 : tyA Go.Proofs.Try.prog 23 = some (false, 1) := by kernel_rfl
@[simp] theorem tyStr_23 : tyStr Go.Proofs.Try.prog 23 = false := by kernel_rfl
@[simp] theorem tySrc_23 : tySrc Go.Proofs.Try.prog 23 = true := by kernel_rfl
@[simp] theorem tyZ0_23 : tyZ0 Go.Proofs.Try.prog 23 = [D.sl []] := by kernel_rfl
@[simp] theorem tyBool_23 : tyBool Go.Proofs.Try.prog 23 = false := by kernel_rfl
@[simp] theorem tyInt_23 : tyInt Go.Proofs.Try.prog 23 = none := by kernel_rfl
@[simp] theorem tyZ_23 : tyZ Go.Proofs.Try.prog 23 = some [.slice none 0 0] := by kernel_rfl
@[simp] theorem tyConc_23 : tyConc Go.Proofs.Try.prog 23 = true := by kernel_rfl
@[simp] theorem tyIfc_23 : tyIfc Go.Proofs.Try.prog 23 = false := by kernel_rfl
@[simp] theorem hasZ_23 : hasZ Go.Proofs.Try.prog 23 = true := by kernel_rfl
@[simp] theorem zeroV_23 : zeroV Go.Proofs.Try.prog 23 = V.d (D.v (.slice none 0 0)) := by kernel_rfl
@[simp] theorem tyE_23 : tyE Go.Proofs.Try.prog 23 = some (3, 1) := by kernel_rfl
@[simp] theorem tySl_23 : tySl Go.Proofs.Try.prog 23 = some (3, 1, 8, [.int .i64 0]) := by kernel_rfl
@[simp] theorem tyArr_23 : tyArr Go.Proofs.Try.prog 23 = none := by kernel_rfl
@[simp] theorem tyA_24 : tyA Go.Proofs.Try.prog 24 = some (false, 1) := by kernel_rfl
@[simp] theorem tyStr_24 : tyStr Go.Proofs.Try.prog 24 = false := by kernel_rfl
@[simp] theorem tySrc_24 : tySrc Go.Proofs.Try.prog 24 = true := by kernel_rfl
@[simp] theorem tyZ0_24 : tyZ0 Go.Proofs.Try.prog 24 = [D.sl []] := by kernel_rfl
@[simp] theorem tyBool_24 : tyBool Go.Proofs.Try.prog 24 = false := by kernel_rfl
@[simp] theorem tyInt_24 : tyInt Go.Proofs.Try.prog 24 = none := by kernel_rfl
@[simp] theorem tyZ_24 : tyZ Go.Proofs.Try.prog 24 = some [.slice none 0 0] := by kernel_rfl
@[simp] theorem tyConc_24 : tyConc Go.Proofs.Try.prog 24 = true := by kernel_rfl
@[simp] theorem tyIfc_24 : tyIfc Go.Proofs.Try.prog 24 = false := by kernel_rfl
@[simp] theorem hasZ_24 : hasZ Go.Proofs.Try.prog 24 = true := by kernel_rfl
@[simp] theorem zeroV_24 : zeroV Go.Proofs.Try.prog 24 = V.d (D.v (.slice none 0 0)) := by kernel_rfl
@[simp] theorem tyE_24 : tyE Go.Proofs.Try.prog 24 = some (38, 9) := by kernel_rfl
@[simp] theorem tySl_24 : tySl Go.Proofs.Try.prog 24 = some (38, 9, 136, [.int .i64 0, .int .i64 0, .int .i64 0, .int .i64 0, .bool false, .slice none 0 0, .slice none 0 0, .slice none 0 0, .slice none 0 0]) := by kernel_rfl
@[simp] theorem tyArr_24 : tyArr Go.Proofs.Try.prog 24 = none := by kernel_rfl
@[simp] theorem tyA_25 : tyA Go.Proofs.Try.prog 25 = some (false, 1) := by kernel_rfl
@[simp] theorem tyStr_25 : tyStr Go.Proofs.Try.prog 25 = false := by kernel_rfl
@[simp] theorem tySrc_25 : tySrc Go.Proofs.Try.prog 25 = true := by kernel_rfl
@[simp] theorem tyZ0_25 : tyZ0 Go.Proofs.Try.prog 25 = [D.sl []] := by kernel_rfl
@[simp] theorem tyBool_25 : tyBool Go.Proofs.Try.prog 25 = false := by kernel_rfl
@[simp] theorem tyInt_25 : tyInt Go.Proofs.Try.prog 25 = none := by kernel_rfl
@[simp] theorem tyZ_25 : tyZ Go.Proofs.Try.prog 25 = some [.slice none 0 0] := by kernel_rfl
@[simp] theorem tyConc_25 : tyConc Go.Proofs.Try.prog 25 = true := by kernel_rfl
@[simp] theorem tyIfc_25 : tyIfc Go.Proofs.Try.prog 25 = false := by kernel_rfl
@[simp] theorem hasZ_25 : hasZ Go.Proofs.Try.prog 25 = true := by kernel_rfl
@[simp] theorem zeroV_25 : zeroV Go.Proofs.Try.prog 25 = V.d (D.v (.slice none 0 0)) := by kernel_rfl
@[simp] theorem tyE_25 : tyE Go.Proofs.Try.prog 25 = some (115, 2) := by kernel_rfl
@[simp] theorem tySl_25 : tySl Go.Proofs.Try.prog 25 = some (115, 2, 32, [.bool false, .slice none 0 0]) := by kernel_rfl
@[simp] theorem tyArr_25 : tyArr Go.Proofs.Try.prog 25 = none := by kernel_rfl
@[simp] theorem tyA_26 : tyA Go.Proofs.Try.prog 26 = some (false, 1) := by kernel_rfl
@[simp] theorem tyStr_26 : tyStr Go.Proofs.Try.prog 26 = false := by kernel_rfl
@[simp] theorem tySrc_26 : tySrc Go.Proofs.Try.prog 26 = true := by kernel_rfl
@[simp] theorem tyZ0_26 : tyZ0 Go.Proofs.Try.prog 26 = [D.sl []] := by kernel_rfl
@[simp] theorem tyBool_26 : tyBool Go.Proofs.Try.prog 26 = false := by kernel_rfl
@[simp] theorem tyInt_26 : tyInt Go.Proofs.Try.prog 26 = none := by kernel_rfl
@[simp] theorem tyZ_26 : tyZ Go.Proofs.Try.prog 26 = some [.slice none 0 0] := by kernel_rfl
@[simp] theorem tyConc_26 : tyConc Go.Proofs.Try.prog 26 = true := by kernel_rfl
@[simp] theorem tyIfc_26 : tyIfc Go.Proofs.Try.prog 26 = false := by kernel_rfl
@[simp] theorem hasZ_26 : hasZ Go.Proofs.Try.prog 26 = true := by kernel_rfl
@[simp] theorem zeroV_26 : zeroV Go.Proofs.Try.prog 26 = V.d (D.v (.slice none 0 0)) := by kernel_rfl
@[simp] theorem tyE_26 : tyE Go.Proofs.Try.prog 26 = some (119, 6) := by kernel_rfl
@[simp] theorem tySl_26 : tySl Go.Proofs.Try.prog 26 = some (119, 6, 48, [.int .i64 0, .int .i64 0, .int .i64 0, .int .i64 0, .int .i64 0, .int .i64 0]) := by kernel_rfl
@[simp] theorem tyArr_26 : tyArr Go.Proofs.Try.prog 26 = none := by kernel_rfl
@[simp] theorem tyA_28 : tyA Go.Proofs.Try.prog 28 = some (true, 15) := by kernel_rfl
@[simp] theorem tyStr_28 : tyStr Go.Proofs.Try.prog 28 = false := by kernel_rfl
@[simp] theorem tySrc_28 : tySrc Go.Proofs.Try.prog 28 = false := by kernel_rfl
@[simp] theorem tyZ0_28 : tyZ0 Go.Proofs.Try.prog 28 = [D.v (.int .i64 0), D.v (.int .i64 0), D.v (.int .i64 0), D.v (.int .i64 0), D.sl [], D.v (.int .i64 0), D.sl [], D.sl [], D.sl [], D.sl [], D.sl [], D.sl [], D.sl [], D.sl [], D.sl []] := by kernel_rfl
@[simp] theorem tyBool_28 : tyBool Go.Proofs.Try.prog 28 = false := by kernel_rfl
@[simp] theorem tyInt_28 : tyInt Go.Proofs.Try.prog 28 = none := by kernel_rfl
@[simp] theorem tyZ_28 : tyZ Go.Proofs.Try.prog 28 = some [.int .i64 0, .int .i64 0, .int .i64 0, .int .i64 0, .slice none 0 0, .int .i64 0, .slice none 0 0, .slice none 0 0, .slice none 0 0, .slice none 0 0, .slice none 0 0, .slice none 0 0, .slice none 0 0, .slice none 0 0, .slice none 0 0] := by kernel_rfl
@[simp] theorem tyConc_28 : tyConc Go.Proofs.Try.prog 28 = true := by kernel_rfl
@[simp] theorem tyIfc_28 : tyIfc Go.Proofs.Try.prog 28 = false := by kernel_rfl
@[simp] theorem hasZ_28 : hasZ Go.Proofs.Try.prog 28 = true := by kernel_rfl
@[simp] theorem zeroV_28 : zeroV Go.Proofs.Try.prog 28 = .agg [V.d (D.v (.int .i64 0)), V.d (D.v (.int .i64 0)), V.d (D.v (.int .i64 0)), V.d (D.v (.int .i64 0)), V.d (D.v (.slice none 0 0)), V.d (D.v (.int .i64 0)), V.d (D.v (.slice none 0 0)), V.d (D.v (.slice none 0 0)), V.d (D.v (.slice none 0 0)), V.d (D.v (.slice none 0 0)), V.d (D.v (.slice none 0 0)), V.d (D.v (.slice none 0 0)), V.d (D.v (.slice none 0 0)), V.d (D.v (.slice none 0 0)), V.d (D.v (.slice none 0 0))] := by kernel_rfl
@[simp] theorem tyE_28 : tyE Go.Proofs.Try.prog 28 = none := by kernel_rfl
@[simp] theorem tyArr_28 : tyArr Go.Proofs.Try.prog 28 = none := by kernel_rfl
@[simp] theorem tyF_28_0 : tyF Go.Proofs.Try.prog 28 0 = some (0, false, 1) := by kernel_rfl
@[simp] theorem tyF_28_1 : tyF Go.Proofs.Try.prog 28 1 = some (1, false, 1) := by kernel_rfl
@[simp] theorem tyF_28_2 : tyF Go.Proofs.Try.prog 28 2 = some (2, false, 1) := by kernel_rfl
@[simp] theorem tyF_28_3 : tyF Go.Proofs.Try.prog 28 3 = some (3, false, 1) := by kernel_rfl
@[simp] theorem tyF_28_4 : tyF Go.Proofs.Try.prog 28 4 = some (4, false, 1) := by kernel_rfl
@[simp] theorem tyF_28_5 : tyF Go.Proofs.Try.prog 28 5 = some (5, false, 1) := by kernel_rfl
@[simp] theorem tyF_28_6 : tyF Go.Proofs.Try.prog 28 6 = some (6, false, 1) := by kernel_rfl
@[simp] theorem tyF_28_7 : tyF Go.Proofs.Try.prog 28 7 = some (7, false, 1) := by kernel_rfl
@[simp] theorem tyF_28_8 : tyF Go.Proofs.Try.prog 28 8 = some (8, false, 1) := by kernel_rfl
@[simp] theorem tyF_28_9 : tyF Go.Proofs.Try.prog 28 9 = some (9, false, 1) := by kernel_rfl
@[simp] theorem tyF_28_10 : tyF Go.Proofs.Try.prog 28 10 = some (10, false, 1) := by kernel_rfl
@[simp] theorem tyF_28_11 : tyF Go.Proofs.Try.prog 28 11 = some (11, false, 1) := by kernel_rfl
@[simp] theorem tyF_28_12 : tyF Go.Proofs.Try.prog 28 12 = some (12, false, 1) := by kernel_rfl
@[simp] theorem tyF_28_13 : tyF Go.Proofs.Try.prog 28 13 = some (13, false, 1) := by kernel_rfl
@[simp] theorem tyF_28_14 : tyF Go.Proofs.Try.prog 28 14 = some (14, false, 1) := by kernel_rfl
@[simp] theorem tyB_28 : tyB Go.Proofs.Try.prog 28 = some ([.int .i64 0, .int .i64 0, .int .i64 0, .int .i64 0, .slice none 0 0, .int .i64 0, .slice none 0 0, .slice none 0 0, .slice none 0 0, .slice none 0 0, .slice none 0 0, .slice none 0 0, .slice none 0 0, .slice none 0 0, .slice none 0 0], [(0, 1), (1, 1), (2, 1), (3, 1), (4, 1), (5, 1), (6, 1), (7, 1), (8, 1), (9, 1), (10, 1), (11, 1), (12, 1), (13, 1), (14, 1)]) := by kernel_rfl
@[simp] theorem tyA_36 : tyA Go.Proofs.Try.prog 36 = some (false, 1) := by kernel_rfl
@[simp] theorem tyStr_36 : tyStr Go.Proofs.Try.prog 36 = false := by kernel_rfl
@[simp] theorem tySrc_36 : tySrc Go.Proofs.Try.prog 36 = true := by kernel_rfl
@[simp] theorem tyZ0_36 : tyZ0 Go.Proofs.Try.prog 36 = [D.sl []] := by kernel_rfl
@[simp] theorem tyBool_36 : tyBool Go.Proofs.Try.prog 36 = false := by kernel_rfl
@[simp] theorem tyInt_36 : tyInt Go.Proofs.Try.prog 36 = none := by kernel_rfl
@[simp] theorem tyZ_36 : tyZ Go.Proofs.Try.prog 36 = some [.slice none 0 0] := by kernel_rfl
@[simp] theorem tyConc_36 : tyConc Go.Proofs.Try.prog 36 = true := by kernel_rfl
@[simp] theorem tyIfc_36 : tyIfc Go.Proofs.Try.prog 36 = false := by kernel_rfl
@[simp] theorem hasZ_36 : hasZ Go.Proofs.Try.prog 36 = true := by kernel_rfl
@[simp] theorem zeroV_36 : zeroV Go.Proofs.Try.prog 36 = V.d (D.v (.slice none 0 0)) := by kernel_rfl
@[simp] theorem tyE_36 : tyE Go.Proofs.Try.prog 36 = some (40, 4) := by kernel_rfl
@[simp] theorem tySl_36 : tySl Go.Proofs.Try.prog 36 = some (40, 4, 32, [.int .i64 0, .int .i64 0, .int .i64 0, .int .i64 0]) := by kernel_rfl
@[simp] theorem tyArr_36 : tyArr Go.Proofs.Try.prog 36 = none := by kernel_rfl
@[simp] theorem tyA_38 : tyA Go.Proofs.Try.prog 38 = some (true, 9) := by kernel_rfl
@[simp] theorem tyStr_38 : tyStr Go.Proofs.Try.prog 38 = false := by kernel_rfl
@[simp] theorem tySrc_38 : tySrc Go.Proofs.Try.prog 38 = false := by kernel_rfl
@[simp] theorem tyZ0_38 : tyZ0 Go.Proofs.Try.prog 38 = [D.v (.int .i64 0), D.v (.int .i64 0), D.v (.int .i64 0), D.v (.int .i64 0), D.v (.bool false), D.sl [], D.sl [], D.sl [], D.sl []] := by kernel_rfl
@[simp] theorem tyBool_38 : tyBool Go.Proofs.Try.prog 38 = false := by kernel_rfl
@[simp] theorem tyInt_38 : tyInt Go.Proofs.Try.prog 38 = none := by kernel_rfl
@[simp] theorem tyZ_38 : tyZ Go.Proofs.Try.prog 38 = some [.int .i64 0, .int .i64 0, .int .i64 0, .int .i64 0, .bool false, .slice none 0 0, .slice none 0 0, .slice none 0 0, .slice none 0 0] := by kernel_rfl
@[simp] theorem tyConc_38 : tyConc Go.Proofs.Try.prog 38 = true := by kernel_rfl
@[simp] theorem tyIfc_38 : tyIfc Go.Proofs.Try.prog 38 = false := by kernel_rfl
@[simp] theorem hasZ_38 : hasZ Go.Proofs.Try.prog 38 = true := by kernel_rfl
@[simp] theorem zeroV_38 : zeroV Go.Proofs.Try.prog 38 = .agg [V.d (D.v (.int .i64 0)), V.d (D.v (.int .i64 0)), V.d (D.v (.int .i64 0)), V.d (D.v (.int .i64 0)), V.d (D.v (.bool false)), V.d (D.v (.slice none 0 0)), V.d (D.v (.slice none 0 0)), V.d (D.v (.slice none 0 0)), V.d (D.v (.slice none 0 0))] := by kernel_rfl
@[simp] theorem tyE_38 : tyE Go.Proofs.Try.prog 38 = none := by kernel_rfl
@[simp] theorem tyArr_38 : tyArr Go.Proofs.Try.prog 38 = none := by kernel_rfl
@[simp] theorem tyF_38_0 : tyF Go.Proofs.Try.prog 38 0 = some (0, false, 1) := by kernel_rfl
@[simp] theorem tyF_38_1 : tyF Go.Proofs.Try.prog 38 1 = some (1, false, 1) := by kernel_rfl
@[simp] theorem tyF_38_2 : tyF Go.Proofs.Try.prog 38 2 = some (2, false, 1) := by kernel_rfl
@[simp] theorem tyF_38_3 : tyF Go.Proofs.Try.prog 38 3 = some (3, false, 1) := by kernel_rfl
@[simp] theorem tyF_38_4 : tyF Go.Proofs.Try.prog 38 4 = some (4, false, 1) := by kernel_rfl
@[simp] theorem tyF_38_5 : tyF Go.Proofs.Try.prog 38 5 = some (5, false, 1) := by kernel_rfl
@[simp] theorem tyF_38_6 : tyF Go.Proofs.Try.prog 38 6 = some (6, false, 1) := by kernel_rfl
@[simp] theorem tyF_38_7 : tyF Go.Proofs.Try.prog 38 7 = some (7, false, 1) := by kernel_rfl
@[simp] theorem tyF_38_8 : tyF Go.Proofs.Try.prog 38 8 = some (8, false, 1) := by kernel_rfl
@[simp] theorem tyB_38 : tyB Go.Proofs.Try.prog 38 = some ([.int .i64 0, .int .i64 0, .int .i64 0, .int .i64 0, .bool false, .slice none 0 0, .slice none 0 0, .slice none 0 0, .slice none 0 0], [(0, 1), (1, 1), (2, 1), (3, 1), (4, 1), (5, 1), (6, 1), (7, 1), (8, 1)]) := by kernel_rfl
@[simp] theorem tyA_40 : tyA Go.Proofs.Try.prog 40 = some (true, 4) := by kernel_rfl
@[simp] theorem tyStr_40 : tyStr Go.Proofs.Try.prog 40 = false := by kernel_rfl
@[simp] theorem tySrc_40 : tySrc Go.Proofs.Try.prog 40 = false := by kernel_rfl
@[simp] theorem tyZ0_40 : tyZ0 Go.Proofs.Try.prog 40 = [D.v (.int .i64 0), D.v (.int .i64 0), D.v (.int .i64 0), D.v (.int .i64 0)] := by kernel_rfl
@[simp] theorem tyBool_40 : tyBool Go.Proofs.Try.prog 40 = false := by kernel_rfl
@[simp] theorem tyInt_40 : tyInt Go.Proofs.Try.prog 40 = none := by kernel_rfl
@[simp] theorem tyZ_40 : tyZ Go.Proofs.Try.prog 40 = some [.int .i64 0, .int .i64 0, .int .i64 0, .int .i64 0] := by kernel_rfl
@[simp] theorem tyConc_40 : tyConc Go.Proofs.Try.prog 40 = true := by kernel_rfl
@[simp] theorem tyIfc_40 : tyIfc Go.Proofs.Try.prog 40 = false := by kernel_rfl
@[simp] theorem hasZ_40 : hasZ Go.Proofs.Try.prog 40 = true := by kernel_rfl
@[simp] theorem zeroV_40 : zeroV Go.Proofs.Try.prog 40 = .agg [V.d (D.v (.int .i64 0)), V.d (D.v (.int .i64 0)), V.d (D.v (.int .i64 0)), V.d (D.v (.int .i64 0))] := by kernel_rfl
@[simp] theorem tyE_40 : tyE Go.Proofs.Try.prog 40 = none := by kernel_rfl
@[simp] theorem tyEq_40 : tyEq Go.Proofs.Try.prog 40 = some [.i .i64, .i .i64, .i .i64, .i .i64] := by kernel_rfl
@[simp] theorem tyArr_40 : tyArr Go.Proofs.Try.prog 40 = none := by kernel_rfl
@[simp] theorem tyF_40_0 : tyF Go.Proofs.Try.prog 40 0 = some (0, false, 1) := by kernel_rfl
@[simp] theorem tyF_40_1 : tyF Go.Proofs.Try.prog 40 1 = some (1, false, 1) := by kernel_rfl
@[simp] theorem tyF_40_2 : tyF Go.Proofs.Try.prog 40 2 = some (2, false, 1) := by kernel_rfl
@[simp] theorem tyF_40_3 : tyF Go.Proofs.Try.prog 40 3 = some (3, false, 1) := by kernel_rfl
@[simp] theorem tyB_40 : tyB Go.Proofs.Try.prog 40 = some ([.int .i64 0, .int .i64 0, .int .i64 0, .int .i64 0], [(0, 1), (1, 1), (2, 1), (3, 1)]) := by kernel_rfl
@[simp] theorem tyA_42 : tyA Go.Proofs.Try.prog 42 = some (false, 1) := by kernel_rfl
@[simp] theorem tyStr_42 : tyStr Go.Proofs.Try.prog 42 = false := by kernel_rfl
@[simp] theorem tySrc_42 : tySrc Go.Proofs.Try.prog 42 = true := by kernel_rfl
@[simp] theorem tyZ0_42 : tyZ0 Go.Proofs.Try.prog 42 = [D.sl []] := by kernel_rfl
@[simp] theorem tyBool_42 : tyBool Go.Proofs.Try.prog 42 = false := by kernel_rfl
@[simp] theorem tyInt_42 : tyInt Go.Proofs.Try.prog 42 = none := by kernel_rfl
@[simp] theorem tyZ_42 : tyZ Go.Proofs.Try.prog 42 = some [.slice none 0 0] := by kernel_rfl
@[simp] theorem tyConc_42 : tyConc Go.Proofs.Try.prog 42 = true := by kernel_rfl
@[simp] theorem tyIfc_42 : tyIfc Go.Proofs.Try.prog 42 = false := by kernel_rfl
@[simp] theorem hasZ_42 : hasZ Go.Proofs.Try.prog 42 = true := by kernel_rfl
@[simp] theorem zeroV_42 : zeroV Go.Proofs.Try.prog 42 = V.d (D.v (.slice none 0 0)) := by kernel_rfl
@[simp] theorem tyE_42 : tyE Go.Proofs.Try.prog 42 = some (49, 7) := by kernel_rfl
@[simp] theorem tySl_42 : tySl Go.Proofs.Try.prog 42 = some (49, 7, 56, [.int .i64 0, .int .i64 0, .int .i64 0, .int .i64 0, .int .i64 0, .int .i64 0, .int .i64 0]) := by kernel_rfl
@[simp] theorem tyArr_42 : tyArr Go.Proofs.Try.prog 42 = none := by kernel_rfl
@[simp] theorem tyA_47 : tyA Go.Proofs.Try.prog 47 = some (true, 5) := by kernel_rfl
@[simp] theorem tyStr_47 : tyStr Go.Proofs.Try.prog 47 = false := by kernel_rfl
@[simp] theorem tySrc_47 : tySrc Go.Proofs.Try.prog 47 = false := by kernel_rfl
@[simp] theorem tyZ0_47 : tyZ0 Go.Proofs.Try.prog 47 = [D.v (.int .i64 0), D.v (.int .i64 0), D.v (.int .i64 0), D.v (.int .i64 0), D.v (.int .i64 0)] := by kernel_rfl
@[simp] theorem tyBool_47 : tyBool Go.Proofs.Try.prog 47 = false := by kernel_rfl
@[simp] theorem tyInt_47 : tyInt Go.Proofs.Try.prog 47 = none := by kernel_rfl
@[simp] theorem tyZ_47 : tyZ Go.Proofs.Try.prog 47 = some [.int .i64 0, .int .i64 0, .int .i64 0, .int .i64 0, .int .i64 0] := by kernel_rfl
@[simp] theorem tyConc_47 : tyConc Go.Proofs.Try.prog 47 = true := by kernel_rfl
@[simp] theorem tyIfc_47 : tyIfc Go.Proofs.Try.prog 47 = false := by kernel_rfl
@[simp] theorem hasZ_47 : hasZ Go.Proofs.Try.prog 47 = true := by kernel_rfl
@[simp] theorem zeroV_47 : zeroV Go.Proofs.Try.prog 47 = .agg [V.d (D.v (.int .i64 0)), V.d (D.v (.int .i64 0)), V.d (D.v (.int .i64 0)), V.d (D.v (.int .i64 0)), V.d (D.v (.int .i64 0))] := by kernel_rfl
@[simp] theorem tyE_47 : tyE Go.Proofs.Try.prog 47 = none := by kernel_rfl
@[simp] theorem tyEq_47 : tyEq Go.Proofs.Try.prog 47 = some [.i .i64, .i .i64, .i .i64, .i .i64, .i .i64] := by kernel_rfl
@[simp] theorem tyArr_47 : tyArr Go.Proofs.Try.prog 47 = none := by kernel_rfl
@[simp] theorem tyF_47_0 : tyF Go.Proofs.Try.prog 47 0 = some (0, false, 1) := by kernel_rfl
@[simp] theorem tyF_47_1 : tyF Go.Proofs.Try.prog 47 1 = some (1, false, 1) := by kernel_rfl
@[simp] theorem tyF_47_2 : tyF Go.Proofs.Try.prog 47 2 = some (2, false, 1) := by kernel_rfl
@[simp] theorem tyF_47_3 : tyF Go.Proofs.Try.prog 47 3 = some (3, false, 1) := by kernel_rfl
@[simp] theorem tyF_47_4 : tyF Go.Proofs.Try.prog 47 4 = some (4, false, 1) := by kernel_rfl
@[simp] theorem tyB_47 : tyB Go.Proofs.Try.prog 47 = some ([.int .i64 0, .int .i64 0, .int .i64 0, .int .i64 0, .int .i64 0], [(0, 1), (1, 1), (2, 1), (3, 1), (4, 1)]) := by kernel_rfl
@[simp] theorem tyA_49 : tyA Go.Proofs.Try.prog 49 = some (true, 7) := by kernel_rfl
@[simp] theorem tyStr_49 : tyStr Go.Proofs.Try.prog 49 = false := by kernel_rfl
@[simp] theorem tySrc_49 : tySrc Go.Proofs.Try.prog 49 = false := by kernel_rfl
@[simp] theorem tyZ0_49 : tyZ0 Go.Proofs.Try.prog 49 = [D.v (.int .i64 0), D.v (.int .i64 0), D.v (.int .i64 0), D.v (.int .i64 0), D.v (.int .i64 0), D.v (.int .i64 0), D.v (.int .i64 0)] := by kernel_rfl
@[simp] theorem tyBool_49 : tyBool Go.Proofs.Try.prog 49 = false := by kernel_rfl
@[simp] theorem tyInt_49 : tyInt Go.Proofs.Try.prog 49 = none := by kernel_rfl
@[simp] theorem tyZ_49 : tyZ Go.Proofs.Try.prog 49 = some [.int .i64 0, .int .i64 0, .int .i64 0, .int .i64 0, .int .i64 0, .int .i64 0, .int .i64 0] := by kernel_rfl
@[simp] theorem tyConc_49 : tyConc Go.Proofs.Try.prog 49 = true := by kernel_rfl
@[simp] theorem tyIfc_49 : tyIfc Go.Proofs.Try.prog 49 = false := by kernel_rfl
@[simp] theorem hasZ_49 : hasZ Go.Proofs.Try.prog 49 = true := by kernel_rfl
@[simp] theorem zeroV_49 : zeroV Go.Proofs.Try.prog 49 = .agg [V.d (D.v (.int .i64 0)), V.d (D.v (.int .i64 0)), V.d (D.v (.int .i64 0)), V.d (D.v (.int .i64 0)), V.d (D.v (.int .i64 0)), V.d (D.v (.int .i64 0)), V.d (D.v (.int .i64 0))] := by kernel_rfl
@[simp] theorem tyE_49 : tyE Go.Proofs.Try.prog 49 = none := by kernel_rfl
@[simp] theorem tyEq_49 : tyEq Go.Proofs.Try.prog 49 = some [.i .i64, .i .i64, .i .i64, .i .i64, .i .i64, .i .i64, .i .i64] := by kernel_rfl
@[simp] theorem tyArr_49 : tyArr Go.Proofs.Try.prog 49 = none := by kernel_rfl
@[simp] theorem tyF_49_0 : tyF Go.Proofs.Try.prog 49 0 = some (0, false, 1) := by kernel_rfl
@[simp] theorem tyF_49_1 : tyF Go.Proofs.Try.prog 49 1 = some (1, false, 1) := by kernel_rfl
@[simp] theorem tyF_49_2 : tyF Go.Proofs.Try.prog 49 2 = some (2, true, 5) := by kernel_rfl
@[simp] theorem tyB_49 : tyB Go.Proofs.Try.prog 49 = some ([.int .i64 0, .int .i64 0, .int .i64 0, .int .i64 0, .int .i64 0, .int .i64 0, .int .i64 0], [(0, 1), (1, 1), (2, 5)]) := by kernel_rfl
@[simp] theorem tyA_50 : tyA Go.Proofs.Try.prog 50 = some (false, 1) := by kernel_rfl
@[simp] theorem tyStr_50 : tyStr Go.Proofs.Try.prog 50 = false := by kernel_rfl
@[simp] theorem tySrc_50 : tySrc Go.Proofs.Try.prog 50 = false := by kernel_rfl
@[simp] theorem tyZ0_50 : tyZ0 Go.Proofs.Try.prog 50 = [D.v (.nilFunc)] := by kernel_rfl
@[simp] theorem tyBool_50 : tyBool Go.Proofs.Try.prog 50 = false := by kernel_rfl
@[simp] theorem tyInt_50 : tyInt Go.Proofs.Try.prog 50 = none := by kernel_rfl
@[simp] theorem tyZ_50 : tyZ Go.Proofs.Try.prog 50 = some [.nilFunc] := by kernel_rfl
@[simp] theorem tyConc_50 : tyConc Go.Proofs.Try.prog 50 = true := by kernel_rfl
@[simp] theorem tyIfc_50 : tyIfc Go.Proofs.Try.prog 50 = false := by kernel_rfl
@[simp] theorem hasZ_50 : hasZ Go.Proofs.Try.prog 50 = true := by kernel_rfl
@[simp] theorem zeroV_50 : zeroV Go.Proofs.Try.prog 50 = V.d (D.v (.nilFunc)) := by kernel_rfl
@[simp] theorem tyE_50 : tyE Go.Proofs.Try.prog 50 = none := by kernel_rfl
@[simp] theorem tyA_51 : tyA Go.Proofs.Try.prog 51 = some (false, 1) := by kernel_rfl
@[simp] theorem tyStr_51 : tyStr Go.Proofs.Try.prog 51 = false := by kernel_rfl
@[simp] theorem tySrc_51 : tySrc Go.Proofs.Try.prog 51 = true := by kernel_rfl
@[simp] theorem tyZ0_51 : tyZ0 Go.Proofs.Try.prog 51 = [D.sl []] := by kernel_rfl
@[simp] theorem tyBool_51 : tyBool Go.Proofs.Try.prog 51 = false := by kernel_rfl
@[simp] theorem tyInt_51 : tyInt Go.Proofs.Try.prog 51 = none := by kernel_rfl
@[simp] theorem tyZ_51 : tyZ Go.Proofs.Try.prog 51 = some [.slice none 0 0] := by kernel_rfl
@[simp] theorem tyConc_51 : tyConc Go.Proofs.Try.prog 51 = true := by kernel_rfl
@[simp] theorem tyIfc_51 : tyIfc Go.Proofs.Try.prog 51 = false := by kernel_rfl
@[simp] theorem hasZ_51 : hasZ Go.Proofs.Try.prog 51 = true := by kernel_rfl
@[simp] theorem zeroV_51 : zeroV Go.Proofs.Try.prog 51 = V.d (D.v (.slice none 0 0)) := by kernel_rfl
@[simp] theorem tyE_51 : tyE Go.Proofs.Try.prog 51 = some (53, 5) := by kernel_rfl
@[simp] theorem tySl_51 : tySl Go.Proofs.Try.prog 51 = some (53, 5, 64, [.int .i64 0, .int .i64 0, .int .i64 0, .string ⟨#[]⟩, .slice none 0 0]) := by kernel_rfl
@[simp] theorem tyArr_51 : tyArr Go.Proofs.Try.prog 51 = none := by kernel_rfl
@[simp] theorem tyA_53 : tyA Go.Proofs.Try.prog 53 = some (true, 5) := by kernel_rfl
@[simp] theorem tyStr_53 : tyStr Go.Proofs.Try.prog 53 = false := by kernel_rfl
@[simp] theorem tySrc_53 : tySrc Go.Proofs.Try.prog 53 = false := by kernel_rfl
@[simp] theorem tyZ0_53 : tyZ0 Go.Proofs.Try.prog 53 = [D.v (.int .i64 0), D.v (.int .i64 0), D.v (.int .i64 0), D.v (.string ⟨#[]⟩), D.sl []] := by kernel_rfl
@[simp] theorem tyBool_53 : tyBool Go.Proofs.Try.prog 53 = false := by kernel_rfl
@[simp] theorem tyInt_53 : tyInt Go.Proofs.Try.prog 53 = none := by kernel_rfl
@[simp] theorem tyZ_53 : tyZ Go.Proofs.Try.prog 53 = some [.int .i64 0, .int .i64 0, .int .i64 0, .string ⟨#[]⟩, .slice none 0 0] := by kernel_rfl
@[simp] theorem tyConc_53 : tyConc Go.Proofs.Try.prog 53 = true := by kernel_rfl
@[simp] theorem tyIfc_53 : tyIfc Go.Proofs.Try.prog 53 = false := by kernel_rfl
@[simp] theorem hasZ_53 : hasZ Go.Proofs.Try.prog 53 = true := by kernel_rfl
@[simp] theorem zeroV_53 : zeroV Go.Proofs.Try.prog 53 = .agg [V.d (D.v (.int .i64 0)), V.d (D.v (.int .i64 0)), V.d (D.v (.int .i64 0)), V.d (D.v (.string ⟨#[]⟩)), V.d (D.v (.slice none 0 0))] := by kernel_rfl
@[simp] theorem tyE_53 : tyE Go.Proofs.Try.prog 53 = none := by kernel_rfl
@[simp] theorem tyArr_53 : tyArr Go.Proofs.Try.prog 53 = none := by kernel_rfl
@[simp] theorem tyF_53_0 : tyF Go.Proofs.Try.prog 53 0 = some (0, false, 1) := by kernel_rfl
@[simp] theorem tyF_53_1 : tyF Go.Proofs.Try.prog 53 1 = some (1, false, 1) := by kernel_rfl
@[simp] theorem tyF_53_2 : tyF Go.Proofs.Try.prog 53 2 = some (2, false, 1) := by kernel_rfl
@[simp] theorem tyF_53_3 : tyF Go.Proofs.Try.prog 53 3 = some (3, false, 1) := by kernel_rfl
@[simp] theorem tyF_53_4 : tyF Go.Proofs.Try.prog 53 4 = some (4, false, 1) := by kernel_rfl
@[simp] theorem tyB_53 : tyB Go.Proofs.Try.prog 53 = some ([.int .i64 0, .int .i64 0, .int .i64 0, .string ⟨#[]⟩, .slice none 0 0], [(0, 1), (1, 1), (2, 1), (3, 1), (4, 1)]) := by kernel_rfl
@[simp] theorem tyA_57 : tyA Go.Proofs.Try.prog 57 = some (false, 1) := by kernel_rfl
@[simp] theorem tyStr_57 : tyStr Go.Proofs.Try.prog 57 = false := by kernel_rfl
@[simp] theorem tySrc_57 : tySrc Go.Proofs.Try.prog 57 = true := by kernel_rfl
@[simp] theorem tyZ0_57 : tyZ0 Go.Proofs.Try.prog 57 = [D.sl []] := by kernel_rfl
@[simp] theorem tyBool_57 : tyBool Go.Proofs.Try.prog 57 = false := by kernel_rfl
@[simp] theorem tyInt_57 : tyInt Go.Proofs.Try.prog 57 = none := by kernel_rfl
@[simp] theorem tyZ_57 : tyZ Go.Proofs.Try.prog 57 = some [.slice none 0 0] := by kernel_rfl
@[simp] theorem tyConc_57 : tyConc Go.Proofs.Try.prog 57 = true := by kernel_rfl
@[simp] theorem tyIfc_57 : tyIfc Go.Proofs.Try.prog 57 = false := by kernel_rfl
@[simp] theorem hasZ_57 : hasZ Go.Proofs.Try.prog 57 = true := by kernel_rfl
@[simp] theorem zeroV_57 : zeroV Go.Proofs.Try.prog 57 = V.d (D.v (.slice none 0 0)) := by kernel_rfl
@[simp] theorem tyE_57 : tyE Go.Proofs.Try.prog 57 = some (64, 2) := by kernel_rfl
@[simp] theorem tySl_57 : tySl Go.Proofs.Try.prog 57 = some (64, 2, 16, [.int .i64 0, .int .i64 0]) := by kernel_rfl
@[simp] theorem tyArr_57 : tyArr Go.Proofs.Try.prog 57 = none := by kernel_rfl
@[simp] theorem tyA_59 : tyA Go.Proofs.Try.prog 59 = some (false, 1) := by kernel_rfl
@[simp] theorem tyStr_59 : tyStr Go.Proofs.Try.prog 59 = false := by kernel_rfl
@[simp] theorem tySrc_59 : tySrc Go.Proofs.Try.prog 59 = true := by kernel_rfl
@[simp] theorem tyZ0_59 : tyZ0 Go.Proofs.Try.prog 59 = [D.sl []] := by kernel_rfl
@[simp] theorem tyBool_59 : tyBool Go.Proofs.Try.prog 59 = false := by kernel_rfl
@[simp] theorem tyInt_59 : tyInt Go.Proofs.Try.prog 59 = none := by kernel_rfl
@[simp] theorem tyZ_59 : tyZ Go.Proofs.Try.prog 59 = some [.slice none 0 0] := by kernel_rfl
@[simp] theorem tyConc_59 : tyConc Go.Proofs.Try.prog 59 = true := by kernel_rfl
@[simp] theorem tyIfc_59 : tyIfc Go.Proofs.Try.prog 59 = false := by kernel_rfl
@[simp] theorem hasZ_59 : hasZ Go.Proofs.Try.prog 59 = true := by kernel_rfl
@[simp] theorem zeroV_59 : zeroV Go.Proofs.Try.prog 59 = V.d (D.v (.slice none 0 0)) := by kernel_rfl
@[simp] theorem tyE_59 : tyE Go.Proofs.Try.prog 59 = some (94, 6) := by kernel_rfl
@[simp] theorem tySl_59 : tySl Go.Proofs.Try.prog 59 = some (94, 6, 104, [.int .i64 0, .int .i64 0, .string ⟨#[]⟩, .slice none 0 0, .slice none 0 0, .slice none 0 0]) := by kernel_rfl
@[simp] theorem tyArr_59 : tyArr Go.Proofs.Try.prog 59 = none := by kernel_rfl
@[simp] theorem tyA_64 : tyA Go.Proofs.Try.prog 64 = some (true, 2) := by kernel_rfl
@[simp] theorem tyStr_64 : tyStr Go.Proofs.Try.prog 64 = false := by kernel_rfl
@[simp] theorem tySrc_64 : tySrc Go.Proofs.Try.prog 64 = false := by kernel_rfl
@[simp] theorem tyZ0_64 : tyZ0 Go.Proofs.Try.prog 64 = [D.v (.int .i64 0), D.v (.int .i64 0)] := by kernel_rfl
@[simp] theorem tyBool_64 : tyBool Go.Proofs.Try.prog 64 = false := by kernel_rfl
@[simp] theorem tyInt_64 : tyInt Go.Proofs.Try.prog 64 = none := by kernel_rfl
@[simp] theorem tyZ_64 : tyZ Go.Proofs.Try.prog 64 = some [.int .i64 0, .int .i64 0] := by kernel_rfl
@[simp] theorem tyConc_64 : tyConc Go.Proofs.Try.prog 64 = true := by kernel_rfl
@[simp] theorem tyIfc_64 : tyIfc Go.Proofs.Try.prog 64 = false := by kernel_rfl
@[simp] theorem hasZ_64 : hasZ Go.Proofs.Try.prog 64 = true := by kernel_rfl
@[simp] theorem zeroV_64 : zeroV Go.Proofs.Try.prog 64 = .agg [V.d (D.v (.int .i64 0)), V.d (D.v (.int .i64 0))] := by kernel_rfl
@[simp] theorem tyE_64 : tyE Go.Proofs.Try.prog 64 = none := by kernel_rfl
@[simp] theorem tyEq_64 : tyEq Go.Proofs.Try.prog 64 = some [.i .i64, .i .i64] := by kernel_rfl
@[simp] theorem tyArr_64 : tyArr Go.Proofs.Try.prog 64 = none := by kernel_rfl
@[simp] theorem tyF_64_0 : tyF Go.Proofs.Try.prog 64 0 = some (0, false, 1) := by kernel_rfl
@[simp] theorem tyF_64_1 : tyF Go.Proofs.Try.prog 64 1 = some (1, false, 1) := by kernel_rfl
@[simp] theorem tyB_64 : tyB Go.Proofs.Try.prog 64 = some ([.int .i64 0, .int .i64 0], [(0, 1), (1, 1)]) := by kernel_rfl
@[simp] theorem tyA_66 : tyA Go.Proofs.Try.prog 66 = some (false, 1) := by kernel_rfl
@[simp] theorem tyStr_66 : tyStr Go.Proofs.Try.prog 66 = false := by kernel_rfl
@[simp] theorem tySrc_66 : tySrc Go.Proofs.Try.prog 66 = true := by kernel_rfl
@[simp] theorem tyZ0_66 : tyZ0 Go.Proofs.Try.prog 66 = [D.sl []] := by kernel_rfl
@[simp] theorem tyBool_66 : tyBool Go.Proofs.Try.prog 66 = false := by kernel_rfl
@[simp] theorem tyInt_66 : tyInt Go.Proofs.Try.prog 66 = none := by kernel_rfl
@[simp] theorem tyZ_66 : tyZ Go.Proofs.Try.prog 66 = some [.slice none 0 0] := by kernel_rfl
@[simp] theorem tyConc_66 : tyConc Go.Proofs.Try.prog 66 = true := by kernel_rfl
@[simp] theorem tyIfc_66 : tyIfc Go.Proofs.Try.prog 66 = false := by kernel_rfl
@[simp] theorem hasZ_66 : hasZ Go.Proofs.Try.prog 66 = true := by kernel_rfl
@[simp] theorem zeroV_66 : zeroV Go.Proofs.Try.prog 66 = V.d (D.v (.slice none 0 0)) := by kernel_rfl
@[simp] theorem tyE_66 : tyE Go.Proofs.Try.prog 66 = some (4, 1) := by kernel_rfl
@[simp] theorem tySl_66 : tySl Go.Proofs.Try.prog 66 = some (4, 1, 1, [.bool false]) := by kernel_rfl
@[simp] theorem tyArr_66 : tyArr Go.Proofs.Try.prog 66 = none := by kernel_rfl
@[simp] theorem tyA_70 : tyA Go.Proofs.Try.prog 70 = some (false, 1) := by kernel_rfl
@[simp] theorem tyStr_70 : tyStr Go.Proofs.Try.prog 70 = false := by kernel_rfl
@[simp] theorem tySrc_70 : tySrc Go.Proofs.Try.prog 70 = false := by kernel_rfl
@[simp] theorem tyZ0_70 : tyZ0 Go.Proofs.Try.prog 70 = [D.v (.map none)] := by kernel_rfl
@[simp] theorem tyBool_70 : tyBool Go.Proofs.Try.prog 70 = false := by kernel_rfl
@[simp] theorem tyInt_70 : tyInt Go.Proofs.Try.prog 70 = none := by kernel_rfl
@[simp] theorem tyZ_70 : tyZ Go.Proofs.Try.prog 70 = some [.map none] := by kernel_rfl
@[simp] theorem tyConc_70 : tyConc Go.Proofs.Try.prog 70 = true := by kernel_rfl
@[simp] theorem tyIfc_70 : tyIfc Go.Proofs.Try.prog 70 = false := by kernel_rfl
@[simp] theorem hasZ_70 : hasZ Go.Proofs.Try.prog 70 = true := by kernel_rfl
@[simp] theorem zeroV_70 : zeroV Go.Proofs.Try.prog 70 = V.d (D.v (.map none)) := by kernel_rfl
@[simp] theorem tyE_70 : tyE Go.Proofs.Try.prog 70 = none := by kernel_rfl
@[simp] theorem tyA_73 : tyA Go.Proofs.Try.prog 73 = some (true, 3) := by kernel_rfl
@[simp] theorem tyStr_73 : tyStr Go.Proofs.Try.prog 73 = false := by kernel_rfl
@[simp] theorem tySrc_73 : tySrc Go.Proofs.Try.prog 73 = false := by kernel_rfl
@[simp] theorem tyZ0_73 : tyZ0 Go.Proofs.Try.prog 73 = [D.v (.int .i64 0), D.v (.int .i64 0), D.v (.int .i64 0)] := by kernel_rfl
@[simp] theorem tyBool_73 : tyBool Go.Proofs.Try.prog 73 = false := by kernel_rfl
@[simp] theorem tyInt_73 : tyInt Go.Proofs.Try.prog 73 = none := by kernel_rfl
@[simp] theorem tyZ_73 : tyZ Go.Proofs.Try.prog 73 = some [.int .i64 0, .int .i64 0, .int .i64 0] := by kernel_rfl
@[simp] theorem tyConc_73 : tyConc Go.Proofs.Try.prog 73 = true := by kernel_rfl
@[simp] theorem tyIfc_73 : tyIfc Go.Proofs.Try.prog 73 = false := by kernel_rfl
@[simp] theorem hasZ_73 : hasZ Go.Proofs.Try.prog 73 = true := by kernel_rfl
@[simp] theorem zeroV_73 : zeroV Go.Proofs.Try.prog 73 = .agg [V.d (D.v (.int .i64 0)), V.d (D.v (.int .i64 0)), V.d (D.v (.int .i64 0))] := by kernel_rfl
@[simp] theorem tyE_73 : tyE Go.Proofs.Try.prog 73 = none := by kernel_rfl
@[simp] theorem tyEq_73 : tyEq Go.Proofs.Try.prog 73 = some [.i .i64, .i .i64, .i .i64] := by kernel_rfl
@[simp] theorem tyArr_73 : tyArr Go.Proofs.Try.prog 73 = none := by kernel_rfl
@[simp] theorem tyF_73_0 : tyF Go.Proofs.Try.prog 73 0 = some (0, false, 1) := by kernel_rfl
@[simp] theorem tyF_73_1 : tyF Go.Proofs.Try.prog 73 1 = some (1, false, 1) := by kernel_rfl
@[simp] theorem tyF_73_2 : tyF Go.Proofs.Try.prog 73 2 = some (2, false, 1) := by kernel_rfl
@[simp] theorem tyB_73 : tyB Go.Proofs.Try.prog 73 = some ([.int .i64 0, .int .i64 0, .int .i64 0], [(0, 1), (1, 1), (2, 1)]) := by kernel_rfl
@[simp] theorem tyA_77 : tyA Go.Proofs.Try.prog 77 = some (false, 1) := by kernel_rfl
@[simp] theorem tyStr_77 : tyStr Go.Proofs.Try.prog 77 = false := by kernel_rfl
@[simp] theorem tySrc_77 : tySrc Go.Proofs.Try.prog 77 = false := by kernel_rfl
@[simp] theorem tyZ0_77 : tyZ0 Go.Proofs.Try.prog 77 = [D.v (.nilFunc)] := by kernel_rfl
@[simp] theorem tyBool_77 : tyBool Go.Proofs.Try.prog 77 = false := by kernel_rfl
@[simp] theorem tyInt_77 : tyInt Go.Proofs.Try.prog 77 = none := by kernel_rfl
@[simp] theorem tyZ_77 : tyZ Go.Proofs.Try.prog 77 = some [.nilFunc] := by kernel_rfl
@[simp] theorem tyConc_77 : tyConc Go.Proofs.Try.prog 77 = true := by kernel_rfl
@[simp] theorem tyIfc_77 : tyIfc Go.Proofs.Try.prog 77 = false := by kernel_rfl
@[simp] theorem hasZ_77 : hasZ Go.Proofs.Try.prog 77 = true := by kernel_rfl
@[simp] theorem zeroV_77 : zeroV Go.Proofs.Try.prog 77 = V.d (D.v (.nilFunc)) := by kernel_rfl
@[simp] theorem tyE_77 : tyE Go.Proofs.Try.prog 77 = none := by kernel_rfl
@[simp] theorem tyA_80 : tyA Go.Proofs.Try.prog 80 = some (false, 1) := by kernel_rfl
@[simp] theorem tyStr_80 : tyStr Go.Proofs.Try.prog 80 = false := by kernel_rfl
@[simp] theorem tySrc_80 : tySrc Go.Proofs.Try.prog 80 = false := by kernel_rfl
@[simp] theorem tyZ0_80 : tyZ0 Go.Proofs.Try.prog 80 = [D.v (.pointer none)] := by kernel_rfl
@[simp] theorem tyBool_80 : tyBool Go.Proofs.Try.prog 80 = false := by kernel_rfl
@[simp] theorem tyInt_80 : tyInt Go.Proofs.Try.prog 80 = none := by kernel_rfl
@[simp] theorem tyZ_80 : tyZ Go.Proofs.Try.prog 80 = some [.pointer none] := by kernel_rfl
@[simp] theorem tyConc_80 : tyConc Go.Proofs.Try.prog 80 = true := by kernel_rfl
@[simp] theorem tyIfc_80 : tyIfc Go.Proofs.Try.prog 80 = false := by kernel_rfl
@[simp] theorem hasZ_80 : hasZ Go.Proofs.Try.prog 80 = true := by kernel_rfl
@[simp] theorem zeroV_80 : zeroV Go.Proofs.Try.prog 80 = V.d (D.v (.pointer none)) := by kernel_rfl
@[simp] theorem tyE_80 : tyE Go.Proofs.Try.prog 80 = none := by kernel_rfl
@[simp] theorem tyA_81 : tyA Go.Proofs.Try.prog 81 = some (false, 1) := by kernel_rfl
@[simp] theorem tyStr_81 : tyStr Go.Proofs.Try.prog 81 = false := by kernel_rfl
@[simp] theorem tySrc_81 : tySrc Go.Proofs.Try.prog 81 = true := by kernel_rfl
@[simp] theorem tyZ0_81 : tyZ0 Go.Proofs.Try.prog 81 = [D.sl []] := by kernel_rfl
@[simp] theorem tyBool_81 : tyBool Go.Proofs.Try.prog 81 = false := by kernel_rfl
@[simp] theorem tyInt_81 : tyInt Go.Proofs.Try.prog 81 = none := by kernel_rfl
@[simp] theorem tyZ_81 : tyZ Go.Proofs.Try.prog 81 = some [.slice none 0 0] := by kernel_rfl
@[simp] theorem tyConc_81 : tyConc Go.Proofs.Try.prog 81 = true := by kernel_rfl
@[simp] theorem tyIfc_81 : tyIfc Go.Proofs.Try.prog 81 = false := by kernel_rfl
@[simp] theorem hasZ_81 : hasZ Go.Proofs.Try.prog 81 = true := by kernel_rfl
@[simp] theorem zeroV_81 : zeroV Go.Proofs.Try.prog 81 = V.d (D.v (.slice none 0 0)) := by kernel_rfl
@[simp] theorem tyE_81 : tyE Go.Proofs.Try.prog 81 = some (5, 1) := by kernel_rfl
@[simp] theorem tySl_81 : tySl Go.Proofs.Try.prog 81 = some (5, 1, 1, [.int .u8 0]) := by kernel_rfl
@[simp] theorem tyArr_81 : tyArr Go.Proofs.Try.prog 81 = none := by kernel_rfl
@[simp] theorem tyA_83 : tyA Go.Proofs.Try.prog 83 = some (true, 2) := by kernel_rfl
@[simp] theorem tyStr_83 : tyStr Go.Proofs.Try.prog 83 = false := by kernel_rfl
@[simp] theorem tySrc_83 : tySrc Go.Proofs.Try.prog 83 = false := by kernel_rfl
@[simp] theorem tyZ0_83 : tyZ0 Go.Proofs.Try.prog 83 = [D.v (.pointer none), D.sl []] := by kernel_rfl
@[simp] theorem tyBool_83 : tyBool Go.Proofs.Try.prog 83 = false := by kernel_rfl
@[simp] theorem tyInt_83 : tyInt Go.Proofs.Try.prog 83 = none := by kernel_rfl
@[simp] theorem tyZ_83 : tyZ Go.Proofs.Try.prog 83 = some [.pointer none, .slice none 0 0] := by kernel_rfl
@[simp] theorem tyConc_83 : tyConc Go.Proofs.Try.prog 83 = true := by kernel_rfl
@[simp] theorem tyIfc_83 : tyIfc Go.Proofs.Try.prog 83 = false := by kernel_rfl
@[simp] theorem hasZ_83 : hasZ Go.Proofs.Try.prog 83 = true := by kernel_rfl
@[simp] theorem zeroV_83 : zeroV Go.Proofs.Try.prog 83 = .agg [V.d (D.v (.pointer none)), V.d (D.v (.slice none 0 0))] := by kernel_rfl
@[simp] theorem tyE_83 : tyE Go.Proofs.Try.prog 83 = none := by kernel_rfl
@[simp] theorem tyArr_83 : tyArr Go.Proofs.Try.prog 83 = none := by kernel_rfl
@[simp] theorem tyF_83_0 : tyF Go.Proofs.Try.prog 83 0 = some (0, false, 1) := by kernel_rfl
@[simp] theorem tyF_83_1 : tyF Go.Proofs.Try.prog 83 1 = some (1, false, 1) := by kernel_rfl
@[simp] theorem tyB_83 : tyB Go.Proofs.Try.prog 83 = some ([.pointer none, .slice none 0 0], [(0, 1), (1, 1)]) := by kernel_rfl
@[simp] theorem tyA_85 : tyA Go.Proofs.Try.prog 85 = some (false, 1) := by kernel_rfl
@[simp] theorem tyStr_85 : tyStr Go.Proofs.Try.prog 85 = false := by kernel_rfl
@[simp] theorem tySrc_85 : tySrc Go.Proofs.Try.prog 85 = false := by kernel_rfl
@[simp] theorem tyZ0_85 : tyZ0 Go.Proofs.Try.prog 85 = [D.v (.nilIface)] := by kernel_rfl
@[simp] theorem tyBool_85 : tyBool Go.Proofs.Try.prog 85 = false := by kernel_rfl
@[simp] theorem tyInt_85 : tyInt Go.Proofs.Try.prog 85 = none := by kernel_rfl
@[simp] theorem tyZ_85 : tyZ Go.Proofs.Try.prog 85 = some [.nilIface] := by kernel_rfl
@[simp] theorem tyConc_85 : tyConc Go.Proofs.Try.prog 85 = false := by kernel_rfl
@[simp] theorem tyIfc_85 : tyIfc Go.Proofs.Try.prog 85 = true := by kernel_rfl
@[simp] theorem hasZ_85 : hasZ Go.Proofs.Try.prog 85 = true := by kernel_rfl
@[simp] theorem zeroV_85 : zeroV Go.Proofs.Try.prog 85 = V.d (D.v (.nilIface)) := by kernel_rfl
@[simp] theorem tyE_85 : tyE Go.Proofs.Try.prog 85 = none := by kernel_rfl
@[simp] theorem tyA_94 : tyA Go.Proofs.Try.prog 94 = some (true, 6) := by kernel_rfl
@[simp] theorem tyStr_94 : tyStr Go.Proofs.Try.prog 94 = false := by kernel_rfl
@[simp] theorem tySrc_94 : tySrc Go.Proofs.Try.prog 94 = false := by kernel_rfl
@[simp] theorem tyZ0_94 : tyZ0 Go.Proofs.Try.prog 94 = [D.v (.int .i64 0), D.v (.int .i64 0), D.v (.string ⟨#[]⟩), D.sl [], D.sl [], D.sl []] := by kernel_rfl
@[simp] theorem tyBool_94 : tyBool Go.Proofs.Try.prog 94 = false := by kernel_rfl
@[simp] theorem tyInt_94 : tyInt Go.Proofs.Try.prog 94 = none := by kernel_rfl
@[simp] theorem tyZ_94 : tyZ Go.Proofs.Try.prog 94 = some [.int .i64 0, .int .i64 0, .string ⟨#[]⟩, .slice none 0 0, .slice none 0 0, .slice none 0 0] := by kernel_rfl
@[simp] theorem tyConc_94 : tyConc Go.Proofs.Try.prog 94 = true := by kernel_rfl
@[simp] theorem tyIfc_94 : tyIfc Go.Proofs.Try.prog 94 = false := by kernel_rfl
@[simp] theorem hasZ_94 : hasZ Go.Proofs.Try.prog 94 = true := by kernel_rfl
@[simp] theorem zeroV_94 : zeroV Go.Proofs.Try.prog 94 = .agg [V.d (D.v (.int .i64 0)), V.d (D.v (.int .i64 0)), V.d (D.v (.string ⟨#[]⟩)), V.d (D.v (.slice none 0 0)), V.d (D.v (.slice none 0 0)), V.d (D.v (.slice none 0 0))] := by kernel_rfl
@[simp] theorem tyE_94 : tyE Go.Proofs.Try.prog 94 = none := by kernel_rfl
@[simp] theorem tyArr_94 : tyArr Go.Proofs.Try.prog 94 = none := by kernel_rfl
@[simp] theorem tyF_94_0 : tyF Go.Proofs.Try.prog 94 0 = some (0, false, 1) := by kernel_rfl
@[simp] theorem tyF_94_1 : tyF Go.Proofs.Try.prog 94 1 = some (1, false, 1) := by kernel_rfl
@[simp] theorem tyF_94_2 : tyF Go.Proofs.Try.prog 94 2 = some (2, false, 1) := by kernel_rfl
@[simp] theorem tyF_94_3 : tyF Go.Proofs.Try.prog 94 3 = some (3, false, 1) := by kernel_rfl
@[simp] theorem tyF_94_4 : tyF Go.Proofs.Try.prog 94 4 = some (4, false, 1) := by kernel_rfl
@[simp] theorem tyF_94_5 : tyF Go.Proofs.Try.prog 94 5 = some (5, false, 1) := by kernel_rfl
@[simp] theorem tyB_94 : tyB Go.Proofs.Try.prog 94 = some ([.int .i64 0, .int .i64 0, .string ⟨#[]⟩, .slice none 0 0, .slice none 0 0, .slice none 0 0], [(0, 1), (1, 1), (2, 1), (3, 1), (4, 1), (5, 1)]) := by kernel_rfl
@[simp] theorem tyA_95 : tyA Go.Proofs.Try.prog 95 = some (false, 1) := by kernel_rfl
@[simp] theorem tyStr_95 : tyStr Go.Proofs.Try.prog 95 = false := by kernel_rfl
@[simp] theorem tySrc_95 : tySrc Go.Proofs.Try.prog 95 = false := by kernel_rfl
@[simp] theorem tyZ0_95 : tyZ0 Go.Proofs.Try.prog 95 = [D.v (.pointer none)] := by kernel_rfl
@[simp] theorem tyBool_95 : tyBool Go.Proofs.Try.prog 95 = false := by kernel_rfl
@[simp] theorem tyInt_95 : tyInt Go.Proofs.Try.prog 95 = none := by kernel_rfl
@[simp] theorem tyZ_95 : tyZ Go.Proofs.Try.prog 95 = some [.pointer none] := by kernel_rfl
@[simp] theorem tyConc_95 : tyConc Go.Proofs.Try.prog 95 = true := by kernel_rfl
@[simp] theorem tyIfc_95 : tyIfc Go.Proofs.Try.prog 95 = false := by kernel_rfl
@[simp] theorem hasZ_95 : hasZ Go.Proofs.Try.prog 95 = true := by kernel_rfl
@[simp] theorem zeroV_95 : zeroV Go.Proofs.Try.prog 95 = V.d (D.v (.pointer none)) := by kernel_rfl
@[simp] theorem tyE_95 : tyE Go.Proofs.Try.prog 95 = none := by kernel_rfl
@[simp] theorem tyA_97 : tyA Go.Proofs.Try.prog 97 = some (true, 2) := by kernel_rfl
@[simp] theorem tyStr_97 : tyStr Go.Proofs.Try.prog 97 = false := by kernel_rfl
@[simp] theorem tySrc_97 : tySrc Go.Proofs.Try.prog 97 = false := by kernel_rfl
@[simp] theorem tyZ0_97 : tyZ0 Go.Proofs.Try.prog 97 = [D.sl [], D.v (.int .i64 0)] := by kernel_rfl
@[simp] theorem tyBool_97 : tyBool Go.Proofs.Try.prog 97 = false := by kernel_rfl
@[simp] theorem tyInt_97 : tyInt Go.Proofs.Try.prog 97 = none := by kernel_rfl
@[simp] theorem tyZ_97 : tyZ Go.Proofs.Try.prog 97 = some [.slice none 0 0, .int .i64 0] := by kernel_rfl
@[simp] theorem tyConc_97 : tyConc Go.Proofs.Try.prog 97 = true := by kernel_rfl
@[simp] theorem tyIfc_97 : tyIfc Go.Proofs.Try.prog 97 = false := by kernel_rfl
@[simp] theorem hasZ_97 : hasZ Go.Proofs.Try.prog 97 = true := by kernel_rfl
@[simp] theorem zeroV_97 : zeroV Go.Proofs.Try.prog 97 = .agg [V.d (D.v (.slice none 0 0)), V.d (D.v (.int .i64 0))] := by kernel_rfl
@[simp] theorem tyE_97 : tyE Go.Proofs.Try.prog 97 = none := by kernel_rfl
@[simp] theorem tyArr_97 : tyArr Go.Proofs.Try.prog 97 = none := by kernel_rfl
@[simp] theorem tyF_97_0 : tyF Go.Proofs.Try.prog 97 0 = some (0, false, 1) := by kernel_rfl
@[simp] theorem tyF_97_1 : tyF Go.Proofs.Try.prog 97 1 = some (1, false, 1) := by kernel_rfl
@[simp] theorem tyB_97 : tyB Go.Proofs.Try.prog 97 = some ([.slice none 0 0, .int .i64 0], [(0, 1), (1, 1)]) := by kernel_rfl
@[simp] theorem tyA_113 : tyA Go.Proofs.Try.prog 113 = some (false, 1) := by kernel_rfl
@[simp] theorem tyStr_113 : tyStr Go.Proofs.Try.prog 113 = false := by kernel_rfl
@[simp] theorem tySrc_113 : tySrc Go.Proofs.Try.prog 113 = true := by kernel_rfl
@[simp] theorem tyZ0_113 : tyZ0 Go.Proofs.Try.prog 113 = [D.sl []] := by kernel_rfl
@[simp] theorem tyBool_113 : tyBool Go.Proofs.Try.prog 113 = false := by kernel_rfl
@[simp] theorem tyInt_113 : tyInt Go.Proofs.Try.prog 113 = none := by kernel_rfl
@[simp] theorem tyZ_113 : tyZ Go.Proofs.Try.prog 113 = some [.slice none 0 0] := by kernel_rfl
@[simp] theorem tyConc_113 : tyConc Go.Proofs.Try.prog 113 = true := by kernel_rfl
@[simp] theorem tyIfc_113 : tyIfc Go.Proofs.Try.prog 113 = false := by kernel_rfl
@[simp] theorem hasZ_113 : hasZ Go.Proofs.Try.prog 113 = true := by kernel_rfl
@[simp] theorem zeroV_113 : zeroV Go.Proofs.Try.prog 113 = V.d (D.v (.slice none 0 0)) := by kernel_rfl
@[simp] theorem tyE_113 : tyE Go.Proofs.Try.prog 113 = some (117, 1) := by kernel_rfl
@[simp] theorem tySl_113 : tySl Go.Proofs.Try.prog 113 = some (117, 1, 24, [.slice none 0 0]) := by kernel_rfl
@[simp] theorem tyArr_113 : tyArr Go.Proofs.Try.prog 113 = none := by kernel_rfl
@[simp] theorem tyA_115 : tyA Go.Proofs.Try.prog 115 = some (true, 2) := by kernel_rfl
@[simp] theorem tyStr_115 : tyStr Go.Proofs.Try.prog 115 = false := by kernel_rfl
@[simp] theorem tySrc_115 : tySrc Go.Proofs.Try.prog 115 = false := by kernel_rfl
@[simp] theorem tyZ0_115 : tyZ0 Go.Proofs.Try.prog 115 = [D.v (.bool false), D.sl []] := by kernel_rfl
@[simp] theorem tyBool_115 : tyBool Go.Proofs.Try.prog 115 = false := by kernel_rfl
@[simp] theorem tyInt_115 : tyInt Go.Proofs.Try.prog 115 = none := by kernel_rfl
@[simp] theorem tyZ_115 : tyZ Go.Proofs.Try.prog 115 = some [.bool false, .slice none 0 0] := by kernel_rfl
@[simp] theorem tyConc_115 : tyConc Go.Proofs.Try.prog 115 = true := by kernel_rfl
@[simp] theorem tyIfc_115 : tyIfc Go.Proofs.Try.prog 115 = false := by kernel_rfl
@[simp] theorem hasZ_115 : hasZ Go.Proofs.Try.prog 115 = true := by kernel_rfl
@[simp] theorem zeroV_115 : zeroV Go.Proofs.Try.prog 115 = .agg [V.d (D.v (.bool false)), V.d (D.v (.slice none 0 0))] := by kernel_rfl
@[simp] theorem tyE_115 : tyE Go.Proofs.Try.prog 115 = none := by kernel_rfl
@[simp] theorem tyArr_115 : tyArr Go.Proofs.Try.prog 115 = none := by kernel_rfl
@[simp] theorem tyF_115_0 : tyF Go.Proofs.Try.prog 115 0 = some (0, false, 1) := by kernel_rfl
@[simp] theorem tyF_115_1 : tyF Go.Proofs.Try.prog 115 1 = some (1, false, 1) := by kernel_rfl
@[simp] theorem tyB_115 : tyB Go.Proofs.Try.prog 115 = some ([.bool false, .slice none 0 0], [(0, 1), (1, 1)]) := by kernel_rfl
@[simp] theorem tyA_117 : tyA Go.Proofs.Try.prog 117 = some (false, 1) := by kernel_rfl
@[simp] theorem tyStr_117 : tyStr Go.Proofs.Try.prog 117 = false := by kernel_rfl
@[simp] theorem tySrc_117 : tySrc Go.Proofs.Try.prog 117 = true := by kernel_rfl
@[simp] theorem tyZ0_117 : tyZ0 Go.Proofs.Try.prog 117 = [D.sl []] := by kernel_rfl
@[simp] theorem tyBool_117 : tyBool Go.Proofs.Try.prog 117 = false := by kernel_rfl
@[simp] theorem tyInt_117 : tyInt Go.Proofs.Try.prog 117 = none := by kernel_rfl
@[simp] theorem tyZ_117 : tyZ Go.Proofs.Try.prog 117 = some [.slice none 0 0] := by kernel_rfl
@[simp] theorem tyConc_117 : tyConc Go.Proofs.Try.prog 117 = true := by kernel_rfl
@[simp] theorem tyIfc_117 : tyIfc Go.Proofs.Try.prog 117 = false := by kernel_rfl
@[simp] theorem hasZ_117 : hasZ Go.Proofs.Try.prog 117 = true := by kernel_rfl
@[simp] theorem zeroV_117 : zeroV Go.Proofs.Try.prog 117 = V.d (D.v (.slice none 0 0)) := by kernel_rfl
@[simp] theorem tyE_117 : tyE Go.Proofs.Try.prog 117 = some (135, 2) := by kernel_rfl
@[simp] theorem tySl_117 : tySl Go.Proofs.Try.prog 117 = some (135, 2, 32, [.int .i64 0, .slice none 0 0]) := by kernel_rfl
@[simp] theorem tyArr_117 : tyArr Go.Proofs.Try.prog 117 = none := by kernel_rfl
@[simp] theorem tyA_119 : tyA Go.Proofs.Try.prog 119 = some (true, 6) := by kernel_rfl
@[simp] theorem tyStr_119 : tyStr Go.Proofs.Try.prog 119 = false := by kernel_rfl
@[simp] theorem tySrc_119 : tySrc Go.Proofs.Try.prog 119 = false := by kernel_rfl
@[simp] theorem tyZ0_119 : tyZ0 Go.Proofs.Try.prog 119 = [D.v (.int .i64 0), D.v (.int .i64 0), D.v (.int .i64 0), D.v (.int .i64 0), D.v (.int .i64 0), D.v (.int .i64 0)] := by kernel_rfl
@[simp] theorem tyBool_119 : tyBool Go.Proofs.Try.prog 119 = false := by kernel_rfl
@[simp] theorem tyInt_119 : tyInt Go.Proofs.Try.prog 119 = none := by kernel_rfl
@[simp] theorem tyZ_119 : tyZ Go.Proofs.Try.prog 119 = some [.int .i64 0, .int .i64 0, .int .i64 0, .int .i64 0, .int .i64 0, .int .i64 0] := by kernel_rfl
@[simp] theorem tyConc_119 : tyConc Go.Proofs.Try.prog 119 = true := by kernel_rfl
@[simp] theorem tyIfc_119 : tyIfc Go.Proofs.Try.prog 119 = false := by kernel_rfl
@[simp] theorem hasZ_119 : hasZ Go.Proofs.Try.prog 119 = true := by kernel_rfl
@[simp] theorem zeroV_119 : zeroV Go.Proofs.Try.prog 119 = .agg [V.d (D.v (.int .i64 0)), V.d (D.v (.int .i64 0)), V.d (D.v (.int .i64 0)), V.d (D.v (.int .i64 0)), V.d (D.v (.int .i64 0)), V.d (D.v (.int .i64 0))] := by kernel_rfl
@[simp] theorem tyE_119 : tyE Go.Proofs.Try.prog 119 = none := by kernel_rfl
@[simp] theorem tyEq_119 : tyEq Go.Proofs.Try.prog 119 = some [.i .i64, .i .i64, .i .i64, .i .i64, .i .i64, .i .i64] := by kernel_rfl
@[simp] theorem tyArr_119 : tyArr Go.Proofs.Try.prog 119 = none := by kernel_rfl
@[simp] theorem tyF_119_0 : tyF Go.Proofs.Try.prog 119 0 = some (0, false, 1) := by kernel_rfl
@[simp] theorem tyF_119_1 : tyF Go.Proofs.Try.prog 119 1 = some (1, false, 1) := by kernel_rfl
@[simp] theorem tyF_119_2 : tyF Go.Proofs.Try.prog 119 2 = some (2, false, 1) := by kernel_rfl
@[simp] theorem tyF_119_3 : tyF Go.Proofs.Try.prog 119 3 = some (3, false, 1) := by kernel_rfl
@[simp] theorem tyF_119_4 : tyF Go.Proofs.Try.prog 119 4 = some (4, false, 1) := by kernel_rfl
@[simp] theorem tyF_119_5 : tyF Go.Proofs.Try.prog 119 5 = some (5, false, 1) := by kernel_rfl
@[simp] theorem tyB_119 : tyB Go.Proofs.Try.prog 119 = some ([.int .i64 0, .int .i64 0, .int .i64 0, .int .i64 0, .int .i64 0, .int .i64 0], [(0, 1), (1, 1), (2, 1), (3, 1), (4, 1), (5, 1)]) := by kernel_rfl
@[simp] theorem tyA_120 : tyA Go.Proofs.Try.prog 120 = some (true, 13) := by kernel_rfl
@[simp] theorem tyStr_120 : tyStr Go.Proofs.Try.prog 120 = false := by kernel_rfl
@[simp] theorem tySrc_120 : tySrc Go.Proofs.Try.prog 120 = false := by kernel_rfl
@[simp] theorem tyZ0_120 : tyZ0 Go.Proofs.Try.prog 120 = [D.v (.string ⟨#[]⟩), D.v (.string ⟨#[]⟩), D.v (.string ⟨#[]⟩), D.v (.string ⟨#[]⟩), D.v (.string ⟨#[]⟩), D.v (.string ⟨#[]⟩), D.v (.string ⟨#[]⟩), D.v (.string ⟨#[]⟩), D.v (.string ⟨#[]⟩), D.v (.string ⟨#[]⟩), D.v (.string ⟨#[]⟩), D.v (.string ⟨#[]⟩), D.v (.string ⟨#[]⟩)] := by kernel_rfl
@[simp] theorem tyBool_120 : tyBool Go.Proofs.Try.prog 120 = false := by kernel_rfl
@[simp] theorem tyInt_120 : tyInt Go.Proofs.Try.prog 120 = none := by kernel_rfl
@[simp] theorem tyZ_120 : tyZ Go.Proofs.Try.prog 120 = some [.string ⟨#[]⟩, .string ⟨#[]⟩, .string ⟨#[]⟩, .string ⟨#[]⟩, .string ⟨#[]⟩, .string ⟨#[]⟩, .string ⟨#[]⟩, .string ⟨#[]⟩, .string ⟨#[]⟩, .string ⟨#[]⟩, .string ⟨#[]⟩, .string ⟨#[]⟩, .string ⟨#[]⟩] := by kernel_rfl
@[simp] theorem tyConc_120 : tyConc Go.Proofs.Try.prog 120 = true := by kernel_rfl
@[simp] theorem tyIfc_120 : tyIfc Go.Proofs.Try.prog 120 = false := by kernel_rfl
@[simp] theorem hasZ_120 : hasZ Go.Proofs.Try.prog 120 = true := by kernel_rfl
@[simp] theorem zeroV_120 : zeroV Go.Proofs.Try.prog 120 = .agg [V.d (D.v (.string ⟨#[]⟩)), V.d (D.v (.string ⟨#[]⟩)), V.d (D.v (.string ⟨#[]⟩)), V.d (D.v (.string ⟨#[]⟩)), V.d (D.v (.string ⟨#[]⟩)), V.d (D.v (.string ⟨#[]⟩)), V.d (D.v (.string ⟨#[]⟩)), V.d (D.v (.string ⟨#[]⟩)), V.d (D.v (.string ⟨#[]⟩)), V.d (D.v (.string ⟨#[]⟩)), V.d (D.v (.string ⟨#[]⟩)), V.d (D.v (.string ⟨#[]⟩)), V.d (D.v (.string ⟨#[]⟩))] := by kernel_rfl
@[simp] theorem tyE_120 : tyE Go.Proofs.Try.prog 120 = none := by kernel_rfl
@[simp] theorem tyArr_120 : tyArr Go.Proofs.Try.prog 120 = some (13, false, 1) := by kernel_rfl
@[simp] theorem tyB_120 : tyB Go.Proofs.Try.prog 120 = some ([.string ⟨#[]⟩, .string ⟨#[]⟩, .string ⟨#[]⟩, .string ⟨#[]⟩, .string ⟨#[]⟩, .string ⟨#[]⟩, .string ⟨#[]⟩, .string ⟨#[]⟩, .string ⟨#[]⟩, .string ⟨#[]⟩, .string ⟨#[]⟩, .string ⟨#[]⟩, .string ⟨#[]⟩], [(0, 1), (1, 1), (2, 1), (3, 1), (4, 1), (5, 1), (6, 1), (7, 1), (8, 1), (9, 1), (10, 1), (11, 1), (12, 1)]) := by kernel_rfl
@[simp] theorem tyA_121 : tyA Go.Proofs.Try.prog 121 = some (false, 1) := by kernel_rfl
@[simp] theorem tyStr_121 : tyStr Go.Proofs.Try.prog 121 = false := by kernel_rfl
@[simp] theorem tySrc_121 : tySrc Go.Proofs.Try.prog 121 = false := by kernel_rfl
@[simp] theorem tyZ0_121 : tyZ0 Go.Proofs.Try.prog 121 = [D.v (.pointer none)] := by kernel_rfl
@[simp] theorem tyBool_121 : tyBool Go.Proofs.Try.prog 121 = false := by kernel_rfl
@[simp] theorem tyInt_121 : tyInt Go.Proofs.Try.prog 121 = none := by kernel_rfl
@[simp] theorem tyZ_121 : tyZ Go.Proofs.Try.prog 121 = some [.pointer none] := by kernel_rfl
@[simp] theorem tyConc_121 : tyConc Go.Proofs.Try.prog 121 = true := by kernel_rfl
@[simp] theorem tyIfc_121 : tyIfc Go.Proofs.Try.prog 121 = false := by kernel_rfl
@[simp] theorem hasZ_121 : hasZ Go.Proofs.Try.prog 121 = true := by kernel_rfl
@[simp] theorem zeroV_121 : zeroV Go.Proofs.Try.prog 121 = V.d (D.v (.pointer none)) := by kernel_rfl
@[simp] theorem tyE_121 : tyE Go.Proofs.Try.prog 121 = none := by kernel_rfl
@[simp] theorem tyA_133 : tyA Go.Proofs.Try.prog 133 = some (false, 1) := by kernel_rfl
@[simp] theorem tyStr_133 : tyStr Go.Proofs.Try.prog 133 = false := by kernel_rfl
@[simp] theorem tySrc_133 : tySrc Go.Proofs.Try.prog 133 = false := by kernel_rfl
@[simp] theorem tyZ0_133 : tyZ0 Go.Proofs.Try.prog 133 = [D.v (.int .i16 0)] := by kernel_rfl
@[simp] theorem tyBool_133 : tyBool Go.Proofs.Try.prog 133 = false := by kernel_rfl
@[simp] theorem tyInt_133 : tyInt Go.Proofs.Try.prog 133 = some .i16 := by kernel_rfl
@[simp] theorem tyZ_133 : tyZ Go.Proofs.Try.prog 133 = some [.int .i16 0] := by kernel_rfl
@[simp] theorem tyConc_133 : tyConc Go.Proofs.Try.prog 133 = true := by kernel_rfl
@[simp] theorem tyIfc_133 : tyIfc Go.Proofs.Try.prog 133 = false := by kernel_rfl
@[simp] theorem hasZ_133 : hasZ Go.Proofs.Try.prog 133 = true := by kernel_rfl
@[simp] theorem zeroV_133 : zeroV Go.Proofs.Try.prog 133 = V.d (D.v (.int .i16 0)) := by kernel_rfl
@[simp] theorem tyE_133 : tyE Go.Proofs.Try.prog 133 = none := by kernel_rfl
@[simp] theorem tyA_135 : tyA Go.Proofs.Try.prog 135 = some (true, 2) := by kernel_rfl
@[simp] theorem tyStr_135 : tyStr Go.Proofs.Try.prog 135 = false := by kernel_rfl
@[simp] theorem tySrc_135 : tySrc Go.Proofs.Try.prog 135 = false := by kernel_rfl
@[simp] theorem tyZ0_135 : tyZ0 Go.Proofs.Try.prog 135 = [D.v (.int .i64 0), D.sl []] := by kernel_rfl
@[simp] theorem tyBool_135 : tyBool Go.Proofs.Try.prog 135 = false := by kernel_rfl
@[simp] theorem tyInt_135 : tyInt Go.Proofs.Try.prog 135 = none := by kernel_rfl
@[simp] theorem tyZ_135 : tyZ Go.Proofs.Try.prog 135 = some [.int .i64 0, .slice none 0 0] := by kernel_rfl
@[simp] theorem tyConc_135 : tyConc Go.Proofs.Try.prog 135 = true := by kernel_rfl
@[simp] theorem tyIfc_135 : tyIfc Go.Proofs.Try.prog 135 = false := by kernel_rfl
@[simp] theorem hasZ_135 : hasZ Go.Proofs.Try.prog 135 = true := by kernel_rfl
@[simp] theorem zeroV_135 : zeroV Go.Proofs.Try.prog 135 = .agg [V.d (D.v (.int .i64 0)), V.d (D.v (.slice none 0 0))] := by kernel_rfl
@[simp] theorem tyE_135 : tyE Go.Proofs.Try.prog 135 = none := by kernel_rfl
@[simp] theorem tyArr_135 : tyArr Go.Proofs.Try.prog 135 = none := by kernel_rfl
@[simp] theorem tyF_135_0 : tyF Go.Proofs.Try.prog 135 0 = some (0, false, 1) := by kernel_rfl
@[simp] theorem tyF_135_1 : tyF Go.Proofs.Try.prog 135 1 = some (1, false, 1) := by kernel_rfl
@[simp] theorem tyB_135 : tyB Go.Proofs.Try.prog 135 = some ([.int .i64 0, .slice none 0 0], [(0, 1), (1, 1)]) := by kernel_rfl
@[simp] theorem tyA_136 : tyA Go.Proofs.Try.prog 136 = some (false, 1) := by kernel_rfl
@[simp] theorem tyStr_136 : tyStr Go.Proofs.Try.prog 136 = false := by kernel_rfl
@[simp] theorem tySrc_136 : tySrc Go.Proofs.Try.prog 136 = false := by kernel_rfl
@[simp] theorem tyZ0_136 : tyZ0 Go.Proofs.Try.prog 136 = [D.v (.pointer none)] := by kernel_rfl
@[simp] theorem tyBool_136 : tyBool Go.Proofs.Try.prog 136 = false := by kernel_rfl
@[simp] theorem tyInt_136 : tyInt Go.Proofs.Try.prog 136 = none := by kernel_rfl
@[simp] theorem tyZ_136 : tyZ Go.Proofs.Try.prog 136 = some [.pointer none] := by kernel_rfl
@[simp] theorem tyConc_136 : tyConc Go.Proofs.Try.prog 136 = true := by kernel_rfl
@[simp] theorem tyIfc_136 : tyIfc Go.Proofs.Try.prog 136 = false := by kernel_rfl
@[simp] theorem hasZ_136 : hasZ Go.Proofs.Try.prog 136 = true := by kernel_rfl
@[simp] theorem zeroV_136 : zeroV Go.Proofs.Try.prog 136 = V.d (D.v (.pointer none)) := by kernel_rfl
@[simp] theorem tyE_136 : tyE Go.Proofs.Try.prog 136 = none := by kernel_rfl
@[simp] theorem enters_3 : enters Go.Proofs.Try.prog 3 = true := by kernel_rfl
@[simp] theorem enters_4 : enters Go.Proofs.Try.prog 4 = true := by kernel_rfl
@[simp] theorem enters_5 : enters Go.Proofs.Try.prog 5 = true := by kernel_rfl
@[simp] theorem enters_6 : enters Go.Proofs.Try.prog 6 = true := by kernel_rfl
@[simp] theorem enters_7 : enters Go.Proofs.Try.prog 7 = true := by kernel_rfl
@[simp] theorem enters_8 : enters Go.Proofs.Try.prog 8 = true := by kernel_rfl
@[simp] theorem enters_9 : enters Go.Proofs.Try.prog 9 = true := by kernel_rfl
@[simp] theorem enters_10 : enters Go.Proofs.Try.prog 10 = true := by kernel_rfl
@[simp] theorem enters_11 : enters Go.Proofs.Try.prog 11 = true := by kernel_rfl
@[simp] theorem enters_12 : enters Go.Proofs.Try.prog 12 = true := by kernel_rfl
@[simp] theorem enters_13 : enters Go.Proofs.Try.prog 13 = true := by kernel_rfl
@[simp] theorem enters_14 : enters Go.Proofs.Try.prog 14 = true := by kernel_rfl
@[simp] theorem enters_15 : enters Go.Proofs.Try.prog 15 = true := by kernel_rfl
@[simp] theorem enters_16 : enters Go.Proofs.Try.prog 16 = true := by kernel_rfl
@[simp] theorem enters_17 : enters Go.Proofs.Try.prog 17 = true := by kernel_rfl
@[simp] theorem enters_18 : enters Go.Proofs.Try.prog 18 = true := by kernel_rfl
@[simp] theorem enters_19 : enters Go.Proofs.Try.prog 19 = true := by kernel_rfl
@[simp] theorem enters_20 : enters Go.Proofs.Try.prog 20 = true := by kernel_rfl
@[simp] theorem enters_21 : enters Go.Proofs.Try.prog 21 = true := by kernel_rfl
@[simp] theorem enters_22 : enters Go.Proofs.Try.prog 22 = true := by kernel_rfl
@[simp] theorem enters_23 : enters Go.Proofs.Try.prog 23 = true := by kernel_rfl
@[simp] theorem enters_24 : enters Go.Proofs.Try.prog 24 = true := by kernel_rfl
@[simp] theorem enters_25 : enters Go.Proofs.Try.prog 25 = true := by kernel_rfl
@[simp] theorem enters_26 : enters Go.Proofs.Try.prog 26 = true := by kernel_rfl
@[simp] theorem enters_27 : enters Go.Proofs.Try.prog 27 = true := by kernel_rfl
@[simp] theorem enters_28 : enters Go.Proofs.Try.prog 28 = true := by kernel_rfl
@[simp] theorem enters_29 : enters Go.Proofs.Try.prog 29 = true := by kernel_rfl
@[simp] theorem enters_30 : enters Go.Proofs.Try.prog 30 = true := by kernel_rfl
@[simp] theorem enters_31 : enters Go.Proofs.Try.prog 31 = true := by kernel_rfl
@[simp] theorem enters_32 : enters Go.Proofs.Try.prog 32 = true := by kernel_rfl
@[simp] theorem enters_33 : enters Go.Proofs.Try.prog 33 = true := by kernel_rfl
@[simp] theorem enters_34 : enters Go.Proofs.Try.prog 34 = true := by kernel_rfl
@[simp] theorem enters_35 : enters Go.Proofs.Try.prog 35 = true := by kernel_rfl
@[simp] theorem enters_36 : enters Go.Proofs.Try.prog 36 = true := by kernel_rfl
@[simp] theorem enters_37 : enters Go.Proofs.Try.prog 37 = true := by kernel_rfl
@[simp] theorem enters_38 : enters Go.Proofs.Try.prog 38 = true := by kernel_rfl
@[simp] theorem enters_39 : enters Go.Proofs.Try.prog 39 = true := by kernel_rfl
@[simp] theorem enters_40 : enters Go.Proofs.Try.prog 40 = true := by kernel_rfl
@[simp] theorem enters_41 : enters Go.Proofs.Try.prog 41 = true := by kernel_rfl
@[simp] theorem enters_42 : enters Go.Proofs.Try.prog 42 = true := by kernel_rfl
@[simp] theorem enters_43 : enters Go.Proofs.Try.prog 43 = true := by kernel_rfl
@[simp] theorem enters_44 : enters Go.Proofs.Try.prog 44 = true := by kernel_rfl
@[simp] theorem enters_45 : enters Go.Proofs.Try.prog 45 = true := by kernel_rfl
@[simp] theorem enters_46 : enters Go.Proofs.Try.prog 46 = true := by kernel_rfl
@[simp] theorem enters_47 : enters Go.Proofs.Try.prog 47 = true := by kernel_rfl
@[simp] theorem enters_48 : enters Go.Proofs.Try.prog 48 = true := by kernel_rfl
@[simp] theorem enters_49 : enters Go.Proofs.Try.prog 49 = true := by kernel_rfl
@[simp] theorem enters_50 : enters Go.Proofs.Try.prog 50 = true := by kernel_rfl
@[simp] theorem enters_51 : enters Go.Proofs.Try.prog 51 = true := by kernel_rfl
@[simp] theorem enters_52 : enters Go.Proofs.Try.prog 52 = true := by kernel_rfl
@[simp] theorem enters_53 : enters Go.Proofs.Try.prog 53 = true := by kernel_rfl
@[simp] theorem enters_54 : enters Go.Proofs.Try.prog 54 = true := by kernel_rfl
@[simp] theorem enters_55 : enters Go.Proofs.Try.prog 55 = true := by kernel_rfl
@[simp] theorem enters_56 : enters Go.Proofs.Try.prog 56 = true := by kernel_rfl
@[simp] theorem enters_57 : enters Go.Proofs.Try.prog 57 = true := by kernel_rfl
@[simp] theorem enters_58 : enters Go.Proofs.Try.prog 58 = true := by kernel_rfl
@[simp] theorem enters_59 : enters Go.Proofs.Try.prog 59 = true := by kernel_rfl
@[simp] theorem enters_60 : enters Go.Proofs.Try.prog 60 = true := by kernel_rfl
@[simp] theorem enters_61 : enters Go.Proofs.Try.prog 61 = true := by kernel_rfl
@[simp] theorem enters_62 : enters Go.Proofs.Try.prog 62 = true := by kernel_rfl
@[simp] theorem enters_63 : enters Go.Proofs.Try.prog 63 = true := by kernel_rfl
@[simp] theorem enters_64 : enters Go.Proofs.Try.prog 64 = true := by kernel_rfl
@[simp] theorem enters_65 : enters Go.Proofs.Try.prog 65 = true := by kernel_rfl
@[simp] theorem enters_66 : enters Go.Proofs.Try.prog 66 = true := by kernel_rfl
@[simp] theorem enters_67 : enters Go.Proofs.Try.prog 67 = true := by kernel_rfl
@[simp] theorem enters_68 : enters Go.Proofs.Try.prog 68 = true := by kernel_rfl
@[simp] theorem enters_69 : enters Go.Proofs.Try.prog 69 = true := by kernel_rfl
@[simp] theorem enters_70 : enters Go.Proofs.Try.prog 70 = true := by kernel_rfl
@[simp] theorem enters_71 : enters Go.Proofs.Try.prog 71 = true := by kernel_rfl
@[simp] theorem enters_72 : enters Go.Proofs.Try.prog 72 = true := by kernel_rfl
@[simp] theorem enters_73 : enters Go.Proofs.Try.prog 73 = true := by kernel_rfl
@[simp] theorem enters_74 : enters Go.Proofs.Try.prog 74 = true := by kernel_rfl
@[simp] theorem enters_75 : enters Go.Proofs.Try.prog 75 = true := by kernel_rfl
@[simp] theorem enters_76 : enters Go.Proofs.Try.prog 76 = true := by kernel_rfl
@[simp] theorem enters_77 : enters Go.Proofs.Try.prog 77 = true := by kernel_rfl
@[simp] theorem enters_78 : enters Go.Proofs.Try.prog 78 = true := by kernel_rfl
@[simp] theorem enters_79 : enters Go.Proofs.Try.prog 79 = true := by kernel_rfl
@[simp] theorem enters_80 : enters Go.Proofs.Try.prog 80 = true := by kernel_rfl
@[simp] theorem enters_81 : enters Go.Proofs.Try.prog 81 = true := by kernel_rfl
@[simp] theorem enters_82 : enters Go.Proofs.Try.prog 82 = true := by kernel_rfl
@[simp] theorem enters_83 : enters Go.Proofs.Try.prog 83 = true := by kernel_rfl
@[simp] theorem enters_84 : enters Go.Proofs.Try.prog 84 = true := by kernel_rfl
@[simp] theorem enters_85 : enters Go.Proofs.Try.prog 85 = true := by kernel_rfl
@[simp] theorem enters_86 : enters Go.Proofs.Try.prog 86 = true := by kernel_rfl
@[simp] theorem enters_87 : enters Go.Proofs.Try.prog 87 = true := by kernel_rfl
@[simp] theorem enters_88 : enters Go.Proofs.Try.prog 88 = true := by kernel_rfl
@[simp] theorem enters_89 : enters Go.Proofs.Try.prog 89 = true := by kernel_rfl
@[simp] theorem enters_90 : enters Go.Proofs.Try.prog 90 = true := by kernel_rfl
@[simp] theorem enters_91 : enters Go.Proofs.Try.prog 91 = true := by kernel_rfl
@[simp] theorem enters_92 : enters Go.Proofs.Try.prog 92 = true := by kernel_rfl
@[simp] theorem enters_93 : enters Go.Proofs.Try.prog 93 = true := by kernel_rfl
@[simp] theorem enters_94 : enters Go.Proofs.Try.prog 94 = true := by kernel_rfl
@[simp] theorem enters_95 : enters Go.Proofs.Try.prog 95 = true := by kernel_rfl
@[simp] theorem enters_96 : enters Go.Proofs.Try.prog 96 = true := by kernel_rfl
@[simp] theorem enters_97 : enters Go.Proofs.Try.prog 97 = true := by kernel_rfl
@[simp] theorem enters_98 : enters Go.Proofs.Try.prog 98 = true := by kernel_rfl
@[simp] theorem enters_99 : enters Go.Proofs.Try.prog 99 = true := by kernel_rfl
@[simp] theorem enters_100 : enters Go.Proofs.Try.prog 100 = true := by kernel_rfl
@[simp] theorem enters_101 : enters Go.Proofs.Try.prog 101 = true := by kernel_rfl
@[simp] theorem enters_102 : enters Go.Proofs.Try.prog 102 = true := by kernel_rfl
@[simp] theorem enters_103 : enters Go.Proofs.Try.prog 103 = true := by kernel_rfl
@[simp] theorem enters_104 : enters Go.Proofs.Try.prog 104 = true := by kernel_rfl
@[simp] theorem enters_105 : enters Go.Proofs.Try.prog 105 = true := by kernel_rfl
@[simp] theorem enters_107 : enters Go.Proofs.Try.prog 107 = true := by kernel_rfl
@[simp] theorem enters_108 : enters Go.Proofs.Try.prog 108 = true := by kernel_rfl
@[simp] theorem enters_109 : enters Go.Proofs.Try.prog 109 = true := by kernel_rfl
@[simp] theorem enters_110 : enters Go.Proofs.Try.prog 110 = true := by kernel_rfl
@[simp] theorem enters_111 : enters Go.Proofs.Try.prog 111 = true := by kernel_rfl
@[simp] theorem enters_112 : enters Go.Proofs.Try.prog 112 = true := by kernel_rfl
@[simp] theorem enters_113 : enters Go.Proofs.Try.prog 113 = true := by kernel_rfl
@[simp] theorem enters_114 : enters Go.Proofs.Try.prog 114 = true := by kernel_rfl
@[simp] theorem enters_115 : enters Go.Proofs.Try.prog 115 = true := by kernel_rfl
@[simp] theorem enters_116 : enters Go.Proofs.Try.prog 116 = true := by kernel_rfl
@[simp] theorem enters_117 : enters Go.Proofs.Try.prog 117 = true := by kernel_rfl
@[simp] theorem enters_118 : enters Go.Proofs.Try.prog 118 = true := by kernel_rfl
@[simp] theorem enters_119 : enters Go.Proofs.Try.prog 119 = true := by kernel_rfl
@[simp] theorem enters_120 : enters Go.Proofs.Try.prog 120 = true := by kernel_rfl
@[simp] theorem enters_121 : enters Go.Proofs.Try.prog 121 = true := by kernel_rfl
@[simp] theorem enters_122 : enters Go.Proofs.Try.prog 122 = true := by kernel_rfl
@[simp] theorem enters_123 : enters Go.Proofs.Try.prog 123 = true := by kernel_rfl
@[simp] theorem enters_124 : enters Go.Proofs.Try.prog 124 = true := by kernel_rfl
end Go.Ab

/-
  The structs of this seat's program as structures, by program (gsatool.py).
-/
set_option linter.unusedSimpArgs false
set_option linter.unusedVariables false
namespace Go.Ab
structure GWay where
  Dir : Int
  To : Int
  When : Int
  Else : Int
  deriving DecidableEq
def GWay.enc (x : GWay) : List D := [D.v (.int .i64 x.Dir), D.v (.int .i64 x.To), D.v (.int .i64 x.When), D.v (.int .i64 x.Else)]
@[simp] theorem GWay.enc_length (x : GWay) : x.enc.length = 4 := rfl
@[simp] theorem GWay.enc_0 (x : GWay) : x.enc[0]? = some (D.v (.int .i64 x.Dir)) := rfl
@[simp] theorem GWay.encg_0 (x : GWay) (h : 0 < x.enc.length) : x.enc[0] = D.v (.int .i64 x.Dir) := rfl
@[simp] theorem GWay.enc_1 (x : GWay) : x.enc[1]? = some (D.v (.int .i64 x.To)) := rfl
@[simp] theorem GWay.encg_1 (x : GWay) (h : 1 < x.enc.length) : x.enc[1] = D.v (.int .i64 x.To) := rfl
@[simp] theorem GWay.enc_2 (x : GWay) : x.enc[2]? = some (D.v (.int .i64 x.When)) := rfl
@[simp] theorem GWay.encg_2 (x : GWay) (h : 2 < x.enc.length) : x.enc[2] = D.v (.int .i64 x.When) := rfl
@[simp] theorem GWay.enc_3 (x : GWay) : x.enc[3]? = some (D.v (.int .i64 x.Else)) := rfl
@[simp] theorem GWay.encg_3 (x : GWay) (h : 3 < x.enc.length) : x.enc[3] = D.v (.int .i64 x.Else) := rfl
@[simp] theorem GWay.fzV (L : Heap) (x : GWay) : V.fzs L (x.enc.map V.d) = x.enc.map V.d := by simp [GWay.enc, V.fzs, V.fz]
@[simp] theorem GWay.eqV (x y : GWay) : eqVs (x.enc.map V.d) (y.enc.map V.d) = some (decide (x = y)) := by
  rcases x with ⟨a_0, a_1, a_2, a_3⟩
  rcases y with ⟨b_0, b_1, b_2, b_3⟩
  simp only [GWay.enc, List.map, eqVs, vals, eqVals, eqV1, if_true, Option.some.injEq, bytes_beq]
  rw [Bool.eq_iff_iff]
  simp [and_assoc]
@[simp] theorem GWay.fitV (x : GWay) : fitVs [.i .i64, .i .i64, .i .i64, .i .i64] (x.enc.map V.d) = true := by
  simp [GWay.enc, fitVs, vals, fits, fit1]
def GWay.zero : GWay := ⟨0, 0, 0, 0⟩
theorem GWay.zero_enc : GWay.zero.enc = [D.v (.int .i64 0), D.v (.int .i64 0), D.v (.int .i64 0), D.v (.int .i64 0)] := rfl
@[simp] theorem GWay.getZ (o : Option GWay) : (o.map GWay.enc).getD [D.v (.int .i64 0), D.v (.int .i64 0), D.v (.int .i64 0), D.v (.int .i64 0)] = (o.getD GWay.zero).enc := by cases o <;> rfl
@[simp] theorem GWay.getV (o : Option GWay) : (o.map (fun x => x.enc.map V.d)).getD [V.d (D.v (.int .i64 0)), V.d (D.v (.int .i64 0)), V.d (D.v (.int .i64 0)), V.d (D.v (.int .i64 0))] = ((o.getD GWay.zero).enc).map V.d := by cases o <;> rfl
theorem GWay.cellAt (l : List GWay) (i j : Nat) (z : D) (h : GWay.zero.enc[j]? = some z) : cellAt (dd (l.map GWay.enc)) i j [V.d z] = V.d (((l[i]?.getD GWay.zero).enc[j]?).getD default) := by
  unfold Go.Ab.cellAt
  rw [dd_get, List.getElem?_map]
  cases hl : l[i]? with
  | none => simp [h]
  | some a =>
    have hj := (List.getElem?_eq_some_iff.1 h).1
    have hj' : j < a.enc.length := by rw [GWay.enc_length] at hj ⊢; exact hj
    simp only [Option.map_some, List.getElem?_map, List.getElem?_eq_getElem hj', Option.getD_some]
@[simp] theorem GWay.cellAt_0 (l : List GWay) (i : Nat) : Go.Ab.cellAt (dd (l.map GWay.enc)) i 0 [V.d (D.v (.int .i64 0))] = V.d (D.v (.int .i64 (l[i]?.getD GWay.zero).Dir)) := (GWay.cellAt l i 0 (D.v (.int .i64 0)) rfl).trans (by simp)
@[simp] theorem GWay.cellAt_1 (l : List GWay) (i : Nat) : Go.Ab.cellAt (dd (l.map GWay.enc)) i 1 [V.d (D.v (.int .i64 0))] = V.d (D.v (.int .i64 (l[i]?.getD GWay.zero).To)) := (GWay.cellAt l i 1 (D.v (.int .i64 0)) rfl).trans (by simp)
@[simp] theorem GWay.cellAt_2 (l : List GWay) (i : Nat) : Go.Ab.cellAt (dd (l.map GWay.enc)) i 2 [V.d (D.v (.int .i64 0))] = V.d (D.v (.int .i64 (l[i]?.getD GWay.zero).When)) := (GWay.cellAt l i 2 (D.v (.int .i64 0)) rfl).trans (by simp)
@[simp] theorem GWay.cellAt_3 (l : List GWay) (i : Nat) : Go.Ab.cellAt (dd (l.map GWay.enc)) i 3 [V.d (D.v (.int .i64 0))] = V.d (D.v (.int .i64 (l[i]?.getD GWay.zero).Else)) := (GWay.cellAt l i 3 (D.v (.int .i64 0)) rfl).trans (by simp)
@[simp] theorem GWay.aggAt (l : List GWay) (i : Nat) : Go.Ab.aggAt (dd (l.map GWay.enc)) i 0 4 [V.d (D.v (.int .i64 0)), V.d (D.v (.int .i64 0)), V.d (D.v (.int .i64 0)), V.d (D.v (.int .i64 0))] = (l[i]?.getD GWay.zero).enc.map V.d := by
  unfold Go.Ab.aggAt
  rw [dd_get, List.getElem?_map]
  cases l[i]? with
  | none => rfl
  | some x => simp; cases x; rfl
@[simp] theorem GWay.dropAll (x : GWay) : List.drop 4 x.enc = [] := rfl
@[simp] theorem GWay.dropAllv (x : GWay) : List.drop 4 (x.enc.map V.d) = [] := rfl
@[simp] theorem GWay.enc_all (x : GWay) : x.enc.take 4 = x.enc := rfl
@[simp] theorem GWay.enc_allv (x : GWay) : List.take 4 (x.enc.map V.d) = x.enc.map V.d := rfl
def GWay.wf (x : GWay) : Prop := inR .i64 x.Dir ∧ inR .i64 x.To ∧ inR .i64 x.When ∧ inR .i64 x.Else
theorem GWay.wf_Dir {x : GWay} (h : x.wf) : inR .i64 x.Dir := h.1
theorem GWay.wf_To {x : GWay} (h : x.wf) : inR .i64 x.To := h.2.1
theorem GWay.wf_When {x : GWay} (h : x.wf) : inR .i64 x.When := h.2.2.1
theorem GWay.wf_Else {x : GWay} (h : x.wf) : inR .i64 x.Else := h.2.2.2
theorem tyK_40 : tyK Go.Proofs.Try.prog 40 = .st [3, 3, 3, 3] := by kernel_rfl
theorem tyK_3 : tyK Go.Proofs.Try.prog 3 = .int .i64 := by kernel_rfl
theorem GWay.of {ys : List D} (h : HasT Go.Proofs.Try.prog 40 ys) : ∃ x : GWay, ys = x.enc ∧ x.wf := by
  have h' := HasT.st_inv h tyK_40
  obtain ⟨a0_, r0, hr0, t0, h0⟩ := h'
  obtain ⟨a1_, r1, hr1, t1, h1⟩ := h0
  obtain ⟨a2_, r2, hr2, t2, h2⟩ := h1
  obtain ⟨a3_, r3, hr3, t3, h3⟩ := h2
  simp only [HasTs] at h3
  subst h3
  subst hr3
  subst hr2
  subst hr1
  subst hr0
  obtain ⟨a0_', rfl, a0_w⟩ := HasT.int_inv t0 tyK_3
  obtain ⟨a1_', rfl, a1_w⟩ := HasT.int_inv t1 tyK_3
  obtain ⟨a2_', rfl, a2_w⟩ := HasT.int_inv t2 tyK_3
  obtain ⟨a3_', rfl, a3_w⟩ := HasT.int_inv t3 tyK_3
  exact ⟨⟨a0_', a1_', a2_', a3_'⟩, rfl, ⟨a0_w, a1_w, a2_w, a3_w⟩⟩
structure GThing where
  Title : Int
  Text : Int
  Parent : Int
  Flags : Int
  Room : Bool
  Props : (List Int)
  Words : (List ByteArray)
  Adjs : (List ByteArray)
  Ways : (List GWay)
  deriving DecidableEq
def GThing.enc (x : GThing) : List D := [D.v (.int .i64 x.Title), D.v (.int .i64 x.Text), D.v (.int .i64 x.Parent), D.v (.int .i64 x.Flags), D.v (.bool x.Room), D.sl (encI x.Props), D.sl (encS x.Words), D.sl (encS x.Adjs), D.sl (x.Ways.map GWay.enc)]
@[simp] theorem GThing.enc_length (x : GThing) : x.enc.length = 9 := rfl
@[simp] theorem GThing.enc_0 (x : GThing) : x.enc[0]? = some (D.v (.int .i64 x.Title)) := rfl
@[simp] theorem GThing.encg_0 (x : GThing) (h : 0 < x.enc.length) : x.enc[0] = D.v (.int .i64 x.Title) := rfl
@[simp] theorem GThing.enc_1 (x : GThing) : x.enc[1]? = some (D.v (.int .i64 x.Text)) := rfl
@[simp] theorem GThing.encg_1 (x : GThing) (h : 1 < x.enc.length) : x.enc[1] = D.v (.int .i64 x.Text) := rfl
@[simp] theorem GThing.enc_2 (x : GThing) : x.enc[2]? = some (D.v (.int .i64 x.Parent)) := rfl
@[simp] theorem GThing.encg_2 (x : GThing) (h : 2 < x.enc.length) : x.enc[2] = D.v (.int .i64 x.Parent) := rfl
@[simp] theorem GThing.enc_3 (x : GThing) : x.enc[3]? = some (D.v (.int .i64 x.Flags)) := rfl
@[simp] theorem GThing.encg_3 (x : GThing) (h : 3 < x.enc.length) : x.enc[3] = D.v (.int .i64 x.Flags) := rfl
@[simp] theorem GThing.enc_4 (x : GThing) : x.enc[4]? = some (D.v (.bool x.Room)) := rfl
@[simp] theorem GThing.encg_4 (x : GThing) (h : 4 < x.enc.length) : x.enc[4] = D.v (.bool x.Room) := rfl
@[simp] theorem GThing.enc_5 (x : GThing) : x.enc[5]? = some (D.sl (encI x.Props)) := rfl
@[simp] theorem GThing.encg_5 (x : GThing) (h : 5 < x.enc.length) : x.enc[5] = D.sl (encI x.Props) := rfl
@[simp] theorem GThing.enc_6 (x : GThing) : x.enc[6]? = some (D.sl (encS x.Words)) := rfl
@[simp] theorem GThing.encg_6 (x : GThing) (h : 6 < x.enc.length) : x.enc[6] = D.sl (encS x.Words) := rfl
@[simp] theorem GThing.enc_7 (x : GThing) : x.enc[7]? = some (D.sl (encS x.Adjs)) := rfl
@[simp] theorem GThing.encg_7 (x : GThing) (h : 7 < x.enc.length) : x.enc[7] = D.sl (encS x.Adjs) := rfl
@[simp] theorem GThing.enc_8 (x : GThing) : x.enc[8]? = some (D.sl (x.Ways.map GWay.enc)) := rfl
@[simp] theorem GThing.encg_8 (x : GThing) (h : 8 < x.enc.length) : x.enc[8] = D.sl (x.Ways.map GWay.enc) := rfl
@[simp] theorem GThing.fzV (L : Heap) (x : GThing) : V.fzs L (x.enc.map V.d) = x.enc.map V.d := by simp [GThing.enc, V.fzs, V.fz]
def GThing.zero : GThing := ⟨0, 0, 0, 0, false, [], [], [], []⟩
theorem GThing.zero_enc : GThing.zero.enc = [D.v (.int .i64 0), D.v (.int .i64 0), D.v (.int .i64 0), D.v (.int .i64 0), D.v (.bool false), D.sl [], D.sl [], D.sl [], D.sl []] := rfl
@[simp] theorem GThing.getZ (o : Option GThing) : (o.map GThing.enc).getD [D.v (.int .i64 0), D.v (.int .i64 0), D.v (.int .i64 0), D.v (.int .i64 0), D.v (.bool false), D.sl [], D.sl [], D.sl [], D.sl []] = (o.getD GThing.zero).enc := by cases o <;> rfl
@[simp] theorem GThing.getV (o : Option GThing) : (o.map (fun x => x.enc.map V.d)).getD [V.d (D.v (.int .i64 0)), V.d (D.v (.int .i64 0)), V.d (D.v (.int .i64 0)), V.d (D.v (.int .i64 0)), V.d (D.v (.bool false)), V.d (D.sl []), V.d (D.sl []), V.d (D.sl []), V.d (D.sl [])] = ((o.getD GThing.zero).enc).map V.d := by cases o <;> rfl
theorem GThing.cellAt (l : List GThing) (i j : Nat) (z : D) (h : GThing.zero.enc[j]? = some z) : cellAt (dd (l.map GThing.enc)) i j [V.d z] = V.d (((l[i]?.getD GThing.zero).enc[j]?).getD default) := by
  unfold Go.Ab.cellAt
  rw [dd_get, List.getElem?_map]
  cases hl : l[i]? with
  | none => simp [h]
  | some a =>
    have hj := (List.getElem?_eq_some_iff.1 h).1
    have hj' : j < a.enc.length := by rw [GThing.enc_length] at hj ⊢; exact hj
    simp only [Option.map_some, List.getElem?_map, List.getElem?_eq_getElem hj', Option.getD_some]
@[simp] theorem GThing.cellAt_0 (l : List GThing) (i : Nat) : Go.Ab.cellAt (dd (l.map GThing.enc)) i 0 [V.d (D.v (.int .i64 0))] = V.d (D.v (.int .i64 (l[i]?.getD GThing.zero).Title)) := (GThing.cellAt l i 0 (D.v (.int .i64 0)) rfl).trans (by simp)
@[simp] theorem GThing.cellAt_1 (l : List GThing) (i : Nat) : Go.Ab.cellAt (dd (l.map GThing.enc)) i 1 [V.d (D.v (.int .i64 0))] = V.d (D.v (.int .i64 (l[i]?.getD GThing.zero).Text)) := (GThing.cellAt l i 1 (D.v (.int .i64 0)) rfl).trans (by simp)
@[simp] theorem GThing.cellAt_2 (l : List GThing) (i : Nat) : Go.Ab.cellAt (dd (l.map GThing.enc)) i 2 [V.d (D.v (.int .i64 0))] = V.d (D.v (.int .i64 (l[i]?.getD GThing.zero).Parent)) := (GThing.cellAt l i 2 (D.v (.int .i64 0)) rfl).trans (by simp)
@[simp] theorem GThing.cellAt_3 (l : List GThing) (i : Nat) : Go.Ab.cellAt (dd (l.map GThing.enc)) i 3 [V.d (D.v (.int .i64 0))] = V.d (D.v (.int .i64 (l[i]?.getD GThing.zero).Flags)) := (GThing.cellAt l i 3 (D.v (.int .i64 0)) rfl).trans (by simp)
@[simp] theorem GThing.cellAt_4 (l : List GThing) (i : Nat) : Go.Ab.cellAt (dd (l.map GThing.enc)) i 4 [V.d (D.v (.bool false))] = V.d (D.v (.bool (l[i]?.getD GThing.zero).Room)) := (GThing.cellAt l i 4 (D.v (.bool false)) rfl).trans (by simp)
@[simp] theorem GThing.cellAt_5 (l : List GThing) (i : Nat) : Go.Ab.cellAt (dd (l.map GThing.enc)) i 5 [V.d (D.sl [])] = V.d (D.sl (encI (l[i]?.getD GThing.zero).Props)) := (GThing.cellAt l i 5 (D.sl []) rfl).trans (by simp)
@[simp] theorem GThing.cellAt_6 (l : List GThing) (i : Nat) : Go.Ab.cellAt (dd (l.map GThing.enc)) i 6 [V.d (D.sl [])] = V.d (D.sl (encS (l[i]?.getD GThing.zero).Words)) := (GThing.cellAt l i 6 (D.sl []) rfl).trans (by simp)
@[simp] theorem GThing.cellAt_7 (l : List GThing) (i : Nat) : Go.Ab.cellAt (dd (l.map GThing.enc)) i 7 [V.d (D.sl [])] = V.d (D.sl (encS (l[i]?.getD GThing.zero).Adjs)) := (GThing.cellAt l i 7 (D.sl []) rfl).trans (by simp)
@[simp] theorem GThing.cellAt_8 (l : List GThing) (i : Nat) : Go.Ab.cellAt (dd (l.map GThing.enc)) i 8 [V.d (D.sl [])] = V.d (D.sl ((l[i]?.getD GThing.zero).Ways.map GWay.enc)) := (GThing.cellAt l i 8 (D.sl []) rfl).trans (by simp)
@[simp] theorem GThing.aggAt (l : List GThing) (i : Nat) : Go.Ab.aggAt (dd (l.map GThing.enc)) i 0 9 [V.d (D.v (.int .i64 0)), V.d (D.v (.int .i64 0)), V.d (D.v (.int .i64 0)), V.d (D.v (.int .i64 0)), V.d (D.v (.bool false)), V.d (D.sl []), V.d (D.sl []), V.d (D.sl []), V.d (D.sl [])] = (l[i]?.getD GThing.zero).enc.map V.d := by
  unfold Go.Ab.aggAt
  rw [dd_get, List.getElem?_map]
  cases l[i]? with
  | none => rfl
  | some x => simp; cases x; rfl
@[simp] theorem GThing.dropAll (x : GThing) : List.drop 9 x.enc = [] := rfl
@[simp] theorem GThing.dropAllv (x : GThing) : List.drop 9 (x.enc.map V.d) = [] := rfl
@[simp] theorem GThing.enc_all (x : GThing) : x.enc.take 9 = x.enc := rfl
@[simp] theorem GThing.enc_allv (x : GThing) : List.take 9 (x.enc.map V.d) = x.enc.map V.d := rfl
def GThing.wf (x : GThing) : Prop := inR .i64 x.Title ∧ inR .i64 x.Text ∧ inR .i64 x.Parent ∧ inR .i64 x.Flags ∧ x.Props.length * 8 ≤ 140737488351232 ∧ (∀ y0 : Int, y0 ∈ x.Props → inR .i64 y0) ∧ x.Words.length * 16 ≤ 140737488351232 ∧ (∀ y0 : ByteArray, y0 ∈ x.Words → y0.size ≤ 140737488351232) ∧ x.Adjs.length * 16 ≤ 140737488351232 ∧ (∀ y0 : ByteArray, y0 ∈ x.Adjs → y0.size ≤ 140737488351232) ∧ x.Ways.length * 32 ≤ 140737488351232 ∧ (∀ y0 : GWay, y0 ∈ x.Ways → y0.wf)
theorem GThing.wf_Title {x : GThing} (h : x.wf) : inR .i64 x.Title := h.1
theorem GThing.wf_Text {x : GThing} (h : x.wf) : inR .i64 x.Text := h.2.1
theorem GThing.wf_Parent {x : GThing} (h : x.wf) : inR .i64 x.Parent := h.2.2.1
theorem GThing.wf_Flags {x : GThing} (h : x.wf) : inR .i64 x.Flags := h.2.2.2.1
theorem GThing.wl_Props {x : GThing} (h : x.wf) : x.Props.length * 8 ≤ 140737488351232 := h.2.2.2.2.1
theorem GThing.wf_Props {x : GThing} (h : x.wf) : (∀ y0 : Int, y0 ∈ x.Props → inR .i64 y0) := h.2.2.2.2.2.1
theorem GThing.wl_Words {x : GThing} (h : x.wf) : x.Words.length * 16 ≤ 140737488351232 := h.2.2.2.2.2.2.1
theorem GThing.wf_Words {x : GThing} (h : x.wf) : (∀ y0 : ByteArray, y0 ∈ x.Words → y0.size ≤ 140737488351232) := h.2.2.2.2.2.2.2.1
theorem GThing.wl_Adjs {x : GThing} (h : x.wf) : x.Adjs.length * 16 ≤ 140737488351232 := h.2.2.2.2.2.2.2.2.1
theorem GThing.wf_Adjs {x : GThing} (h : x.wf) : (∀ y0 : ByteArray, y0 ∈ x.Adjs → y0.size ≤ 140737488351232) := h.2.2.2.2.2.2.2.2.2.1
theorem GThing.wl_Ways {x : GThing} (h : x.wf) : x.Ways.length * 32 ≤ 140737488351232 := h.2.2.2.2.2.2.2.2.2.2.1
theorem GThing.wf_Ways {x : GThing} (h : x.wf) : (∀ y0 : GWay, y0 ∈ x.Ways → y0.wf) := h.2.2.2.2.2.2.2.2.2.2.2
theorem tyK_38 : tyK Go.Proofs.Try.prog 38 = .st [3, 3, 3, 3, 4, 23, 22, 22, 36] := by kernel_rfl
theorem tyK_4 : tyK Go.Proofs.Try.prog 4 = .bool := by kernel_rfl
theorem tyK_23 : tyK Go.Proofs.Try.prog 23 = .sl 3 8 := by kernel_rfl
theorem tyK_22 : tyK Go.Proofs.Try.prog 22 = .sl 9 16 := by kernel_rfl
theorem tyK_9 : tyK Go.Proofs.Try.prog 9 = .str := by kernel_rfl
theorem tyK_36 : tyK Go.Proofs.Try.prog 36 = .sl 40 32 := by kernel_rfl
theorem GThing.of {ys : List D} (h : HasT Go.Proofs.Try.prog 38 ys) : ∃ x : GThing, ys = x.enc ∧ x.wf := by
  have h' := HasT.st_inv h tyK_38
  obtain ⟨a0_, r0, hr0, t0, h0⟩ := h'
  obtain ⟨a1_, r1, hr1, t1, h1⟩ := h0
  obtain ⟨a2_, r2, hr2, t2, h2⟩ := h1
  obtain ⟨a3_, r3, hr3, t3, h3⟩ := h2
  obtain ⟨a4_, r4, hr4, t4, h4⟩ := h3
  obtain ⟨a5_, r5, hr5, t5, h5⟩ := h4
  obtain ⟨a6_, r6, hr6, t6, h6⟩ := h5
  obtain ⟨a7_, r7, hr7, t7, h7⟩ := h6
  obtain ⟨a8_, r8, hr8, t8, h8⟩ := h7
  simp only [HasTs] at h8
  subst h8
  subst hr8
  subst hr7
  subst hr6
  subst hr5
  subst hr4
  subst hr3
  subst hr2
  subst hr1
  subst hr0
  obtain ⟨a0_', rfl, a0_w⟩ := HasT.int_inv t0 tyK_3
  obtain ⟨a1_', rfl, a1_w⟩ := HasT.int_inv t1 tyK_3
  obtain ⟨a2_', rfl, a2_w⟩ := HasT.int_inv t2 tyK_3
  obtain ⟨a3_', rfl, a3_w⟩ := HasT.int_inv t3 tyK_3
  obtain ⟨a4_', rfl⟩ := HasT.bool_inv t4 tyK_4
  obtain ⟨a5_0, rfl, a5_h, a5_l, a5_w⟩ := HasT.sl_inv t5 tyK_23
  obtain ⟨a5_', rfl, a5_a⟩ := map_of (f := (fun y => [D.v (.int .i64 y)])) (p := fun (y : Int) => inR .i64 y) (fun a5_e hx => by
    have a5_q := a5_h a5_e hx
    obtain ⟨a5_e', rfl, a5_ew⟩ := HasT.int_inv a5_q tyK_3
    exact ⟨a5_e', rfl, a5_ew⟩)
  obtain ⟨a6_0, rfl, a6_h, a6_l, a6_w⟩ := HasT.sl_inv t6 tyK_22
  obtain ⟨a6_', rfl, a6_a⟩ := map_of (f := (fun y => [D.v (.string y)])) (p := fun (y : ByteArray) => y.size ≤ 140737488351232) (fun a6_e hx => by
    have a6_q := a6_h a6_e hx
    obtain ⟨a6_e', rfl, a6_ew⟩ := HasT.str_inv a6_q tyK_9
    exact ⟨a6_e', rfl, a6_ew⟩)
  obtain ⟨a7_0, rfl, a7_h, a7_l, a7_w⟩ := HasT.sl_inv t7 tyK_22
  obtain ⟨a7_', rfl, a7_a⟩ := map_of (f := (fun y => [D.v (.string y)])) (p := fun (y : ByteArray) => y.size ≤ 140737488351232) (fun a7_e hx => by
    have a7_q := a7_h a7_e hx
    obtain ⟨a7_e', rfl, a7_ew⟩ := HasT.str_inv a7_q tyK_9
    exact ⟨a7_e', rfl, a7_ew⟩)
  obtain ⟨a8_0, rfl, a8_h, a8_l, a8_w⟩ := HasT.sl_inv t8 tyK_36
  obtain ⟨a8_', rfl, a8_a⟩ := map_of (f := GWay.enc) (p := fun (y : GWay) => y.wf) (fun a8_e hx => by
    have a8_q := a8_h a8_e hx
    obtain ⟨a8_e', rfl, a8_ew⟩ := GWay.of a8_q
    exact ⟨a8_e', rfl, a8_ew⟩)
  exact ⟨⟨a0_', a1_', a2_', a3_', a4_', a5_', a6_', a7_', a8_'⟩, rfl, ⟨a0_w, a1_w, a2_w, a3_w, (by simpa using a5_w), a5_a, (by simpa using a6_w), a6_a, (by simpa using a7_w), a7_a, (by simpa using a8_w), a8_a⟩⟩
structure GSlot where
  Kind : Int
  Words : (List ByteArray)
  deriving DecidableEq
def GSlot.enc (x : GSlot) : List D := [D.v (.int .i64 x.Kind), D.sl (encS x.Words)]
@[simp] theorem GSlot.enc_length (x : GSlot) : x.enc.length = 2 := rfl
@[simp] theorem GSlot.enc_0 (x : GSlot) : x.enc[0]? = some (D.v (.int .i64 x.Kind)) := rfl
@[simp] theorem GSlot.encg_0 (x : GSlot) (h : 0 < x.enc.length) : x.enc[0] = D.v (.int .i64 x.Kind) := rfl
@[simp] theorem GSlot.enc_1 (x : GSlot) : x.enc[1]? = some (D.sl (encS x.Words)) := rfl
@[simp] theorem GSlot.encg_1 (x : GSlot) (h : 1 < x.enc.length) : x.enc[1] = D.sl (encS x.Words) := rfl
@[simp] theorem GSlot.fzV (L : Heap) (x : GSlot) : V.fzs L (x.enc.map V.d) = x.enc.map V.d := by simp [GSlot.enc, V.fzs, V.fz]
def GSlot.zero : GSlot := ⟨0, []⟩
theorem GSlot.zero_enc : GSlot.zero.enc = [D.v (.int .i64 0), D.sl []] := rfl
@[simp] theorem GSlot.getZ (o : Option GSlot) : (o.map GSlot.enc).getD [D.v (.int .i64 0), D.sl []] = (o.getD GSlot.zero).enc := by cases o <;> rfl
@[simp] theorem GSlot.getV (o : Option GSlot) : (o.map (fun x => x.enc.map V.d)).getD [V.d (D.v (.int .i64 0)), V.d (D.sl [])] = ((o.getD GSlot.zero).enc).map V.d := by cases o <;> rfl
theorem GSlot.cellAt (l : List GSlot) (i j : Nat) (z : D) (h : GSlot.zero.enc[j]? = some z) : cellAt (dd (l.map GSlot.enc)) i j [V.d z] = V.d (((l[i]?.getD GSlot.zero).enc[j]?).getD default) := by
  unfold Go.Ab.cellAt
  rw [dd_get, List.getElem?_map]
  cases hl : l[i]? with
  | none => simp [h]
  | some a =>
    have hj := (List.getElem?_eq_some_iff.1 h).1
    have hj' : j < a.enc.length := by rw [GSlot.enc_length] at hj ⊢; exact hj
    simp only [Option.map_some, List.getElem?_map, List.getElem?_eq_getElem hj', Option.getD_some]
@[simp] theorem GSlot.cellAt_0 (l : List GSlot) (i : Nat) : Go.Ab.cellAt (dd (l.map GSlot.enc)) i 0 [V.d (D.v (.int .i64 0))] = V.d (D.v (.int .i64 (l[i]?.getD GSlot.zero).Kind)) := (GSlot.cellAt l i 0 (D.v (.int .i64 0)) rfl).trans (by simp)
@[simp] theorem GSlot.cellAt_1 (l : List GSlot) (i : Nat) : Go.Ab.cellAt (dd (l.map GSlot.enc)) i 1 [V.d (D.sl [])] = V.d (D.sl (encS (l[i]?.getD GSlot.zero).Words)) := (GSlot.cellAt l i 1 (D.sl []) rfl).trans (by simp)
@[simp] theorem GSlot.aggAt (l : List GSlot) (i : Nat) : Go.Ab.aggAt (dd (l.map GSlot.enc)) i 0 2 [V.d (D.v (.int .i64 0)), V.d (D.sl [])] = (l[i]?.getD GSlot.zero).enc.map V.d := by
  unfold Go.Ab.aggAt
  rw [dd_get, List.getElem?_map]
  cases l[i]? with
  | none => rfl
  | some x => simp; cases x; rfl
@[simp] theorem GSlot.dropAll (x : GSlot) : List.drop 2 x.enc = [] := rfl
@[simp] theorem GSlot.dropAllv (x : GSlot) : List.drop 2 (x.enc.map V.d) = [] := rfl
@[simp] theorem GSlot.enc_all (x : GSlot) : x.enc.take 2 = x.enc := rfl
@[simp] theorem GSlot.enc_allv (x : GSlot) : List.take 2 (x.enc.map V.d) = x.enc.map V.d := rfl
def GSlot.wf (x : GSlot) : Prop := inR .i64 x.Kind ∧ x.Words.length * 16 ≤ 140737488351232 ∧ (∀ y0 : ByteArray, y0 ∈ x.Words → y0.size ≤ 140737488351232)
theorem GSlot.wf_Kind {x : GSlot} (h : x.wf) : inR .i64 x.Kind := h.1
theorem GSlot.wl_Words {x : GSlot} (h : x.wf) : x.Words.length * 16 ≤ 140737488351232 := h.2.1
theorem GSlot.wf_Words {x : GSlot} (h : x.wf) : (∀ y0 : ByteArray, y0 ∈ x.Words → y0.size ≤ 140737488351232) := h.2.2
theorem tyK_135 : tyK Go.Proofs.Try.prog 135 = .st [3, 22] := by kernel_rfl
theorem GSlot.of {ys : List D} (h : HasT Go.Proofs.Try.prog 135 ys) : ∃ x : GSlot, ys = x.enc ∧ x.wf := by
  have h' := HasT.st_inv h tyK_135
  obtain ⟨a0_, r0, hr0, t0, h0⟩ := h'
  obtain ⟨a1_, r1, hr1, t1, h1⟩ := h0
  simp only [HasTs] at h1
  subst h1
  subst hr1
  subst hr0
  obtain ⟨a0_', rfl, a0_w⟩ := HasT.int_inv t0 tyK_3
  obtain ⟨a1_0, rfl, a1_h, a1_l, a1_w⟩ := HasT.sl_inv t1 tyK_22
  obtain ⟨a1_', rfl, a1_a⟩ := map_of (f := (fun y => [D.v (.string y)])) (p := fun (y : ByteArray) => y.size ≤ 140737488351232) (fun a1_e hx => by
    have a1_q := a1_h a1_e hx
    obtain ⟨a1_e', rfl, a1_ew⟩ := HasT.str_inv a1_q tyK_9
    exact ⟨a1_e', rfl, a1_ew⟩)
  exact ⟨⟨a0_', a1_'⟩, rfl, ⟨a0_w, (by simpa using a1_w), a1_a⟩⟩
structure GAct where
  Meta : Bool
  Lines : (List (List GSlot))
  deriving DecidableEq
def GAct.enc (x : GAct) : List D := [D.v (.bool x.Meta), D.sl (encSl (List.map GSlot.enc) x.Lines)]
@[simp] theorem GAct.enc_length (x : GAct) : x.enc.length = 2 := rfl
@[simp] theorem GAct.enc_0 (x : GAct) : x.enc[0]? = some (D.v (.bool x.Meta)) := rfl
@[simp] theorem GAct.encg_0 (x : GAct) (h : 0 < x.enc.length) : x.enc[0] = D.v (.bool x.Meta) := rfl
@[simp] theorem GAct.enc_1 (x : GAct) : x.enc[1]? = some (D.sl (encSl (List.map GSlot.enc) x.Lines)) := rfl
@[simp] theorem GAct.encg_1 (x : GAct) (h : 1 < x.enc.length) : x.enc[1] = D.sl (encSl (List.map GSlot.enc) x.Lines) := rfl
@[simp] theorem GAct.fzV (L : Heap) (x : GAct) : V.fzs L (x.enc.map V.d) = x.enc.map V.d := by simp [GAct.enc, V.fzs, V.fz]
def GAct.zero : GAct := ⟨false, []⟩
theorem GAct.zero_enc : GAct.zero.enc = [D.v (.bool false), D.sl []] := rfl
@[simp] theorem GAct.getZ (o : Option GAct) : (o.map GAct.enc).getD [D.v (.bool false), D.sl []] = (o.getD GAct.zero).enc := by cases o <;> rfl
@[simp] theorem GAct.getV (o : Option GAct) : (o.map (fun x => x.enc.map V.d)).getD [V.d (D.v (.bool false)), V.d (D.sl [])] = ((o.getD GAct.zero).enc).map V.d := by cases o <;> rfl
theorem GAct.cellAt (l : List GAct) (i j : Nat) (z : D) (h : GAct.zero.enc[j]? = some z) : cellAt (dd (l.map GAct.enc)) i j [V.d z] = V.d (((l[i]?.getD GAct.zero).enc[j]?).getD default) := by
  unfold Go.Ab.cellAt
  rw [dd_get, List.getElem?_map]
  cases hl : l[i]? with
  | none => simp [h]
  | some a =>
    have hj := (List.getElem?_eq_some_iff.1 h).1
    have hj' : j < a.enc.length := by rw [GAct.enc_length] at hj ⊢; exact hj
    simp only [Option.map_some, List.getElem?_map, List.getElem?_eq_getElem hj', Option.getD_some]
@[simp] theorem GAct.cellAt_0 (l : List GAct) (i : Nat) : Go.Ab.cellAt (dd (l.map GAct.enc)) i 0 [V.d (D.v (.bool false))] = V.d (D.v (.bool (l[i]?.getD GAct.zero).Meta)) := (GAct.cellAt l i 0 (D.v (.bool false)) rfl).trans (by simp)
@[simp] theorem GAct.cellAt_1 (l : List GAct) (i : Nat) : Go.Ab.cellAt (dd (l.map GAct.enc)) i 1 [V.d (D.sl [])] = V.d (D.sl (encSl (List.map GSlot.enc) (l[i]?.getD GAct.zero).Lines)) := (GAct.cellAt l i 1 (D.sl []) rfl).trans (by simp)
@[simp] theorem GAct.aggAt (l : List GAct) (i : Nat) : Go.Ab.aggAt (dd (l.map GAct.enc)) i 0 2 [V.d (D.v (.bool false)), V.d (D.sl [])] = (l[i]?.getD GAct.zero).enc.map V.d := by
  unfold Go.Ab.aggAt
  rw [dd_get, List.getElem?_map]
  cases l[i]? with
  | none => rfl
  | some x => simp; cases x; rfl
@[simp] theorem GAct.dropAll (x : GAct) : List.drop 2 x.enc = [] := rfl
@[simp] theorem GAct.dropAllv (x : GAct) : List.drop 2 (x.enc.map V.d) = [] := rfl
@[simp] theorem GAct.enc_all (x : GAct) : x.enc.take 2 = x.enc := rfl
@[simp] theorem GAct.enc_allv (x : GAct) : List.take 2 (x.enc.map V.d) = x.enc.map V.d := rfl
def GAct.wf (x : GAct) : Prop := x.Lines.length * 24 ≤ 140737488351232 ∧ (∀ y0 : (List GSlot), y0 ∈ x.Lines → y0.length * 32 ≤ 140737488351232 ∧ (∀ y1 : GSlot, y1 ∈ y0 → y1.wf))
theorem GAct.wl_Lines {x : GAct} (h : x.wf) : x.Lines.length * 24 ≤ 140737488351232 := h.1
theorem GAct.wf_Lines {x : GAct} (h : x.wf) : (∀ y0 : (List GSlot), y0 ∈ x.Lines → y0.length * 32 ≤ 140737488351232 ∧ (∀ y1 : GSlot, y1 ∈ y0 → y1.wf)) := h.2
theorem tyK_115 : tyK Go.Proofs.Try.prog 115 = .st [4, 113] := by kernel_rfl
theorem tyK_113 : tyK Go.Proofs.Try.prog 113 = .sl 117 24 := by kernel_rfl
theorem tyK_117 : tyK Go.Proofs.Try.prog 117 = .sl 135 32 := by kernel_rfl
theorem GAct.of {ys : List D} (h : HasT Go.Proofs.Try.prog 115 ys) : ∃ x : GAct, ys = x.enc ∧ x.wf := by
  have h' := HasT.st_inv h tyK_115
  obtain ⟨a0_, r0, hr0, t0, h0⟩ := h'
  obtain ⟨a1_, r1, hr1, t1, h1⟩ := h0
  simp only [HasTs] at h1
  subst h1
  subst hr1
  subst hr0
  obtain ⟨a0_', rfl⟩ := HasT.bool_inv t0 tyK_4
  obtain ⟨a1_0, rfl, a1_h, a1_l, a1_w⟩ := HasT.sl_inv t1 tyK_113
  obtain ⟨a1_', rfl, a1_a⟩ := map_of (f := (fun y => [D.sl (y.map GSlot.enc)])) (p := fun (y : (List GSlot)) => y.length * 32 ≤ 140737488351232 ∧ (∀ y1 : GSlot, y1 ∈ y → y1.wf)) (fun a1_e hx => by
    have a1_q := a1_h a1_e hx
    obtain ⟨a1_e0, rfl, a1_eh, a1_el, a1_ew⟩ := HasT.sl_inv a1_q tyK_117
    obtain ⟨a1_e', rfl, a1_ea⟩ := map_of (f := GSlot.enc) (p := fun (y : GSlot) => y.wf) (fun a1_ee hx => by
      have a1_eq := a1_eh a1_ee hx
      obtain ⟨a1_ee', rfl, a1_eew⟩ := GSlot.of a1_eq
      exact ⟨a1_ee', rfl, a1_eew⟩)
    exact ⟨a1_e', rfl, ⟨(by simpa using a1_ew), a1_ea⟩⟩)
  exact ⟨⟨a0_', a1_'⟩, rfl, ⟨(by simpa using a1_w), a1_a⟩⟩
structure GDeed where
  Verb : Int
  Phase : Int
  Noun : Int
  Second : Int
  When : Int
  Body : Int
  deriving DecidableEq
def GDeed.enc (x : GDeed) : List D := [D.v (.int .i64 x.Verb), D.v (.int .i64 x.Phase), D.v (.int .i64 x.Noun), D.v (.int .i64 x.Second), D.v (.int .i64 x.When), D.v (.int .i64 x.Body)]
@[simp] theorem GDeed.enc_length (x : GDeed) : x.enc.length = 6 := rfl
@[simp] theorem GDeed.enc_0 (x : GDeed) : x.enc[0]? = some (D.v (.int .i64 x.Verb)) := rfl
@[simp] theorem GDeed.encg_0 (x : GDeed) (h : 0 < x.enc.length) : x.enc[0] = D.v (.int .i64 x.Verb) := rfl
@[simp] theorem GDeed.enc_1 (x : GDeed) : x.enc[1]? = some (D.v (.int .i64 x.Phase)) := rfl
@[simp] theorem GDeed.encg_1 (x : GDeed) (h : 1 < x.enc.length) : x.enc[1] = D.v (.int .i64 x.Phase) := rfl
@[simp] theorem GDeed.enc_2 (x : GDeed) : x.enc[2]? = some (D.v (.int .i64 x.Noun)) := rfl
@[simp] theorem GDeed.encg_2 (x : GDeed) (h : 2 < x.enc.length) : x.enc[2] = D.v (.int .i64 x.Noun) := rfl
@[simp] theorem GDeed.enc_3 (x : GDeed) : x.enc[3]? = some (D.v (.int .i64 x.Second)) := rfl
@[simp] theorem GDeed.encg_3 (x : GDeed) (h : 3 < x.enc.length) : x.enc[3] = D.v (.int .i64 x.Second) := rfl
@[simp] theorem GDeed.enc_4 (x : GDeed) : x.enc[4]? = some (D.v (.int .i64 x.When)) := rfl
@[simp] theorem GDeed.encg_4 (x : GDeed) (h : 4 < x.enc.length) : x.enc[4] = D.v (.int .i64 x.When) := rfl
@[simp] theorem GDeed.enc_5 (x : GDeed) : x.enc[5]? = some (D.v (.int .i64 x.Body)) := rfl
@[simp] theorem GDeed.encg_5 (x : GDeed) (h : 5 < x.enc.length) : x.enc[5] = D.v (.int .i64 x.Body) := rfl
@[simp] theorem GDeed.fzV (L : Heap) (x : GDeed) : V.fzs L (x.enc.map V.d) = x.enc.map V.d := by simp [GDeed.enc, V.fzs, V.fz]
@[simp] theorem GDeed.eqV (x y : GDeed) : eqVs (x.enc.map V.d) (y.enc.map V.d) = some (decide (x = y)) := by
  rcases x with ⟨a_0, a_1, a_2, a_3, a_4, a_5⟩
  rcases y with ⟨b_0, b_1, b_2, b_3, b_4, b_5⟩
  simp only [GDeed.enc, List.map, eqVs, vals, eqVals, eqV1, if_true, Option.some.injEq, bytes_beq]
  rw [Bool.eq_iff_iff]
  simp [and_assoc]
@[simp] theorem GDeed.fitV (x : GDeed) : fitVs [.i .i64, .i .i64, .i .i64, .i .i64, .i .i64, .i .i64] (x.enc.map V.d) = true := by
  simp [GDeed.enc, fitVs, vals, fits, fit1]
def GDeed.zero : GDeed := ⟨0, 0, 0, 0, 0, 0⟩
theorem GDeed.zero_enc : GDeed.zero.enc = [D.v (.int .i64 0), D.v (.int .i64 0), D.v (.int .i64 0), D.v (.int .i64 0), D.v (.int .i64 0), D.v (.int .i64 0)] := rfl
@[simp] theorem GDeed.getZ (o : Option GDeed) : (o.map GDeed.enc).getD [D.v (.int .i64 0), D.v (.int .i64 0), D.v (.int .i64 0), D.v (.int .i64 0), D.v (.int .i64 0), D.v (.int .i64 0)] = (o.getD GDeed.zero).enc := by cases o <;> rfl
@[simp] theorem GDeed.getV (o : Option GDeed) : (o.map (fun x => x.enc.map V.d)).getD [V.d (D.v (.int .i64 0)), V.d (D.v (.int .i64 0)), V.d (D.v (.int .i64 0)), V.d (D.v (.int .i64 0)), V.d (D.v (.int .i64 0)), V.d (D.v (.int .i64 0))] = ((o.getD GDeed.zero).enc).map V.d := by cases o <;> rfl
theorem GDeed.cellAt (l : List GDeed) (i j : Nat) (z : D) (h : GDeed.zero.enc[j]? = some z) : cellAt (dd (l.map GDeed.enc)) i j [V.d z] = V.d (((l[i]?.getD GDeed.zero).enc[j]?).getD default) := by
  unfold Go.Ab.cellAt
  rw [dd_get, List.getElem?_map]
  cases hl : l[i]? with
  | none => simp [h]
  | some a =>
    have hj := (List.getElem?_eq_some_iff.1 h).1
    have hj' : j < a.enc.length := by rw [GDeed.enc_length] at hj ⊢; exact hj
    simp only [Option.map_some, List.getElem?_map, List.getElem?_eq_getElem hj', Option.getD_some]
@[simp] theorem GDeed.cellAt_0 (l : List GDeed) (i : Nat) : Go.Ab.cellAt (dd (l.map GDeed.enc)) i 0 [V.d (D.v (.int .i64 0))] = V.d (D.v (.int .i64 (l[i]?.getD GDeed.zero).Verb)) := (GDeed.cellAt l i 0 (D.v (.int .i64 0)) rfl).trans (by simp)
@[simp] theorem GDeed.cellAt_1 (l : List GDeed) (i : Nat) : Go.Ab.cellAt (dd (l.map GDeed.enc)) i 1 [V.d (D.v (.int .i64 0))] = V.d (D.v (.int .i64 (l[i]?.getD GDeed.zero).Phase)) := (GDeed.cellAt l i 1 (D.v (.int .i64 0)) rfl).trans (by simp)
@[simp] theorem GDeed.cellAt_2 (l : List GDeed) (i : Nat) : Go.Ab.cellAt (dd (l.map GDeed.enc)) i 2 [V.d (D.v (.int .i64 0))] = V.d (D.v (.int .i64 (l[i]?.getD GDeed.zero).Noun)) := (GDeed.cellAt l i 2 (D.v (.int .i64 0)) rfl).trans (by simp)
@[simp] theorem GDeed.cellAt_3 (l : List GDeed) (i : Nat) : Go.Ab.cellAt (dd (l.map GDeed.enc)) i 3 [V.d (D.v (.int .i64 0))] = V.d (D.v (.int .i64 (l[i]?.getD GDeed.zero).Second)) := (GDeed.cellAt l i 3 (D.v (.int .i64 0)) rfl).trans (by simp)
@[simp] theorem GDeed.cellAt_4 (l : List GDeed) (i : Nat) : Go.Ab.cellAt (dd (l.map GDeed.enc)) i 4 [V.d (D.v (.int .i64 0))] = V.d (D.v (.int .i64 (l[i]?.getD GDeed.zero).When)) := (GDeed.cellAt l i 4 (D.v (.int .i64 0)) rfl).trans (by simp)
@[simp] theorem GDeed.cellAt_5 (l : List GDeed) (i : Nat) : Go.Ab.cellAt (dd (l.map GDeed.enc)) i 5 [V.d (D.v (.int .i64 0))] = V.d (D.v (.int .i64 (l[i]?.getD GDeed.zero).Body)) := (GDeed.cellAt l i 5 (D.v (.int .i64 0)) rfl).trans (by simp)
@[simp] theorem GDeed.aggAt (l : List GDeed) (i : Nat) : Go.Ab.aggAt (dd (l.map GDeed.enc)) i 0 6 [V.d (D.v (.int .i64 0)), V.d (D.v (.int .i64 0)), V.d (D.v (.int .i64 0)), V.d (D.v (.int .i64 0)), V.d (D.v (.int .i64 0)), V.d (D.v (.int .i64 0))] = (l[i]?.getD GDeed.zero).enc.map V.d := by
  unfold Go.Ab.aggAt
  rw [dd_get, List.getElem?_map]
  cases l[i]? with
  | none => rfl
  | some x => simp; cases x; rfl
@[simp] theorem GDeed.dropAll (x : GDeed) : List.drop 6 x.enc = [] := rfl
@[simp] theorem GDeed.dropAllv (x : GDeed) : List.drop 6 (x.enc.map V.d) = [] := rfl
@[simp] theorem GDeed.enc_all (x : GDeed) : x.enc.take 6 = x.enc := rfl
@[simp] theorem GDeed.enc_allv (x : GDeed) : List.take 6 (x.enc.map V.d) = x.enc.map V.d := rfl
def GDeed.wf (x : GDeed) : Prop := inR .i64 x.Verb ∧ inR .i64 x.Phase ∧ inR .i64 x.Noun ∧ inR .i64 x.Second ∧ inR .i64 x.When ∧ inR .i64 x.Body
theorem GDeed.wf_Verb {x : GDeed} (h : x.wf) : inR .i64 x.Verb := h.1
theorem GDeed.wf_Phase {x : GDeed} (h : x.wf) : inR .i64 x.Phase := h.2.1
theorem GDeed.wf_Noun {x : GDeed} (h : x.wf) : inR .i64 x.Noun := h.2.2.1
theorem GDeed.wf_Second {x : GDeed} (h : x.wf) : inR .i64 x.Second := h.2.2.2.1
theorem GDeed.wf_When {x : GDeed} (h : x.wf) : inR .i64 x.When := h.2.2.2.2.1
theorem GDeed.wf_Body {x : GDeed} (h : x.wf) : inR .i64 x.Body := h.2.2.2.2.2
theorem tyK_119 : tyK Go.Proofs.Try.prog 119 = .st [3, 3, 3, 3, 3, 3] := by kernel_rfl
theorem GDeed.of {ys : List D} (h : HasT Go.Proofs.Try.prog 119 ys) : ∃ x : GDeed, ys = x.enc ∧ x.wf := by
  have h' := HasT.st_inv h tyK_119
  obtain ⟨a0_, r0, hr0, t0, h0⟩ := h'
  obtain ⟨a1_, r1, hr1, t1, h1⟩ := h0
  obtain ⟨a2_, r2, hr2, t2, h2⟩ := h1
  obtain ⟨a3_, r3, hr3, t3, h3⟩ := h2
  obtain ⟨a4_, r4, hr4, t4, h4⟩ := h3
  obtain ⟨a5_, r5, hr5, t5, h5⟩ := h4
  simp only [HasTs] at h5
  subst h5
  subst hr5
  subst hr4
  subst hr3
  subst hr2
  subst hr1
  subst hr0
  obtain ⟨a0_', rfl, a0_w⟩ := HasT.int_inv t0 tyK_3
  obtain ⟨a1_', rfl, a1_w⟩ := HasT.int_inv t1 tyK_3
  obtain ⟨a2_', rfl, a2_w⟩ := HasT.int_inv t2 tyK_3
  obtain ⟨a3_', rfl, a3_w⟩ := HasT.int_inv t3 tyK_3
  obtain ⟨a4_', rfl, a4_w⟩ := HasT.int_inv t4 tyK_3
  obtain ⟨a5_', rfl, a5_w⟩ := HasT.int_inv t5 tyK_3
  exact ⟨⟨a0_', a1_', a2_', a3_', a4_', a5_'⟩, rfl, ⟨a0_w, a1_w, a2_w, a3_w, a4_w, a5_w⟩⟩
structure GTables where
  Title : Int
  By : Int
  Release : Int
  Max : Int
  Texts : (List ByteArray)
  Flags : Int
  Props : (List Int)
  Globals : (List Int)
  Things : (List GThing)
  Acts : (List GAct)
  Deeds : (List GDeed)
  Funcs : (List Int)
  Daemons : (List Int)
  Params : (List Int)
  Locals : (List Int)
  deriving DecidableEq
def GTables.enc (x : GTables) : List D := [D.v (.int .i64 x.Title), D.v (.int .i64 x.By), D.v (.int .i64 x.Release), D.v (.int .i64 x.Max), D.sl (encS x.Texts), D.v (.int .i64 x.Flags), D.sl (encI x.Props), D.sl (encI x.Globals), D.sl (x.Things.map GThing.enc), D.sl (x.Acts.map GAct.enc), D.sl (x.Deeds.map GDeed.enc), D.sl (encI x.Funcs), D.sl (encI x.Daemons), D.sl (encI x.Params), D.sl (encI x.Locals)]
@[simp] theorem GTables.enc_length (x : GTables) : x.enc.length = 15 := rfl
@[simp] theorem GTables.enc_0 (x : GTables) : x.enc[0]? = some (D.v (.int .i64 x.Title)) := rfl
@[simp] theorem GTables.encg_0 (x : GTables) (h : 0 < x.enc.length) : x.enc[0] = D.v (.int .i64 x.Title) := rfl
@[simp] theorem GTables.enc_1 (x : GTables) : x.enc[1]? = some (D.v (.int .i64 x.By)) := rfl
@[simp] theorem GTables.encg_1 (x : GTables) (h : 1 < x.enc.length) : x.enc[1] = D.v (.int .i64 x.By) := rfl
@[simp] theorem GTables.enc_2 (x : GTables) : x.enc[2]? = some (D.v (.int .i64 x.Release)) := rfl
@[simp] theorem GTables.encg_2 (x : GTables) (h : 2 < x.enc.length) : x.enc[2] = D.v (.int .i64 x.Release) := rfl
@[simp] theorem GTables.enc_3 (x : GTables) : x.enc[3]? = some (D.v (.int .i64 x.Max)) := rfl
@[simp] theorem GTables.encg_3 (x : GTables) (h : 3 < x.enc.length) : x.enc[3] = D.v (.int .i64 x.Max) := rfl
@[simp] theorem GTables.enc_4 (x : GTables) : x.enc[4]? = some (D.sl (encS x.Texts)) := rfl
@[simp] theorem GTables.encg_4 (x : GTables) (h : 4 < x.enc.length) : x.enc[4] = D.sl (encS x.Texts) := rfl
@[simp] theorem GTables.enc_5 (x : GTables) : x.enc[5]? = some (D.v (.int .i64 x.Flags)) := rfl
@[simp] theorem GTables.encg_5 (x : GTables) (h : 5 < x.enc.length) : x.enc[5] = D.v (.int .i64 x.Flags) := rfl
@[simp] theorem GTables.enc_6 (x : GTables) : x.enc[6]? = some (D.sl (encI x.Props)) := rfl
@[simp] theorem GTables.encg_6 (x : GTables) (h : 6 < x.enc.length) : x.enc[6] = D.sl (encI x.Props) := rfl
@[simp] theorem GTables.enc_7 (x : GTables) : x.enc[7]? = some (D.sl (encI x.Globals)) := rfl
@[simp] theorem GTables.encg_7 (x : GTables) (h : 7 < x.enc.length) : x.enc[7] = D.sl (encI x.Globals) := rfl
@[simp] theorem GTables.enc_8 (x : GTables) : x.enc[8]? = some (D.sl (x.Things.map GThing.enc)) := rfl
@[simp] theorem GTables.encg_8 (x : GTables) (h : 8 < x.enc.length) : x.enc[8] = D.sl (x.Things.map GThing.enc) := rfl
@[simp] theorem GTables.enc_9 (x : GTables) : x.enc[9]? = some (D.sl (x.Acts.map GAct.enc)) := rfl
@[simp] theorem GTables.encg_9 (x : GTables) (h : 9 < x.enc.length) : x.enc[9] = D.sl (x.Acts.map GAct.enc) := rfl
@[simp] theorem GTables.enc_10 (x : GTables) : x.enc[10]? = some (D.sl (x.Deeds.map GDeed.enc)) := rfl
@[simp] theorem GTables.encg_10 (x : GTables) (h : 10 < x.enc.length) : x.enc[10] = D.sl (x.Deeds.map GDeed.enc) := rfl
@[simp] theorem GTables.enc_11 (x : GTables) : x.enc[11]? = some (D.sl (encI x.Funcs)) := rfl
@[simp] theorem GTables.encg_11 (x : GTables) (h : 11 < x.enc.length) : x.enc[11] = D.sl (encI x.Funcs) := rfl
@[simp] theorem GTables.enc_12 (x : GTables) : x.enc[12]? = some (D.sl (encI x.Daemons)) := rfl
@[simp] theorem GTables.encg_12 (x : GTables) (h : 12 < x.enc.length) : x.enc[12] = D.sl (encI x.Daemons) := rfl
@[simp] theorem GTables.enc_13 (x : GTables) : x.enc[13]? = some (D.sl (encI x.Params)) := rfl
@[simp] theorem GTables.encg_13 (x : GTables) (h : 13 < x.enc.length) : x.enc[13] = D.sl (encI x.Params) := rfl
@[simp] theorem GTables.enc_14 (x : GTables) : x.enc[14]? = some (D.sl (encI x.Locals)) := rfl
@[simp] theorem GTables.encg_14 (x : GTables) (h : 14 < x.enc.length) : x.enc[14] = D.sl (encI x.Locals) := rfl
@[simp] theorem GTables.fzV (L : Heap) (x : GTables) : V.fzs L (x.enc.map V.d) = x.enc.map V.d := by simp [GTables.enc, V.fzs, V.fz]
def GTables.zero : GTables := ⟨0, 0, 0, 0, [], 0, [], [], [], [], [], [], [], [], []⟩
theorem GTables.zero_enc : GTables.zero.enc = [D.v (.int .i64 0), D.v (.int .i64 0), D.v (.int .i64 0), D.v (.int .i64 0), D.sl [], D.v (.int .i64 0), D.sl [], D.sl [], D.sl [], D.sl [], D.sl [], D.sl [], D.sl [], D.sl [], D.sl []] := rfl
@[simp] theorem GTables.getZ (o : Option GTables) : (o.map GTables.enc).getD [D.v (.int .i64 0), D.v (.int .i64 0), D.v (.int .i64 0), D.v (.int .i64 0), D.sl [], D.v (.int .i64 0), D.sl [], D.sl [], D.sl [], D.sl [], D.sl [], D.sl [], D.sl [], D.sl [], D.sl []] = (o.getD GTables.zero).enc := by cases o <;> rfl
@[simp] theorem GTables.getV (o : Option GTables) : (o.map (fun x => x.enc.map V.d)).getD [V.d (D.v (.int .i64 0)), V.d (D.v (.int .i64 0)), V.d (D.v (.int .i64 0)), V.d (D.v (.int .i64 0)), V.d (D.sl []), V.d (D.v (.int .i64 0)), V.d (D.sl []), V.d (D.sl []), V.d (D.sl []), V.d (D.sl []), V.d (D.sl []), V.d (D.sl []), V.d (D.sl []), V.d (D.sl []), V.d (D.sl [])] = ((o.getD GTables.zero).enc).map V.d := by cases o <;> rfl
theorem GTables.cellAt (l : List GTables) (i j : Nat) (z : D) (h : GTables.zero.enc[j]? = some z) : cellAt (dd (l.map GTables.enc)) i j [V.d z] = V.d (((l[i]?.getD GTables.zero).enc[j]?).getD default) := by
  unfold Go.Ab.cellAt
  rw [dd_get, List.getElem?_map]
  cases hl : l[i]? with
  | none => simp [h]
  | some a =>
    have hj := (List.getElem?_eq_some_iff.1 h).1
    have hj' : j < a.enc.length := by rw [GTables.enc_length] at hj ⊢; exact hj
    simp only [Option.map_some, List.getElem?_map, List.getElem?_eq_getElem hj', Option.getD_some]
@[simp] theorem GTables.cellAt_0 (l : List GTables) (i : Nat) : Go.Ab.cellAt (dd (l.map GTables.enc)) i 0 [V.d (D.v (.int .i64 0))] = V.d (D.v (.int .i64 (l[i]?.getD GTables.zero).Title)) := (GTables.cellAt l i 0 (D.v (.int .i64 0)) rfl).trans (by simp)
@[simp] theorem GTables.cellAt_1 (l : List GTables) (i : Nat) : Go.Ab.cellAt (dd (l.map GTables.enc)) i 1 [V.d (D.v (.int .i64 0))] = V.d (D.v (.int .i64 (l[i]?.getD GTables.zero).By)) := (GTables.cellAt l i 1 (D.v (.int .i64 0)) rfl).trans (by simp)
@[simp] theorem GTables.cellAt_2 (l : List GTables) (i : Nat) : Go.Ab.cellAt (dd (l.map GTables.enc)) i 2 [V.d (D.v (.int .i64 0))] = V.d (D.v (.int .i64 (l[i]?.getD GTables.zero).Release)) := (GTables.cellAt l i 2 (D.v (.int .i64 0)) rfl).trans (by simp)
@[simp] theorem GTables.cellAt_3 (l : List GTables) (i : Nat) : Go.Ab.cellAt (dd (l.map GTables.enc)) i 3 [V.d (D.v (.int .i64 0))] = V.d (D.v (.int .i64 (l[i]?.getD GTables.zero).Max)) := (GTables.cellAt l i 3 (D.v (.int .i64 0)) rfl).trans (by simp)
@[simp] theorem GTables.cellAt_4 (l : List GTables) (i : Nat) : Go.Ab.cellAt (dd (l.map GTables.enc)) i 4 [V.d (D.sl [])] = V.d (D.sl (encS (l[i]?.getD GTables.zero).Texts)) := (GTables.cellAt l i 4 (D.sl []) rfl).trans (by simp)
@[simp] theorem GTables.cellAt_5 (l : List GTables) (i : Nat) : Go.Ab.cellAt (dd (l.map GTables.enc)) i 5 [V.d (D.v (.int .i64 0))] = V.d (D.v (.int .i64 (l[i]?.getD GTables.zero).Flags)) := (GTables.cellAt l i 5 (D.v (.int .i64 0)) rfl).trans (by simp)
@[simp] theorem GTables.cellAt_6 (l : List GTables) (i : Nat) : Go.Ab.cellAt (dd (l.map GTables.enc)) i 6 [V.d (D.sl [])] = V.d (D.sl (encI (l[i]?.getD GTables.zero).Props)) := (GTables.cellAt l i 6 (D.sl []) rfl).trans (by simp)
@[simp] theorem GTables.cellAt_7 (l : List GTables) (i : Nat) : Go.Ab.cellAt (dd (l.map GTables.enc)) i 7 [V.d (D.sl [])] = V.d (D.sl (encI (l[i]?.getD GTables.zero).Globals)) := (GTables.cellAt l i 7 (D.sl []) rfl).trans (by simp)
@[simp] theorem GTables.cellAt_8 (l : List GTables) (i : Nat) : Go.Ab.cellAt (dd (l.map GTables.enc)) i 8 [V.d (D.sl [])] = V.d (D.sl ((l[i]?.getD GTables.zero).Things.map GThing.enc)) := (GTables.cellAt l i 8 (D.sl []) rfl).trans (by simp)
@[simp] theorem GTables.cellAt_9 (l : List GTables) (i : Nat) : Go.Ab.cellAt (dd (l.map GTables.enc)) i 9 [V.d (D.sl [])] = V.d (D.sl ((l[i]?.getD GTables.zero).Acts.map GAct.enc)) := (GTables.cellAt l i 9 (D.sl []) rfl).trans (by simp)
@[simp] theorem GTables.cellAt_10 (l : List GTables) (i : Nat) : Go.Ab.cellAt (dd (l.map GTables.enc)) i 10 [V.d (D.sl [])] = V.d (D.sl ((l[i]?.getD GTables.zero).Deeds.map GDeed.enc)) := (GTables.cellAt l i 10 (D.sl []) rfl).trans (by simp)
@[simp] theorem GTables.cellAt_11 (l : List GTables) (i : Nat) : Go.Ab.cellAt (dd (l.map GTables.enc)) i 11 [V.d (D.sl [])] = V.d (D.sl (encI (l[i]?.getD GTables.zero).Funcs)) := (GTables.cellAt l i 11 (D.sl []) rfl).trans (by simp)
@[simp] theorem GTables.cellAt_12 (l : List GTables) (i : Nat) : Go.Ab.cellAt (dd (l.map GTables.enc)) i 12 [V.d (D.sl [])] = V.d (D.sl (encI (l[i]?.getD GTables.zero).Daemons)) := (GTables.cellAt l i 12 (D.sl []) rfl).trans (by simp)
@[simp] theorem GTables.cellAt_13 (l : List GTables) (i : Nat) : Go.Ab.cellAt (dd (l.map GTables.enc)) i 13 [V.d (D.sl [])] = V.d (D.sl (encI (l[i]?.getD GTables.zero).Params)) := (GTables.cellAt l i 13 (D.sl []) rfl).trans (by simp)
@[simp] theorem GTables.cellAt_14 (l : List GTables) (i : Nat) : Go.Ab.cellAt (dd (l.map GTables.enc)) i 14 [V.d (D.sl [])] = V.d (D.sl (encI (l[i]?.getD GTables.zero).Locals)) := (GTables.cellAt l i 14 (D.sl []) rfl).trans (by simp)
@[simp] theorem GTables.aggAt (l : List GTables) (i : Nat) : Go.Ab.aggAt (dd (l.map GTables.enc)) i 0 15 [V.d (D.v (.int .i64 0)), V.d (D.v (.int .i64 0)), V.d (D.v (.int .i64 0)), V.d (D.v (.int .i64 0)), V.d (D.sl []), V.d (D.v (.int .i64 0)), V.d (D.sl []), V.d (D.sl []), V.d (D.sl []), V.d (D.sl []), V.d (D.sl []), V.d (D.sl []), V.d (D.sl []), V.d (D.sl []), V.d (D.sl [])] = (l[i]?.getD GTables.zero).enc.map V.d := by
  unfold Go.Ab.aggAt
  rw [dd_get, List.getElem?_map]
  cases l[i]? with
  | none => rfl
  | some x => simp; cases x; rfl
@[simp] theorem GTables.dropAll (x : GTables) : List.drop 15 x.enc = [] := rfl
@[simp] theorem GTables.dropAllv (x : GTables) : List.drop 15 (x.enc.map V.d) = [] := rfl
@[simp] theorem GTables.enc_all (x : GTables) : x.enc.take 15 = x.enc := rfl
@[simp] theorem GTables.enc_allv (x : GTables) : List.take 15 (x.enc.map V.d) = x.enc.map V.d := rfl
def GTables.wf (x : GTables) : Prop := inR .i64 x.Title ∧ inR .i64 x.By ∧ inR .i64 x.Release ∧ inR .i64 x.Max ∧ x.Texts.length * 16 ≤ 140737488351232 ∧ (∀ y0 : ByteArray, y0 ∈ x.Texts → y0.size ≤ 140737488351232) ∧ inR .i64 x.Flags ∧ x.Props.length * 8 ≤ 140737488351232 ∧ (∀ y0 : Int, y0 ∈ x.Props → inR .i64 y0) ∧ x.Globals.length * 8 ≤ 140737488351232 ∧ (∀ y0 : Int, y0 ∈ x.Globals → inR .i64 y0) ∧ x.Things.length * 136 ≤ 140737488351232 ∧ (∀ y0 : GThing, y0 ∈ x.Things → y0.wf) ∧ x.Acts.length * 32 ≤ 140737488351232 ∧ (∀ y0 : GAct, y0 ∈ x.Acts → y0.wf) ∧ x.Deeds.length * 48 ≤ 140737488351232 ∧ (∀ y0 : GDeed, y0 ∈ x.Deeds → y0.wf) ∧ x.Funcs.length * 8 ≤ 140737488351232 ∧ (∀ y0 : Int, y0 ∈ x.Funcs → inR .i64 y0) ∧ x.Daemons.length * 8 ≤ 140737488351232 ∧ (∀ y0 : Int, y0 ∈ x.Daemons → inR .i64 y0) ∧ x.Params.length * 8 ≤ 140737488351232 ∧ (∀ y0 : Int, y0 ∈ x.Params → inR .i64 y0) ∧ x.Locals.length * 8 ≤ 140737488351232 ∧ (∀ y0 : Int, y0 ∈ x.Locals → inR .i64 y0)
theorem GTables.wf_Title {x : GTables} (h : x.wf) : inR .i64 x.Title := h.1
theorem GTables.wf_By {x : GTables} (h : x.wf) : inR .i64 x.By := h.2.1
theorem GTables.wf_Release {x : GTables} (h : x.wf) : inR .i64 x.Release := h.2.2.1
theorem GTables.wf_Max {x : GTables} (h : x.wf) : inR .i64 x.Max := h.2.2.2.1
theorem GTables.wl_Texts {x : GTables} (h : x.wf) : x.Texts.length * 16 ≤ 140737488351232 := h.2.2.2.2.1
theorem GTables.wf_Texts {x : GTables} (h : x.wf) : (∀ y0 : ByteArray, y0 ∈ x.Texts → y0.size ≤ 140737488351232) := h.2.2.2.2.2.1
theorem GTables.wf_Flags {x : GTables} (h : x.wf) : inR .i64 x.Flags := h.2.2.2.2.2.2.1
theorem GTables.wl_Props {x : GTables} (h : x.wf) : x.Props.length * 8 ≤ 140737488351232 := h.2.2.2.2.2.2.2.1
theorem GTables.wf_Props {x : GTables} (h : x.wf) : (∀ y0 : Int, y0 ∈ x.Props → inR .i64 y0) := h.2.2.2.2.2.2.2.2.1
theorem GTables.wl_Globals {x : GTables} (h : x.wf) : x.Globals.length * 8 ≤ 140737488351232 := h.2.2.2.2.2.2.2.2.2.1
theorem GTables.wf_Globals {x : GTables} (h : x.wf) : (∀ y0 : Int, y0 ∈ x.Globals → inR .i64 y0) := h.2.2.2.2.2.2.2.2.2.2.1
theorem GTables.wl_Things {x : GTables} (h : x.wf) : x.Things.length * 136 ≤ 140737488351232 := h.2.2.2.2.2.2.2.2.2.2.2.1
theorem GTables.wf_Things {x : GTables} (h : x.wf) : (∀ y0 : GThing, y0 ∈ x.Things → y0.wf) := h.2.2.2.2.2.2.2.2.2.2.2.2.1
theorem GTables.wl_Acts {x : GTables} (h : x.wf) : x.Acts.length * 32 ≤ 140737488351232 := h.2.2.2.2.2.2.2.2.2.2.2.2.2.1
theorem GTables.wf_Acts {x : GTables} (h : x.wf) : (∀ y0 : GAct, y0 ∈ x.Acts → y0.wf) := h.2.2.2.2.2.2.2.2.2.2.2.2.2.2.1
theorem GTables.wl_Deeds {x : GTables} (h : x.wf) : x.Deeds.length * 48 ≤ 140737488351232 := h.2.2.2.2.2.2.2.2.2.2.2.2.2.2.2.1
theorem GTables.wf_Deeds {x : GTables} (h : x.wf) : (∀ y0 : GDeed, y0 ∈ x.Deeds → y0.wf) := h.2.2.2.2.2.2.2.2.2.2.2.2.2.2.2.2.1
theorem GTables.wl_Funcs {x : GTables} (h : x.wf) : x.Funcs.length * 8 ≤ 140737488351232 := h.2.2.2.2.2.2.2.2.2.2.2.2.2.2.2.2.2.1
theorem GTables.wf_Funcs {x : GTables} (h : x.wf) : (∀ y0 : Int, y0 ∈ x.Funcs → inR .i64 y0) := h.2.2.2.2.2.2.2.2.2.2.2.2.2.2.2.2.2.2.1
theorem GTables.wl_Daemons {x : GTables} (h : x.wf) : x.Daemons.length * 8 ≤ 140737488351232 := h.2.2.2.2.2.2.2.2.2.2.2.2.2.2.2.2.2.2.2.1
theorem GTables.wf_Daemons {x : GTables} (h : x.wf) : (∀ y0 : Int, y0 ∈ x.Daemons → inR .i64 y0) := h.2.2.2.2.2.2.2.2.2.2.2.2.2.2.2.2.2.2.2.2.1
theorem GTables.wl_Params {x : GTables} (h : x.wf) : x.Params.length * 8 ≤ 140737488351232 := h.2.2.2.2.2.2.2.2.2.2.2.2.2.2.2.2.2.2.2.2.2.1
theorem GTables.wf_Params {x : GTables} (h : x.wf) : (∀ y0 : Int, y0 ∈ x.Params → inR .i64 y0) := h.2.2.2.2.2.2.2.2.2.2.2.2.2.2.2.2.2.2.2.2.2.2.1
theorem GTables.wl_Locals {x : GTables} (h : x.wf) : x.Locals.length * 8 ≤ 140737488351232 := h.2.2.2.2.2.2.2.2.2.2.2.2.2.2.2.2.2.2.2.2.2.2.2.1
theorem GTables.wf_Locals {x : GTables} (h : x.wf) : (∀ y0 : Int, y0 ∈ x.Locals → inR .i64 y0) := h.2.2.2.2.2.2.2.2.2.2.2.2.2.2.2.2.2.2.2.2.2.2.2.2
theorem tyK_28 : tyK Go.Proofs.Try.prog 28 = .st [3, 3, 3, 3, 22, 3, 23, 23, 24, 25, 26, 23, 23, 23, 23] := by kernel_rfl
theorem tyK_24 : tyK Go.Proofs.Try.prog 24 = .sl 38 136 := by kernel_rfl
theorem tyK_25 : tyK Go.Proofs.Try.prog 25 = .sl 115 32 := by kernel_rfl
theorem tyK_26 : tyK Go.Proofs.Try.prog 26 = .sl 119 48 := by kernel_rfl
theorem GTables.of {ys : List D} (h : HasT Go.Proofs.Try.prog 28 ys) : ∃ x : GTables, ys = x.enc ∧ x.wf := by
  have h' := HasT.st_inv h tyK_28
  obtain ⟨a0_, r0, hr0, t0, h0⟩ := h'
  obtain ⟨a1_, r1, hr1, t1, h1⟩ := h0
  obtain ⟨a2_, r2, hr2, t2, h2⟩ := h1
  obtain ⟨a3_, r3, hr3, t3, h3⟩ := h2
  obtain ⟨a4_, r4, hr4, t4, h4⟩ := h3
  obtain ⟨a5_, r5, hr5, t5, h5⟩ := h4
  obtain ⟨a6_, r6, hr6, t6, h6⟩ := h5
  obtain ⟨a7_, r7, hr7, t7, h7⟩ := h6
  obtain ⟨a8_, r8, hr8, t8, h8⟩ := h7
  obtain ⟨a9_, r9, hr9, t9, h9⟩ := h8
  obtain ⟨a10_, r10, hr10, t10, h10⟩ := h9
  obtain ⟨a11_, r11, hr11, t11, h11⟩ := h10
  obtain ⟨a12_, r12, hr12, t12, h12⟩ := h11
  obtain ⟨a13_, r13, hr13, t13, h13⟩ := h12
  obtain ⟨a14_, r14, hr14, t14, h14⟩ := h13
  simp only [HasTs] at h14
  subst h14
  subst hr14
  subst hr13
  subst hr12
  subst hr11
  subst hr10
  subst hr9
  subst hr8
  subst hr7
  subst hr6
  subst hr5
  subst hr4
  subst hr3
  subst hr2
  subst hr1
  subst hr0
  obtain ⟨a0_', rfl, a0_w⟩ := HasT.int_inv t0 tyK_3
  obtain ⟨a1_', rfl, a1_w⟩ := HasT.int_inv t1 tyK_3
  obtain ⟨a2_', rfl, a2_w⟩ := HasT.int_inv t2 tyK_3
  obtain ⟨a3_', rfl, a3_w⟩ := HasT.int_inv t3 tyK_3
  obtain ⟨a4_0, rfl, a4_h, a4_l, a4_w⟩ := HasT.sl_inv t4 tyK_22
  obtain ⟨a4_', rfl, a4_a⟩ := map_of (f := (fun y => [D.v (.string y)])) (p := fun (y : ByteArray) => y.size ≤ 140737488351232) (fun a4_e hx => by
    have a4_q := a4_h a4_e hx
    obtain ⟨a4_e', rfl, a4_ew⟩ := HasT.str_inv a4_q tyK_9
    exact ⟨a4_e', rfl, a4_ew⟩)
  obtain ⟨a5_', rfl, a5_w⟩ := HasT.int_inv t5 tyK_3
  obtain ⟨a6_0, rfl, a6_h, a6_l, a6_w⟩ := HasT.sl_inv t6 tyK_23
  obtain ⟨a6_', rfl, a6_a⟩ := map_of (f := (fun y => [D.v (.int .i64 y)])) (p := fun (y : Int) => inR .i64 y) (fun a6_e hx => by
    have a6_q := a6_h a6_e hx
    obtain ⟨a6_e', rfl, a6_ew⟩ := HasT.int_inv a6_q tyK_3
    exact ⟨a6_e', rfl, a6_ew⟩)
  obtain ⟨a7_0, rfl, a7_h, a7_l, a7_w⟩ := HasT.sl_inv t7 tyK_23
  obtain ⟨a7_', rfl, a7_a⟩ := map_of (f := (fun y => [D.v (.int .i64 y)])) (p := fun (y : Int) => inR .i64 y) (fun a7_e hx => by
    have a7_q := a7_h a7_e hx
    obtain ⟨a7_e', rfl, a7_ew⟩ := HasT.int_inv a7_q tyK_3
    exact ⟨a7_e', rfl, a7_ew⟩)
  obtain ⟨a8_0, rfl, a8_h, a8_l, a8_w⟩ := HasT.sl_inv t8 tyK_24
  obtain ⟨a8_', rfl, a8_a⟩ := map_of (f := GThing.enc) (p := fun (y : GThing) => y.wf) (fun a8_e hx => by
    have a8_q := a8_h a8_e hx
    obtain ⟨a8_e', rfl, a8_ew⟩ := GThing.of a8_q
    exact ⟨a8_e', rfl, a8_ew⟩)
  obtain ⟨a9_0, rfl, a9_h, a9_l, a9_w⟩ := HasT.sl_inv t9 tyK_25
  obtain ⟨a9_', rfl, a9_a⟩ := map_of (f := GAct.enc) (p := fun (y : GAct) => y.wf) (fun a9_e hx => by
    have a9_q := a9_h a9_e hx
    obtain ⟨a9_e', rfl, a9_ew⟩ := GAct.of a9_q
    exact ⟨a9_e', rfl, a9_ew⟩)
  obtain ⟨a10_0, rfl, a10_h, a10_l, a10_w⟩ := HasT.sl_inv t10 tyK_26
  obtain ⟨a10_', rfl, a10_a⟩ := map_of (f := GDeed.enc) (p := fun (y : GDeed) => y.wf) (fun a10_e hx => by
    have a10_q := a10_h a10_e hx
    obtain ⟨a10_e', rfl, a10_ew⟩ := GDeed.of a10_q
    exact ⟨a10_e', rfl, a10_ew⟩)
  obtain ⟨a11_0, rfl, a11_h, a11_l, a11_w⟩ := HasT.sl_inv t11 tyK_23
  obtain ⟨a11_', rfl, a11_a⟩ := map_of (f := (fun y => [D.v (.int .i64 y)])) (p := fun (y : Int) => inR .i64 y) (fun a11_e hx => by
    have a11_q := a11_h a11_e hx
    obtain ⟨a11_e', rfl, a11_ew⟩ := HasT.int_inv a11_q tyK_3
    exact ⟨a11_e', rfl, a11_ew⟩)
  obtain ⟨a12_0, rfl, a12_h, a12_l, a12_w⟩ := HasT.sl_inv t12 tyK_23
  obtain ⟨a12_', rfl, a12_a⟩ := map_of (f := (fun y => [D.v (.int .i64 y)])) (p := fun (y : Int) => inR .i64 y) (fun a12_e hx => by
    have a12_q := a12_h a12_e hx
    obtain ⟨a12_e', rfl, a12_ew⟩ := HasT.int_inv a12_q tyK_3
    exact ⟨a12_e', rfl, a12_ew⟩)
  obtain ⟨a13_0, rfl, a13_h, a13_l, a13_w⟩ := HasT.sl_inv t13 tyK_23
  obtain ⟨a13_', rfl, a13_a⟩ := map_of (f := (fun y => [D.v (.int .i64 y)])) (p := fun (y : Int) => inR .i64 y) (fun a13_e hx => by
    have a13_q := a13_h a13_e hx
    obtain ⟨a13_e', rfl, a13_ew⟩ := HasT.int_inv a13_q tyK_3
    exact ⟨a13_e', rfl, a13_ew⟩)
  obtain ⟨a14_0, rfl, a14_h, a14_l, a14_w⟩ := HasT.sl_inv t14 tyK_23
  obtain ⟨a14_', rfl, a14_a⟩ := map_of (f := (fun y => [D.v (.int .i64 y)])) (p := fun (y : Int) => inR .i64 y) (fun a14_e hx => by
    have a14_q := a14_h a14_e hx
    obtain ⟨a14_e', rfl, a14_ew⟩ := HasT.int_inv a14_q tyK_3
    exact ⟨a14_e', rfl, a14_ew⟩)
  exact ⟨⟨a0_', a1_', a2_', a3_', a4_', a5_', a6_', a7_', a8_', a9_', a10_', a11_', a12_', a13_', a14_'⟩, rfl, ⟨a0_w, a1_w, a2_w, a3_w, (by simpa using a4_w), a4_a, a5_w, (by simpa using a6_w), a6_a, (by simpa using a7_w), a7_a, (by simpa using a8_w), a8_a, (by simpa using a9_w), a9_a, (by simpa using a10_w), a10_a, (by simpa using a11_w), a11_a, (by simpa using a12_w), a12_a, (by simpa using a13_w), a13_a, (by simpa using a14_w), a14_a⟩⟩
inductive GExpr where
  | mk (Kind : Int) (Op : Int) (Num : Int) (Name : ByteArray) (Args : (List GExpr))
def GExpr.Kind : GExpr → Int
  | .mk a0 a1 a2 a3 a4 => a0
def GExpr.Op : GExpr → Int
  | .mk a0 a1 a2 a3 a4 => a1
def GExpr.Num : GExpr → Int
  | .mk a0 a1 a2 a3 a4 => a2
def GExpr.Name : GExpr → ByteArray
  | .mk a0 a1 a2 a3 a4 => a3
def GExpr.Args : GExpr → (List GExpr)
  | .mk a0 a1 a2 a3 a4 => a4
mutual
def GExpr.enc : GExpr → List D
  | .mk a0 a1 a2 a3 a4 => [D.v (.int .i64 a0), D.v (.int .i64 a1), D.v (.int .i64 a2), D.v (.string a3), D.sl (GExpr.encs a4)]
def GExpr.encs : List GExpr → List (List D)
  | [] => []
  | x :: l => x.enc :: GExpr.encs l
end
theorem GExpr.encs_eq : ∀ l : List GExpr, GExpr.encs l = l.map GExpr.enc
  | [] => rfl
  | x :: l => by rw [GExpr.encs, GExpr.encs_eq l]; rfl
theorem GExpr.enc_eq (x : GExpr) : x.enc = [D.v (.int .i64 x.Kind), D.v (.int .i64 x.Op), D.v (.int .i64 x.Num), D.v (.string x.Name), D.sl (x.Args.map GExpr.enc)] := by
  cases x
  simp only [GExpr.enc, GExpr.encs_eq]
  rfl
@[simp] theorem GExpr.enc_length (x : GExpr) : x.enc.length = 5 := by cases x; rfl
@[simp] theorem GExpr.enc_0 (x : GExpr) : x.enc[0]? = some (D.v (.int .i64 x.Kind)) := by rw [GExpr.enc_eq]; rfl
@[simp] theorem GExpr.encg_0 (x : GExpr) (h : 0 < x.enc.length) : x.enc[0] = D.v (.int .i64 x.Kind) := by
  have := GExpr.enc_0 x
  rw [List.getElem?_eq_getElem h] at this
  exact Option.some.inj this
@[simp] theorem GExpr.enc_1 (x : GExpr) : x.enc[1]? = some (D.v (.int .i64 x.Op)) := by rw [GExpr.enc_eq]; rfl
@[simp] theorem GExpr.encg_1 (x : GExpr) (h : 1 < x.enc.length) : x.enc[1] = D.v (.int .i64 x.Op) := by
  have := GExpr.enc_1 x
  rw [List.getElem?_eq_getElem h] at this
  exact Option.some.inj this
@[simp] theorem GExpr.enc_2 (x : GExpr) : x.enc[2]? = some (D.v (.int .i64 x.Num)) := by rw [GExpr.enc_eq]; rfl
@[simp] theorem GExpr.encg_2 (x : GExpr) (h : 2 < x.enc.length) : x.enc[2] = D.v (.int .i64 x.Num) := by
  have := GExpr.enc_2 x
  rw [List.getElem?_eq_getElem h] at this
  exact Option.some.inj this
@[simp] theorem GExpr.enc_3 (x : GExpr) : x.enc[3]? = some (D.v (.string x.Name)) := by rw [GExpr.enc_eq]; rfl
@[simp] theorem GExpr.encg_3 (x : GExpr) (h : 3 < x.enc.length) : x.enc[3] = D.v (.string x.Name) := by
  have := GExpr.enc_3 x
  rw [List.getElem?_eq_getElem h] at this
  exact Option.some.inj this
@[simp] theorem GExpr.enc_4 (x : GExpr) : x.enc[4]? = some (D.sl (x.Args.map GExpr.enc)) := by rw [GExpr.enc_eq]; rfl
@[simp] theorem GExpr.encg_4 (x : GExpr) (h : 4 < x.enc.length) : x.enc[4] = D.sl (x.Args.map GExpr.enc) := by
  have := GExpr.enc_4 x
  rw [List.getElem?_eq_getElem h] at this
  exact Option.some.inj this
@[simp] theorem GExpr.fzV (L : Heap) (x : GExpr) : V.fzs L (x.enc.map V.d) = x.enc.map V.d := by simp [GExpr.enc_eq, V.fzs, V.fz]
def GExpr.zero : GExpr := .mk (0) (0) (0) (⟨#[]⟩) ([])
theorem GExpr.zero_enc : GExpr.zero.enc = [D.v (.int .i64 0), D.v (.int .i64 0), D.v (.int .i64 0), D.v (.string ⟨#[]⟩), D.sl []] := rfl
@[simp] theorem GExpr.getZ (o : Option GExpr) : (o.map GExpr.enc).getD [D.v (.int .i64 0), D.v (.int .i64 0), D.v (.int .i64 0), D.v (.string ⟨#[]⟩), D.sl []] = (o.getD GExpr.zero).enc := by cases o <;> rfl
@[simp] theorem GExpr.getV (o : Option GExpr) : (o.map (fun x => x.enc.map V.d)).getD [V.d (D.v (.int .i64 0)), V.d (D.v (.int .i64 0)), V.d (D.v (.int .i64 0)), V.d (D.v (.string ⟨#[]⟩)), V.d (D.sl [])] = ((o.getD GExpr.zero).enc).map V.d := by cases o <;> rfl
theorem GExpr.cellAt (l : List GExpr) (i j : Nat) (z : D) (h : GExpr.zero.enc[j]? = some z) : cellAt (dd (l.map GExpr.enc)) i j [V.d z] = V.d (((l[i]?.getD GExpr.zero).enc[j]?).getD default) := by
  unfold Go.Ab.cellAt
  rw [dd_get, List.getElem?_map]
  cases hl : l[i]? with
  | none => simp [h]
  | some a =>
    have hj := (List.getElem?_eq_some_iff.1 h).1
    have hj' : j < a.enc.length := by rw [GExpr.enc_length] at hj ⊢; exact hj
    simp only [Option.map_some, List.getElem?_map, List.getElem?_eq_getElem hj', Option.getD_some]
@[simp] theorem GExpr.cellAt_0 (l : List GExpr) (i : Nat) : Go.Ab.cellAt (dd (l.map GExpr.enc)) i 0 [V.d (D.v (.int .i64 0))] = V.d (D.v (.int .i64 (l[i]?.getD GExpr.zero).Kind)) := (GExpr.cellAt l i 0 (D.v (.int .i64 0)) rfl).trans (by simp)
@[simp] theorem GExpr.cellAt_1 (l : List GExpr) (i : Nat) : Go.Ab.cellAt (dd (l.map GExpr.enc)) i 1 [V.d (D.v (.int .i64 0))] = V.d (D.v (.int .i64 (l[i]?.getD GExpr.zero).Op)) := (GExpr.cellAt l i 1 (D.v (.int .i64 0)) rfl).trans (by simp)
@[simp] theorem GExpr.cellAt_2 (l : List GExpr) (i : Nat) : Go.Ab.cellAt (dd (l.map GExpr.enc)) i 2 [V.d (D.v (.int .i64 0))] = V.d (D.v (.int .i64 (l[i]?.getD GExpr.zero).Num)) := (GExpr.cellAt l i 2 (D.v (.int .i64 0)) rfl).trans (by simp)
@[simp] theorem GExpr.cellAt_3 (l : List GExpr) (i : Nat) : Go.Ab.cellAt (dd (l.map GExpr.enc)) i 3 [V.d (D.v (.string ⟨#[]⟩))] = V.d (D.v (.string (l[i]?.getD GExpr.zero).Name)) := (GExpr.cellAt l i 3 (D.v (.string ⟨#[]⟩)) rfl).trans (by simp)
@[simp] theorem GExpr.cellAt_4 (l : List GExpr) (i : Nat) : Go.Ab.cellAt (dd (l.map GExpr.enc)) i 4 [V.d (D.sl [])] = V.d (D.sl ((l[i]?.getD GExpr.zero).Args.map GExpr.enc)) := (GExpr.cellAt l i 4 (D.sl []) rfl).trans (by simp)
@[simp] theorem GExpr.aggAt (l : List GExpr) (i : Nat) : Go.Ab.aggAt (dd (l.map GExpr.enc)) i 0 5 [V.d (D.v (.int .i64 0)), V.d (D.v (.int .i64 0)), V.d (D.v (.int .i64 0)), V.d (D.v (.string ⟨#[]⟩)), V.d (D.sl [])] = (l[i]?.getD GExpr.zero).enc.map V.d := by
  unfold Go.Ab.aggAt
  rw [dd_get, List.getElem?_map]
  cases l[i]? with
  | none => rfl
  | some x => simp; cases x; rfl
@[simp] theorem GExpr.dropAll (x : GExpr) : List.drop 5 x.enc = [] := by cases x; rfl
@[simp] theorem GExpr.dropAllv (x : GExpr) : List.drop 5 (x.enc.map V.d) = [] := by cases x; rfl
@[simp] theorem GExpr.enc_all (x : GExpr) : x.enc.take 5 = x.enc := by cases x; rfl
@[simp] theorem GExpr.enc_allv (x : GExpr) : List.take 5 (x.enc.map V.d) = x.enc.map V.d := by cases x; rfl
mutual
def GExpr.wf : GExpr → Prop
  | .mk a0 a1 a2 a3 a4 => inR .i64 a0 ∧ inR .i64 a1 ∧ inR .i64 a2 ∧ a3.size ≤ 140737488351232 ∧ a4.length * 64 ≤ 140737488351232 ∧ GExpr.wfs a4
def GExpr.wfs : List GExpr → Prop
  | [] => True
  | x :: l => x.wf ∧ GExpr.wfs l
end
theorem GExpr.wfs_iff : ∀ l : List GExpr, GExpr.wfs l ↔ ∀ y ∈ l, y.wf
  | [] => by simp [GExpr.wfs]
  | x :: l => by rw [GExpr.wfs, GExpr.wfs_iff l]; simp
theorem GExpr.wf_iff (x : GExpr) : x.wf ↔ inR .i64 x.Kind ∧ inR .i64 x.Op ∧ inR .i64 x.Num ∧ x.Name.size ≤ 140737488351232 ∧ x.Args.length * 64 ≤ 140737488351232 ∧ (∀ y0 : GExpr, y0 ∈ x.Args → y0.wf) := by
  cases x
  simp only [GExpr.wf, GExpr.wfs_iff]
  rfl
theorem GExpr.wf_Kind {x : GExpr} (h : x.wf) : inR .i64 x.Kind := ((GExpr.wf_iff x).1 h).1
theorem GExpr.wf_Op {x : GExpr} (h : x.wf) : inR .i64 x.Op := ((GExpr.wf_iff x).1 h).2.1
theorem GExpr.wf_Num {x : GExpr} (h : x.wf) : inR .i64 x.Num := ((GExpr.wf_iff x).1 h).2.2.1
theorem GExpr.wf_Name {x : GExpr} (h : x.wf) : x.Name.size ≤ 140737488351232 := ((GExpr.wf_iff x).1 h).2.2.2.1
theorem GExpr.wl_Args {x : GExpr} (h : x.wf) : x.Args.length * 64 ≤ 140737488351232 := ((GExpr.wf_iff x).1 h).2.2.2.2.1
theorem GExpr.wf_Args {x : GExpr} (h : x.wf) : (∀ y0 : GExpr, y0 ∈ x.Args → y0.wf) := ((GExpr.wf_iff x).1 h).2.2.2.2.2
theorem tyK_53 : tyK Go.Proofs.Try.prog 53 = .st [3, 3, 3, 9, 51] := by kernel_rfl
theorem tyK_51 : tyK Go.Proofs.Try.prog 51 = .sl 53 64 := by kernel_rfl
theorem GExpr.of' : ∀ (n : Nat) {ys : List D}, SizeOf.sizeOf ys < n → HasT Go.Proofs.Try.prog 53 ys → ∃ x : GExpr, ys = x.enc ∧ x.wf := by
  intro n
  induction n with
  | zero => intro ys h; omega
  | succ n ih =>
  intro ys hsz h
  have h' := HasT.st_inv h tyK_53
  obtain ⟨a0_, r0, hr0, t0, h0⟩ := h'
  obtain ⟨a1_, r1, hr1, t1, h1⟩ := h0
  obtain ⟨a2_, r2, hr2, t2, h2⟩ := h1
  obtain ⟨a3_, r3, hr3, t3, h3⟩ := h2
  obtain ⟨a4_, r4, hr4, t4, h4⟩ := h3
  simp only [HasTs] at h4
  subst h4
  subst hr4
  subst hr3
  subst hr2
  subst hr1
  subst hr0
  obtain ⟨a0_', rfl, a0_w⟩ := HasT.int_inv t0 tyK_3
  obtain ⟨a1_', rfl, a1_w⟩ := HasT.int_inv t1 tyK_3
  obtain ⟨a2_', rfl, a2_w⟩ := HasT.int_inv t2 tyK_3
  obtain ⟨a3_', rfl, a3_w⟩ := HasT.str_inv t3 tyK_9
  obtain ⟨a4_0, rfl, a4_h, a4_l, a4_w⟩ := HasT.sl_inv t4 tyK_51
  obtain ⟨a4_', rfl, a4_a⟩ := map_of (f := GExpr.enc) (p := GExpr.wf) (fun a4_e hx => ih (by have hlt := List.sizeOf_lt_of_mem hx; simp at hsz; omega) (a4_h a4_e hx))
  exact ⟨.mk a0_' a1_' a2_' a3_' a4_', by rw [GExpr.enc_eq]; rfl, by rw [GExpr.wf]; exact ⟨a0_w, a1_w, a2_w, a3_w, (by simpa using a4_w), (GExpr.wfs_iff _).2 a4_a⟩⟩
theorem GExpr.of {ys : List D} (h : HasT Go.Proofs.Try.prog 53 ys) : ∃ x : GExpr, ys = x.enc ∧ x.wf := GExpr.of' _ (Nat.lt_succ_self _) h
inductive GStmt where
  | mk (Kind : Int) (Num : Int) (Name : ByteArray) (Args : (List GExpr)) (Body : (List GStmt)) (Else : (List GStmt))
def GStmt.Kind : GStmt → Int
  | .mk a0 a1 a2 a3 a4 a5 => a0
def GStmt.Num : GStmt → Int
  | .mk a0 a1 a2 a3 a4 a5 => a1
def GStmt.Name : GStmt → ByteArray
  | .mk a0 a1 a2 a3 a4 a5 => a2
def GStmt.Args : GStmt → (List GExpr)
  | .mk a0 a1 a2 a3 a4 a5 => a3
def GStmt.Body : GStmt → (List GStmt)
  | .mk a0 a1 a2 a3 a4 a5 => a4
def GStmt.Else : GStmt → (List GStmt)
  | .mk a0 a1 a2 a3 a4 a5 => a5
mutual
def GStmt.enc : GStmt → List D
  | .mk a0 a1 a2 a3 a4 a5 => [D.v (.int .i64 a0), D.v (.int .i64 a1), D.v (.string a2), D.sl (a3.map GExpr.enc), D.sl (GStmt.encs a4), D.sl (GStmt.encs a5)]
def GStmt.encs : List GStmt → List (List D)
  | [] => []
  | x :: l => x.enc :: GStmt.encs l
end
theorem GStmt.encs_eq : ∀ l : List GStmt, GStmt.encs l = l.map GStmt.enc
  | [] => rfl
  | x :: l => by rw [GStmt.encs, GStmt.encs_eq l]; rfl
theorem GStmt.enc_eq (x : GStmt) : x.enc = [D.v (.int .i64 x.Kind), D.v (.int .i64 x.Num), D.v (.string x.Name), D.sl (x.Args.map GExpr.enc), D.sl (x.Body.map GStmt.enc), D.sl (x.Else.map GStmt.enc)] := by
  cases x
  simp only [GStmt.enc, GStmt.encs_eq]
  rfl
@[simp] theorem GStmt.enc_length (x : GStmt) : x.enc.length = 6 := by cases x; rfl
@[simp] theorem GStmt.enc_0 (x : GStmt) : x.enc[0]? = some (D.v (.int .i64 x.Kind)) := by rw [GStmt.enc_eq]; rfl
@[simp] theorem GStmt.encg_0 (x : GStmt) (h : 0 < x.enc.length) : x.enc[0] = D.v (.int .i64 x.Kind) := by
  have := GStmt.enc_0 x
  rw [List.getElem?_eq_getElem h] at this
  exact Option.some.inj this
@[simp] theorem GStmt.enc_1 (x : GStmt) : x.enc[1]? = some (D.v (.int .i64 x.Num)) := by rw [GStmt.enc_eq]; rfl
@[simp] theorem GStmt.encg_1 (x : GStmt) (h : 1 < x.enc.length) : x.enc[1] = D.v (.int .i64 x.Num) := by
  have := GStmt.enc_1 x
  rw [List.getElem?_eq_getElem h] at this
  exact Option.some.inj this
@[simp] theorem GStmt.enc_2 (x : GStmt) : x.enc[2]? = some (D.v (.string x.Name)) := by rw [GStmt.enc_eq]; rfl
@[simp] theorem GStmt.encg_2 (x : GStmt) (h : 2 < x.enc.length) : x.enc[2] = D.v (.string x.Name) := by
  have := GStmt.enc_2 x
  rw [List.getElem?_eq_getElem h] at this
  exact Option.some.inj this
@[simp] theorem GStmt.enc_3 (x : GStmt) : x.enc[3]? = some (D.sl (x.Args.map GExpr.enc)) := by rw [GStmt.enc_eq]; rfl
@[simp] theorem GStmt.encg_3 (x : GStmt) (h : 3 < x.enc.length) : x.enc[3] = D.sl (x.Args.map GExpr.enc) := by
  have := GStmt.enc_3 x
  rw [List.getElem?_eq_getElem h] at this
  exact Option.some.inj this
@[simp] theorem GStmt.enc_4 (x : GStmt) : x.enc[4]? = some (D.sl (x.Body.map GStmt.enc)) := by rw [GStmt.enc_eq]; rfl
@[simp] theorem GStmt.encg_4 (x : GStmt) (h : 4 < x.enc.length) : x.enc[4] = D.sl (x.Body.map GStmt.enc) := by
  have := GStmt.enc_4 x
  rw [List.getElem?_eq_getElem h] at this
  exact Option.some.inj this
@[simp] theorem GStmt.enc_5 (x : GStmt) : x.enc[5]? = some (D.sl (x.Else.map GStmt.enc)) := by rw [GStmt.enc_eq]; rfl
@[simp] theorem GStmt.encg_5 (x : GStmt) (h : 5 < x.enc.length) : x.enc[5] = D.sl (x.Else.map GStmt.enc) := by
  have := GStmt.enc_5 x
  rw [List.getElem?_eq_getElem h] at this
  exact Option.some.inj this
@[simp] theorem GStmt.fzV (L : Heap) (x : GStmt) : V.fzs L (x.enc.map V.d) = x.enc.map V.d := by simp [GStmt.enc_eq, V.fzs, V.fz]
def GStmt.zero : GStmt := .mk (0) (0) (⟨#[]⟩) ([]) ([]) ([])
theorem GStmt.zero_enc : GStmt.zero.enc = [D.v (.int .i64 0), D.v (.int .i64 0), D.v (.string ⟨#[]⟩), D.sl [], D.sl [], D.sl []] := rfl
@[simp] theorem GStmt.getZ (o : Option GStmt) : (o.map GStmt.enc).getD [D.v (.int .i64 0), D.v (.int .i64 0), D.v (.string ⟨#[]⟩), D.sl [], D.sl [], D.sl []] = (o.getD GStmt.zero).enc := by cases o <;> rfl
@[simp] theorem GStmt.getV (o : Option GStmt) : (o.map (fun x => x.enc.map V.d)).getD [V.d (D.v (.int .i64 0)), V.d (D.v (.int .i64 0)), V.d (D.v (.string ⟨#[]⟩)), V.d (D.sl []), V.d (D.sl []), V.d (D.sl [])] = ((o.getD GStmt.zero).enc).map V.d := by cases o <;> rfl
theorem GStmt.cellAt (l : List GStmt) (i j : Nat) (z : D) (h : GStmt.zero.enc[j]? = some z) : cellAt (dd (l.map GStmt.enc)) i j [V.d z] = V.d (((l[i]?.getD GStmt.zero).enc[j]?).getD default) := by
  unfold Go.Ab.cellAt
  rw [dd_get, List.getElem?_map]
  cases hl : l[i]? with
  | none => simp [h]
  | some a =>
    have hj := (List.getElem?_eq_some_iff.1 h).1
    have hj' : j < a.enc.length := by rw [GStmt.enc_length] at hj ⊢; exact hj
    simp only [Option.map_some, List.getElem?_map, List.getElem?_eq_getElem hj', Option.getD_some]
@[simp] theorem GStmt.cellAt_0 (l : List GStmt) (i : Nat) : Go.Ab.cellAt (dd (l.map GStmt.enc)) i 0 [V.d (D.v (.int .i64 0))] = V.d (D.v (.int .i64 (l[i]?.getD GStmt.zero).Kind)) := (GStmt.cellAt l i 0 (D.v (.int .i64 0)) rfl).trans (by simp)
@[simp] theorem GStmt.cellAt_1 (l : List GStmt) (i : Nat) : Go.Ab.cellAt (dd (l.map GStmt.enc)) i 1 [V.d (D.v (.int .i64 0))] = V.d (D.v (.int .i64 (l[i]?.getD GStmt.zero).Num)) := (GStmt.cellAt l i 1 (D.v (.int .i64 0)) rfl).trans (by simp)
@[simp] theorem GStmt.cellAt_2 (l : List GStmt) (i : Nat) : Go.Ab.cellAt (dd (l.map GStmt.enc)) i 2 [V.d (D.v (.string ⟨#[]⟩))] = V.d (D.v (.string (l[i]?.getD GStmt.zero).Name)) := (GStmt.cellAt l i 2 (D.v (.string ⟨#[]⟩)) rfl).trans (by simp)
@[simp] theorem GStmt.cellAt_3 (l : List GStmt) (i : Nat) : Go.Ab.cellAt (dd (l.map GStmt.enc)) i 3 [V.d (D.sl [])] = V.d (D.sl ((l[i]?.getD GStmt.zero).Args.map GExpr.enc)) := (GStmt.cellAt l i 3 (D.sl []) rfl).trans (by simp)
@[simp] theorem GStmt.cellAt_4 (l : List GStmt) (i : Nat) : Go.Ab.cellAt (dd (l.map GStmt.enc)) i 4 [V.d (D.sl [])] = V.d (D.sl ((l[i]?.getD GStmt.zero).Body.map GStmt.enc)) := (GStmt.cellAt l i 4 (D.sl []) rfl).trans (by simp)
@[simp] theorem GStmt.cellAt_5 (l : List GStmt) (i : Nat) : Go.Ab.cellAt (dd (l.map GStmt.enc)) i 5 [V.d (D.sl [])] = V.d (D.sl ((l[i]?.getD GStmt.zero).Else.map GStmt.enc)) := (GStmt.cellAt l i 5 (D.sl []) rfl).trans (by simp)
@[simp] theorem GStmt.aggAt (l : List GStmt) (i : Nat) : Go.Ab.aggAt (dd (l.map GStmt.enc)) i 0 6 [V.d (D.v (.int .i64 0)), V.d (D.v (.int .i64 0)), V.d (D.v (.string ⟨#[]⟩)), V.d (D.sl []), V.d (D.sl []), V.d (D.sl [])] = (l[i]?.getD GStmt.zero).enc.map V.d := by
  unfold Go.Ab.aggAt
  rw [dd_get, List.getElem?_map]
  cases l[i]? with
  | none => rfl
  | some x => simp; cases x; rfl
@[simp] theorem GStmt.dropAll (x : GStmt) : List.drop 6 x.enc = [] := by cases x; rfl
@[simp] theorem GStmt.dropAllv (x : GStmt) : List.drop 6 (x.enc.map V.d) = [] := by cases x; rfl
@[simp] theorem GStmt.enc_all (x : GStmt) : x.enc.take 6 = x.enc := by cases x; rfl
@[simp] theorem GStmt.enc_allv (x : GStmt) : List.take 6 (x.enc.map V.d) = x.enc.map V.d := by cases x; rfl
mutual
def GStmt.wf : GStmt → Prop
  | .mk a0 a1 a2 a3 a4 a5 => inR .i64 a0 ∧ inR .i64 a1 ∧ a2.size ≤ 140737488351232 ∧ a3.length * 64 ≤ 140737488351232 ∧ (∀ y0 : GExpr, y0 ∈ a3 → y0.wf) ∧ a4.length * 104 ≤ 140737488351232 ∧ GStmt.wfs a4 ∧ a5.length * 104 ≤ 140737488351232 ∧ GStmt.wfs a5
def GStmt.wfs : List GStmt → Prop
  | [] => True
  | x :: l => x.wf ∧ GStmt.wfs l
end
theorem GStmt.wfs_iff : ∀ l : List GStmt, GStmt.wfs l ↔ ∀ y ∈ l, y.wf
  | [] => by simp [GStmt.wfs]
  | x :: l => by rw [GStmt.wfs, GStmt.wfs_iff l]; simp
theorem GStmt.wf_iff (x : GStmt) : x.wf ↔ inR .i64 x.Kind ∧ inR .i64 x.Num ∧ x.Name.size ≤ 140737488351232 ∧ x.Args.length * 64 ≤ 140737488351232 ∧ (∀ y0 : GExpr, y0 ∈ x.Args → y0.wf) ∧ x.Body.length * 104 ≤ 140737488351232 ∧ (∀ y0 : GStmt, y0 ∈ x.Body → y0.wf) ∧ x.Else.length * 104 ≤ 140737488351232 ∧ (∀ y0 : GStmt, y0 ∈ x.Else → y0.wf) := by
  cases x
  simp only [GStmt.wf, GStmt.wfs_iff]
  rfl
theorem GStmt.wf_Kind {x : GStmt} (h : x.wf) : inR .i64 x.Kind := ((GStmt.wf_iff x).1 h).1
theorem GStmt.wf_Num {x : GStmt} (h : x.wf) : inR .i64 x.Num := ((GStmt.wf_iff x).1 h).2.1
theorem GStmt.wf_Name {x : GStmt} (h : x.wf) : x.Name.size ≤ 140737488351232 := ((GStmt.wf_iff x).1 h).2.2.1
theorem GStmt.wl_Args {x : GStmt} (h : x.wf) : x.Args.length * 64 ≤ 140737488351232 := ((GStmt.wf_iff x).1 h).2.2.2.1
theorem GStmt.wf_Args {x : GStmt} (h : x.wf) : (∀ y0 : GExpr, y0 ∈ x.Args → y0.wf) := ((GStmt.wf_iff x).1 h).2.2.2.2.1
theorem GStmt.wl_Body {x : GStmt} (h : x.wf) : x.Body.length * 104 ≤ 140737488351232 := ((GStmt.wf_iff x).1 h).2.2.2.2.2.1
theorem GStmt.wf_Body {x : GStmt} (h : x.wf) : (∀ y0 : GStmt, y0 ∈ x.Body → y0.wf) := ((GStmt.wf_iff x).1 h).2.2.2.2.2.2.1
theorem GStmt.wl_Else {x : GStmt} (h : x.wf) : x.Else.length * 104 ≤ 140737488351232 := ((GStmt.wf_iff x).1 h).2.2.2.2.2.2.2.1
theorem GStmt.wf_Else {x : GStmt} (h : x.wf) : (∀ y0 : GStmt, y0 ∈ x.Else → y0.wf) := ((GStmt.wf_iff x).1 h).2.2.2.2.2.2.2.2
theorem tyK_94 : tyK Go.Proofs.Try.prog 94 = .st [3, 3, 9, 51, 59, 59] := by kernel_rfl
theorem tyK_59 : tyK Go.Proofs.Try.prog 59 = .sl 94 104 := by kernel_rfl
theorem GStmt.of' : ∀ (n : Nat) {ys : List D}, SizeOf.sizeOf ys < n → HasT Go.Proofs.Try.prog 94 ys → ∃ x : GStmt, ys = x.enc ∧ x.wf := by
  intro n
  induction n with
  | zero => intro ys h; omega
  | succ n ih =>
  intro ys hsz h
  have h' := HasT.st_inv h tyK_94
  obtain ⟨a0_, r0, hr0, t0, h0⟩ := h'
  obtain ⟨a1_, r1, hr1, t1, h1⟩ := h0
  obtain ⟨a2_, r2, hr2, t2, h2⟩ := h1
  obtain ⟨a3_, r3, hr3, t3, h3⟩ := h2
  obtain ⟨a4_, r4, hr4, t4, h4⟩ := h3
  obtain ⟨a5_, r5, hr5, t5, h5⟩ := h4
  simp only [HasTs] at h5
  subst h5
  subst hr5
  subst hr4
  subst hr3
  subst hr2
  subst hr1
  subst hr0
  obtain ⟨a0_', rfl, a0_w⟩ := HasT.int_inv t0 tyK_3
  obtain ⟨a1_', rfl, a1_w⟩ := HasT.int_inv t1 tyK_3
  obtain ⟨a2_', rfl, a2_w⟩ := HasT.str_inv t2 tyK_9
  obtain ⟨a3_0, rfl, a3_h, a3_l, a3_w⟩ := HasT.sl_inv t3 tyK_51
  obtain ⟨a3_', rfl, a3_a⟩ := map_of (f := GExpr.enc) (p := fun (y : GExpr) => y.wf) (fun a3_e hx => by
    have a3_q := a3_h a3_e hx
    obtain ⟨a3_e', rfl, a3_ew⟩ := GExpr.of a3_q
    exact ⟨a3_e', rfl, a3_ew⟩)
  obtain ⟨a4_0, rfl, a4_h, a4_l, a4_w⟩ := HasT.sl_inv t4 tyK_59
  obtain ⟨a4_', rfl, a4_a⟩ := map_of (f := GStmt.enc) (p := GStmt.wf) (fun a4_e hx => ih (by have hlt := List.sizeOf_lt_of_mem hx; simp at hsz; omega) (a4_h a4_e hx))
  obtain ⟨a5_0, rfl, a5_h, a5_l, a5_w⟩ := HasT.sl_inv t5 tyK_59
  obtain ⟨a5_', rfl, a5_a⟩ := map_of (f := GStmt.enc) (p := GStmt.wf) (fun a5_e hx => ih (by have hlt := List.sizeOf_lt_of_mem hx; simp at hsz; omega) (a5_h a5_e hx))
  exact ⟨.mk a0_' a1_' a2_' a3_' a4_' a5_', by rw [GStmt.enc_eq]; rfl, by rw [GStmt.wf]; exact ⟨a0_w, a1_w, a2_w, (by simpa using a3_w), a3_a, (by simpa using a4_w), (GStmt.wfs_iff _).2 a4_a, (by simpa using a5_w), (GStmt.wfs_iff _).2 a5_a⟩⟩
theorem GStmt.of {ys : List D} (h : HasT Go.Proofs.Try.prog 94 ys) : ∃ x : GStmt, ys = x.enc ∧ x.wf := GStmt.of' _ (Nat.lt_succ_self _) h
structure GIns where
  Op : Int
  Arg : Int
  deriving DecidableEq
def GIns.enc (x : GIns) : List D := [D.v (.int .i64 x.Op), D.v (.int .i64 x.Arg)]
@[simp] theorem GIns.enc_length (x : GIns) : x.enc.length = 2 := rfl
@[simp] theorem GIns.enc_0 (x : GIns) : x.enc[0]? = some (D.v (.int .i64 x.Op)) := rfl
@[simp] theorem GIns.encg_0 (x : GIns) (h : 0 < x.enc.length) : x.enc[0] = D.v (.int .i64 x.Op) := rfl
@[simp] theorem GIns.enc_1 (x : GIns) : x.enc[1]? = some (D.v (.int .i64 x.Arg)) := rfl
@[simp] theorem GIns.encg_1 (x : GIns) (h : 1 < x.enc.length) : x.enc[1] = D.v (.int .i64 x.Arg) := rfl
@[simp] theorem GIns.fzV (L : Heap) (x : GIns) : V.fzs L (x.enc.map V.d) = x.enc.map V.d := by simp [GIns.enc, V.fzs, V.fz]
@[simp] theorem GIns.eqV (x y : GIns) : eqVs (x.enc.map V.d) (y.enc.map V.d) = some (decide (x = y)) := by
  rcases x with ⟨a_0, a_1⟩
  rcases y with ⟨b_0, b_1⟩
  simp only [GIns.enc, List.map, eqVs, vals, eqVals, eqV1, if_true, Option.some.injEq, bytes_beq]
  rw [Bool.eq_iff_iff]
  simp [and_assoc]
@[simp] theorem GIns.fitV (x : GIns) : fitVs [.i .i64, .i .i64] (x.enc.map V.d) = true := by
  simp [GIns.enc, fitVs, vals, fits, fit1]
def GIns.zero : GIns := ⟨0, 0⟩
theorem GIns.zero_enc : GIns.zero.enc = [D.v (.int .i64 0), D.v (.int .i64 0)] := rfl
@[simp] theorem GIns.getZ (o : Option GIns) : (o.map GIns.enc).getD [D.v (.int .i64 0), D.v (.int .i64 0)] = (o.getD GIns.zero).enc := by cases o <;> rfl
@[simp] theorem GIns.getV (o : Option GIns) : (o.map (fun x => x.enc.map V.d)).getD [V.d (D.v (.int .i64 0)), V.d (D.v (.int .i64 0))] = ((o.getD GIns.zero).enc).map V.d := by cases o <;> rfl
theorem GIns.cellAt (l : List GIns) (i j : Nat) (z : D) (h : GIns.zero.enc[j]? = some z) : cellAt (dd (l.map GIns.enc)) i j [V.d z] = V.d (((l[i]?.getD GIns.zero).enc[j]?).getD default) := by
  unfold Go.Ab.cellAt
  rw [dd_get, List.getElem?_map]
  cases hl : l[i]? with
  | none => simp [h]
  | some a =>
    have hj := (List.getElem?_eq_some_iff.1 h).1
    have hj' : j < a.enc.length := by rw [GIns.enc_length] at hj ⊢; exact hj
    simp only [Option.map_some, List.getElem?_map, List.getElem?_eq_getElem hj', Option.getD_some]
@[simp] theorem GIns.cellAt_0 (l : List GIns) (i : Nat) : Go.Ab.cellAt (dd (l.map GIns.enc)) i 0 [V.d (D.v (.int .i64 0))] = V.d (D.v (.int .i64 (l[i]?.getD GIns.zero).Op)) := (GIns.cellAt l i 0 (D.v (.int .i64 0)) rfl).trans (by simp)
@[simp] theorem GIns.cellAt_1 (l : List GIns) (i : Nat) : Go.Ab.cellAt (dd (l.map GIns.enc)) i 1 [V.d (D.v (.int .i64 0))] = V.d (D.v (.int .i64 (l[i]?.getD GIns.zero).Arg)) := (GIns.cellAt l i 1 (D.v (.int .i64 0)) rfl).trans (by simp)
@[simp] theorem GIns.aggAt (l : List GIns) (i : Nat) : Go.Ab.aggAt (dd (l.map GIns.enc)) i 0 2 [V.d (D.v (.int .i64 0)), V.d (D.v (.int .i64 0))] = (l[i]?.getD GIns.zero).enc.map V.d := by
  unfold Go.Ab.aggAt
  rw [dd_get, List.getElem?_map]
  cases l[i]? with
  | none => rfl
  | some x => simp; cases x; rfl
@[simp] theorem GIns.dropAll (x : GIns) : List.drop 2 x.enc = [] := rfl
@[simp] theorem GIns.dropAllv (x : GIns) : List.drop 2 (x.enc.map V.d) = [] := rfl
@[simp] theorem GIns.enc_all (x : GIns) : x.enc.take 2 = x.enc := rfl
@[simp] theorem GIns.enc_allv (x : GIns) : List.take 2 (x.enc.map V.d) = x.enc.map V.d := rfl
def GIns.wf (x : GIns) : Prop := inR .i64 x.Op ∧ inR .i64 x.Arg
theorem GIns.wf_Op {x : GIns} (h : x.wf) : inR .i64 x.Op := h.1
theorem GIns.wf_Arg {x : GIns} (h : x.wf) : inR .i64 x.Arg := h.2
theorem tyK_64 : tyK Go.Proofs.Try.prog 64 = .st [3, 3] := by kernel_rfl
theorem GIns.of {ys : List D} (h : HasT Go.Proofs.Try.prog 64 ys) : ∃ x : GIns, ys = x.enc ∧ x.wf := by
  have h' := HasT.st_inv h tyK_64
  obtain ⟨a0_, r0, hr0, t0, h0⟩ := h'
  obtain ⟨a1_, r1, hr1, t1, h1⟩ := h0
  simp only [HasTs] at h1
  subst h1
  subst hr1
  subst hr0
  obtain ⟨a0_', rfl, a0_w⟩ := HasT.int_inv t0 tyK_3
  obtain ⟨a1_', rfl, a1_w⟩ := HasT.int_inv t1 tyK_3
  exact ⟨⟨a0_', a1_'⟩, rfl, ⟨a0_w, a1_w⟩⟩
structure GCmd where
  Verb : Int
  Noun : Int
  Second : Int
  Number : Int
  Dir : Int
  deriving DecidableEq
def GCmd.enc (x : GCmd) : List D := [D.v (.int .i64 x.Verb), D.v (.int .i64 x.Noun), D.v (.int .i64 x.Second), D.v (.int .i64 x.Number), D.v (.int .i64 x.Dir)]
@[simp] theorem GCmd.enc_length (x : GCmd) : x.enc.length = 5 := rfl
@[simp] theorem GCmd.enc_0 (x : GCmd) : x.enc[0]? = some (D.v (.int .i64 x.Verb)) := rfl
@[simp] theorem GCmd.encg_0 (x : GCmd) (h : 0 < x.enc.length) : x.enc[0] = D.v (.int .i64 x.Verb) := rfl
@[simp] theorem GCmd.enc_1 (x : GCmd) : x.enc[1]? = some (D.v (.int .i64 x.Noun)) := rfl
@[simp] theorem GCmd.encg_1 (x : GCmd) (h : 1 < x.enc.length) : x.enc[1] = D.v (.int .i64 x.Noun) := rfl
@[simp] theorem GCmd.enc_2 (x : GCmd) : x.enc[2]? = some (D.v (.int .i64 x.Second)) := rfl
@[simp] theorem GCmd.encg_2 (x : GCmd) (h : 2 < x.enc.length) : x.enc[2] = D.v (.int .i64 x.Second) := rfl
@[simp] theorem GCmd.enc_3 (x : GCmd) : x.enc[3]? = some (D.v (.int .i64 x.Number)) := rfl
@[simp] theorem GCmd.encg_3 (x : GCmd) (h : 3 < x.enc.length) : x.enc[3] = D.v (.int .i64 x.Number) := rfl
@[simp] theorem GCmd.enc_4 (x : GCmd) : x.enc[4]? = some (D.v (.int .i64 x.Dir)) := rfl
@[simp] theorem GCmd.encg_4 (x : GCmd) (h : 4 < x.enc.length) : x.enc[4] = D.v (.int .i64 x.Dir) := rfl
@[simp] theorem GCmd.fzV (L : Heap) (x : GCmd) : V.fzs L (x.enc.map V.d) = x.enc.map V.d := by simp [GCmd.enc, V.fzs, V.fz]
@[simp] theorem GCmd.eqV (x y : GCmd) : eqVs (x.enc.map V.d) (y.enc.map V.d) = some (decide (x = y)) := by
  rcases x with ⟨a_0, a_1, a_2, a_3, a_4⟩
  rcases y with ⟨b_0, b_1, b_2, b_3, b_4⟩
  simp only [GCmd.enc, List.map, eqVs, vals, eqVals, eqV1, if_true, Option.some.injEq, bytes_beq]
  rw [Bool.eq_iff_iff]
  simp [and_assoc]
@[simp] theorem GCmd.fitV (x : GCmd) : fitVs [.i .i64, .i .i64, .i .i64, .i .i64, .i .i64] (x.enc.map V.d) = true := by
  simp [GCmd.enc, fitVs, vals, fits, fit1]
def GCmd.zero : GCmd := ⟨0, 0, 0, 0, 0⟩
theorem GCmd.zero_enc : GCmd.zero.enc = [D.v (.int .i64 0), D.v (.int .i64 0), D.v (.int .i64 0), D.v (.int .i64 0), D.v (.int .i64 0)] := rfl
@[simp] theorem GCmd.getZ (o : Option GCmd) : (o.map GCmd.enc).getD [D.v (.int .i64 0), D.v (.int .i64 0), D.v (.int .i64 0), D.v (.int .i64 0), D.v (.int .i64 0)] = (o.getD GCmd.zero).enc := by cases o <;> rfl
@[simp] theorem GCmd.getV (o : Option GCmd) : (o.map (fun x => x.enc.map V.d)).getD [V.d (D.v (.int .i64 0)), V.d (D.v (.int .i64 0)), V.d (D.v (.int .i64 0)), V.d (D.v (.int .i64 0)), V.d (D.v (.int .i64 0))] = ((o.getD GCmd.zero).enc).map V.d := by cases o <;> rfl
theorem GCmd.cellAt (l : List GCmd) (i j : Nat) (z : D) (h : GCmd.zero.enc[j]? = some z) : cellAt (dd (l.map GCmd.enc)) i j [V.d z] = V.d (((l[i]?.getD GCmd.zero).enc[j]?).getD default) := by
  unfold Go.Ab.cellAt
  rw [dd_get, List.getElem?_map]
  cases hl : l[i]? with
  | none => simp [h]
  | some a =>
    have hj := (List.getElem?_eq_some_iff.1 h).1
    have hj' : j < a.enc.length := by rw [GCmd.enc_length] at hj ⊢; exact hj
    simp only [Option.map_some, List.getElem?_map, List.getElem?_eq_getElem hj', Option.getD_some]
@[simp] theorem GCmd.cellAt_0 (l : List GCmd) (i : Nat) : Go.Ab.cellAt (dd (l.map GCmd.enc)) i 0 [V.d (D.v (.int .i64 0))] = V.d (D.v (.int .i64 (l[i]?.getD GCmd.zero).Verb)) := (GCmd.cellAt l i 0 (D.v (.int .i64 0)) rfl).trans (by simp)
@[simp] theorem GCmd.cellAt_1 (l : List GCmd) (i : Nat) : Go.Ab.cellAt (dd (l.map GCmd.enc)) i 1 [V.d (D.v (.int .i64 0))] = V.d (D.v (.int .i64 (l[i]?.getD GCmd.zero).Noun)) := (GCmd.cellAt l i 1 (D.v (.int .i64 0)) rfl).trans (by simp)
@[simp] theorem GCmd.cellAt_2 (l : List GCmd) (i : Nat) : Go.Ab.cellAt (dd (l.map GCmd.enc)) i 2 [V.d (D.v (.int .i64 0))] = V.d (D.v (.int .i64 (l[i]?.getD GCmd.zero).Second)) := (GCmd.cellAt l i 2 (D.v (.int .i64 0)) rfl).trans (by simp)
@[simp] theorem GCmd.cellAt_3 (l : List GCmd) (i : Nat) : Go.Ab.cellAt (dd (l.map GCmd.enc)) i 3 [V.d (D.v (.int .i64 0))] = V.d (D.v (.int .i64 (l[i]?.getD GCmd.zero).Number)) := (GCmd.cellAt l i 3 (D.v (.int .i64 0)) rfl).trans (by simp)
@[simp] theorem GCmd.cellAt_4 (l : List GCmd) (i : Nat) : Go.Ab.cellAt (dd (l.map GCmd.enc)) i 4 [V.d (D.v (.int .i64 0))] = V.d (D.v (.int .i64 (l[i]?.getD GCmd.zero).Dir)) := (GCmd.cellAt l i 4 (D.v (.int .i64 0)) rfl).trans (by simp)
@[simp] theorem GCmd.aggAt (l : List GCmd) (i : Nat) : Go.Ab.aggAt (dd (l.map GCmd.enc)) i 0 5 [V.d (D.v (.int .i64 0)), V.d (D.v (.int .i64 0)), V.d (D.v (.int .i64 0)), V.d (D.v (.int .i64 0)), V.d (D.v (.int .i64 0))] = (l[i]?.getD GCmd.zero).enc.map V.d := by
  unfold Go.Ab.aggAt
  rw [dd_get, List.getElem?_map]
  cases l[i]? with
  | none => rfl
  | some x => simp; cases x; rfl
@[simp] theorem GCmd.dropAll (x : GCmd) : List.drop 5 x.enc = [] := rfl
@[simp] theorem GCmd.dropAllv (x : GCmd) : List.drop 5 (x.enc.map V.d) = [] := rfl
@[simp] theorem GCmd.enc_all (x : GCmd) : x.enc.take 5 = x.enc := rfl
@[simp] theorem GCmd.enc_allv (x : GCmd) : List.take 5 (x.enc.map V.d) = x.enc.map V.d := rfl
def GCmd.wf (x : GCmd) : Prop := inR .i64 x.Verb ∧ inR .i64 x.Noun ∧ inR .i64 x.Second ∧ inR .i64 x.Number ∧ inR .i64 x.Dir
theorem GCmd.wf_Verb {x : GCmd} (h : x.wf) : inR .i64 x.Verb := h.1
theorem GCmd.wf_Noun {x : GCmd} (h : x.wf) : inR .i64 x.Noun := h.2.1
theorem GCmd.wf_Second {x : GCmd} (h : x.wf) : inR .i64 x.Second := h.2.2.1
theorem GCmd.wf_Number {x : GCmd} (h : x.wf) : inR .i64 x.Number := h.2.2.2.1
theorem GCmd.wf_Dir {x : GCmd} (h : x.wf) : inR .i64 x.Dir := h.2.2.2.2
theorem tyK_47 : tyK Go.Proofs.Try.prog 47 = .st [3, 3, 3, 3, 3] := by kernel_rfl
theorem GCmd.of {ys : List D} (h : HasT Go.Proofs.Try.prog 47 ys) : ∃ x : GCmd, ys = x.enc ∧ x.wf := by
  have h' := HasT.st_inv h tyK_47
  obtain ⟨a0_, r0, hr0, t0, h0⟩ := h'
  obtain ⟨a1_, r1, hr1, t1, h1⟩ := h0
  obtain ⟨a2_, r2, hr2, t2, h2⟩ := h1
  obtain ⟨a3_, r3, hr3, t3, h3⟩ := h2
  obtain ⟨a4_, r4, hr4, t4, h4⟩ := h3
  simp only [HasTs] at h4
  subst h4
  subst hr4
  subst hr3
  subst hr2
  subst hr1
  subst hr0
  obtain ⟨a0_', rfl, a0_w⟩ := HasT.int_inv t0 tyK_3
  obtain ⟨a1_', rfl, a1_w⟩ := HasT.int_inv t1 tyK_3
  obtain ⟨a2_', rfl, a2_w⟩ := HasT.int_inv t2 tyK_3
  obtain ⟨a3_', rfl, a3_w⟩ := HasT.int_inv t3 tyK_3
  obtain ⟨a4_', rfl, a4_w⟩ := HasT.int_inv t4 tyK_3
  exact ⟨⟨a0_', a1_', a2_', a3_', a4_'⟩, rfl, ⟨a0_w, a1_w, a2_w, a3_w, a4_w⟩⟩
structure GEdge where
  From : Int
  To : Int
  Cmd : GCmd
  deriving DecidableEq
def GEdge.enc (x : GEdge) : List D := [D.v (.int .i64 x.From), D.v (.int .i64 x.To), D.v (.int .i64 x.Cmd.Verb), D.v (.int .i64 x.Cmd.Noun), D.v (.int .i64 x.Cmd.Second), D.v (.int .i64 x.Cmd.Number), D.v (.int .i64 x.Cmd.Dir)]
@[simp] theorem GEdge.enc_length (x : GEdge) : x.enc.length = 7 := rfl
@[simp] theorem GEdge.enc_0 (x : GEdge) : x.enc[0]? = some (D.v (.int .i64 x.From)) := rfl
@[simp] theorem GEdge.encg_0 (x : GEdge) (h : 0 < x.enc.length) : x.enc[0] = D.v (.int .i64 x.From) := rfl
@[simp] theorem GEdge.enc_1 (x : GEdge) : x.enc[1]? = some (D.v (.int .i64 x.To)) := rfl
@[simp] theorem GEdge.encg_1 (x : GEdge) (h : 1 < x.enc.length) : x.enc[1] = D.v (.int .i64 x.To) := rfl
@[simp] theorem GEdge.enc_2 (x : GEdge) : x.enc[2]? = some (D.v (.int .i64 x.Cmd.Verb)) := rfl
@[simp] theorem GEdge.encg_2 (x : GEdge) (h : 2 < x.enc.length) : x.enc[2] = D.v (.int .i64 x.Cmd.Verb) := rfl
@[simp] theorem GEdge.enc_3 (x : GEdge) : x.enc[3]? = some (D.v (.int .i64 x.Cmd.Noun)) := rfl
@[simp] theorem GEdge.encg_3 (x : GEdge) (h : 3 < x.enc.length) : x.enc[3] = D.v (.int .i64 x.Cmd.Noun) := rfl
@[simp] theorem GEdge.enc_4 (x : GEdge) : x.enc[4]? = some (D.v (.int .i64 x.Cmd.Second)) := rfl
@[simp] theorem GEdge.encg_4 (x : GEdge) (h : 4 < x.enc.length) : x.enc[4] = D.v (.int .i64 x.Cmd.Second) := rfl
@[simp] theorem GEdge.enc_5 (x : GEdge) : x.enc[5]? = some (D.v (.int .i64 x.Cmd.Number)) := rfl
@[simp] theorem GEdge.encg_5 (x : GEdge) (h : 5 < x.enc.length) : x.enc[5] = D.v (.int .i64 x.Cmd.Number) := rfl
@[simp] theorem GEdge.enc_6 (x : GEdge) : x.enc[6]? = some (D.v (.int .i64 x.Cmd.Dir)) := rfl
@[simp] theorem GEdge.encg_6 (x : GEdge) (h : 6 < x.enc.length) : x.enc[6] = D.v (.int .i64 x.Cmd.Dir) := rfl
@[simp] theorem GEdge.fzV (L : Heap) (x : GEdge) : V.fzs L (x.enc.map V.d) = x.enc.map V.d := by simp [GEdge.enc, V.fzs, V.fz]
@[simp] theorem GEdge.eqV (x y : GEdge) : eqVs (x.enc.map V.d) (y.enc.map V.d) = some (decide (x = y)) := by
  rcases x with ⟨a_0, a_1, ⟨a_2_0, a_2_1, a_2_2, a_2_3, a_2_4⟩⟩
  rcases y with ⟨b_0, b_1, ⟨b_2_0, b_2_1, b_2_2, b_2_3, b_2_4⟩⟩
  simp only [GEdge.enc, List.map, eqVs, vals, eqVals, eqV1, if_true, Option.some.injEq, bytes_beq]
  rw [Bool.eq_iff_iff]
  simp [and_assoc]
@[simp] theorem GEdge.fitV (x : GEdge) : fitVs [.i .i64, .i .i64, .i .i64, .i .i64, .i .i64, .i .i64, .i .i64] (x.enc.map V.d) = true := by
  simp [GEdge.enc, fitVs, vals, fits, fit1]
def GEdge.zero : GEdge := ⟨0, 0, GCmd.zero⟩
theorem GEdge.zero_enc : GEdge.zero.enc = [D.v (.int .i64 0), D.v (.int .i64 0), D.v (.int .i64 0), D.v (.int .i64 0), D.v (.int .i64 0), D.v (.int .i64 0), D.v (.int .i64 0)] := rfl
@[simp] theorem GEdge.getZ (o : Option GEdge) : (o.map GEdge.enc).getD [D.v (.int .i64 0), D.v (.int .i64 0), D.v (.int .i64 0), D.v (.int .i64 0), D.v (.int .i64 0), D.v (.int .i64 0), D.v (.int .i64 0)] = (o.getD GEdge.zero).enc := by cases o <;> rfl
@[simp] theorem GEdge.getV (o : Option GEdge) : (o.map (fun x => x.enc.map V.d)).getD [V.d (D.v (.int .i64 0)), V.d (D.v (.int .i64 0)), V.d (D.v (.int .i64 0)), V.d (D.v (.int .i64 0)), V.d (D.v (.int .i64 0)), V.d (D.v (.int .i64 0)), V.d (D.v (.int .i64 0))] = ((o.getD GEdge.zero).enc).map V.d := by cases o <;> rfl
theorem GEdge.cellAt (l : List GEdge) (i j : Nat) (z : D) (h : GEdge.zero.enc[j]? = some z) : cellAt (dd (l.map GEdge.enc)) i j [V.d z] = V.d (((l[i]?.getD GEdge.zero).enc[j]?).getD default) := by
  unfold Go.Ab.cellAt
  rw [dd_get, List.getElem?_map]
  cases hl : l[i]? with
  | none => simp [h]
  | some a =>
    have hj := (List.getElem?_eq_some_iff.1 h).1
    have hj' : j < a.enc.length := by rw [GEdge.enc_length] at hj ⊢; exact hj
    simp only [Option.map_some, List.getElem?_map, List.getElem?_eq_getElem hj', Option.getD_some]
@[simp] theorem GEdge.cellAt_0 (l : List GEdge) (i : Nat) : Go.Ab.cellAt (dd (l.map GEdge.enc)) i 0 [V.d (D.v (.int .i64 0))] = V.d (D.v (.int .i64 (l[i]?.getD GEdge.zero).From)) := (GEdge.cellAt l i 0 (D.v (.int .i64 0)) rfl).trans (by simp)
@[simp] theorem GEdge.cellAt_1 (l : List GEdge) (i : Nat) : Go.Ab.cellAt (dd (l.map GEdge.enc)) i 1 [V.d (D.v (.int .i64 0))] = V.d (D.v (.int .i64 (l[i]?.getD GEdge.zero).To)) := (GEdge.cellAt l i 1 (D.v (.int .i64 0)) rfl).trans (by simp)
@[simp] theorem GEdge.cellAt_2 (l : List GEdge) (i : Nat) : Go.Ab.cellAt (dd (l.map GEdge.enc)) i 2 [V.d (D.v (.int .i64 0))] = V.d (D.v (.int .i64 (l[i]?.getD GEdge.zero).Cmd.Verb)) := (GEdge.cellAt l i 2 (D.v (.int .i64 0)) rfl).trans (by simp)
@[simp] theorem GEdge.cellAt_3 (l : List GEdge) (i : Nat) : Go.Ab.cellAt (dd (l.map GEdge.enc)) i 3 [V.d (D.v (.int .i64 0))] = V.d (D.v (.int .i64 (l[i]?.getD GEdge.zero).Cmd.Noun)) := (GEdge.cellAt l i 3 (D.v (.int .i64 0)) rfl).trans (by simp)
@[simp] theorem GEdge.cellAt_4 (l : List GEdge) (i : Nat) : Go.Ab.cellAt (dd (l.map GEdge.enc)) i 4 [V.d (D.v (.int .i64 0))] = V.d (D.v (.int .i64 (l[i]?.getD GEdge.zero).Cmd.Second)) := (GEdge.cellAt l i 4 (D.v (.int .i64 0)) rfl).trans (by simp)
@[simp] theorem GEdge.cellAt_5 (l : List GEdge) (i : Nat) : Go.Ab.cellAt (dd (l.map GEdge.enc)) i 5 [V.d (D.v (.int .i64 0))] = V.d (D.v (.int .i64 (l[i]?.getD GEdge.zero).Cmd.Number)) := (GEdge.cellAt l i 5 (D.v (.int .i64 0)) rfl).trans (by simp)
@[simp] theorem GEdge.cellAt_6 (l : List GEdge) (i : Nat) : Go.Ab.cellAt (dd (l.map GEdge.enc)) i 6 [V.d (D.v (.int .i64 0))] = V.d (D.v (.int .i64 (l[i]?.getD GEdge.zero).Cmd.Dir)) := (GEdge.cellAt l i 6 (D.v (.int .i64 0)) rfl).trans (by simp)
@[simp] theorem GEdge.aggAt (l : List GEdge) (i : Nat) : Go.Ab.aggAt (dd (l.map GEdge.enc)) i 0 7 [V.d (D.v (.int .i64 0)), V.d (D.v (.int .i64 0)), V.d (D.v (.int .i64 0)), V.d (D.v (.int .i64 0)), V.d (D.v (.int .i64 0)), V.d (D.v (.int .i64 0)), V.d (D.v (.int .i64 0))] = (l[i]?.getD GEdge.zero).enc.map V.d := by
  unfold Go.Ab.aggAt
  rw [dd_get, List.getElem?_map]
  cases l[i]? with
  | none => rfl
  | some x => simp; cases x; rfl
@[simp] theorem GEdge.dropAll (x : GEdge) : List.drop 7 x.enc = [] := rfl
@[simp] theorem GEdge.dropAllv (x : GEdge) : List.drop 7 (x.enc.map V.d) = [] := rfl
@[simp] theorem GEdge.enc_all (x : GEdge) : x.enc.take 7 = x.enc := rfl
@[simp] theorem GEdge.enc_allv (x : GEdge) : List.take 7 (x.enc.map V.d) = x.enc.map V.d := rfl
@[simp] theorem GEdge.sub_Cmd (x : GEdge) : List.take 5 (List.drop 2 x.enc) = x.Cmd.enc := rfl
@[simp] theorem GEdge.subv_Cmd (x : GEdge) : List.take 5 (List.drop 2 (x.enc.map V.d)) = x.Cmd.enc.map V.d := rfl
@[simp] theorem GEdge.tailv_Cmd (x : GEdge) : List.drop 2 (x.enc.map V.d) = x.Cmd.enc.map V.d := rfl
@[simp] theorem GEdge.tail_Cmd (x : GEdge) : List.drop 2 x.enc = x.Cmd.enc := rfl
def GEdge.wf (x : GEdge) : Prop := inR .i64 x.From ∧ inR .i64 x.To ∧ x.Cmd.wf
theorem GEdge.wf_From {x : GEdge} (h : x.wf) : inR .i64 x.From := h.1
theorem GEdge.wf_To {x : GEdge} (h : x.wf) : inR .i64 x.To := h.2.1
theorem GEdge.wf_Cmd {x : GEdge} (h : x.wf) : x.Cmd.wf := h.2.2
theorem tyK_49 : tyK Go.Proofs.Try.prog 49 = .st [3, 3, 47] := by kernel_rfl
theorem GEdge.of {ys : List D} (h : HasT Go.Proofs.Try.prog 49 ys) : ∃ x : GEdge, ys = x.enc ∧ x.wf := by
  have h' := HasT.st_inv h tyK_49
  obtain ⟨a0_, r0, hr0, t0, h0⟩ := h'
  obtain ⟨a1_, r1, hr1, t1, h1⟩ := h0
  obtain ⟨a2_, r2, hr2, t2, h2⟩ := h1
  simp only [HasTs] at h2
  subst h2
  subst hr2
  subst hr1
  subst hr0
  obtain ⟨a0_', rfl, a0_w⟩ := HasT.int_inv t0 tyK_3
  obtain ⟨a1_', rfl, a1_w⟩ := HasT.int_inv t1 tyK_3
  obtain ⟨a2_', rfl, a2_w⟩ := GCmd.of t2
  exact ⟨⟨a0_', a1_', a2_'⟩, rfl, ⟨a0_w, a1_w, a2_w⟩⟩
structure Gstep where
  far : Int
  from_ : Int
  dir : Int
  deriving DecidableEq
def Gstep.enc (x : Gstep) : List D := [D.v (.int .i64 x.far), D.v (.int .i64 x.from_), D.v (.int .i64 x.dir)]
@[simp] theorem Gstep.enc_length (x : Gstep) : x.enc.length = 3 := rfl
@[simp] theorem Gstep.enc_0 (x : Gstep) : x.enc[0]? = some (D.v (.int .i64 x.far)) := rfl
@[simp] theorem Gstep.encg_0 (x : Gstep) (h : 0 < x.enc.length) : x.enc[0] = D.v (.int .i64 x.far) := rfl
@[simp] theorem Gstep.enc_1 (x : Gstep) : x.enc[1]? = some (D.v (.int .i64 x.from_)) := rfl
@[simp] theorem Gstep.encg_1 (x : Gstep) (h : 1 < x.enc.length) : x.enc[1] = D.v (.int .i64 x.from_) := rfl
@[simp] theorem Gstep.enc_2 (x : Gstep) : x.enc[2]? = some (D.v (.int .i64 x.dir)) := rfl
@[simp] theorem Gstep.encg_2 (x : Gstep) (h : 2 < x.enc.length) : x.enc[2] = D.v (.int .i64 x.dir) := rfl
@[simp] theorem Gstep.fzV (L : Heap) (x : Gstep) : V.fzs L (x.enc.map V.d) = x.enc.map V.d := by simp [Gstep.enc, V.fzs, V.fz]
@[simp] theorem Gstep.eqV (x y : Gstep) : eqVs (x.enc.map V.d) (y.enc.map V.d) = some (decide (x = y)) := by
  rcases x with ⟨a_0, a_1, a_2⟩
  rcases y with ⟨b_0, b_1, b_2⟩
  simp only [Gstep.enc, List.map, eqVs, vals, eqVals, eqV1, if_true, Option.some.injEq, bytes_beq]
  rw [Bool.eq_iff_iff]
  simp [and_assoc]
@[simp] theorem Gstep.fitV (x : Gstep) : fitVs [.i .i64, .i .i64, .i .i64] (x.enc.map V.d) = true := by
  simp [Gstep.enc, fitVs, vals, fits, fit1]
def Gstep.zero : Gstep := ⟨0, 0, 0⟩
theorem Gstep.zero_enc : Gstep.zero.enc = [D.v (.int .i64 0), D.v (.int .i64 0), D.v (.int .i64 0)] := rfl
@[simp] theorem Gstep.getZ (o : Option Gstep) : (o.map Gstep.enc).getD [D.v (.int .i64 0), D.v (.int .i64 0), D.v (.int .i64 0)] = (o.getD Gstep.zero).enc := by cases o <;> rfl
@[simp] theorem Gstep.getV (o : Option Gstep) : (o.map (fun x => x.enc.map V.d)).getD [V.d (D.v (.int .i64 0)), V.d (D.v (.int .i64 0)), V.d (D.v (.int .i64 0))] = ((o.getD Gstep.zero).enc).map V.d := by cases o <;> rfl
theorem Gstep.cellAt (l : List Gstep) (i j : Nat) (z : D) (h : Gstep.zero.enc[j]? = some z) : cellAt (dd (l.map Gstep.enc)) i j [V.d z] = V.d (((l[i]?.getD Gstep.zero).enc[j]?).getD default) := by
  unfold Go.Ab.cellAt
  rw [dd_get, List.getElem?_map]
  cases hl : l[i]? with
  | none => simp [h]
  | some a =>
    have hj := (List.getElem?_eq_some_iff.1 h).1
    have hj' : j < a.enc.length := by rw [Gstep.enc_length] at hj ⊢; exact hj
    simp only [Option.map_some, List.getElem?_map, List.getElem?_eq_getElem hj', Option.getD_some]
@[simp] theorem Gstep.cellAt_0 (l : List Gstep) (i : Nat) : Go.Ab.cellAt (dd (l.map Gstep.enc)) i 0 [V.d (D.v (.int .i64 0))] = V.d (D.v (.int .i64 (l[i]?.getD Gstep.zero).far)) := (Gstep.cellAt l i 0 (D.v (.int .i64 0)) rfl).trans (by simp)
@[simp] theorem Gstep.cellAt_1 (l : List Gstep) (i : Nat) : Go.Ab.cellAt (dd (l.map Gstep.enc)) i 1 [V.d (D.v (.int .i64 0))] = V.d (D.v (.int .i64 (l[i]?.getD Gstep.zero).from_)) := (Gstep.cellAt l i 1 (D.v (.int .i64 0)) rfl).trans (by simp)
@[simp] theorem Gstep.cellAt_2 (l : List Gstep) (i : Nat) : Go.Ab.cellAt (dd (l.map Gstep.enc)) i 2 [V.d (D.v (.int .i64 0))] = V.d (D.v (.int .i64 (l[i]?.getD Gstep.zero).dir)) := (Gstep.cellAt l i 2 (D.v (.int .i64 0)) rfl).trans (by simp)
@[simp] theorem Gstep.aggAt (l : List Gstep) (i : Nat) : Go.Ab.aggAt (dd (l.map Gstep.enc)) i 0 3 [V.d (D.v (.int .i64 0)), V.d (D.v (.int .i64 0)), V.d (D.v (.int .i64 0))] = (l[i]?.getD Gstep.zero).enc.map V.d := by
  unfold Go.Ab.aggAt
  rw [dd_get, List.getElem?_map]
  cases l[i]? with
  | none => rfl
  | some x => simp; cases x; rfl
@[simp] theorem Gstep.dropAll (x : Gstep) : List.drop 3 x.enc = [] := rfl
@[simp] theorem Gstep.dropAllv (x : Gstep) : List.drop 3 (x.enc.map V.d) = [] := rfl
@[simp] theorem Gstep.enc_all (x : Gstep) : x.enc.take 3 = x.enc := rfl
@[simp] theorem Gstep.enc_allv (x : Gstep) : List.take 3 (x.enc.map V.d) = x.enc.map V.d := rfl
def Gstep.wf (x : Gstep) : Prop := inR .i64 x.far ∧ inR .i64 x.from_ ∧ inR .i64 x.dir
theorem Gstep.wf_far {x : Gstep} (h : x.wf) : inR .i64 x.far := h.1
theorem Gstep.wf_from_ {x : Gstep} (h : x.wf) : inR .i64 x.from_ := h.2.1
theorem Gstep.wf_dir {x : Gstep} (h : x.wf) : inR .i64 x.dir := h.2.2
theorem tyK_73 : tyK Go.Proofs.Try.prog 73 = .st [3, 3, 3] := by kernel_rfl
theorem Gstep.of {ys : List D} (h : HasT Go.Proofs.Try.prog 73 ys) : ∃ x : Gstep, ys = x.enc ∧ x.wf := by
  have h' := HasT.st_inv h tyK_73
  obtain ⟨a0_, r0, hr0, t0, h0⟩ := h'
  obtain ⟨a1_, r1, hr1, t1, h1⟩ := h0
  obtain ⟨a2_, r2, hr2, t2, h2⟩ := h1
  simp only [HasTs] at h2
  subst h2
  subst hr2
  subst hr1
  subst hr0
  obtain ⟨a0_', rfl, a0_w⟩ := HasT.int_inv t0 tyK_3
  obtain ⟨a1_', rfl, a1_w⟩ := HasT.int_inv t1 tyK_3
  obtain ⟨a2_', rfl, a2_w⟩ := HasT.int_inv t2 tyK_3
  exact ⟨⟨a0_', a1_', a2_'⟩, rfl, ⟨a0_w, a1_w, a2_w⟩⟩
structure Gwriter where
  l : (List GIns)
  labels : Int
  deriving DecidableEq
def Gwriter.enc (x : Gwriter) : List D := [D.sl (x.l.map GIns.enc), D.v (.int .i64 x.labels)]
@[simp] theorem Gwriter.enc_length (x : Gwriter) : x.enc.length = 2 := rfl
@[simp] theorem Gwriter.enc_0 (x : Gwriter) : x.enc[0]? = some (D.sl (x.l.map GIns.enc)) := rfl
@[simp] theorem Gwriter.encg_0 (x : Gwriter) (h : 0 < x.enc.length) : x.enc[0] = D.sl (x.l.map GIns.enc) := rfl
@[simp] theorem Gwriter.enc_1 (x : Gwriter) : x.enc[1]? = some (D.v (.int .i64 x.labels)) := rfl
@[simp] theorem Gwriter.encg_1 (x : Gwriter) (h : 1 < x.enc.length) : x.enc[1] = D.v (.int .i64 x.labels) := rfl
@[simp] theorem Gwriter.fzV (L : Heap) (x : Gwriter) : V.fzs L (x.enc.map V.d) = x.enc.map V.d := by simp [Gwriter.enc, V.fzs, V.fz]
def Gwriter.zero : Gwriter := ⟨[], 0⟩
theorem Gwriter.zero_enc : Gwriter.zero.enc = [D.sl [], D.v (.int .i64 0)] := rfl
@[simp] theorem Gwriter.getZ (o : Option Gwriter) : (o.map Gwriter.enc).getD [D.sl [], D.v (.int .i64 0)] = (o.getD Gwriter.zero).enc := by cases o <;> rfl
@[simp] theorem Gwriter.getV (o : Option Gwriter) : (o.map (fun x => x.enc.map V.d)).getD [V.d (D.sl []), V.d (D.v (.int .i64 0))] = ((o.getD Gwriter.zero).enc).map V.d := by cases o <;> rfl
theorem Gwriter.cellAt (l : List Gwriter) (i j : Nat) (z : D) (h : Gwriter.zero.enc[j]? = some z) : cellAt (dd (l.map Gwriter.enc)) i j [V.d z] = V.d (((l[i]?.getD Gwriter.zero).enc[j]?).getD default) := by
  unfold Go.Ab.cellAt
  rw [dd_get, List.getElem?_map]
  cases hl : l[i]? with
  | none => simp [h]
  | some a =>
    have hj := (List.getElem?_eq_some_iff.1 h).1
    have hj' : j < a.enc.length := by rw [Gwriter.enc_length] at hj ⊢; exact hj
    simp only [Option.map_some, List.getElem?_map, List.getElem?_eq_getElem hj', Option.getD_some]
@[simp] theorem Gwriter.cellAt_0 (l : List Gwriter) (i : Nat) : Go.Ab.cellAt (dd (l.map Gwriter.enc)) i 0 [V.d (D.sl [])] = V.d (D.sl ((l[i]?.getD Gwriter.zero).l.map GIns.enc)) := (Gwriter.cellAt l i 0 (D.sl []) rfl).trans (by simp)
@[simp] theorem Gwriter.cellAt_1 (l : List Gwriter) (i : Nat) : Go.Ab.cellAt (dd (l.map Gwriter.enc)) i 1 [V.d (D.v (.int .i64 0))] = V.d (D.v (.int .i64 (l[i]?.getD Gwriter.zero).labels)) := (Gwriter.cellAt l i 1 (D.v (.int .i64 0)) rfl).trans (by simp)
@[simp] theorem Gwriter.aggAt (l : List Gwriter) (i : Nat) : Go.Ab.aggAt (dd (l.map Gwriter.enc)) i 0 2 [V.d (D.sl []), V.d (D.v (.int .i64 0))] = (l[i]?.getD Gwriter.zero).enc.map V.d := by
  unfold Go.Ab.aggAt
  rw [dd_get, List.getElem?_map]
  cases l[i]? with
  | none => rfl
  | some x => simp; cases x; rfl
@[simp] theorem Gwriter.dropAll (x : Gwriter) : List.drop 2 x.enc = [] := rfl
@[simp] theorem Gwriter.dropAllv (x : Gwriter) : List.drop 2 (x.enc.map V.d) = [] := rfl
@[simp] theorem Gwriter.enc_all (x : Gwriter) : x.enc.take 2 = x.enc := rfl
@[simp] theorem Gwriter.enc_allv (x : Gwriter) : List.take 2 (x.enc.map V.d) = x.enc.map V.d := rfl
def Gwriter.wf (x : Gwriter) : Prop := x.l.length * 16 ≤ 140737488351232 ∧ (∀ y0 : GIns, y0 ∈ x.l → y0.wf) ∧ inR .i64 x.labels
theorem Gwriter.wl_l {x : Gwriter} (h : x.wf) : x.l.length * 16 ≤ 140737488351232 := h.1
theorem Gwriter.wf_l {x : Gwriter} (h : x.wf) : (∀ y0 : GIns, y0 ∈ x.l → y0.wf) := h.2.1
theorem Gwriter.wf_labels {x : Gwriter} (h : x.wf) : inR .i64 x.labels := h.2.2
theorem tyK_97 : tyK Go.Proofs.Try.prog 97 = .st [57, 3] := by kernel_rfl
theorem tyK_57 : tyK Go.Proofs.Try.prog 57 = .sl 64 16 := by kernel_rfl
theorem Gwriter.of {ys : List D} (h : HasT Go.Proofs.Try.prog 97 ys) : ∃ x : Gwriter, ys = x.enc ∧ x.wf := by
  have h' := HasT.st_inv h tyK_97
  obtain ⟨a0_, r0, hr0, t0, h0⟩ := h'
  obtain ⟨a1_, r1, hr1, t1, h1⟩ := h0
  simp only [HasTs] at h1
  subst h1
  subst hr1
  subst hr0
  obtain ⟨a0_0, rfl, a0_h, a0_l, a0_w⟩ := HasT.sl_inv t0 tyK_57
  obtain ⟨a0_', rfl, a0_a⟩ := map_of (f := GIns.enc) (p := fun (y : GIns) => y.wf) (fun a0_e hx => by
    have a0_q := a0_h a0_e hx
    obtain ⟨a0_e', rfl, a0_ew⟩ := GIns.of a0_q
    exact ⟨a0_e', rfl, a0_ew⟩)
  obtain ⟨a1_', rfl, a1_w⟩ := HasT.int_inv t1 tyK_3
  exact ⟨⟨a0_', a1_'⟩, rfl, ⟨(by simpa using a0_w), a0_a, a1_w⟩⟩
end Go.Ab
