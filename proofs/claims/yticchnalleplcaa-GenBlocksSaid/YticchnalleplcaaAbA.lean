/-
  The engine, part A: abstract values, what they stand for in a world, owned resources, steps of worlds.
-/
import Derived.WalkKit
import Derived.Calls
set_option linter.unusedSimpArgs false
set_option linter.unusedVariables false
namespace Go.Ab

/-- Pure data of one cell: nothing behind it is ever written. -/
inductive D where
  | v (x : Value)
  | sl (xs : List (List D))
  | ifc (t : TypeId) (ag : Bool) (cs : List D)

instance : Inhabited D := ⟨.v undef⟩

/-- A nil slice reads as an empty one. -/
def D.nn : D → D
  | .v (.slice none 0 0) => .sl []
  | x => x

/-- Abstract values of slots. -/
inductive V where
  | d (x : D)
  | bp (h off : Nat)
  | rv (h : Nat)
  | ep (h k i j : Nat)
  | rp (cs : List D)
  | clo (fn : Fn) (first caps : List V)
  | agg (cs : List V)
  | tup (vs : List V)
  | gd (g : Bool) (x : V)
  | any

instance : Inhabited V := ⟨.any⟩

inductive RelD (w : World) (O : Nat → Prop) : Value → D → Prop
  | v (x : Value) (h1 : x.oneCell' = true) : RelD w O x (.v x)
  | sl (a : Option Addr) (n cap : Nat) (xs : List (List D)) (k b off : Nat) (f : Nat → Nat → Value)
      (hn : n = xs.length) (hcap : n ≤ cap) (hmax : cap ≤ maxLen) (ha : 0 < n → a = some ⟨b, off, none⟩ ∧ ¬ O b ∧ b < w.heap.size)
      (hk : ∀ (i : Nat) (x : List D), xs[i]? = some x → x.length = k)
      (hc : ∀ i j, i < n → j < k → w.cell? ⟨b, off + i * k + j, none⟩ = some (f i j))
      (hr : ∀ (i j : Nat) (x : List D) (y : D), xs[i]? = some x → x[j]? = some y → RelD w O (f i j) y) :
      RelD w O (.slice a n cap) (.sl xs)
  | ifc1 (t : TypeId) (x : Value) (y : D) (hx : x.oneCell' = true) (h : RelD w O x y) : RelD w O (.iface t x) (.ifc t false [y])
  | ifca (t : TypeId) (vs : Array Value) (cs : List D) (hs : vs.size = cs.length)
      (h : ∀ (j : Nat) (x : Value) (y : D), vs[j]? = some x → cs[j]? = some y → RelD w O x y) : RelD w O (.iface t (.agg vs)) (.ifc t true cs)

inductive RelV (w : World) (O : Nat → Prop) (m : Nat → Option Value) : Value → V → Prop
  | d (x : Value) (y : D) (h : RelD w O x y) : RelV w O m x (.d y)
  | bp (h off b : Nat) (e : m h = some (.pointer (some ⟨b, 0, none⟩))) : RelV w O m (.pointer (some ⟨b, off, none⟩)) (.bp h off)
  | rv (h : Nat) (x : Value) (e : m h = some x) (e1 : x.oneCell' = true) : RelV w O m x (.rv h)
  | ep (h k i j b o n c : Nat) (e : m h = some (.slice (some ⟨b, o, none⟩) n c)) : RelV w O m (.pointer (some ⟨b, o + i * k + j, none⟩)) (.ep h k i j)
  | rp (b off : Nat) (cs : List D) (f : Nat → Value) (hb : ¬ O b) (hlt : b < w.heap.size)
      (hc : ∀ j, j < cs.length → w.cell? ⟨b, off + j, none⟩ = some (f j))
      (hr : ∀ (j : Nat) (y : D), cs[j]? = some y → RelD w O (f j) y) : RelV w O m (.pointer (some ⟨b, off, none⟩)) (.rp cs)
  | clo (fn : Fn) (first caps : Array Value) (cf cc : List V) (s1 : first.size = cf.length) (s2 : caps.size = cc.length)
      (h1 : ∀ (j : Nat) (x : Value) (y : V), first[j]? = some x → cf[j]? = some y → RelV w O m x y)
      (h2 : ∀ (j : Nat) (x : Value) (y : V), caps[j]? = some x → cc[j]? = some y → RelV w O m x y) : RelV w O m (.func fn first caps) (.clo fn cf cc)
  | agg (vs : Array Value) (cs : List V) (hs : vs.size = cs.length) (h1 : ∀ (j : Nat) (x : Value), vs[j]? = some x → x.oneCell' = true)
      (h : ∀ (j : Nat) (x : Value) (y : V), vs[j]? = some x → cs[j]? = some y → RelV w O m x y) : RelV w O m (.agg vs) (.agg cs)
  | tup (vs : Array Value) (cs : List V) (hs : vs.size = cs.length)
      (h : ∀ (j : Nat) (x : Value) (y : V), vs[j]? = some x → cs[j]? = some y → RelV w O m x y) : RelV w O m (.tuple vs) (.tup cs)
  | gt (x : Value) (y : V) (h : RelV w O m x y) : RelV w O m x (.gd true y)
  | gf (y : V) : RelV w O m undef (.gd false y)
  | any (x : Value) : RelV w O m x .any

/-- What is kept from world to world: outside of the owned blocks nothing that is there changes. -/
structure Keep (w : World) (O : Nat → Prop) (w' : World) : Prop where
  size : w.heap.size ≤ w'.heap.size
  block : ∀ b, b < w.heap.size → ¬ O b → w'.heap[b]? = w.heap[b]?

theorem Keep.refl (w : World) (O : Nat → Prop) : Keep w O w := ⟨Nat.le_refl _, fun _ _ _ => rfl⟩

theorem cell_keep {w w' : World} {b o : Nat} {x : Value} (hb : w'.heap[b]? = w.heap[b]?) (h : w.cell? ⟨b, o, none⟩ = some x) : w'.cell? ⟨b, o, none⟩ = some x := by
  rw [World.cell?_of_block (w := w) (a := ⟨b, o, none⟩) hb]; exact h

theorem lt_of_cell {w : World} {b o : Nat} {x : Value} (h : w.cell? ⟨b, o, none⟩ = some x) : b < w.heap.size := World.block_lt_of_cell? w (a := ⟨b, o, none⟩) h

theorem RelD.mono {w w' : World} {O O' : Nat → Prop} (hk : Keep w O w') (hO : ∀ b, b < w.heap.size → O' b → O b) {x : Value} {y : D} (h : RelD w O x y) : RelD w' O' x y := by
  induction h with
  | v x h1 => exact .v x h1
  | sl a n cap xs k b off f hn hcap hmax ha hkk hc hr ih =>
    refine .sl a n cap xs k b off f hn hcap hmax (fun h => ⟨(ha h).1, fun ho => (ha h).2.1 (hO b (ha h).2.2 ho), Nat.lt_of_lt_of_le (ha h).2.2 hk.size⟩) hkk (fun i j hi hj => ?_) ih
    have h0 := ha (by omega)
    exact cell_keep (hk.block b h0.2.2 h0.2.1) (hc i j hi hj)
  | ifc1 t x y hx h ih => exact .ifc1 t x y hx ih
  | ifca t vs cs hs h ih => exact .ifca t vs cs hs ih

theorem RelV.mono {w w' : World} {O O' : Nat → Prop} {m m' : Nat → Option Value} (hk : Keep w O w') (hO : ∀ b, b < w.heap.size → O' b → O b) (hm : ∀ h x, m h = some x → m' h = some x)
    {x : Value} {y : V} (h : RelV w O m x y) : RelV w' O' m' x y := by
  induction h with
  | d x y h => exact .d x y (h.mono hk hO)
  | bp h off b e => exact .bp h off b (hm _ _ e)
  | rv h x e e1 => exact .rv h x (hm _ _ e) e1
  | ep h k i j b o n c e => exact .ep h k i j b o n c (hm _ _ e)
  | rp b off cs f hb hlt hc hr =>
    exact .rp b off cs f (fun ho => hb (hO b hlt ho)) (Nat.lt_of_lt_of_le hlt hk.size) (fun j hj => cell_keep (hk.block b hlt hb) (hc j hj)) (fun j y hy => (hr j y hy).mono hk hO)
  | clo fn first caps cf cc s1 s2 h1 h2 ih1 ih2 => exact .clo fn first caps cf cc s1 s2 ih1 ih2
  | agg vs cs hs h1 h ih => exact .agg vs cs hs h1 ih
  | tup vs cs hs h ih => exact .tup vs cs hs ih
  | gt x y h ih => exact .gt x y ih
  | gf y => exact .gf y
  | any x => exact .any x

/-- Owned resources. -/
inductive Res where
  | box (b : Nat) (ty : TypeId) (cs : List V)
  | row (ty : TypeId) (k : Nat) (xs : List (List V))

/-- The block that a handle's value leads to. -/
def blk : Value → Option Nat
  | .pointer (some a) => some a.block
  | .slice (some a) _ _ => some a.block
  | .map (some r) => some r
  | _ => none

abbrev Heap := List (Nat × Res)

def keys (L : Heap) : List Nat := L.map (·.1)

/-- The blocks that are owned. -/
def own (m : Nat → Option Value) (b : Nat) : Prop := ∃ h x, m h = some x ∧ blk x = some b

def Res.Holds (w : World) (O : Nat → Prop) (m : Nat → Option Value) (x : Value) : Res → Prop
  | .box b ty cs => ∃ bb, (b = 0 ∨ b = bb + 1) ∧ ∃ cur, x = .pointer (some ⟨bb, 0, none⟩) ∧ w.heap[bb]? = some (.cells cur ty (0, 0)) ∧ cur.size = cs.length ∧
      (∀ (j : Nat) (v : Value), cur[j]? = some v → v.oneCell' = true) ∧ ∀ (j : Nat) (v : Value) (c : V), cur[j]? = some v → cs[j]? = some c → RelV w O m v c
  | .row ty k xs => (x = .slice none 0 0 ∧ xs = []) ∨ ∃ b off cap cur, x = .slice (some ⟨b, off, none⟩) xs.length cap ∧ w.heap[b]? = some (.cells cur ty (0, 0)) ∧
      xs.length ≤ cap ∧ cap ≤ maxLen ∧ off + cap * k ≤ cur.size ∧ (∀ (i : Nat) (x : List V), xs[i]? = some x → x.length = k) ∧ (∀ (j : Nat) (v : Value), cur[j]? = some v → v.oneCell' = true) ∧
      ∀ (i j : Nat) (x : List V) (y : V) (v : Value), xs[i]? = some x → x[j]? = some y → cur[off + i * k + j]? = some v → RelV w O m v y

/-- The blocks that are not read as data: those owned here, and those of others. -/
def OO (fo : Nat → Prop) (m : Nat → Option Value) : Nat → Prop := fun b => own m b ∨ fo b

structure Inv (fo : Nat → Prop) (m : Nat → Option Value) (L : Heap) (w : World) : Prop where
  nodup : (keys L).Nodup
  dom : ∀ h x, m h = some x → h ∈ keys L
  apart : ∀ h h' x x' b, m h = some x → m h' = some x' → blk x = some b → blk x' = some b → h = h'
  others : ∀ h x b, m h = some x → blk x = some b → ¬ fo b
  folt : ∀ b, fo b → b < w.heap.size
  holds : ∀ h r, (h, r) ∈ L → ∃ x, m h = some x ∧ r.Holds w (OO fo m) m x

/-- What a step may do: only owned blocks change; what is owned afterwards was owned before, or is new. -/
structure Step (w : World) (o : Nat → Prop) (w' : World) (o' : Nat → Prop) : Prop where
  os : w'.os = w.os
  tape : w'.tape = w.tape
  output : w'.output = w.output
  size : w.heap.size ≤ w'.heap.size
  block : ∀ b, b < w.heap.size → ¬ o b → w'.heap[b]? = w.heap[b]?
  owned : ∀ b, b < w.heap.size → o' b → o b

theorem Step.refl (w : World) (o : Nat → Prop) : Step w o w o := ⟨rfl, rfl, rfl, Nat.le_refl _, fun _ _ _ => rfl, fun _ _ h => h⟩

theorem Step.trans {w w' w'' : World} {o o' o'' : Nat → Prop} (h : Step w o w' o') (k : Step w' o' w'' o'') : Step w o w'' o'' :=
  ⟨k.os.trans h.os, k.tape.trans h.tape, k.output.trans h.output, Nat.le_trans h.size k.size,
    fun b hb ho => (k.block b (Nat.lt_of_lt_of_le hb h.size) (fun ho' => ho (h.owned b hb ho'))).trans (h.block b hb ho),
    fun b hb ho => h.owned b hb (k.owned b (Nat.lt_of_lt_of_le hb h.size) ho)⟩

theorem Step.keep {w w' : World} {o o' fo : Nat → Prop} (h : Step w o w' o') : Keep w (fun b => o b ∨ fo b) w' :=
  ⟨h.size, fun b hb ho => h.block b hb (fun x => ho (.inl x))⟩

theorem Step.sub {w w' : World} {o o' fo : Nat → Prop} (h : Step w o w' o') : ∀ b, b < w.heap.size → (o' b ∨ fo b) → (o b ∨ fo b) :=
  fun b hb ho => ho.imp (h.owned b hb) id

end Go.Ab
