/-
  The engine, part F: operations that make or change owned memory.
-/
import Derived.Test.YticchnalleplcaaAbE
set_option linter.unusedSimpArgs false
set_option linter.unusedVariables false
namespace Go.Ab

section
variable {P : Program} {w w' : World} {fo : Nat → Prop} {m m' : Nat → Option Value} {L : Heap} {n : Nat} {s : St} {a : Act}

/-- A handle's value changes: what named it is forgotten. -/
theorem G.change (g : G fo n m s a w) {h : Nat} {x v' : Value} (hx : m h = some x) {r' : Res} (hos : w'.os = w.os) (htape : w'.tape = w.tape) (hout : w'.output = w.output)
    (hs : w.heap.size ≤ w'.heap.size) (hsame : ∀ c, c < w.heap.size → blk x ≠ some c → w'.heap[c]? = w.heap[c]?) (hv : ∀ b, blk v' = some b → blk x = some b ∨ w.heap.size ≤ b)
    (hh : r'.Holds w' (OO fo (mset m h v')) (mset m h v') v') :
    G fo n (mset m h v') ⟨(s.kill h).fr, Heap.upd (s.kill h).L h r'⟩ a w' ∧ Step w (own m) w' (own (mset m h v')) := by
  have hne : ∀ i y, i ≠ h → m i = some y → mset m h v' i = some y := fun i y hi hy => by rw [mset_ne v' hi]; exact hy
  have hown : ∀ b, b < w.heap.size → own (mset m h v') b → own m b := by
    rintro b hb ⟨i, y, hy, hby⟩
    by_cases hih : i = h
    · subst hih; rw [mset_same] at hy; obtain rfl := Option.some.inj hy
      rcases hv b hby with h1 | h1
      · exact ⟨i, x, hx, h1⟩
      · omega
    · rw [mset_ne v' hih] at hy; exact ⟨i, y, hy, hby⟩
  have hO : ∀ b, b < w.heap.size → OO fo (mset m h v') b → OO fo m b := fun b hb ho => ho.imp (hown b hb) id
  have hkeep : Keep w (OO fo m) w' := ⟨hs, fun c hc ho => hsame c hc (fun e => ho (.inl ⟨h, x, hx, e⟩))⟩
  have hi := g.inv
  refine ⟨⟨g.size, ?_, ?_, g.defers⟩, ⟨hos, htape, hout, hs, fun c hc ho => hsame c hc (fun e => ho ⟨h, x, hx, e⟩), hown⟩⟩
  · intro t y hy
    simp only [St.kill, List.mem_map] at hy
    obtain ⟨p, hp, he⟩ := hy
    simp only [Prod.mk.injEq] at he
    obtain ⟨rfl, rfl⟩ := he
    obtain ⟨h1, h2⟩ := g.fr p.1 p.2 hp
    exact ⟨h1, (h2.kill hne).mono hkeep hO (fun _ _ e => e)⟩
  · have hkeys : keys (s.kill h).L = keys s.L := by simp [keys, St.kill, List.map_map]
    refine ⟨by rw [keys_upd, hkeys]; exact hi.nodup, ?_, ?_, ?_, fun b hf => Nat.lt_of_lt_of_le (hi.folt b hf) hs, ?_⟩
    · rw [keys_upd, hkeys]
      intro i y hy
      by_cases hih : i = h
      · subst hih; exact hi.dom i x hx
      · rw [mset_ne v' hih] at hy; exact hi.dom i y hy
    · intro i j y z b hy hz hby hbz
      by_cases hih : i = h <;> by_cases hjh : j = h
      · rw [hih, hjh]
      · subst hih; rw [mset_same] at hy; rw [mset_ne v' hjh] at hz; obtain rfl := Option.some.inj hy
        rcases hv b hby with h1 | h1
        · exact hi.apart i j x z b hx hz h1 hbz
        · have := hi.lt hz hbz; omega
      · subst hjh; rw [mset_same] at hz; rw [mset_ne v' hih] at hy; obtain rfl := Option.some.inj hz
        rcases hv b hbz with h1 | h1
        · exact hi.apart i j y x b hy hx hby h1
        · have := hi.lt hy hby; omega
      · rw [mset_ne v' hih] at hy; rw [mset_ne v' hjh] at hz; exact hi.apart i j y z b hy hz hby hbz
    · intro i y b hy hby hf
      by_cases hih : i = h
      · subst hih; rw [mset_same] at hy; obtain rfl := Option.some.inj hy
        rcases hv b hby with h1 | h1
        · exact hi.others i x b hx h1 hf
        · have := hi.folt b hf; omega
      · rw [mset_ne v' hih] at hy; exact hi.others i y b hy hby hf
    · intro i q hq
      unfold Heap.upd at hq
      obtain ⟨p, hp, he⟩ := List.mem_map.1 hq
      split at he
      · simp only [Prod.mk.injEq] at he
        obtain ⟨rfl, rfl⟩ := he
        exact ⟨v', mset_same _ _, hh⟩
      · rename_i hne'
        subst he
        simp only [St.kill, List.mem_map] at hp
        obtain ⟨p0, hp0, he0⟩ := hp
        simp only [Prod.mk.injEq] at he0
        obtain ⟨rfl, rfl⟩ := he0
        obtain ⟨y, hy, hyh⟩ := hi.holds p0.1 p0.2 hp0
        refine ⟨y, hne _ _ hne' hy, (hyh.kill hne).mono (fun c hc => ?_) hkeep hO (fun _ _ e => e)⟩
        exact hsame c (hi.lt hy hc) (fun e => hne' (hi.apart _ _ _ _ _ hy hx hc e))

/-- An operation that may change the state: it ends, and K holds of its value and of the state behind it (its slot not yet written). -/
def OpL (P : Program) (n : Nat) (o : Oper) (s : St) (K : V → St → Prop) : Prop :=
  ∀ fo m a w, G fo n m s a w → ∃ nx v w' m' x s', (execOp a.eval o).run P w = .ok nx w' ∧ (nx = .value v ∨ (nx = .skip ∧ v = undef)) ∧ K x s' ∧
    RelV w' (OO fo m') m' v x ∧ G fo n m' s' a w' ∧ Step w (own m) w' (own m')

def tyZ (P : Program) (t : TypeId) : Option (List Value) := ((P.info? t).bind (·.zero)).bind fun z => if z.cells.all (·.oneCell') then some z.cells.toList else none

theorem tyZ_spec {t : TypeId} {z : List Value} (h : tyZ P t = some z) (w : World) : ∃ v, (zeroValue t).run P w = .ok v w ∧ v.cells.toList = z ∧ ∀ x ∈ z, x.oneCell' = true := by
  unfold tyZ at h
  obtain ⟨v, hv, h2⟩ := Option.bind_eq_some_iff.1 h
  obtain ⟨i, hi, hz⟩ := Option.bind_eq_some_iff.1 hv
  split at h2
  · rename_i hall
    simp only [Option.some.injEq] at h2
    subst h2
    refine ⟨v, by simp [zeroValue, typeInfo, hi, hz], rfl, ?_⟩
    intro x hx
    rw [Array.all_eq_true'] at hall
    exact hall x (by simpa using hx)
  · cases h2

theorem rel_vals {O : Nat → Prop} {l : List Value} (h : ∀ x ∈ l, x.oneCell' = true) : ∀ (j : Nat) (v : Value) (c : V), l[j]? = some v → (l.map fun x => V.d (D.v x))[j]? = some c → RelV w O m v c := by
  intro j v c hv hc
  rw [List.getElem?_map, hv] at hc
  simp only [Option.map_some, Option.some.injEq] at hc
  subst hc
  exact .d _ _ (.v _ (h v (List.mem_of_getElem? hv)))

theorem allocL' (lab : Nat → Nat) (hlab : ∀ bb, lab bb = 0 ∨ lab bb = bb + 1) {dst : Option Tmp} {elem : TypeId} {ty : TypeId} {pos : String} {after : Array Edge} {guard : Option (Nat × Bool)} {h : Nat} {z : List Value} (hz : tyZ P elem = some z) (hn : h ∉ keys s.L) :
    OpL P n ⟨dst, .alloc elem, ty, pos, after, guard⟩ s (fun x s' => ∃ b, x = .bp h 0 ∧ s' = { s with L := (h, .box (lab b) elem (z.map fun x => .d (.v x))) :: s.L }) := by
  intro fo m a w g
  obtain ⟨v, hrun, hv, hone⟩ := tyZ_spec hz w
  have hx : ∀ b, blk (.pointer (some ⟨w.heap.size, 0, none⟩)) = some b → w.heap.size ≤ b := by intro b hb; simp [blk] at hb; omega
  obtain ⟨g', st⟩ := g.new (Grows.alloc w (.cells v.cells elem)) hn (x := .pointer (some ⟨w.heap.size, 0, none⟩)) (r := .box (lab w.heap.size) elem (z.map fun x => .d (.v x))) hx (by
    refine ⟨w.heap.size, hlab _, v.cells, rfl, heap_alloc_new w _, by simp [← hv], ?_, ?_⟩
    · intro j u hu; exact hone u (by rw [← hv]; exact List.mem_of_getElem? (by rw [Array.getElem?_toList]; exact hu))
    · intro j u c hu hc; exact rel_vals hone j u c (by rw [← hv, Array.getElem?_toList]; exact hu) hc)
  refine ⟨_, _, _, _, _, _, ?_, .inl rfl, ⟨w.heap.size, rfl, rfl⟩, .bp h 0 w.heap.size (mset_same _ _), g', st⟩
  simp [execOp, Instr.alloc, hrun, newVar, newRow]
theorem allocL {dst : Option Tmp} {elem : TypeId} {ty : TypeId} {pos : String} {after : Array Edge} {guard : Option (Nat × Bool)} {h : Nat} {z : List Value} (hz : tyZ P elem = some z) (hn : h ∉ keys s.L) :
    OpL P n ⟨dst, .alloc elem, ty, pos, after, guard⟩ s (fun x s' => ∃ b, x = .bp h 0 ∧ s' = { s with L := (h, .box (b + 1) elem (z.map fun x => .d (.v x))) :: s.L }) := allocL' (· + 1) (fun _ => .inr rfl) hz hn

/-- The cells of a value. -/
def V.cl : V → Option (List V)
  | .agg cs => some cs
  | .tup _ => none
  | .gd _ _ => none
  | .any => none
  | x => some [x]

theorem cl_sound {O : Nat → Prop} {v : Value} {x : V} {cs : List V} (hr : RelV w O m v x) (hc : x.cl = some cs) : v.cells.size = cs.length ∧ (∀ u ∈ v.cells.toList, u.oneCell' = true) ∧
    ∀ (j : Nat) (u : Value) (c : V), v.cells[j]? = some u → cs[j]? = some c → RelV w O m u c := by
  have one : ∀ {v : Value} {x : V}, RelV w O m v x → v.oneCell' = true → v.cells.size = [x].length ∧ (∀ u ∈ v.cells.toList, u.oneCell' = true) ∧
      ∀ (j : Nat) (u : Value) (c : V), v.cells[j]? = some u → [x][j]? = some c → RelV w O m u c := by
    intro v x hr h1
    have hv : v.cells = #[v] := by cases v <;> first | rfl | simp [Value.oneCell'] at h1
    rw [hv]
    refine ⟨rfl, by simpa using h1, fun j u c hu hc => ?_⟩
    match j, hu, hc with
    | 0, hu, hc =>
      simp only [List.getElem?_cons_zero, Option.some.injEq] at hc
      have hu' : v = u := by simpa using hu
      subst hc; subst hu'; exact hr
    | j + 1, hu, _ => simp at hu
  cases hr with
  | agg vs cs' hs h1 h =>
    simp only [V.cl, Option.some.injEq] at hc
    subst hc
    refine ⟨hs, fun u hu => ?_, h⟩
    obtain ⟨j, hj⟩ := List.getElem?_of_mem hu
    rw [Array.getElem?_toList] at hj
    exact h1 j u hj
  | d x y h => simp only [V.cl, Option.some.injEq] at hc; subst hc; exact one (.d _ _ h) (relD_oneCell h)
  | bp h off b e => simp only [V.cl, Option.some.injEq] at hc; subst hc; exact one (.bp h off b e) rfl
  | rv h x e e1 => simp only [V.cl, Option.some.injEq] at hc; subst hc; exact one (.rv h _ e e1) e1
  | ep h k i j b o n c e => simp only [V.cl, Option.some.injEq] at hc; subst hc; exact one (.ep h k i j b o n c e) rfl
  | rp b off cs f hb hlt hcc hr => simp only [V.cl, Option.some.injEq] at hc; subst hc; exact one (.rp b off cs f hb hlt hcc hr) rfl
  | clo fn first caps cf cc s1 s2 h1 h2 => simp only [V.cl, Option.some.injEq] at hc; subst hc; exact one (.clo fn first caps cf cc s1 s2 h1 h2) rfl
  | tup vs cs hs h => simp [V.cl] at hc
  | gt x y h => simp [V.cl] at hc
  | gf y => simp [V.cl] at hc
  | any x => simp [V.cl] at hc

theorem boxL' (lab : Nat → Nat) (hlab : ∀ bb, lab bb = 0 ∨ lab bb = bb + 1) {dst : Option Tmp} {elem : TypeId} {xo : Operand} {ty : TypeId} {pos : String} {after : Array Edge} {guard : Option (Nat × Bool)} {h : Nat} {cs : List V} (hc : (s.ev xo).cl = some cs) (hn : h ∉ keys s.L) :
    OpL P n ⟨dst, .box elem xo, ty, pos, after, guard⟩ s (fun x s' => ∃ b, x = .bp h 0 ∧ s' = { s with L := (h, .box (lab b) elem cs) :: s.L }) := by
  intro fo m a w g
  have hr := eval_rel g xo
  obtain ⟨h1, h2, h3⟩ := cl_sound hr hc
  have hx : ∀ b, blk (.pointer (some ⟨w.heap.size, 0, none⟩)) = some b → w.heap.size ≤ b := by intro b hb; simp [blk] at hb; omega
  have hgr := Grows.alloc w (.cells (a.eval xo).cells elem)
  obtain ⟨g', st⟩ := g.new hgr hn (x := .pointer (some ⟨w.heap.size, 0, none⟩)) (r := .box (lab w.heap.size) elem cs) hx (by
    refine ⟨w.heap.size, hlab _, (a.eval xo).cells, rfl, heap_alloc_new w _, h1, ?_, ?_⟩
    · intro j u hu; exact h2 u (List.mem_of_getElem? (by rw [Array.getElem?_toList]; exact hu))
    · intro j u c hu hc'; exact (h3 j u c hu hc').mono ⟨hgr.size, fun b hb _ => hgr.block b hb⟩ (OO_new g.inv hx) (mset_sub g.inv hn _))
  refine ⟨_, _, _, _, _, _, ?_, .inl rfl, ⟨w.heap.size, rfl, rfl⟩, .bp h 0 w.heap.size (mset_same _ _), g', st⟩
  simp [execOp, Instr.box, newVar, newRow]
theorem boxL {dst : Option Tmp} {elem : TypeId} {xo : Operand} {ty : TypeId} {pos : String} {after : Array Edge} {guard : Option (Nat × Bool)} {h : Nat} {cs : List V} (hc : (s.ev xo).cl = some cs) (hn : h ∉ keys s.L) :
    OpL P n ⟨dst, .box elem xo, ty, pos, after, guard⟩ s (fun x s' => ∃ b, x = .bp h 0 ∧ s' = { s with L := (h, .box (b + 1) elem cs) :: s.L }) := boxL' (· + 1) (fun _ => .inr rfl) hc hn

/-- cells written over others from a place on -/
def putAt (off : Nat) (cs old : List V) : List V := old.take off ++ cs ++ old.drop (off + cs.length)

theorem putAt_length {off : Nat} {cs old : List V} (h : off + cs.length ≤ old.length) : (putAt off cs old).length = old.length := by
  simp [putAt]; omega

theorem getElem?_splice {α : Type} (old cs : List α) (off : Nat) (h : off + cs.length ≤ old.length) (j : Nat) :
    (old.take off ++ cs ++ old.drop (off + cs.length))[j]? = if off ≤ j ∧ j < off + cs.length then cs[j - off]? else old[j]? := by
  have hm : min off old.length = off := by omega
  rw [List.append_assoc, List.getElem?_append]
  simp only [List.length_take, hm]
  split
  · rename_i h1
    rw [List.getElem?_take, if_pos h1, if_neg (by omega)]
  · rename_i h1
    rw [List.getElem?_append]
    split
    · rename_i h2
      rw [if_pos (by omega)]
    · rename_i h2
      rw [if_neg (by omega), List.getElem?_drop]
      congr 1; omega

theorem storeL_box {dst : Option Tmp} {t : TypeId} {ao xo : Operand} {ty : TypeId} {pos : String} {after : Array Edge} {guard : Option (Nat × Bool)} {h off b k : Nat} {g0 : Bool} {bty : TypeId} {cs old : List V}
    (ht : tyA P t = some (g0, k)) (ha : s.ev ao = .bp h off) (hl : s.L.lookup h = some (.box b bty old)) (hc : (s.ev xo).cl = some cs) (hk : cs.length = k) (hoff : off + k ≤ old.length) :
    OpL P n ⟨dst, .store t ao xo, ty, pos, after, guard⟩ s (fun x s' => x = .any ∧ s' = { s with L := Heap.upd s.L h (.box b bty (putAt off cs old)) }) := by
  intro fo m a w g
  have hr := eval_rel g xo
  have hra := eval_rel g ao
  rw [ha] at hra
  obtain ⟨h1, h2, h3⟩ := cl_sound hr hc
  obtain ⟨bb, hbb, hm, cur, hheap, hs, hone, hcell, hrel⟩ := box_cells g.inv (lookup_mem hl)
  obtain ⟨b', e, hp⟩ := bp_inv hra
  rw [hm] at e
  obtain rfl : bb = b' := by simpa using e
  subst hk
  have hst := run_storeCells_at P bb off bty (a.eval xo).cells.toList 0 cur w hheap (by simp; omega) h2
  obtain ⟨_, hsz⟩ := tyA_isAgg ht w
  have hlen : (a.eval xo).cells.toList.length = cs.length := by simp [h1]
  simp only [Nat.add_zero, hlen] at hst
  obtain ⟨g', st⟩ := g.upd hm (b := bb) rfl (wrote_setRow w bb (cur.toList.take off ++ (a.eval xo).cells.toList ++ cur.toList.drop (off + cs.length)).toArray) (r := .box b bty (putAt off cs old)) (by
    have hsp := fun j => getElem?_splice cur.toList (a.eval xo).cells.toList off (by simp; omega) j
    have hsp2 := fun j => getElem?_splice old cs off hoff j
    rw [hlen] at hsp
    have hkeep : Keep w (OO fo m) (w.setRow bb (cur.toList.take off ++ (a.eval xo).cells.toList ++ cur.toList.drop (off + cs.length)).toArray) :=
      ⟨(wrote_setRow w bb _).size, fun c hc' ho => (wrote_setRow w bb _).block c hc' (fun e => ho (.inl ⟨h, _, hm, by simp [blk, e]⟩))⟩
    refine ⟨bb, hbb, _, rfl, setRow_heap w bb cur _ bty _ hheap, ?_, ?_, ?_⟩
    · rw [putAt_length hoff]; simp; omega
    · intro j u hu
      rw [List.getElem?_toArray, hsp] at hu
      split at hu
      · exact h2 u (List.mem_of_getElem? hu)
      · exact hone j u (by rw [← Array.getElem?_toList]; exact hu)
    · intro j u c hu hc'
      rw [List.getElem?_toArray, hsp] at hu
      unfold putAt at hc'
      rw [hsp2] at hc'
      refine RelV.mono hkeep (fun _ _ h => h) (fun _ _ h => h) ?_
      split at hu
      · rename_i hj; rw [if_pos hj] at hc'; exact h3 _ u c (by rw [← Array.getElem?_toList]; exact hu) hc'
      · rename_i hj; rw [if_neg hj] at hc'; exact hrel j u c (by rw [← Array.getElem?_toList]; exact hu) hc')
  refine ⟨.skip, undef, _, _, .any, _, ?_, .inr ⟨rfl, rfl⟩, ⟨rfl, rfl⟩, .any _, g', st⟩
  have hsz2 : (a.eval xo).cells.size = cs.length := h1
  simp [execOp, hp, Instr.storeAt, Instr.sureAddr, storeVar, hsz, hsz2, hst]

end
end Go.Ab
