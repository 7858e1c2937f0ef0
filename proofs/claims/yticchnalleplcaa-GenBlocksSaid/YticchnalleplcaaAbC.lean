/-
  The engine, part C: operations that only read. 'q1' says what they yield; 'q1_sound': they do.
-/
import Derived.Test.YticchnalleplcaaAbB
set_option linter.unusedSimpArgs false
set_option linter.unusedVariables false
namespace Go.Ab

def isAggD : TypeDesc → Bool
  | .struct _ | .array _ _ => true
  | _ => false

/-- of a type: is it a struct or an array; its cells -/
def tyA (P : Program) (t : TypeId) : Option (Bool × Nat) :=
  match P.underlying t, P.info? t with
  | some d, some i => some (isAggD d, i.size)
  | _, _ => none
/-- of a struct's field: where it begins; is it a struct or an array; its cells (not none) -/
def tyF (P : Program) (t : TypeId) (f : Nat) : Option (Nat × Bool × Nat) :=
  match P.underlying t with
  | some (.struct fs) => match fs[f]? with
    | some fl => match tyA P fl.type with
      | some (g, k) => if k = 0 then none else some (fl.offset, g, k)
      | none => none
    | none => none
  | _ => none
/-- of a slice's type: its elements' type, and their cells -/
def tyE (P : Program) (t : TypeId) : Option (TypeId × Nat) :=
  match P.underlying t with
  | some (.slice e) => (P.info? e).map fun i => (e, i.size)
  | _ => none
/-- of an array's type: its length; is an element a struct or an array; an element's cells -/
def tyArr (P : Program) (t : TypeId) : Option (Nat × Bool × Nat) :=
  match P.underlying t with
  | some (.array n e) => (tyA P e).map fun p => (n, p.1, p.2)
  | _ => none
def tyStr (P : Program) (t : TypeId) : Bool :=
  match P.underlying t with
  | some .string => true
  | _ => false
def tyInt (P : Program) (t : TypeId) : Option IntKind :=
  match P.underlying t with
  | some (.int k) => some k
  | _ => none

section
variable {P : Program} {w : World}

theorem run_underlying' {t : TypeId} {d : TypeDesc} (h : P.underlying t = some d) (w : World) : (underlying t).run P w = .ok d w := run_underlying h w

theorem tyA_isAgg {t : TypeId} {g : Bool} {k : Nat} (h : tyA P t = some (g, k)) (w : World) : (isAgg t).run P w = .ok g w ∧ (sizeOf t).run P w = .ok k w := by
  unfold tyA at h
  split at h
  · rename_i d i hd hi
    simp only [Option.some.injEq, Prod.mk.injEq] at h
    obtain ⟨rfl, rfl⟩ := h
    constructor
    · simp only [isAgg, Sem.run_bind, run_underlying hd, Result.andThen_ok]
      cases d <;> rfl
    · simp [sizeOf, typeInfo, hi]
  · cases h

theorem tyE_spec {t e : TypeId} {k : Nat} (h : tyE P t = some (e, k)) (w : World) : (underlying t).run P w = .ok (.slice e) w ∧ (sizeOf e).run P w = .ok k w := by
  unfold tyE at h
  split at h
  · rename_i e' he
    obtain ⟨i, hi, hx⟩ := Option.map_eq_some_iff.1 h
    simp only [Prod.mk.injEq] at hx
    obtain ⟨rfl, rfl⟩ := hx
    exact ⟨run_underlying he w, by simp [sizeOf, typeInfo, hi]⟩
  · cases h

theorem tyArr_spec {t : TypeId} {n k : Nat} {g : Bool} (h : tyArr P t = some (n, g, k)) (w : World) : ∃ e, (underlying t).run P w = .ok (.array n e) w ∧ (isAgg e).run P w = .ok g w ∧ (sizeOf e).run P w = .ok k w := by
  unfold tyArr at h
  split at h
  · rename_i n' e' he
    obtain ⟨i, hi, hx⟩ := Option.map_eq_some_iff.1 h
    obtain ⟨g', k'⟩ := i
    simp only [Prod.mk.injEq] at hx
    obtain ⟨rfl, rfl, rfl⟩ := hx
    exact ⟨e', run_underlying he w, (tyA_isAgg hi w).1, (tyA_isAgg hi w).2⟩
  · cases h

theorem tyF_spec {t : TypeId} {f o k : Nat} {g : Bool} (h : tyF P t f = some (o, g, k)) (w : World) :
    ∃ fs fl, (underlying t).run P w = .ok (.struct fs) w ∧ fs[f]? = some fl ∧ fl.offset = o ∧ (isAgg fl.type).run P w = .ok g w ∧ (sizeOf fl.type).run P w = .ok k w ∧ k ≠ 0 := by
  unfold tyF at h
  split at h
  · rename_i fs hfs
    split at h
    · rename_i fl hfl
      split at h
      · rename_i g' k' ha
        split at h
        · cases h
        · rename_i hk
          simp only [Option.some.injEq, Prod.mk.injEq] at h
          obtain ⟨rfl, rfl, rfl⟩ := h
          exact ⟨fs, fl, run_underlying hfs w, hfl, rfl, (tyA_isAgg ha w).1, (tyA_isAgg ha w).2, hk⟩
      · cases h
    · cases h
  · cases h

/-- Loading cells that are known. -/
theorem run_load_agg {t : TypeId} {k : Nat} (h : tyA P t = some (true, k)) {b off : Nat} {f : Nat → Value} (hc : ∀ j, j < k → w.cell? ⟨b, off + j, none⟩ = some (f j)) :
    (Instr.loadAt t (.pointer (some ⟨b, off, none⟩))).run P w = .ok (.agg ((List.range k).map f).toArray) w := by
  obtain ⟨h1, h2⟩ := tyA_isAgg h w
  have := run_loadCells (P := P) w ⟨b, off, none⟩ k f (fun j hj => by rw [Addr.add_lit]; exact hc j hj)
  simp [Instr.loadAt, Instr.sureAddr, loadVar, h1, h2, this]

theorem run_load_one {t : TypeId} {k : Nat} (h : tyA P t = some (false, k)) {b off : Nat} {v : Value} (hc : w.cell? ⟨b, off, none⟩ = some v) :
    (Instr.loadAt t (.pointer (some ⟨b, off, none⟩))).run P w = .ok v w := by
  obtain ⟨h1, h2⟩ := tyA_isAgg h w
  simp [Instr.loadAt, Instr.sureAddr, loadVar, h1, hc]

theorem run_fieldAt' {t : TypeId} {f o k : Nat} {g : Bool} (h : tyF P t f = some (o, g, k)) {b off : Nat} :
    (Instr.fieldAt t (.pointer (some ⟨b, off, none⟩)) f).run P w = .ok (.pointer (some ⟨b, off + o, none⟩)) w := by
  obtain ⟨fs, fl, h1, h2, h3, h4, h5, h6⟩ := tyF_spec h w
  simp [Instr.fieldAt, h1, h2, Instr.sureAddr, fieldPlace, h5, h6, Addr.add_lit, h3]

end

theorem RelD.sl_inv {w : World} {O : Nat → Prop} {x : Value} {xs : List (List D)} (h : RelD w O x (.sl xs)) :
    ∃ (a : Option Addr) (cap : Nat), x = .slice a xs.length cap ∧ xs.length ≤ cap ∧ cap ≤ maxLen ∧ ∃ (k b off : Nat) (f : Nat → Nat → Value), (0 < xs.length → a = some ⟨b, off, none⟩ ∧ ¬ O b ∧ b < w.heap.size) ∧ (∀ (i : Nat) (x : List D), xs[i]? = some x → x.length = k) ∧
      (∀ i j, i < xs.length → j < k → w.cell? ⟨b, off + i * k + j, none⟩ = some (f i j)) ∧ (∀ (i j : Nat) (x : List D) (y : D), xs[i]? = some x → x[j]? = some y → RelD w O (f i j) y) := by
  cases h with
  | sl a n cap _ k b off f hn hcap hmax ha hk hc hr => subst hn; exact ⟨a, cap, rfl, hcap, hmax, k, b, off, f, ha, hk, hc, hr⟩

theorem RelV.d_inv {w : World} {O : Nat → Prop} {m : Nat → Option Value} {x : Value} {y : D} (h : RelV w O m x (.d y)) : RelD w O x y := by
  cases h with
  | d _ _ h => exact h

theorem RelV.v_inv {w : World} {O : Nat → Prop} {m : Nat → Option Value} {x v : Value} (h : RelV w O m x (.d (.v v))) : x = v := h.bool_inv

/-- Element i of a slice that is read as data, as a pointer to its cells. -/
theorem sl_elem {w : World} {O : Nat → Prop} {m : Nat → Option Value} {x : Value} {xs : List (List D)} (h : RelD w O x (.sl xs)) {i : Nat} (hi : i < xs.length) :
    ∃ b off k cap, x = .slice (some ⟨b, off, none⟩) xs.length cap ∧ (∀ y ∈ xs, y.length = k) ∧ RelV w O m (.pointer (some ⟨b, off + i * k, none⟩)) (.rp (xs[i]?.getD [])) := by
  obtain ⟨a, cap, rfl, hcap, hmax, k, b, off, f, ha, hk, hc, hr⟩ := h.sl_inv
  obtain ⟨rfl, hO, hlt⟩ := ha (by omega)
  have hget : xs[i]? = some xs[i] := List.getElem?_eq_getElem hi
  refine ⟨b, off, k, cap, rfl, ?_, ?_⟩
  · intro y hy
    obtain ⟨j, hj, rfl⟩ := List.getElem_of_mem hy
    exact hk j _ (List.getElem?_eq_getElem hj)
  · rw [hget]
    simp only [Option.getD_some]
    refine .rp b (off + i * k) _ (f i) hO hlt (fun j hj => ?_) (fun j y hy => hr i j _ y hget hy)
    rw [hk i _ hget] at hj
    exact hc i j hi hj


/-! ### What quiet operations yield -/

def inR (k : IntKind) (n : Int) : Prop := k.min ≤ n ∧ n ≤ k.max

def boolV (b : Bool) : V := .d (.v (.bool b))
def intV (k : IntKind) (n : Int) : V := .d (.v (.int k n))
def strV (s : ByteArray) : V := .d (.v (.string s))

/-- Under a guard that is known to hold, a guarded value is the value. -/
def V.un : V → V
  | .gd _ x => x
  | x => x
def V.unc : V → Prop
  | .gd g _ => g = true
  | _ => True

def pickV (t : Bool) (a b : V) : Option (V × Prop) :=
  match t with
  | true => some (a.un, a.unc)
  | false => some (b.un, b.unc)
theorem pickV_true {a b : V} : pickV true a b = some (a.un, a.unc) := rfl
theorem pickV_false {a b : V} : pickV false a b = some (b.un, b.unc) := rfl
theorem pickV_bb {t p q : Bool} : pickV t (.d (.v (.bool p))) (.d (.v (.bool q))) = some (.d (.v (.bool (if t then p else q))), True) := by cases t <;> rfl
theorem pickV_gb {t g p q : Bool} : pickV t (.gd g (.d (.v (.bool p)))) (.d (.v (.bool q))) = some (.d (.v (.bool (if t then p else q))), t = true → g = true) := by cases t <;> simp [pickV, V.un, V.unc]
theorem pickV_bg {t g p q : Bool} : pickV t (.d (.v (.bool p))) (.gd g (.d (.v (.bool q)))) = some (.d (.v (.bool (if t then p else q))), t = false → g = true) := by cases t <;> simp [pickV, V.un, V.unc]

/-- The zero of a type, as data. -/
def tyZ0 (P : Program) (t : TypeId) : List D := (((P.info? t).bind (·.zero)).map fun z => z.cells.toList.map fun x => (D.v x).nn).getD []
/-- A cell of an element, or the zero where there is no such element. -/
def cellAt (xs : List (List V)) (i j : Nat) (z : List V) : V := match xs[i]? with
  | some r => r[j]?.getD .any
  | none => z.headD .any
def aggAt (xs : List (List V)) (i j k : Nat) (z : List V) : List V := match xs[i]? with
  | some r => (r.drop j).take k
  | none => z
theorem cellAt_lt {xs : List (List V)} {i j : Nat} {z : List V} (h : i < xs.length) : cellAt xs i j z = xs[i][j]?.getD .any := by simp [cellAt, List.getElem?_eq_getElem h]
theorem aggAt_lt {xs : List (List V)} {i j k : Nat} {z : List V} (h : i < xs.length) : aggAt xs i j k z = (xs[i].drop j).take k := by simp [aggAt, List.getElem?_eq_getElem h]

def loadV (P : Program) (L : Heap) (t : TypeId) (x : V) : Option (V × Prop) :=
  match tyA P t with
  | none => none
  | some (g, k) =>
    match x with
    | .bp h off => match L.lookup h with
      | some (.box _ _ cs) => if g then some (.agg ((cs.drop off).take k), off + k ≤ cs.length) else some (cs[off]?.getD .any, off < cs.length)
      | _ => none
    | .rp cs => if g then some (.agg ((cs.take k).map .d), k ≤ cs.length) else some (.d (cs[0]?.getD default), 0 < cs.length)
    | .ep h k' i j => match L.lookup h with
      | some (.row _ k'' xs) => if g then some (.agg (aggAt xs i j k ((tyZ0 P t).map .d)), i < xs.length ∧ j + k ≤ k' ∧ k' = k'') else some (cellAt xs i j ((tyZ0 P t).map .d), i < xs.length ∧ j < k' ∧ k' = k'')
      | _ => none
    | _ => none

def fieldAddrV (P : Program) (t : TypeId) (f : Nat) (x : V) : Option (V × Prop) :=
  match tyF P t f with
  | none => none
  | some (o, _, _) =>
    match x with
    | .bp h off => some (.bp h (off + o), True)
    | .rp cs => some (.rp (cs.drop o), True)
    | .ep h k i j => some (.ep h k i (j + o), True)
    | _ => none

def fieldV (P : Program) (t : TypeId) (f : Nat) (x : V) : Option (V × Prop) :=
  match tyF P t f with
  | none => none
  | some (o, g, k) =>
    match x with
    | .agg cs => if g then some (.agg ((cs.drop o).take k), o + k ≤ cs.length) else some (cs[o]?.getD .any, o < cs.length)
    | _ => none

def indexAddrV (P : Program) (L : Heap) (t : TypeId) (x i : V) : Option (V × Prop) :=
  match i with
  | .d (.v (.int _ n)) =>
    match tyE P t, x with
    | some (e, k), .d (.sl xs) => some (.rp (xs[n.toNat]?.getD (tyZ0 P e)), (0 ≤ n ∧ n.toNat < xs.length) ∧ (xs[n.toNat]?.getD (tyZ0 P e)).length = k)
    | some (_, k), .rv h => match L.lookup h with
      | some (.row _ k' xs) => some (.ep h k n.toNat 0, (0 ≤ n ∧ n.toNat < xs.length) ∧ k = k')
      | _ => none
    | _, x => match tyArr P t, x with
      | some (len, _, k), .bp h off => some (.bp h (off + n.toNat * k), 0 ≤ n ∧ n < len)
      | some (len, _, k), .rp cs => some (.rp (cs.drop (n.toNat * k)), 0 ≤ n ∧ n < len)
      | _, _ => none
  | _ => none

def indexV (P : Program) (t : TypeId) (x i : V) : Option (V × Prop) :=
  match i with
  | .d (.v (.int _ n)) =>
    match x with
    | .d (.v (.string s)) => if tyStr P t then some (intV .u8 ((s.data.toList[n.toNat]?.getD 0).toNat : Nat), 0 ≤ n ∧ n.toNat < s.size) else none
    | .agg cs => match tyArr P t with
      | some (len, false, 1) => some (cs[n.toNat]?.getD .any, (0 ≤ n ∧ n < len) ∧ cs.length = len)
      | _ => none
    | _ => none
  | _ => none

def binV (op : BinOp) (x y : V) : Option (V × Prop) :=
  match x, y with
  | .d (.v (.int k a)), .d (.v (.int k' b)) =>
    match op with
    | .shl => some (intV k (k.wrap (a * 2 ^ (min b.toNat k.bits))), 0 ≤ b)
    | .shr => some (intV k (a.fdiv (2 ^ (min b.toNat k.bits))), 0 ≤ b)
    | .add => if k = k' then (if k = .i64 then some (intV .i64 (a + b), inR .i64 (a + b)) else some (intV k (k.wrap (a + b)), True)) else none
    | .sub => if k = k' then (if k = .i64 then some (intV .i64 (a - b), inR .i64 (a - b)) else some (intV k (k.wrap (a - b)), True)) else none
    | .mul => if k = k' then (if k = .i64 then some (intV .i64 (a * b), inR .i64 (a * b)) else some (intV k (k.wrap (a * b)), True)) else none
    | .quo => if k = k' then some (intV k (k.wrap (a.tdiv b)), b ≠ 0) else none
    | .rem => if k = k' then some (intV k (a.tmod b), b ≠ 0) else none
    | .and => if k = k' then some (intV k (k.wrap ((BitVec.ofInt k.bits a) &&& (BitVec.ofInt k.bits b)).toNat), True) else none
    | .or => if k = k' then some (intV k (k.wrap ((BitVec.ofInt k.bits a) ||| (BitVec.ofInt k.bits b)).toNat), True) else none
    | .xor => if k = k' then some (intV k (k.wrap ((BitVec.ofInt k.bits a) ^^^ (BitVec.ofInt k.bits b)).toNat), True) else none
    | .andNot => if k = k' then some (intV k (k.wrap ((BitVec.ofInt k.bits a) &&& ~~~(BitVec.ofInt k.bits b)).toNat), True) else none
    | .eql => if k = k' then some (boolV (a == b), True) else none
    | .neq => if k = k' then some (boolV (a != b), True) else none
    | .lss => if k = k' then some (boolV (decide (a < b)), True) else none
    | .leq => if k = k' then some (boolV (decide (a ≤ b)), True) else none
    | .gtr => if k = k' then some (boolV (decide (a > b)), True) else none
    | .geq => if k = k' then some (boolV (decide (a ≥ b)), True) else none
  | .d (.v (.string a)), .d (.v (.string b)) =>
    match op with
    | .add => some (strV (a ++ b), ((a.size + b.size : Nat) : Int) ≤ IntKind.i64.max)
    | .eql => some (boolV (a.toList == b.toList), True)
    | .neq => some (boolV (!(a.toList == b.toList)), True)
    | _ => none
  | _, _ => none

def unV (op : UnOp) (x : V) : Option (V × Prop) :=
  match op, x with
  | .not, .d (.v (.bool b)) => some (boolV (!b), True)
  | .neg, .d (.v (.int k n)) => if k = .i64 then some (intV .i64 (-n), inR .i64 (-n)) else some (intV k (k.wrap (0 - n)), True)
  | _, _ => none

def lenV (P : Program) (L : Heap) (t : TypeId) (x : V) : Option (V × Prop) :=
  match x with
  | .d (.v (.string s)) => if tyStr P t then some (intV .i64 (s.size : Nat), True) else none
  | .d (.sl xs) => if (tyE P t).isSome then some (intV .i64 (xs.length : Nat), True) else none
  | .d (.v (.slice _ n _)) => if (tyE P t).isSome then some (intV .i64 (n : Nat), True) else none
  | .rv h => match L.lookup h with
    | some (.row _ _ xs) => if (tyE P t).isSome then some (intV .i64 (xs.length : Nat), True) else none
    | _ => none
  | _ => none

def convV (P : Program) (src dst : TypeId) (x : V) : Option (V × Prop) :=
  match x, tyInt P dst with
  | .d (.v (.int k n)), some k' => if (tyInt P src).isSome then (if k = k' then some (intV k' n, inR k' n) else some (intV k' (k'.wrap n), True)) else none
  | .d (.v (.string s)), none => if tyStr P src && tyStr P dst then some (strV s, True) else none
  | _, _ => none

def extractV (x : V) (i : Nat) : Option (V × Prop) :=
  match x with
  | .tup vs => some (vs[i]?.getD .any, i < vs.length)
  | _ => none

def nilCheckV (x : V) : Option (V × Prop) :=
  match x with
  | .bp h off => some (.bp h off, True)
  | .rp cs => some (.rp cs, True)
  | .ep h k i j => some (.ep h k i j, True)
  | _ => none

def callV (P : Program) (ρ : Operand → V) (L : Heap) (c : Call) : Option (V × Prop) :=
  match c.callee, c.args.toList, c.argTypes.toList with
  | .builtin .len, [x], [t] => lenV P L t (ρ x)
  | _, _, _ => none

/-- What an operation that only reads yields, and under which condition. -/
def q1 (P : Program) (ρ : Operand → V) (L : Heap) (o : Oper) : Option (V × Prop) :=
  match o.op with
  | .move x => some (ρ x, True)
  | .assign x => some (ρ x, True)
  | .pick c a b => match ρ c with
    | .d (.v (.bool t)) => pickV t (ρ a) (ρ b)
    | _ => none
  | .load t a => loadV P L t (ρ a)
  | .fieldAddr t a f => fieldAddrV P t f (ρ a)
  | .field t a f => fieldV P t f (ρ a)
  | .indexAddr t x i => indexAddrV P L t (ρ x) (ρ i)
  | .index t x i => indexV P t (ρ x) (ρ i)
  | .binOp op _ x y _ => binV op (ρ x) (ρ y)
  | .unOp op _ x => unV op (ρ x)
  | .convert src dst x => convV P src dst (ρ x)
  | .extract x i => extractV (ρ x) i
  | .nilCheck x => nilCheckV (ρ x)
  | .makeFunc fn first caps => some (.clo fn (first.toList.map ρ) (caps.toList.map ρ), True)
  | .call c => callV P ρ L c
  | _ => none

end Go.Ab
