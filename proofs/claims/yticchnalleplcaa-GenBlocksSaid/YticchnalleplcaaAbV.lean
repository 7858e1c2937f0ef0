/-
  The engine, part V: taking typed data apart.
-/
import Derived.Test.YticchnalleplcaaAbZ
set_option linter.unusedSimpArgs false
set_option linter.unusedVariables false
namespace Go.Ab

inductive TK where
  | bool
  | int (k : IntKind)
  | str
  | sl (e : TypeId) (bytes : Nat)
  | st (ts : List TypeId)
  | arr (n : Nat) (e : TypeId)
  | oth

def tyK (P : Program) (t : TypeId) : TK := match P.underlying t with
  | some .bool => .bool
  | some (.int k) => .int k
  | some .string => .str
  | some (.slice e) => .sl e (P.bytesOf e)
  | some (.struct fs) => .st (fs.toList.map (·.type))
  | some (.array n e) => .arr n e
  | _ => .oth

section
variable {P : Program} {t : TypeId} {ys : List D}

theorem HasT.bool_inv (h : HasT P t ys) (hk : tyK P t = .bool) : ∃ b, ys = [.v (.bool b)] := by
  cases h with
  | bool b u => exact ⟨b, rfl⟩
  | int n u h => simp [tyK, u] at hk
  | str s u h => simp [tyK, u] at hk
  | sl xs u hx hl hw => simp [tyK, u] at hk
  | struct yss u hl h => simp [tyK, u] at hk
  | arr yss u hl h => simp [tyK, u] at hk
  | other y u =>
    unfold tyK at hk
    split at hk <;> first | (simp_all [otherT]; done) | cases hk

theorem HasT.int_inv {k : IntKind} (h : HasT P t ys) (hk : tyK P t = .int k) : ∃ n, ys = [.v (.int k n)] ∧ inR k n := by
  cases h with
  | bool b u => simp [tyK, u] at hk
  | int n u h => simp [tyK, u] at hk; subst hk; exact ⟨n, rfl, h⟩
  | str s u h => simp [tyK, u] at hk
  | sl xs u hx hl hw => simp [tyK, u] at hk
  | struct yss u hl h => simp [tyK, u] at hk
  | arr yss u hl h => simp [tyK, u] at hk
  | other y u =>
    unfold tyK at hk
    split at hk <;> first | (simp_all [otherT]; done) | cases hk

theorem HasT.str_inv (h : HasT P t ys) (hk : tyK P t = .str) : ∃ s, ys = [.v (.string s)] ∧ s.size ≤ 140737488351232 := by
  cases h with
  | bool b u => simp [tyK, u] at hk
  | int n u h => simp [tyK, u] at hk
  | str s u h => exact ⟨s, rfl, h⟩
  | sl xs u hx hl hw => simp [tyK, u] at hk
  | struct yss u hl h => simp [tyK, u] at hk
  | arr yss u hl h => simp [tyK, u] at hk
  | other y u =>
    unfold tyK at hk
    split at hk <;> first | (simp_all [otherT]; done) | cases hk

theorem HasT.sl_inv {e : TypeId} {b : Nat} (h : HasT P t ys) (hk : tyK P t = .sl e b) : ∃ xs, ys = [.sl xs] ∧ (∀ x ∈ xs, HasT P e x) ∧ xs.length ≤ 9223372036854775807 ∧ xs.length * b ≤ 140737488351232 := by
  cases h with
  | bool b u => simp [tyK, u] at hk
  | int n u h => simp [tyK, u] at hk
  | str s u h => simp [tyK, u] at hk
  | sl xs u hx hl hw =>
    simp only [tyK, u, TK.sl.injEq] at hk
    obtain ⟨rfl, rfl⟩ := hk
    exact ⟨xs, rfl, fun x hx' => by obtain ⟨i, hi⟩ := List.getElem?_of_mem hx'; exact hx i x hi, hl, hw⟩
  | struct yss u hl h => simp [tyK, u] at hk
  | arr yss u hl h => simp [tyK, u] at hk
  | other y u =>
    unfold tyK at hk
    split at hk <;> first | (simp_all [otherT]; done) | cases hk

def HasTs (P : Program) : List TypeId → List D → Prop
  | [], ys => ys = []
  | t :: ts, ys => ∃ a b, ys = a ++ b ∧ HasT P t a ∧ HasTs P ts b

theorem hasTs_of : ∀ (fs : List Field) (yss : List (List D)), yss.length = fs.length → (∀ (i : Nat) (f : Field) (ys : List D), fs[i]? = some f → yss[i]? = some ys → HasT P f.type ys) → HasTs P (fs.map (·.type)) yss.flatten
  | [], [], _, _ => rfl
  | f :: fs, y :: yss, hl, h => ⟨y, yss.flatten, by simp, h 0 f y rfl rfl, hasTs_of fs yss (by simpa using hl) (fun i f' ys h1 h2 => h (i + 1) f' ys (by simpa using h1) (by simpa using h2))⟩
  | [], _ :: _, hl, _ => by simp at hl
  | _ :: _, [], hl, _ => by simp at hl

theorem HasT.st_inv {ts : List TypeId} (h : HasT P t ys) (hk : tyK P t = .st ts) : HasTs P ts ys := by
  cases h with
  | bool b u => simp [tyK, u] at hk
  | int n u h => simp [tyK, u] at hk
  | str s u h => simp [tyK, u] at hk
  | sl xs u hx hl hw => simp [tyK, u] at hk
  | struct yss u hl h =>
    simp only [tyK, u, TK.st.injEq] at hk
    subst hk
    exact hasTs_of _ yss (by simpa using hl) (fun i f ys h1 h2 => h i f ys (by simpa using h1) h2)
  | arr yss u hl h => simp [tyK, u] at hk
  | other y u =>
    unfold tyK at hk
    split at hk <;> first | (simp_all [otherT]; done) | cases hk

theorem HasT.arr_inv {e : TypeId} {n : Nat} (h : HasT P t ys) (hk : tyK P t = .arr n e) : ∃ yss : List (List D), ys = yss.flatten ∧ yss.length = n ∧ ∀ y ∈ yss, HasT P e y := by
  cases h with
  | bool b u => simp [tyK, u] at hk
  | int n u h => simp [tyK, u] at hk
  | str s u h => simp [tyK, u] at hk
  | sl xs u hx hl hw => simp [tyK, u] at hk
  | struct yss u hl h => simp [tyK, u] at hk
  | arr yss u hl h =>
    simp only [tyK, u, TK.arr.injEq] at hk
    obtain ⟨rfl, rfl⟩ := hk
    exact ⟨yss, rfl, hl, fun y hy => by obtain ⟨i, hi⟩ := List.getElem?_of_mem hy; exact h i y hi⟩
  | other y u =>
    unfold tyK at hk
    split at hk <;> first | (simp_all [otherT]; done) | cases hk
end

/-- Elements of which each is something's encoding. -/
theorem map_of {α : Type} {f : α → List D} {p : α → Prop} : ∀ {xs : List (List D)}, (∀ x ∈ xs, ∃ a, x = f a ∧ p a) → ∃ l : List α, xs = l.map f ∧ ∀ a ∈ l, p a
  | [], _ => ⟨[], rfl, by simp⟩
  | x :: xs, h => by
    obtain ⟨a, rfl, ha⟩ := h x List.mem_cons_self
    obtain ⟨l, rfl, hl⟩ := map_of (fun y hy => h y (List.mem_cons_of_mem _ hy))
    exact ⟨a :: l, rfl, by simpa using ⟨ha, hl⟩⟩

theorem flat_of {α : Type} {f : α → D} {p : α → Prop} : ∀ {xs : List (List D)}, (∀ x ∈ xs, ∃ a, x = [f a] ∧ p a) → ∃ l : List α, xs.flatten = l.map f ∧ xs.length = l.length ∧ ∀ a ∈ l, p a
  | [], _ => ⟨[], rfl, rfl, by simp⟩
  | x :: xs, h => by
    obtain ⟨a, rfl, ha⟩ := h x List.mem_cons_self
    obtain ⟨l, h1, h2, hl⟩ := flat_of (fun y hy => h y (List.mem_cons_of_mem _ hy))
    exact ⟨a :: l, by simp [h1], by simp [h2], by simpa using ⟨ha, hl⟩⟩
end Go.Ab
