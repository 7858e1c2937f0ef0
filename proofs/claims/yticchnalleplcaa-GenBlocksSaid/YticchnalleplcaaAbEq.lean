/-
  The engine, part Eq: equality of structs of bools, integers and strings (and of structs of such).
-/
import Derived.Test.YticchnalleplcaaAbD
import Derived.Laws.StructEq
set_option linter.unusedSimpArgs false
set_option linter.unusedVariables false
namespace Go.Ab

inductive SK where
  | b
  | i (k : IntKind)
  | s
  deriving DecidableEq

def eqV1 : Value → Value → Option Bool
  | .bool a, .bool b => some (a == b)
  | .int k a, .int k' b => if k = k' then some (a == b) else none
  | .string a, .string b => some (a.toList == b.toList)
  | _, _ => none
def eqVals : List Value → List Value → Option Bool
  | [], [] => some true
  | x :: l, y :: l' => match eqV1 x y, eqVals l l' with
    | some a, some b => some (a && b)
    | _, _ => none
  | _, _ => none
def fit1 : SK → Value → Bool
  | .b, .bool _ => true
  | .i k, .int k' _ => k == k'
  | .s, .string _ => true
  | _, _ => false
def fits : List SK → List Value → Bool
  | [], [] => true
  | k :: ks, x :: l => fit1 k x && fits ks l
  | _, _ => false

def kFields (P : Program) (k : TypeId → Option (List SK)) : Nat → List Field → Option (List SK)
  | _, [] => some []
  | o, f :: fs => match k f.type, kFields P k (o + P.cellsOf f.type) fs with
    | some a, some b => if f.name ≠ "_" ∧ a.length = P.cellsOf f.type ∧ f.offset = o then some (a ++ b) else none
    | _, _ => none
/-- The kinds of the cells of a type that is compared cell by cell. -/
def kEq (P : Program) : Nat → TypeId → Option (List SK)
  | 0, _ => none
  | m + 1, t => match P.underlying t with
    | some .bool => some [.b]
    | some (.int k) => some [.i k]
    | some .string => some [.s]
    | some (.struct fs) => if P.stoodInHeld t then none else kFields P (kEq P m) 0 fs.toList
    | _ => none

/-- A value of the type with these cells. -/
def valOf (P : Program) (t : TypeId) (xs : List Value) : Value :=
  match P.underlying t with
  | some (.struct _) => .agg xs.toArray
  | _ => xs.headD undef

section
variable {P : Program} {w : World}

theorem fits_app : ∀ {a b : List SK} {xs : List Value}, fits (a ++ b) xs = true → fits a (xs.take a.length) = true ∧ fits b (xs.drop a.length) = true
  | [], b, xs, h => ⟨by simp [fits], by simpa using h⟩
  | k :: a, b, [], h => by simp [fits] at h
  | k :: a, b, x :: xs, h => by
    simp only [List.cons_append, fits, Bool.and_eq_true] at h
    obtain ⟨h1, h2⟩ := fits_app h.2
    exact ⟨by simp [fits, h.1, h1], by simpa using h2⟩

theorem fits_len : ∀ {a : List SK} {xs : List Value}, fits a xs = true → xs.length = a.length
  | [], [], _ => rfl
  | [], _ :: _, h => by simp [fits] at h
  | _ :: _, [], h => by simp [fits] at h
  | _ :: a, _ :: xs, h => by simp only [fits, Bool.and_eq_true] at h; simp [fits_len h.2]

theorem eqVals_app : ∀ (n : Nat) (xs ys : List Value) {r : Bool}, xs.length = ys.length → eqVals xs ys = some r → ∃ a b, eqVals (xs.take n) (ys.take n) = some a ∧ eqVals (xs.drop n) (ys.drop n) = some b ∧ r = (a && b)
  | 0, xs, ys, r, _, h => ⟨true, r, by simp [eqVals], by simpa using h, by simp⟩
  | n + 1, [], [], r, _, h => by simp only [eqVals, Option.some.injEq] at h; subst h; exact ⟨true, true, by simp [eqVals], by simp [eqVals], rfl⟩
  | n + 1, x :: xs, y :: ys, r, hl, h => by
    rw [eqVals] at h
    split at h
    · rename_i a b h1 h2
      simp only [Option.some.injEq] at h
      obtain ⟨c, e, h3, h4, rfl⟩ := eqVals_app n xs ys (by simpa using hl) h2
      refine ⟨a && c, e, by simp [eqVals, h1, h3], by simpa using h4, by rw [← h, Bool.and_assoc]⟩
    · cases h
  | n + 1, [], _ :: _, r, hl, _ => by simp at hl
  | n + 1, _ :: _, [], r, hl, _ => by simp at hl

theorem fits_b {xs : List Value} (h : fits [.b] xs = true) : ∃ a, xs = [.bool a] := by
  cases xs with
  | nil => simp [fits] at h
  | cons x l =>
    have hl := fits_len h
    have : l = [] := by simpa using hl
    subst this
    simp only [fits, Bool.and_true] at h
    cases x <;> simp [fit1] at h
    exact ⟨_, rfl⟩
theorem fits_i {k : IntKind} {xs : List Value} (h : fits [.i k] xs = true) : ∃ a, xs = [.int k a] := by
  cases xs with
  | nil => simp [fits] at h
  | cons x l =>
    have hl := fits_len h
    have : l = [] := by simpa using hl
    subst this
    simp only [fits, Bool.and_true] at h
    cases x <;> simp [fit1] at h
    subst h
    exact ⟨_, rfl⟩
theorem fits_s {xs : List Value} (h : fits [.s] xs = true) : ∃ a, xs = [.string a] := by
  cases xs with
  | nil => simp [fits] at h
  | cons x l =>
    have hl := fits_len h
    have : l = [] := by simpa using hl
    subst this
    simp only [fits, Bool.and_true] at h
    cases x <;> simp [fit1] at h
    exact ⟨_, rfl⟩

theorem run_part_val {m : Nat} {e : TypeId} {ks : List SK} (hk : kEq P m e = some ks) {xs : Array Value} {off : Nat} (hl : ks.length = P.cellsOf e) (hf : fits ks ((xs.toList.drop off).take ks.length) = true) :
    (part e xs off).run P w = .ok (valOf P e ((xs.toList.drop off).take ks.length)) w := by
  have hlen := fits_len hf
  cases m with
  | zero => simp [kEq] at hk
  | succ m =>
    have one : (∀ fs, P.underlying e ≠ some (.struct fs)) → (∀ n e', P.underlying e ≠ some (.array n e')) → ks.length = 1 → ∀ kd, P.underlying e = some kd → (part e xs off).run P w = .ok (valOf P e ((xs.toList.drop off).take ks.length)) w := by
      intro h1 h1' h2 kd hu
      have hx : ∃ v, xs[off]? = some v ∧ (xs.toList.drop off).take 1 = [v] := by
        rw [h2] at hlen
        have : off < xs.size := by
          rw [List.length_take, List.length_drop] at hlen
          simp at hlen
          omega
        refine ⟨xs[off], Array.getElem?_eq_getElem this, ?_⟩
        rw [List.take_one, List.head?_drop]
        simp [this]
      obtain ⟨v, hx, ht⟩ := hx
      have hv : valOf P e ((xs.toList.drop off).take ks.length) = v := by
        unfold valOf
        split
        · rename_i fs hh; exact (h1 fs hh).elim
        · rw [h2, ht]; rfl
      rw [hv]
      cases kd <;> first | exact (h1 _ hu).elim | exact (h1' _ _ hu).elim | simp [part, isAgg, run_underlying hu, hx]
    rw [kEq] at hk
    split at hk
    · rename_i hu; simp only [Option.some.injEq] at hk; subst hk; exact one (by simp [hu]) (by simp [hu]) rfl _ hu
    · rename_i k hu; simp only [Option.some.injEq] at hk; subst hk; exact one (by simp [hu]) (by simp [hu]) rfl _ hu
    · rename_i hu; simp only [Option.some.injEq] at hk; subst hk; exact one (by simp [hu]) (by simp [hu]) rfl _ hu
    · rename_i fs hu
      obtain ⟨i, hi⟩ := info_of_underlying hu
      have hv : valOf P e ((xs.toList.drop off).take ks.length) = .agg ((xs.toList.drop off).take ks.length).toArray := by
        unfold valOf; rw [hu]
      have hsz : i.size = P.cellsOf e := by simp [Program.cellsOf, hi]
      rw [hv]
      have he : xs.extract off (off + i.size) = ((xs.toList.drop off).take ks.length).toArray := by
        apply Array.ext'
        rw [Array.toList_extract, hsz, hl]
        simp [List.extract]
      simp [part, isAgg, run_underlying hu, sizeOf, typeInfo, hi, he]
    · cases hk

theorem run_eqFields {m d : Nat} (IH : ∀ (t : TypeId) (ks : List SK), kEq P m t = some ks → ∀ (xs ys : List Value) (r : Bool), fits ks xs = true → fits ks ys = true → eqVals xs ys = some r → (Op.equalIn (d + m) t (valOf P t xs) (valOf P t ys)).run P w = .ok r w)
    {xs ys : Array Value} : ∀ (fs : List Field) (o : Nat) (ks : List SK), kFields P (kEq P m) o fs = some ks → fits ks (xs.toList.drop o) = true → fits ks (ys.toList.drop o) = true → ∀ r, eqVals (xs.toList.drop o) (ys.toList.drop o) = some r →
      (Op.eqFields (d + m) xs ys fs).run P w = .ok r w
  | [], o, ks, hk, hx, hy, r, hr => by
    simp only [kFields, Option.some.injEq] at hk
    subst hk
    have e1 := fits_len hx
    have e2 := fits_len hy
    rw [List.length_eq_zero_iff.1 e1, List.length_eq_zero_iff.1 e2] at hr
    simp only [eqVals, Option.some.injEq] at hr
    subst hr
    simp [Op.eqFields]
  | f :: fs, o, ks, hk, hx, hy, r, hr => by
    rw [kFields] at hk
    split at hk
    · rename_i a b ha hb
      split at hk
      · rename_i hc
        obtain ⟨hn, hl, ho⟩ := hc
        simp only [Option.some.injEq] at hk
        subst hk
        obtain ⟨x1, x2⟩ := fits_app hx
        obtain ⟨y1, y2⟩ := fits_app hy
        obtain ⟨ra, rb, r1, r2, rfl⟩ := eqVals_app a.length _ _ (by rw [fits_len hx, fits_len hy]) hr
        subst ho
        have p1 := run_part_val (w := w) ha hl x1
        have p2 := run_part_val (w := w) ha hl y1
        have e1 := IH f.type a ha _ _ ra x1 y1 r1
        rw [List.drop_drop] at x2 y2 r2
        rw [List.drop_drop] at r2
        rw [hl] at x2 y2 r2
        have e2 := run_eqFields IH fs _ b hb x2 y2 rb r2
        simp only [Op.eqFields, ne_eq, hn, not_false_eq_true, if_true, Sem.run_bind, p1, p2, Result.andThen_ok, e1]
        cases ra
        · simp
        · simp [e2]
      · cases hk
    · cases hk

theorem run_eqK : ∀ (m d : Nat) (t : TypeId) (ks : List SK), kEq P m t = some ks → ∀ (xs ys : List Value) (r : Bool), fits ks xs = true → fits ks ys = true → eqVals xs ys = some r →
    (Op.equalIn (d + m) t (valOf P t xs) (valOf P t ys)).run P w = .ok r w
  | 0, _, _, _, hk, _, _, _, _, _, _ => by simp [kEq] at hk
  | m + 1, d, t, ks, hk, xs, ys, r, hx, hy, hr => by
    rw [kEq] at hk
    split at hk
    · rename_i hu
      simp only [Option.some.injEq] at hk
      subst hk
      obtain ⟨a, rfl⟩ := fits_b hx
      obtain ⟨b, rfl⟩ := fits_b hy
      simp only [eqVals, eqV1, Bool.and_true, Option.some.injEq] at hr
      subst hr
      simp only [valOf, hu, List.headD_cons]
      exact run_equalIn_bool' w (d + m) t a b hu
    · rename_i k hu
      simp only [Option.some.injEq] at hk
      subst hk
      obtain ⟨a, rfl⟩ := fits_i hx
      obtain ⟨b, rfl⟩ := fits_i hy
      simp only [eqVals, eqV1, if_true, Bool.and_true, Option.some.injEq] at hr
      subst hr
      simp only [valOf, hu, List.headD_cons]
      exact run_equalIn_int w (d + m) t k k a b hu
    · rename_i hu
      simp only [Option.some.injEq] at hk
      subst hk
      obtain ⟨a, rfl⟩ := fits_s hx
      obtain ⟨b, rfl⟩ := fits_s hy
      simp only [eqVals, eqV1, Bool.and_true, Option.some.injEq] at hr
      subst hr
      simp only [valOf, hu, List.headD_cons]
      exact run_equalIn_string w (d + m) t a b hu
    · rename_i fs hu
      split at hk
      · cases hk
      · rename_i hst
        have hfo : P.fieldsOf t = fs := by simp [Program.fieldsOf, hu]
        have := run_equalIn_agg w (d + m) t xs.toArray ys.toArray (by rw [hfo]; exact hu) (by simpa using hst)
        simp only [valOf, hu]
        rw [show d + (m + 1) = (d + m) + 1 by omega, this, hfo]
        exact run_eqFields (fun t ks hk xs ys r h1 h2 h3 => run_eqK m d t ks hk xs ys r h1 h2 h3) fs.toList 0 ks hk (by simpa using hx) (by simpa using hy) r (by simpa using hr)
    · cases hk

/-- The values of cells that are plain. -/
def vals : List V → Option (List Value)
  | [] => some []
  | .d (.v x) :: l => match vals l with
    | some r => some (x :: r)
    | none => none
  | _ :: _ => none

def tyEq (P : Program) (t : TypeId) : Option (List SK) :=
  if P.eqGuardType P.depth t then none else match P.underlying t with
  | some (.struct _) => kEq P 12 t
  | _ => none

def eqVs (xs ys : List V) : Option Bool :=
  match vals xs, vals ys with
  | some a, some b => eqVals a b
  | _, _ => none
def fitVs (ks : List SK) (xs : List V) : Bool :=
  match vals xs with
  | some a => fits ks a
  | none => false

def eqAggV (P : Program) (op : BinOp) (t : TypeId) (x y : V) : Option (V × Prop) :=
  match op, x, y with
  | .eql, .agg xs, .agg ys => match tyEq P t, eqVs xs ys with
    | some ks, some r => some (boolV r, fitVs ks xs = true ∧ fitVs ks ys = true)
    | _, _ => none
  | .neq, .agg xs, .agg ys => match tyEq P t, eqVs xs ys with
    | some ks, some r => some (boolV (!r), fitVs ks xs = true ∧ fitVs ks ys = true)
    | _, _ => none
  | _, _, _ => none

theorem vals_rel {O : Nat → Prop} {m : Nat → Option Value} : ∀ {cs : List V} {as : List Value} (vs : List Value), vals cs = some as → vs.length = cs.length → (∀ (j : Nat) (x : Value) (y : V), vs[j]? = some x → cs[j]? = some y → RelV w O m x y) → vs = as
  | [], as, [], h, _, _ => by simp only [vals, Option.some.injEq] at h; exact h
  | [], _, _ :: _, _, hl, _ => by simp at hl
  | _ :: _, _, [], _, hl, _ => by simp at hl
  | c :: cs, as, v :: vs, h, hl, hr => by
    have h0 := hr 0 v c rfl rfl
    have ht : ∀ as', vals cs = some as' → vs = as' := fun as' h' => vals_rel vs h' (by simpa using hl) (fun j x y hx hy => hr (j + 1) x y (by simpa using hx) (by simpa using hy))
    cases c with
    | d y =>
      cases y with
      | v u =>
        simp only [vals] at h
        split at h
        · rename_i r hr'
          simp only [Option.some.injEq] at h
          subst h
          rw [h0.bool_inv, ht r hr']
        · cases h
      | _ => simp [vals] at h
    | _ => simp [vals] at h

theorem eqAggV_sound {fo : Nat → Prop} {m : Nat → Option Value} {op : BinOp} {t : TypeId} {xo yo : Operand} {a b x : V} {c : Prop} (h : eqAggV P op t a b = some (x, c)) (hc : c) {va vb : Value} (ha : RelV w (OO fo m) m va a) (hb : RelV w (OO fo m) m vb b) :
    ∃ v, (do eqGuard op t xo yo va vb; binOp op t va vb : Sem Value).run P w = .ok v w ∧ RelV w (OO fo m) m v x := by
  have key : ∀ {xs ys : List V} {ks : List SK} {r : Bool}, a = .agg xs → b = .agg ys → tyEq P t = some ks → eqVs xs ys = some r → fitVs ks xs = true → fitVs ks ys = true →
      ∃ us vs : Array Value, va = .agg us ∧ vb = .agg vs ∧ P.eqGuardType P.depth t = false ∧ (Op.equalIn 10000 t (.agg us) (.agg vs)).run P w = .ok r w := by
    rintro xs ys ks r rfl rfl ht hr f1 f2
    generalize e1 : V.agg xs = A at ha
    generalize e2 : V.agg ys = B at hb
    cases ha with
    | agg us cs hs h1 h2 =>
      cases e1
      cases hb with
      | agg vs cs' hs' h1' h2' =>
        cases e2
        unfold tyEq at ht
        split at ht
        · cases ht
        · rename_i hg
          split at ht
          · rename_i fs hu
            refine ⟨us, vs, rfl, rfl, by simpa using hg, ?_⟩
            unfold eqVs at hr
            unfold fitVs at f1 f2
            split at hr
            · rename_i as bs ha' hb'
              rw [ha'] at f1
              rw [hb'] at f2
              have q1 := vals_rel (w := w) (O := OO fo m) (m := m) us.toList ha' (by simpa using hs) (fun j x y hx hy => h2 j x y (by simpa using hx) hy)
              have q2 := vals_rel (w := w) (O := OO fo m) (m := m) vs.toList hb' (by simpa using hs') (fun j x y hx hy => h2' j x y (by simpa using hx) hy)
              have := run_eqK (P := P) (w := w) 12 9988 t ks ht as bs r f1 f2 hr
              simp only [valOf, hu, ← q1, ← q2] at this
              exact this
            · cases hr
          · cases ht
      | _ => cases e2
    | _ => cases e1
  unfold eqAggV at h
  split at h
  · rename_i xs ys
    split at h
    · rename_i ks r hk hr
      simp only [Option.some.injEq, Prod.mk.injEq] at h
      obtain ⟨rfl, rfl⟩ := h
      obtain ⟨us, vs, rfl, rfl, hg, he⟩ := key rfl rfl hk hr hc.1 hc.2
      refine ⟨.bool r, ?_, mkbool _⟩
      rw [Sem.run_bind, run_eqGuard_agg w _ _ _ _ _ _ hg]
      simp only [Result.andThen_ok, run_eql_struct, he]
    · cases h
  · rename_i xs ys
    split at h
    · rename_i ks r hk hr
      simp only [Option.some.injEq, Prod.mk.injEq] at h
      obtain ⟨rfl, rfl⟩ := h
      obtain ⟨us, vs, rfl, rfl, hg, he⟩ := key rfl rfl hk hr hc.1 hc.2
      refine ⟨.bool (!r), ?_, mkbool _⟩
      rw [Sem.run_bind, run_eqGuard_agg w _ _ _ _ _ _ hg]
      simp only [Result.andThen_ok, run_neq_struct, he]
    · cases h
  · cases h

end
end Go.Ab
