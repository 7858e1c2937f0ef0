/-
  The engine, part Y: what a given argument is: from the reading of a row to pure data, with its type's shape.
-/
import Derived.Test.YticchnalleplcaaAbFz
import Derived.ChangeShapes
import Derived.DataReads
import Derived.SizedLaws
import Derived.Carry
import Derived.OpenShut
import Derived.ChangeOld
set_option linter.unusedSimpArgs false
set_option linter.unusedVariables false
namespace Go.Ab
open Go.ChangeShapes Go.WideShapes Go.RowKit

/-- The kinds whose cell is taken as it stands. -/
def otherT : Option TypeDesc → Bool
  | some .bool | some (.int _) | some .string | some (.slice _) | some (.struct _) | some (.array _ _) => false
  | _ => true

/-- Data of a type. -/
inductive HasT (P : Program) : TypeId → List D → Prop
  | bool {t : TypeId} (b : Bool) (u : P.underlying t = some .bool) : HasT P t [.v (.bool b)]
  | int {t : TypeId} {k : IntKind} (n : Int) (u : P.underlying t = some (.int k)) (h : inR k n) : HasT P t [.v (.int k n)]
  | str {t : TypeId} (s : ByteArray) (u : P.underlying t = some .string) (h : s.size ≤ 140737488351232) : HasT P t [.v (.string s)]
  | sl {t e : TypeId} (xs : List (List D)) (u : P.underlying t = some (.slice e)) (hx : ∀ (i : Nat) (x : List D), xs[i]? = some x → HasT P e x) (hl : xs.length ≤ 9223372036854775807) (hw : xs.length * P.bytesOf e ≤ 140737488351232) : HasT P t [.sl xs]
  | struct {t : TypeId} {fs : Array Field} (yss : List (List D)) (u : P.underlying t = some (.struct fs)) (hl : yss.length = fs.size)
      (h : ∀ (i : Nat) (f : Field) (ys : List D), fs[i]? = some f → yss[i]? = some ys → HasT P f.type ys) : HasT P t yss.flatten
  | arr {t e : TypeId} {n : Nat} (yss : List (List D)) (u : P.underlying t = some (.array n e)) (hl : yss.length = n)
      (h : ∀ (i : Nat) (ys : List D), yss[i]? = some ys → HasT P e ys) : HasT P t yss.flatten
  | other {t : TypeId} (y : D) (u : otherT (P.underlying t) = true) : HasT P t [y]

theorem add_none' {a : Addr} {i : Nat} (h : a.spot = none) : a.add i = ⟨a.block, a.off + i, none⟩ := by
  obtain ⟨b, o, s⟩ := a
  simp only at h
  subst h
  unfold Addr.add
  split
  · rename_i hi; subst hi; rfl
  · rfl

def contig (P : Program) : Nat → List Field → Option Nat
  | o, [] => some o
  | o, f :: fs => if f.offset = o then contig P (o + P.cellsOf f.type) fs else none

/-- What is asked of a program's types. -/
def fineB (P : Program) : Bool := (List.range P.types.size).all fun t => match P.underlying t with
  | some (.slice e) => decide (0 < P.cellsOf e) && decide (e < P.types.size)
  | some (.struct fs) => (contig P 0 fs.toList == some (P.cellsOf t)) && fs.toList.all fun f => decide (f.type < P.types.size)
  | some (.array n e) => (P.cellsOf t == n * P.cellsOf e) && decide (e < P.types.size)
  | _ => true

def RelC (w : World) (cs : List Value) (ys : List D) : Prop :=
  cs.length = ys.length ∧ ∀ (j : Nat) (x : Value) (y : D), cs[j]? = some x → ys[j]? = some y → x.oneCell' = true ∧ RelD w (fun _ => False) x y

theorem RelC.nil (w : World) : RelC w [] [] := ⟨rfl, by simp⟩
theorem RelC.one {w : World} {x : Value} {y : D} (h1 : x.oneCell' = true) (h : RelD w (fun _ => False) x y) : RelC w [x] [y] := by
  refine ⟨rfl, fun j x' y' hx hy => ?_⟩
  cases j with
  | zero => simp at hx hy; subst hx; subst hy; exact ⟨h1, h⟩
  | succ j => simp at hx
theorem RelC.append {w : World} {c1 c2 : List Value} {y1 y2 : List D} (h1 : RelC w c1 y1) (h2 : RelC w c2 y2) : RelC w (c1 ++ c2) (y1 ++ y2) := by
  refine ⟨by simp [h1.1, h2.1], fun j x y hx hy => ?_⟩
  by_cases hj : j < c1.length
  · rw [List.getElem?_append_left hj] at hx
    rw [List.getElem?_append_left (by rw [← h1.1]; exact hj)] at hy
    exact h1.2 j x y hx hy
  · rw [List.getElem?_append_right (by omega)] at hx
    rw [List.getElem?_append_right (by rw [← h1.1]; omega)] at hy
    rw [← h1.1] at hy
    exact h2.2 _ x y hx hy

theorem flat_fields {P : Program} {w : World} {cs : List Value} (Hh : Field → List D → Prop) : ∀ (fs : List Field) (o : Nat), contig P o fs = some cs.length →
    (∀ f ∈ fs, ∃ ys, RelC w ((cs.drop f.offset).take (P.cellsOf f.type)) ys ∧ Hh f ys) →
    ∃ yss : List (List D), yss.length = fs.length ∧ RelC w (cs.drop o) yss.flatten ∧ ∀ (i : Nat) (f : Field) (ys : List D), fs[i]? = some f → yss[i]? = some ys → Hh f ys
  | [], o, hc, _ => by
    simp only [contig, Option.some.injEq] at hc
    subst hc
    exact ⟨[], rfl, by simp [RelC.nil], by simp⟩
  | f :: fs, o, hc, h => by
    rw [contig] at hc
    split at hc
    · rename_i hof
      obtain ⟨ys, h1, h2⟩ := h f List.mem_cons_self
      obtain ⟨yss, h3, h4, h5⟩ := flat_fields Hh fs _ hc (fun g hg => h g (List.mem_cons_of_mem _ hg))
      refine ⟨ys :: yss, by simp [h3], ?_, fun i g zs hi hz => ?_⟩
      · have e : cs.drop o = ((cs.drop f.offset).take (P.cellsOf f.type)) ++ cs.drop (o + P.cellsOf f.type) := by
          rw [hof, ← List.drop_drop, List.take_append_drop]
        rw [e]
        exact h1.append h4
      · cases i with
        | zero => simp at hi hz; subst hi; subst hz; exact h2
        | succ i => exact h5 i g zs (by simpa using hi) (by simpa using hz)
    · cases hc

theorem flat_elems {w : World} {k : Nat} (Hh : List D → Prop) : ∀ (n : Nat) (cs : List Value), cs.length = n * k →
    (∀ i, i < n → ∃ ys, RelC w ((cs.drop (i * k)).take k) ys ∧ Hh ys) →
    ∃ yss : List (List D), yss.length = n ∧ RelC w cs yss.flatten ∧ ∀ (i : Nat) (ys : List D), yss[i]? = some ys → Hh ys
  | 0, cs, hl, _ => by
    have : cs = [] := List.length_eq_zero_iff.1 (by simpa using hl)
    subst this
    exact ⟨[], rfl, by simp [RelC.nil], by simp⟩
  | n + 1, cs, hl, h => by
    obtain ⟨ys, h1, h2⟩ := h 0 (by omega)
    have hl' : cs.length = n * k + k := by rw [hl, Nat.succ_mul]
    obtain ⟨yss, h3, h4, h5⟩ := flat_elems (k := k) Hh n (cs.drop k) (by simp [hl']) (fun i hi => by
      obtain ⟨ys, a, b⟩ := h (i + 1) (by omega)
      refine ⟨ys, ?_, b⟩
      rw [List.drop_drop, show k + i * k = (i + 1) * k by rw [Nat.succ_mul]; omega]
      exact a)
    refine ⟨ys :: yss, by simp [h3], ?_, fun i zs hz => ?_⟩
    · have := h1.append h4
      simpa using this
    · cases i with
      | zero => simp at hz; subst hz; exact h2
      | succ i => exact h5 i zs (by simpa using hz)

section
variable {H : Type} {enc : TypeId × Value → H} {P : Program} {w : World}

theorem weights_all {e : TypeId} {B : Nat} {l : List (DataW H)} (h : ∀ n ∈ DataW.weightsAll P e l, n ≤ B) {d : DataW H} (hd : d ∈ l) : ∀ n ∈ DataW.weights P e d, n ≤ B := by
  induction l with
  | nil => cases hd
  | cons a l ih =>
    simp only [DataW.weightsAll, List.mem_append] at h
    rcases List.mem_cons.1 hd with rfl | hd
    · exact fun n hn => h n (.inl hn)
    · exact ih (fun n hn => h n (.inr hn)) hd

theorem weights_each {B : Nat} : ∀ {ts : List TypeId} {l : List (DataW H)} (_ : ∀ n ∈ DataW.weightsEach P ts l, n ≤ B) {i : Nat} {t : TypeId} {d : DataW H} (_ : ts[i]? = some t) (_ : l[i]? = some d), ∀ n ∈ DataW.weights P t d, n ≤ B
  | [], _, _, i, _, _, ht, _ => by simp at ht
  | _ :: _, [], _, i, _, _, _, hd => by simp at hd
  | t0 :: ts, d0 :: l, h, i, t, d, ht, hd => by
    simp only [DataW.weightsEach, List.mem_append] at h
    cases i with
    | zero => simp at ht hd; subst ht; subst hd; exact fun n hn => h n (.inl hn)
    | succ i => exact weights_each (fun n hn => h n (.inr hn)) (by simpa using ht) (by simpa using hd)

theorem open_trod (hf : fineB P = true) : ∀ (fuel : Nat) (t : TypeId) (cs : List Value) (d : DataW H) (ps : List MemPlace), t < P.types.size →
    DataW.trod enc P w 0 (fun _ => true) true fuel t cs = some (d, ps) → (∀ n ∈ DataW.weights P t d, n ≤ reachBytes) → ∃ ys, RelC w cs ys ∧ HasT P t ys
  | 0, _, _, _, _, _, h, _ => by simp [DataW.trod] at h
  | fuel + 1, t, cs, d, ps, ht, h, hw => by
    have IH := open_trod hf fuel
    have hft : _ := List.all_eq_true.1 hf t (by simpa using ht)
    unfold DataW.trod at h
    split at h
    · rename_i b hu; exact ⟨_, RelC.one rfl (.v _ rfl), .bool _ hu⟩
    · rename_i k k' n hu
      split at h
      · rename_i hk
        obtain ⟨rfl, hk⟩ := hk
        exact ⟨_, RelC.one rfl (.v _ rfl), .int _ hu (by simpa [inR, Lit.wf] using hk)⟩
      · cases h
    · rename_i k k' n hu; exact ⟨_, RelC.one rfl (.v _ rfl), .other _ (by simp [hu, otherT])⟩
    · rename_i s hu
      split at h
      · cases h
        refine ⟨_, RelC.one rfl (.v _ rfl), .str _ hu ?_⟩
        have := hw s.data.toList.length (by simp [DataW.weights])
        simpa [reachBytes] using this
      · cases h
    · rename_i e hu; exact ⟨_, RelC.one rfl (.v _ rfl), .other _ (by simp [hu, otherT])⟩
    · rename_i e a hu; exact ⟨_, RelC.one rfl (.v _ rfl), .other _ (by simp [hu, otherT])⟩
    · rename_i e hu
      exact ⟨_, RelC.one rfl (.sl none 0 0 [] 0 0 0 (fun _ _ => undef) rfl (Nat.le_refl _) (by unfold maxLen; omega) (by omega) (by simp) (by omega) (by simp)), .sl [] hu (by simp) (by simp) (by simp)⟩
    · rename_i e a len cap hu
      rw [hu] at hft
      simp only [Bool.and_eq_true, decide_eq_true_eq] at hft
      simp only at h
      split at h
      · rename_i hb
        obtain ⟨_, hlc, hcm⟩ := hb
        obtain ⟨elems, he, h⟩ := Option.bind_eq_some_iff.1 h
        obtain ⟨rest, hr, h⟩ := Option.map_eq_some_iff.1 h
        simp only [Prod.mk.injEq] at h
        obtain ⟨rfl, _⟩ := h
        have hlen : elems.length = len := by simpa using mapM_some_length he
        simp only [if_true] at hr
        have hlr : rest.length = cap - len := by simpa using mapM_some_length hr
        have hwl : ∀ n ∈ (((elems.map (·.1)).length + (rest.map (·.1)).length) * P.bytesOf e) :: (DataW.weightsAll P e (elems.map (·.1)) ++ DataW.weightsAll P e (rest.map (·.1))), n ≤ reachBytes := by
          simpa [DataW.weights, hu] using hw
        have key : ∀ i, i < len → ∃ cs x, (w.cells? 0 (a.add (i * P.cellsOf e)) (P.cellsOf e)) = some cs ∧ RelC w cs x ∧ HasT P e x := fun i hi => by
          have hi' := mapM_some_get he i i (by simp [hi])
          obtain ⟨y, hy⟩ : ∃ y, elems[i]? = some y := ⟨_, List.getElem?_eq_getElem (by omega)⟩
          rw [hy] at hi'
          obtain ⟨cs', hcs, htr⟩ := Option.bind_eq_some_iff.1 hi'
          obtain ⟨yd, yp⟩ := y
          obtain ⟨x, hx1, hx2⟩ := IH e cs' yd yp hft.2 htr (weights_all (l := elems.map (·.1)) (fun n hn => hwl n (List.mem_cons_of_mem _ (List.mem_append_left _ hn))) (List.mem_map.2 ⟨(yd, yp), List.mem_of_getElem? hy, rfl⟩))
          exact ⟨cs', x, hcs, hx1, hx2⟩
        have kc : ∀ i, ∃ cs x, i < len → (w.cells? 0 (a.add (i * P.cellsOf e)) (P.cellsOf e)) = some cs ∧ RelC w cs x ∧ HasT P e x := fun i => by
          by_cases hi : i < len
          · obtain ⟨cs, x, h⟩ := key i hi; exact ⟨cs, x, fun _ => h⟩
          · exact ⟨[], [], fun h => absurd h hi⟩
        obtain ⟨fc, kc⟩ := Classical.axiomOfChoice kc
        obtain ⟨fx, kc⟩ := Classical.axiomOfChoice kc
        have spot : 0 < len → a.spot = none := fun h0 => by
          have := (World.cells?_some (kc 0 h0).1).2.2 0 hft.1
          have hx : ∃ v, (fc 0)[0]? = some v := ⟨_, List.getElem?_eq_getElem (by rw [(World.cells?_some (kc 0 h0).1).2.1]; exact hft.1)⟩
          obtain ⟨v, hv⟩ := hx
          rw [hv] at this
          have := World.cell?_spot this
          simpa [Addr.add] using this
        have cells : ∀ i j, i < len → j < P.cellsOf e → w.cell? ⟨a.block, a.off + i * P.cellsOf e + j, none⟩ = (fc i)[j]? := fun i j hi hj => by
          have := (World.cells?_some (kc i hi).1).2.2 j hj
          have hs := spot (by omega)
          rw [← this, add_none' hs, add_none' rfl]
        have lenc : ∀ i, i < len → (fc i).length = P.cellsOf e := fun i hi => (World.cells?_some (kc i hi).1).2.1
        refine ⟨_, RelC.one rfl (.sl (some a) len cap ((List.range len).map fx) (P.cellsOf e) a.block a.off (fun i j => (fc i).getD j undef) (by rw [List.length_map, List.length_range]) hlc hcm (fun h0 => ⟨?_, fun h => h, ?_⟩) ?_ ?_ ?_), .sl _ hu ?_ ?_ ?_⟩
        · obtain ⟨ab, ao, as⟩ := a
          simp only at spot
          rw [spot h0]
        · have h1 := cells 0 0 h0 hft.1
          have : (fc 0)[0]? = some ((fc 0)[0]'(by rw [lenc 0 h0]; exact hft.1)) := List.getElem?_eq_getElem _
          rw [this] at h1
          exact lt_of_cell h1
        · intro i x hx
          obtain ⟨hi, rfl⟩ : i < len ∧ fx i = x := by
            simp only [List.getElem?_map, Option.map_eq_some_iff] at hx
            obtain ⟨i', hi', rfl⟩ := hx
            have hh : i < len := by
              have := (List.getElem?_eq_some_iff.1 hi').1
              simpa using this
            rw [List.getElem?_range hh] at hi'
            cases hi'
            exact ⟨hh, rfl⟩
          rw [← (kc i hi).2.1.1]
          exact lenc i hi
        · intro i j hi hj
          rw [cells i j hi hj, List.getElem?_eq_getElem (by rw [lenc i hi]; exact hj)]
          simp [List.getD_eq_getElem?_getD, List.getElem?_eq_getElem (show j < (fc i).length by rw [lenc i hi]; exact hj)]
        · intro i j x y hx hy
          obtain ⟨hi, rfl⟩ : i < len ∧ fx i = x := by
            simp only [List.getElem?_map, Option.map_eq_some_iff] at hx
            obtain ⟨i', hi', rfl⟩ := hx
            have hh : i < len := by
              have := (List.getElem?_eq_some_iff.1 hi').1
              simpa using this
            rw [List.getElem?_range hh] at hi'
            cases hi'
            exact ⟨hh, rfl⟩
          have hjl : j < (fc i).length := by
            rw [(kc i hi).2.1.1]
            exact (List.getElem?_eq_some_iff.1 hy).1
          refine ((kc i hi).2.1.2 j _ y (List.getElem?_eq_getElem hjl) hy).2 |> fun h => ?_
          simpa [List.getD_eq_getElem?_getD, List.getElem?_eq_getElem hjl] using h
        · intro i x hx
          simp only [List.getElem?_map, Option.map_eq_some_iff] at hx
          obtain ⟨i', hi', rfl⟩ := hx
          have hh : i < len := by
            have := (List.getElem?_eq_some_iff.1 hi').1
            simpa using this
          rw [List.getElem?_range hh] at hi'
          cases hi'
          exact (kc i hh).2.2
        · unfold maxLen at hcm; simp; omega
        · have := hwl _ List.mem_cons_self
          simp only [List.length_map, hlen, hlr, reachBytes] at this
          simp only [List.length_map, List.length_range]
          refine Nat.le_trans ?_ this
          exact Nat.mul_le_mul_right _ (by omega)
      · cases h
    · rename_i cs xo cs2 fs hu
      rw [hu] at hft
      simp only [Bool.and_eq_true, beq_iff_eq, List.all_eq_true, decide_eq_true_eq] at hft
      split at h
      · rename_i hcl
        obtain ⟨xs, hxs, h⟩ := Option.map_eq_some_iff.1 h
        simp only [Prod.mk.injEq] at h
        obtain ⟨rfl, _⟩ := h
        have hlen := mapM_some_length hxs
        obtain ⟨yss, h1, h2, h3⟩ := flat_fields (w := w) (cs := cs) (fun f ys => HasT P f.type ys) fs.toList 0 (by rw [hcl]; exact hft.1) (fun f hfm => by
          obtain ⟨i, hi⟩ := List.getElem?_of_mem hfm
          have := mapM_some_get hxs i f hi
          obtain ⟨x, hx⟩ : ∃ x, xs[i]? = some x := ⟨_, List.getElem?_eq_getElem (by rw [hlen]; exact (List.getElem?_eq_some_iff.1 hi).1)⟩
          rw [hx] at this
          obtain ⟨xd, xp⟩ := x
          exact IH f.type _ xd xp (hft.2 f hfm) this (weights_each (ts := fs.toList.map (·.type)) (l := xs.map (·.1)) (by simpa [DataW.weights, hu] using hw) (i := i) (by simp only [List.getElem?_map, hi]; rfl) (by simp only [List.getElem?_map, hx]; rfl)))
        exact ⟨_, by simpa using h2, .struct yss hu (by simpa using h1) (fun i f ys hi hy => h3 i f ys (by simpa using hi) hy)⟩
      · cases h
    · rename_i cs xo cs2 n e hu
      rw [hu] at hft
      simp only [Bool.and_eq_true, beq_iff_eq, decide_eq_true_eq] at hft
      split at h
      · rename_i hcl
        obtain ⟨xs, hxs, h⟩ := Option.map_eq_some_iff.1 h
        simp only [Prod.mk.injEq] at h
        obtain ⟨rfl, _⟩ := h
        have hlen : xs.length = n := by simpa using mapM_some_length hxs
        obtain ⟨yss, h1, h2, h3⟩ := flat_elems (w := w) (k := P.cellsOf e) (fun ys => HasT P e ys) n cs (by rw [hcl]; exact hft.1) (fun i hi => by
          have := mapM_some_get hxs i i (by simp [hi])
          obtain ⟨x, hx⟩ : ∃ x, xs[i]? = some x := ⟨_, List.getElem?_eq_getElem (by omega)⟩
          rw [hx] at this
          obtain ⟨xd, xp⟩ := x
          exact IH e _ xd xp hft.2 this (weights_all (l := xs.map (·.1)) (by simpa [DataW.weights, hu] using hw) (List.mem_map.2 ⟨_, List.mem_of_getElem? hx, rfl⟩)))
        exact ⟨_, h2, .arr yss hu h1 h3⟩
      · cases h
    · rename_i ms hu; exact ⟨_, RelC.one rfl (.v _ rfl), .other _ (by simp [hu, otherT])⟩
    · rename_i ms u v hu
      exact ⟨_, RelC.one rfl (.v _ rfl), .other _ (by simp [hu, otherT])⟩
    · rename_i hu; exact ⟨_, RelC.one rfl (.v _ rfl), .other _ (by simp [hu, otherT])⟩
    · rename_i hu; exact ⟨_, RelC.one rfl (.v _ rfl), .other _ (by simp [hu, otherT])⟩
    · rename_i hu; exact ⟨_, RelC.one rfl (.v _ rfl), .other _ (by simp [hu, otherT])⟩
    · rename_i hu; exact ⟨_, RelC.one rfl (.v _ rfl), .other _ (by simp [hu, otherT])⟩
    · rename_i hu; exact ⟨_, RelC.one rfl (.v _ rfl), .other _ (by simp [hu, otherT])⟩
    · rename_i hu; exact ⟨_, RelC.one rfl (.v _ rfl), .other _ (by simp [hu, otherT])⟩
    · rename_i hu; exact ⟨_, RelC.one rfl (.v _ rfl), .other _ (by simp [hu, otherT])⟩
    · rename_i hu; exact ⟨_, RelC.one rfl (.v _ rfl), .other _ (by simp [hu, otherT])⟩
    · cases h
end
end Go.Ab
