/-
  The texts K R S W U X N M O L R2 Fz Y, one behind the other.
-/
import Derived.Test.YtfcjkjahbmcabaaGreatMg1
import Derived.RangeFuncLeaves
import Derived.Still
import Derived.ChangeShapes
import Derived.DataReads
import Derived.SizedLaws
import Derived.Carry
import Derived.OpenShut
import Derived.ChangeOld
set_option linter.unusedSimpArgs false
set_option linter.unusedVariables false
namespace Go.Ab
section
variable {P : Program} {w w' : World} {fo : FO} {m m' : Nat → Option Value} {L : Heap} {n : Nat} {s : St} {a : Act}
theorem fillV_rows {k} : ∀ l (r : List (List V)) j pre post, pre.length = j * k → l.length * k ≤ post.length →
    l.length = r.length → (∀ i p x, l[i]? = some p → r[i]? = some x → p.1 = j + i ∧ p.2.cl = some x) → (∀ x ∈ r, x.length = k) →
    ∃ c : Prop, fillV (fun i => some (i * k, k)) (pre ++ post) l = some (pre ++ r.flatten ++ post.drop (l.length * k), c) ∧ c
  | [], [], j, pre, post, _, _, _, _, _ => ⟨True, by simp [fillV], trivial⟩
  | [], _ :: _, _, _, _, _, _, h, _, _ => by grind
  | _ :: _, [], _, _, _, _, _, h, _, _ => by grind
  | (i, x) :: l, x0 :: r, j, pre, post, hp, hl, hlr, hrel, hk => by
    obtain ⟨h1, h2⟩ := hrel 0 (i, x) x0 rfl rfl
    subst h1
    have hx0 : x0.length = k := hk x0 (by simp)
    simp only [List.length_cons, Nat.add_mul, Nat.one_mul] at hl
    have hput : putAt (i * k) x0 (pre ++ post) = (pre ++ x0) ++ post.drop k := by
      simp_all [putAt, List.take_left, List.drop_append]
    obtain ⟨c, hc1, hc2⟩ := fillV_rows l r (i + 1) (pre ++ x0) (post.drop k) (by grind) (by grind) (by grind)
      (fun q p y hq hy => by have := hrel (q + 1) p y (by grind) (by grind); grind) (fun y hy => hk y (by grind))
    refine ⟨(x0.length = k ∧ i * k + k ≤ (pre ++ post).length) ∧ c, ?_, ⟨hx0, by grind⟩, hc2⟩
    simp only [fillV, h2, hput, hc1]
    simp [Prod.mk.injEq, and_true, List.flatten_cons, List.drop_drop, List.length_cons, Nat.add_mul, Nat.one_mul, Nat.add_comm]
theorem litRows_spec {s} : ∀ l j {r}, litRows s l j = some r → l.length = r.length ∧
    ∀ i p x, l[i]? = some p → r[i]? = some x → p.1 = j + i ∧ (s.ev p.2).cl = some x
  | [], j, r, h => by simp  [litRows] at h; subst h; exact ⟨rfl, by simp⟩
  | (i, x) :: l, j, r, h => by
    rw [litRows] at h
    split at h
    · split at h
      · rename_i cs r' hcs hr'
        simp   at h
        subst h
        obtain ⟨h1, h2⟩ := litRows_spec l (j + 1) hr'
        refine ⟨by simp [h1], ?_⟩
        intro q p y hq hy
        match q with
        | 0 => simp   at hq hy; subst hq; subst hy; exact ⟨by omega, hcs⟩
        | q + 1 => have := h2 q p y hq hy; exact ⟨by omega, this.2⟩
      · cases h
    · cases h
def doLit (P : Program) (s : St) (h : Nat) (t : TypeId) (len : Nat) (ps : List (Nat × Operand)) : Option (V × St × Prop) :=
  match tySl P t, litRows s ps 0 with
  | some (e, k, _, _), some r => some (.rv h, { s with L := (h, .row e k r) :: s.L }, (0 < k ∧ h ∉ keys s.L) ∧ (len * k ≤ 2 ^ 24 ∧ r.length = len) ∧ ∀ x ∈ r, x.length = k)
  | _, _ => none
def doCut (P : Program) (s : St) (t : TypeId) (xo : Operand) (lo hi : Option Operand) : Option (V × St × Prop) :=
  match s.ev xo, tyE P t with
  | .rv h, some (_, k) =>
    match s.L.lookup h with
    | some (.row e' k' xs) =>
      match lo.map s.ev, hi.map s.ev with
      | none, none => some (.rv h, ⟨(s.kill h).fr, Heap.upd (s.kill h).L h (.row e' k' ((cutRow xs 0 xs.length).map (V.kills h)))⟩, k = k')
      | some (.d (.v (.int _ l))), none => some (.rv h, ⟨(s.kill h).fr, Heap.upd (s.kill h).L h (.row e' k' ((cutRow xs l.toNat xs.length).map (V.kills h)))⟩, k = k' ∧ 0 ≤ l ∧ l ≤ xs.length)
      | none, some (.d (.v (.int _ u))) => some (.rv h, ⟨(s.kill h).fr, Heap.upd (s.kill h).L h (.row e' k' ((cutRow xs 0 u.toNat).map (V.kills h)))⟩, k = k' ∧ 0 ≤ u ∧ u ≤ xs.length)
      | some (.d (.v (.int _ l))), some (.d (.v (.int _ u))) => some (.rv h, ⟨(s.kill h).fr, Heap.upd (s.kill h).L h (.row e' k' ((cutRow xs l.toNat u.toNat).map (V.kills h)))⟩, k = k' ∧ 0 ≤ l ∧ l ≤ u ∧ u ≤ xs.length)
      | _, _ => none
    | _ => none
  | _, _ => none
def stepL (P : Program) (s : St) (o : Oper) (b : Nat) : Option (V × St × Prop) :=
  match o.op with
  | .alloc e => match o.dst, tyZ P e with
    | some h, some z => some (.bp h 0, { s with L := (h, .box b e (z.map fun x => .d (.v x))) :: s.L }, h ∉ keys s.L)
    | _, _ => none
  | .box e x => match o.dst, (s.ev x).cl with
    | some h, some cs => some (.bp h 0, { s with L := (h, .box b e cs) :: s.L }, h ∉ keys s.L)
    | _, _ => none
  | .store t a x => doStore P s t a x
  | .makeSlice t l c => match o.dst with
    | some h => doMake P s h t l c
    | none => none
  | .buildSlice t len ps => match o.dst with
    | some h => doLit P s h t len ps.toList
    | none => none
  | .slice t x lo hi none => doCut P s t x lo hi
  | .makeMap _ none => match o.dst with
    | some h => some (.rv h, { s with L := (h, .mp []) :: s.L }, h ∉ keys s.L)
    | none => none
  | .mapUpdate t mo ko vo => doMapSet P s t mo ko vo
  | .insert t mo ko vo => doMapSet P s t mo ko vo
  | .call { callee := .builtin .unsafeSliceData, args, .. } => match args.toList with
    | [x] => doSData P s o.type x
    | _ => none
  | .call { callee := .builtin .unsafeString, args, argTypes } => match args.toList, argTypes.toList with
    | [p, l], [pt, _] => doUStr P s pt p l
    | _, _ => none
  | .call c => match o.dst with
    | some h => doAppend P s h c
    | none => none
  | _ => none
theorem OpL.mono {o} {K K'} (h : OpL P n o s K) (hk : ∀ x s', K x s' → K' x s') : OpL P n o s K' := by
  intro fo m a w g
  obtain ⟨nx, v, w', m', x, s', h1, h2, h3, h4⟩ := h fo m a w g
  grind
theorem stepL_sound {o} {b0} {x0} {s0} {c0} (h : stepL P s o b0 = some (x0, s0, c0)) (hc : c0) : OpL P n o s (fun x s' => ∃ b c, stepL P s o (b + 1) = some (x, s', c)) := by
  obtain ⟨dst, op, ty, pos, after, guard⟩ := o
  unfold stepL at h
  simp only at h
  split at h
  · split at h
    · rename_i e hh z hz
      simp only [Option.some.injEq, Prod.mk.injEq] at h
      obtain ⟨_, _, rfl⟩ := h
      refine (allocL hz hc).mono ?_
      rintro x s' ⟨b, rfl, rfl⟩
      exact ⟨b, _, (by simp only [stepL, hz]; rfl)⟩
    grind
  · split at h
    · rename_i e xo hh cs hcs
      simp only [Option.some.injEq, Prod.mk.injEq] at h
      obtain ⟨_, _, rfl⟩ := h
      refine (boxL hcs hc).mono ?_
      rintro x s' ⟨b, rfl, rfl⟩
      exact ⟨b, _, (by simp only [stepL, hcs]; rfl)⟩
    grind
  · rename_i t ao xo
    have h' := h
    unfold doStore at h
    split at h
    · rename_i g0 k cs ht hcs
      split at h
      · rename_i hh off ha
        split at h
        · rename_i b bty old hl
          simp only [Option.some.injEq, Prod.mk.injEq] at h
          obtain ⟨rfl, rfl, rfl⟩ := h
          refine (storeL_box ht ha hl hcs hc.1 hc.2).mono ?_
          rintro x s' ⟨rfl, rfl⟩
          exact ⟨b0, _, h'⟩
        grind
      · rename_i hh k' i j ha
        split at h
        · rename_i e k'' xs hl
          simp only [Option.some.injEq, Prod.mk.injEq] at h
          obtain ⟨rfl, rfl, rfl⟩ := h
          obtain ⟨⟨h1, h2⟩, h3, rfl⟩ := hc
          intro fo m a w g
          have he : (if j = 0 ∧ k = k' then cs else putAt j cs (xs[i]?.getD [])) = putAt j cs (xs[i]?.getD []) := by
            split
            · rename_i hjk
              obtain ⟨rfl, rfl⟩ := hjk
              obtain ⟨_, _, _, _, _, _, _, _, _, hlen, _⟩ := row_cells g.inv (lookup_mem hl) (by omega)
              have hx : xs[i]? = some xs[i] := List.getElem?_eq_getElem h2
              have := hlen i _ hx
              simp_all [putAt, Option.getD_some, List.take_zero, List.nil_append, Nat.zero_add, List.drop_of_length_le, List.append_nil]
            · rfl
          rw [he] at h'
          refine (storeL_row ht ha hl hcs h1 h2 h3).mono (K' := fun x s' => ∃ b c, stepL P s _ (b + 1) = some (x, s', c)) ?_ fo m a w g
          rintro x s' ⟨rfl, rfl⟩
          exact ⟨b0, _, h'⟩
        grind
      grind
    grind
  · rename_i t lo co
    split at h
    · rename_i hh
      have h' := h
      unfold doMake at h
      split at h
      · rename_i e k by_ z kl l kc c ht hl hcc
        simp only [Option.some.injEq, Prod.mk.injEq] at h
        obtain ⟨rfl, rfl, rfl⟩ := h
        obtain ⟨⟨h1, h2⟩, h3, h4⟩ := hc
        refine (makeL ht hl hcc h1 h2 h3 h4).mono ?_
        rintro x s' ⟨rfl, rfl⟩
        exact ⟨b0, _, h'⟩
      grind
    grind
  · rename_i t len ps
    split at h
    · rename_i hh
      have h' := h
      unfold doLit at h
      split at h
      · rename_i e k by_ z r ht hr
        simp only [Option.some.injEq, Prod.mk.injEq] at h
        obtain ⟨rfl, rfl, rfl⟩ := h
        obtain ⟨⟨h1, h2⟩, ⟨h3, h4⟩, h5⟩ := hc
        obtain ⟨q1, q2⟩ := litRows_spec _ 0 hr
        have hzk : (z.map fun x => V.d (.v x)).length = k := by
          obtain ⟨i, zv, -, -, -, -, -, e1, e2, -⟩ := tySl_spec ht
          grind
        have hlen : (ps.toList.map fun p => (p.1, s.ev p.2)).length = len := by grind
        have hfl : (List.replicate len (z.map fun x => V.d (.v x))).flatten.length = len * k := by
          simp_all
        obtain ⟨c, hf, hc'⟩ := fillV_rows (k := k) (ps.toList.map fun p => (p.1, s.ev p.2)) r 0 [] (List.replicate len (z.map fun x => V.d (.v x))).flatten (by simp) (by grind)
          (by omega) (by
            grind) h5
        rw [hlen, List.nil_append, List.nil_append, List.drop_eq_nil_of_le (by omega), List.append_nil] at hf
        refine (buildSliceL ht h1 h2 h3 hf hc' rfl h4 h5).mono ?_
        rintro x s' ⟨rfl, rfl⟩
        exact ⟨b0, _, h'⟩
      grind
    grind
  · rename_i t xo lo hi
    have h' := h
    unfold doCut at h
    split at h
    · rename_i hh e k hs hE
      split at h
      · rename_i e' k' xs hl
        have fin : ∀ {l u : Nat} {kl ku : IntKind} {x : V} {s1 : St} {c : Prop}, stepL P s ⟨dst, .slice t xo lo hi none, ty, pos, after, guard⟩ b0 = some (x, s1, c) → x = .rv hh → s1 = ⟨(s.kill hh).fr, Heap.upd (s.kill hh).L hh (.row e' k ((cutRow xs l u).map (V.kills hh)))⟩ → k = k' →
            ((lo = none ∧ l = 0) ∨ ∃ z, lo = some z ∧ s.ev z = .d (.v (.int kl l))) → ((hi = none ∧ u = xs.length) ∨ ∃ z, hi = some z ∧ s.ev z = .d (.v (.int ku u))) → l ≤ u → u ≤ xs.length →
            OpL P n ⟨dst, .slice t xo lo hi none, ty, pos, after, guard⟩ s (fun x s' => ∃ b c, stepL P s ⟨dst, .slice t xo lo hi none, ty, pos, after, guard⟩ (b + 1) = some (x, s', c)) := by
          intro l u kl ku x s1 c h0 hx hs1 hk hlo hhi h1 h2
          subst hk
          refine (resliceL hE hs hl hlo hhi h1 h2).mono ?_
          rintro x' s' ⟨rfl, rfl⟩
          exact ⟨b0, c, by rw [show stepL P s ⟨dst, .slice t xo lo hi none, ty, pos, after, guard⟩ (b0 + 1) = stepL P s ⟨dst, .slice t xo lo hi none, ty, pos, after, guard⟩ b0 from rfl, h0, hx, hs1]⟩
        have h0 : stepL P s ⟨dst, .slice t xo lo hi none, ty, pos, after, guard⟩ b0 = some (x0, s0, c0) := h'
        cases lo with
        | none =>
          cases hi with
          | none =>
            simp only [Option.map_none, Option.some.injEq, Prod.mk.injEq] at h
            obtain ⟨h1, h2, rfl⟩ := h
            subst hc
            exact fin (kl := .i64) (ku := .i64) h0 h1.symm h2.symm rfl (.inl ⟨rfl, rfl⟩) (.inl ⟨rfl, rfl⟩) (Nat.zero_le _) (Nat.le_refl _)
          | some hz =>
            simp only [Option.map_none, Option.map_some] at h
            split at h
            · grind
            · grind
            · rename_i ku u _ heq
              simp only [Option.some.injEq] at heq
              simp only [Option.some.injEq, Prod.mk.injEq] at h
              obtain ⟨h1, h2, rfl⟩ := h
              obtain ⟨rfl, hu0, hu1⟩ := hc
              exact fin (kl := .i64) h0 h1.symm h2.symm rfl (.inl ⟨rfl, rfl⟩) (.inr ⟨hz, rfl, by rw [heq, Int.toNat_of_nonneg hu0]⟩) (Nat.zero_le _) (by omega)
            · grind
            grind
        | some lz =>
          cases hi with
          | none =>
            simp only [Option.map_none, Option.map_some] at h
            split at h
            · grind
            · rename_i kl l heq _
              simp only [Option.some.injEq] at heq
              simp only [Option.some.injEq, Prod.mk.injEq] at h
              obtain ⟨h1, h2, rfl⟩ := h
              obtain ⟨rfl, hu0, hu1⟩ := hc
              exact fin (ku := .i64) h0 h1.symm h2.symm rfl (.inr ⟨lz, rfl, by rw [heq, Int.toNat_of_nonneg hu0]⟩) (.inl ⟨rfl, rfl⟩) (by omega) (Nat.le_refl _)
            · grind
            · grind
            grind
          | some hz =>
            simp only [Option.map_some] at h
            split at h
            · grind
            · grind
            · grind
            · rename_i kl l ku u heq heq2
              simp only [Option.some.injEq] at heq heq2
              simp only [Option.some.injEq, Prod.mk.injEq] at h
              obtain ⟨h1, h2, rfl⟩ := h
              obtain ⟨rfl, hl0, hlu, hu1⟩ := hc
              exact fin h0 h1.symm h2.symm rfl (.inr ⟨lz, rfl, by rw [heq, Int.toNat_of_nonneg hl0]⟩) (.inr ⟨hz, rfl, by rw [heq2, Int.toNat_of_nonneg (by omega)]⟩) (by omega) (by omega)
            grind
      grind
    grind
  · split at h
    · rename_i t hh
      have h' := h
      simp only [Option.some.injEq, Prod.mk.injEq] at h
      obtain ⟨rfl, rfl, rfl⟩ := h
      refine (makeMapL hc).mono ?_
      rintro x s' ⟨rfl, rfl⟩
      exact ⟨b0, _, h'⟩
    grind
  · rename_i t mo ko vo
    refine (mapSetL (.inl rfl) h hc).mono ?_
    rintro x s' ⟨rfl, rfl⟩
    exact ⟨b0, _, h⟩
  · rename_i t mo ko vo
    refine (mapSetL (.inr rfl) h hc).mono ?_
    rintro x s' ⟨rfl, rfl⟩
    exact ⟨b0, _, h⟩
  · rename_i args argTypes
    have h' : stepL P s ⟨dst, .call { callee := .builtin .unsafeSliceData, args := args, argTypes := argTypes }, ty, pos, after, guard⟩ b0 = some (x0, s0, c0) := h
    split at h
    · rename_i x ha
      obtain rfl : args = #[x] := by grind
      refine (sdataL h).mono ?_
      rintro x s' ⟨rfl, rfl⟩
      exact ⟨b0, _, h'⟩
    grind
  · rename_i args argTypes
    have h' : stepL P s ⟨dst, .call { callee := .builtin .unsafeString, args := args, argTypes := argTypes }, ty, pos, after, guard⟩ b0 = some (x0, s0, c0) := h
    split at h
    · rename_i p l pt it ha ht
      obtain rfl : args = #[p, l] := by grind
      obtain rfl : argTypes = #[pt, it] := by grind
      refine (ustrL h hc).mono ?_
      rintro x s' ⟨rfl, rfl⟩
      exact ⟨b0, _, h'⟩
    grind
  · rename_i cl _ _
    split at h
    · rename_i hh
      have h' := h
      obtain ⟨callee, args, argTypes⟩ := cl
      unfold doAppend at h
      split at h
      · rename_i so xo t t2 hcal hargs htys
        simp only at hcal hargs htys
        obtain rfl : args = #[so, xo] := by grind
        obtain rfl : argTypes = #[t, t2] := by grind
        subst hcal
        split at h
        · rename_i e k by_ z ys ht hx
          split at h
          · rename_i ht2
            split at h
            · rename_i h1 hs
              split at h
              · rename_i e' k' xs hl
                simp only [Option.some.injEq, Prod.mk.injEq] at h
                obtain ⟨rfl, rfl, rfl⟩ := h
                obtain ⟨⟨⟨rfl, rfl⟩, hk1, hk2⟩, h3, h4⟩ := hc
                refine (appendL ht ht2 hs hl rfl hx ⟨hk1, hk2⟩ h3 h4).mono ?_
                rintro x s' ⟨rfl, rfl⟩
                exact ⟨b0, _, h'⟩
              grind
            · rename_i hs
              simp only [Option.some.injEq, Prod.mk.injEq] at h
              obtain ⟨rfl, rfl, rfl⟩ := h
              obtain ⟨⟨hk1, hk2, hk3⟩, h3, h4⟩ := hc
              refine (appendNilL ht ht2 hs hk3 hx ⟨hk1, hk2⟩ h3 h4).mono ?_
              rintro x s' ⟨rfl, rfl⟩
              exact ⟨b0, _, h'⟩
            grind
          grind
        grind
      grind
    grind
  grind
def kO : Option Nat → V → V
  | none, x => x
  | some h, x => x.kill h
def killO (k : Option Nat) (fr : List (Nat × V)) : List (Nat × V) := fr.map fun p => (p.1, kO k p.2)
def loudM (o : Oper) : Bool :=
  match o.op with
  | .store .. | .makeSlice .. | .buildSlice .. | .slice .. | .alloc _ | .box .. | .makeMap .. | .mapUpdate .. | .insert .. => true
  | .call { callee := .builtin .append, .. } => true
  | .call { callee := .builtin .unsafeSliceData, .. } => true
  | .call { callee := .builtin .unsafeString, .. } => true
  | _ => false
def killOf (s : St) (o : Oper) : Option Nat :=
  match o.op with
  | .slice _ x _ _ none => match s.ev x with
    | .rv h => some h
    | _ => none
  | .call { callee := .builtin .unsafeSliceData, .. } => none
  | .call { callee := .builtin .unsafeString, args, .. } => match args.toList with
    | [p, _] => match s.ev p with
      | .ep h _ _ _ => some h
      | _ => none
    | _ => none
  | .call c => match c.args.toList with
    | [so, _] => match s.ev so with
      | .rv h => some h
      | _ => none
    | _ => none
  | _ => none
theorem killO_none fr : killO none fr = fr := by
  simp [killO, kO]
theorem litRows_congr {s s2} : ∀ l j, (∀ p ∈ l, s2.ev p.2 = s.ev p.2) → litRows s2 l j = litRows s l j
  | [], j, _ => rfl
  | (i, x) :: l, j, h => by
    simp  [litRows]
    rw [h (i, x) List.mem_cons_self, litRows_congr l (j + 1) (fun p hp => h p (List.mem_cons_of_mem _ hp))]
theorem stepL_frame {s} {o} {b} {x} {s'} {c} (hm : loudM o = true) (h : stepL P s o b = some (x, s', c)) fr2
    (he : ∀ z, z ∈ o.op.operands → St.ev ⟨fr2, s.L⟩ z = s.ev z) : stepL P ⟨fr2, s.L⟩ o b = some (x, ⟨killO (killOf s o) fr2, s'.L⟩, c) := by
  obtain ⟨dst, op, ty, pos, after, guard⟩ := o
  unfold stepL at h ⊢
  simp only at h he ⊢
  split at h
  · simp only [killOf, killO_none] at h ⊢
    split at h
    · grind
    grind
  · rename_i e xo
    have e1 := he xo (by simp [Op.operands])
    simp only [killOf, killO_none, e1] at h ⊢
    split at h
    · grind
    grind
  · rename_i t ao xo
    have e1 := he ao (by simp [Op.operands])
    have e2 := he xo (by simp [Op.operands])
    simp only [doStore, e1, e2, killOf, killO_none] at h ⊢
    split at h
    · split at h
      · split at h
        · grind
        grind
      · split at h
        · grind
        grind
      grind
    grind
  · rename_i t lo co
    have e1 := he lo (by simp [Op.operands])
    have e2 := he co (by simp [Op.operands])
    split at h
    · simp only [doMake, e1, e2, killOf, killO_none] at h ⊢
      split at h
      · grind
      grind
    grind
  · rename_i t len ps
    have e1 := litRows_congr (s2 := ⟨fr2, s.L⟩) (s := s) ps.toList 0 (fun p hp => he p.2 (by
      simp only [Op.operands, List.mem_toArray, List.mem_map]
      grind))
    split at h
    · simp only [doLit, e1, killOf, killO_none] at h ⊢
      split at h
      · grind
      grind
    grind
  · rename_i t xo lo hi
    have e1 := he xo (by simp [Op.operands])
    have e2 : lo.map (St.ev ⟨fr2, s.L⟩) = lo.map s.ev := by
      cases lo with
      | none => rfl
      | some z => simp_all [Option.map_some, Op.operands]
    have e3 : hi.map (St.ev ⟨fr2, s.L⟩) = hi.map s.ev := by
      cases hi with
      | none => rfl
      | some z => simp_all [Option.map_some, Op.operands]
    simp only [doCut, e1, e2, e3, killOf] at h ⊢
    split at h
    · rename_i hh e k hs hE
      simp only [hs] at h ⊢
      split at h
      · rename_i e' k' xs hl
        split at h <;> first | (cases h; done) | (simp only [Option.some.injEq, Prod.mk.injEq] at h; obtain ⟨rfl, rfl, rfl⟩ := h; simp_all [St.kill, killO, kO])
      grind
    grind
  · simp only [killOf, killO_none] at h ⊢
    split at h
    · grind
    grind
  · rename_i t mo ko vo
    have e1 := he mo (by simp [Op.operands])
    have e2 := he ko (by simp [Op.operands])
    have e3 := he vo (by simp [Op.operands])
    simp only [doMapSet, e1, e2, e3, killOf, killO_none] at h ⊢
    split at h
    · split at h
      · grind
      grind
    grind
  · rename_i t mo ko vo
    have e1 := he mo (by simp [Op.operands])
    have e2 := he ko (by simp [Op.operands])
    have e3 := he vo (by simp [Op.operands])
    simp only [doMapSet, e1, e2, e3, killOf, killO_none] at h ⊢
    split at h
    · split at h
      · grind
      grind
    grind
  · rename_i args argTypes
    simp only [killOf, killO_none] at h ⊢
    split at h
    · rename_i x ha
      have e1 := he x (by simp only [Op.operands, Call.operands, Array.mem_append]; right; rw [← Array.mem_toList_iff, ha]; simp)
      simp only [doSData, e1] at h ⊢
      grind
    grind
  · rename_i args argTypes
    simp only [killOf] at h ⊢
    split at h
    · rename_i p l pt it ha ht
      have e1 := he p (by simp only [Op.operands, Call.operands, Array.mem_append]; right; rw [← Array.mem_toList_iff, ha]; simp)
      have e2 := he l (by simp only [Op.operands, Call.operands, Array.mem_append]; right; rw [← Array.mem_toList_iff, ha]; simp)
      simp only [doUStr, e1, e2, ha] at h ⊢
      split at h
      · rename_i hp _ _
        simp only [hp] at h ⊢
        simp only [Option.some.injEq, Prod.mk.injEq] at h
        obtain ⟨rfl, rfl, rfl⟩ := h
        simp_all [killO_none]
      · rename_i hp _ _
        simp only [hp] at h ⊢
        split at h
        · split at h
          · simp only [Option.some.injEq, Prod.mk.injEq] at h
            obtain ⟨rfl, rfl, rfl⟩ := h
            rfl
          grind
        grind
      grind
    grind
  · rename_i cl _ _
    split at h
    · simp only [doAppend] at h ⊢
      split at h
      · rename_i so xo t t2 h1 h2 h3
        have e1 := he so (by simp only [Op.operands, Call.operands, Array.mem_append]; right; rw [← Array.mem_toList_iff, h2]; simp)
        have e2 := he xo (by simp only [Op.operands, Call.operands, Array.mem_append]; right; rw [← Array.mem_toList_iff, h2]; simp)
        simp only [h1, h2, h3, e1, e2, killOf] at h ⊢
        split at h
        · split at h
          · rename_i hsrc
            split at h
            · rename_i hh hso
              simp only [hso] at h ⊢
              split at h
              · simp only [Option.some.injEq, Prod.mk.injEq] at h
                obtain ⟨rfl, rfl, rfl⟩ := h
                simp_all [St.kill, killO, kO]
              grind
            · rename_i hso
              simp only [Option.some.injEq, Prod.mk.injEq] at h
              obtain ⟨rfl, rfl, rfl⟩ := h
              simp_all [killO_none]
            grind
          grind
        grind
      grind
    grind
  grind
theorem stepL_call {P} {s} {dst} {c} {ty} {pos} {after} {guard} {b} :
    stepL P s ⟨dst, .call c, ty, pos, after, guard⟩ (b + 1) = stepL P s ⟨dst, .call c, ty, pos, after, guard⟩ 0 := by
  obtain ⟨callee, args, tys⟩ := c
  cases callee with
  | builtin bi => cases bi <;> rfl
  | _ => rfl
theorem stepL_sound0 {o} {s} {x0} {s0} {c0} (h : stepL P s o 0 = some (x0, s0, c0)) (hc : c0) : OpL P n o s (fun x s' => x = x0 ∧ s' = s0) := by
  have h' := h
  obtain ⟨dst, op, ty, pos, after, guard⟩ := o
  unfold stepL at h
  simp  at h
  split at h
  · split at h
    · rename_i e hh z hz
      cases h
      refine (allocL' (fun _ => 0) (fun _ => .inl rfl) hz hc).mono ?_
      simp
    grind
  · split at h
    · rename_i e xo hh cs hcs
      cases h
      refine (boxL' (fun _ => 0) (fun _ => .inl rfl) hcs hc).mono ?_
      simp
    grind
  all_goals
    first
      | (cases h; done)
      | (refine (stepL_sound h' hc).mono ?_
         rintro x1 s1 ⟨b, c1, hb⟩
         rw [stepL_call] at hb
         grind)
      | (refine (stepL_sound h' hc).mono ?_
         rintro x1 s1 ⟨b, c1, hb⟩
         have hb2 := h'.symm.trans (show _ = some (x1, s1, c1) from hb)
         simp  [Option.some.injEq, Prod.mk.injEq] at hb2
         exact ⟨hb2.1.symm, hb2.2.1.symm⟩)
end
end Go.Ab

namespace Go.Ab
section
variable {P : Program} {w w' : World} {fo : FO} {m m' : Nat → Option Value} {L : Heap} {n : Nat} {s : St} {a : Act}
def uncs (s : St) : List Operand → Prop
  | [] => True
  | z :: l => (s.ev z).unc ∧ uncs s l
theorem uncs_mem {s} : ∀ {l}, uncs s l → ∀ z ∈ l, (s.ev z).unc
  | [], _, z, h => by cases h
  | y :: l, h, z, hz => by
    rcases List.mem_cons.1 hz with rfl | hz
    · exact h.1
    · exact uncs_mem h.2 z hz
def sameTmp : Operand → Operand → Bool
  | .tmp i, .tmp j => i == j
  | _, _ => false
def gρ (s : St) (o : Oper) (z : Operand) : V :=
  match o.op with
  | .pick c _ _ => if sameTmp z c then (s.ev z).un else s.ev z
  | _ => (s.ev z).un
def gU (s : St) (o : Oper) : Prop :=
  match o.op with
  | .pick c _ _ => (s.ev c).unc
  | _ => uncs s o.op.operands.toList
def gval : Option (V × Prop) → V
  | some (x, _) => x
  | none => .any
def gcon : Option (V × Prop) → Prop
  | some (_, c) => c
  | none => False
theorem gρ_rel {s} {o} (h : gU s o) : ∀ z, z ∈ o.op.operands → ∀ w O m v, RelV w O m v (s.ev z) → RelV w O m v (gρ s o z) := by
  intro z hz w O m v hr
  unfold gU at h
  unfold gρ
  split
  · rename_i c a b hop
    split
    · rename_i hs
      have : z = c := by
        cases z <;> cases c <;> simp  [sameTmp] at hs <;> first | (rw [hs]; done) | cases hs
      simp_all [un_rel]
    omega
  grind [un_rel, uncs_mem]
theorem gcon_sound {r} (h : gcon r) : ∃ c, r = some (gval r, c) ∧ c := by
  cases r with
  | none => exact h.elim
  | some p => exact ⟨p.2, rfl, h⟩
def loudG (s : St) (o : Oper) : Bool :=
  match o.op with
  | .slice _ x _ _ _ => match s.ev x with
    | .rv _ => true
    | .gd _ (.rv _) => true
    | _ => false
  | _ => loudM o
def stepQ (P : Program) (ops : Array Oper) (s : St) (o : Oper) : Option (St × Prop) :=
  match guardV ops s o with
  | some none => match q2 P s.ev s.L o with
    | some (x, c) => some (s.put o.dst x, c)
    | none => none
  | some (some g) => if loudG s o then none else some (s.put o.dst (.gd g (gval (q2 P (gρ s o) s.L o))), g = true → gcon (q2 P (gρ s o) s.L o) ∧ gU s o)
  | none => none
theorem stepQ_sound {ops} {s s'} {o : Oper} {c} {rest} {Q} (hd : ∀ d, o.dst = some d → d < n) (h : stepQ P ops s o = some (s', c)) (hc : c) (k : AOps P n ops rest s' Q) : AOps P n ops (o :: rest) s Q := by
  unfold stepQ at h
  split at h
  · rename_i hg
    split at h
    · rename_i x c' hx
      cases h
      exact AOps.quiet (guardV_none hg) hd (q2_sound hx hc) k
    · cases h
  · rename_i b hg
    split at h
    · cases h
    · cases h
      refine AOps.guarded hg hd (fun hb => ?_) k
      obtain ⟨h1, h2⟩ := hc hb
      obtain ⟨c', h3, h4⟩ := gcon_sound h1
      exact ⟨_, gρ_rel h2, q2_sound h3 h4⟩
  · cases h
def opSlots (o : Oper) : List Nat := o.op.operands.toList.filterMap fun z => match z with | .tmp t => some t | _ => none
def unE (s : St) (o : Oper) : List (Nat × V) := (opSlots o).filterMap fun t => match s.get t with | .gd _ x => some (t, x) | _ => none
def unO (s : St) (o : Oper) : St := ⟨unE s o ++ s.fr, s.L⟩
theorem G.unO {fo} {m} {s} {a} {w} {o} (g : G fo n m s a w) (hu : uncs s o.op.operands.toList) : G fo n m (unO s o) a w := by
  refine ⟨g.size, fun t x hx => ?_, g.inv, g.defers⟩
  rcases List.mem_append.1 hx with hx | hx
  · obtain ⟨t', ht', he⟩ := List.mem_filterMap.1 hx
    obtain ⟨z, hz, hze⟩ := List.mem_filterMap.1 ht'
    have hunc := uncs_mem hu _ hz
    simp  [St.ev] at hunc
    split at he
    · have hm : (t', s.get t') ∈ s.fr := by
        grind [St.get, getF_mem]
      obtain ⟨h1, h2⟩ := g.fr _ _ hm
      grind [gd_inv, V.unc]
    grind
  · exact g.fr t x hx
theorem stepL_fr {s s'} {o} {b} {x} {c} (hm : loudM o = true) (h : stepL P s o b = some (x, s', c)) : s'.fr = killO (killOf s o) s.fr := by
  have := stepL_frame hm h s.fr (fun _ _ => rfl)
  rw [show (⟨s.fr, s.L⟩ : St) = s from rfl, h] at this
  grind
theorem AOps.loudG {ops} {o} {rest} {s} {Q} {b} (hgd : guardV ops s o = some (some b)) (hd : ∀ d, o.dst = some d → d < n)
    (ht : b = true → ∃ b0 x s' c, stepL P (unO s o) o b0 = some (x, s', c) ∧ loudM o = true ∧ uncs s o.op.operands.toList ∧ c)
    (k : b = true → ∀ x s' b1 c, stepL P (unO s o) o (b1 + 1) = some (x, s', c) → AOps P n ops rest (St.put ⟨killO (killOf (unO s o) o) s.fr, s'.L⟩ o.dst (.gd true x)) Q)
    (kf : b = false → AOps P n ops rest (s.put o.dst (.gd false .any)) Q) : AOps P n ops (o :: rest) s Q := by
  intro fo m0 w0 m a w st g
  have hw := guard_wanted g hgd
  cases b with
  | true =>
    obtain ⟨b0, x0, s0, c0, h1, h2, h3, h4⟩ := ht rfl
    obtain ⟨nx, v, w', m', x, s', hrun, hnx, ⟨b1, c1, hb1⟩, hr, g', st'⟩ := stepL_sound  h1 h4 fo m a w (g.unO h3)
    have hfr := stepL_fr h2 hb1
    have g2 : G fo n m' ⟨killO (killOf (Go.Ab.unO s o) o) s.fr, s'.L⟩ a w' := by
      refine ⟨g'.size, fun t y hy => g'.fr t y ?_, g'.inv, g'.defers⟩
      rw [hfr]
      obtain ⟨p, hp, he⟩ := List.mem_map.1 hy
      exact List.mem_map.2 ⟨p, List.mem_append_right _ hp, he⟩
    exact wpList_ok hw hrun hnx (k rfl x s' b1 c1 hb1 fo m0 w0 m' _ w' (st.trans st') (g2.put hd (.gt _ _ hr)))
  | false =>
    unfold wpListIn
    rw [if_neg (by grind)]
    exact ⟨fun _ _ => trivial, kf rfl fo m0 w0 m _ w st (g.put hd (.gf _))⟩
variable {ops : Array Oper} {Q : AX → St → Prop}
mutual
def V.on (ks : List Nat) : V → Bool
  | .bp h _ => ks.contains h
  | .rv h => ks.contains h
  | .ep h _ _ _ => ks.contains h
  | .clo _ f c => V.ons ks f && V.ons ks c
  | .agg cs => V.ons ks cs
  | .tup cs => V.ons ks cs
  | .gd _ x => V.on ks x
  | .d _ => true
  | .rp _ => true
  | .sv h _ => ks.contains h
  | .kn _ => true
  | .any => true
def V.ons (ks : List Nat) : List V → Bool
  | [] => true
  | x :: l => V.on ks x && V.ons ks l
end
theorem ons_mem {ks} : ∀ {l}, V.ons ks l = true → ∀ x ∈ l, V.on ks x = true
  | [], _, x, h => by cases h
  | y :: l, h, x, hx => by
    simp  [V.ons] at h
    rcases List.mem_cons.1 hx with rfl | hx
    · grind
    · exact ons_mem h.2 x hx
theorem ons_d ks : ∀ l : List D, V.ons ks (l.map V.d) = true
  | [] => rfl
  | x :: l => by simp [V.ons, V.on, ons_d]
def Res.on (ks : List Nat) : Res → Bool
  | .box _ _ cs => V.ons ks cs
  | .row _ _ xs => xs.all (V.ons ks)
  | .env _ => true
  | .mp _ => true
theorem on_dd ks ys : (dd ys).all (V.ons ks) = true := by
  simp [dd, ons_d]
theorem RelV.on {O} {ks} (hm : ∀ h x, h ∈ ks → m h = some x → m' h = some x) {x} {y} (hr : RelV w O m x y) (ho : y.on ks = true) : RelV w O m' x y := by
  induction hr with
  | d x y h => exact .d x y h
  | bp h off b e => exact .bp h off b (hm _ _ (by simp_all [V.on]) e)
  | rv h x e e1 => exact .rv h x (hm _ _ (by simp_all [V.on]) e) e1
  | ep h k i j b o n c e => exact .ep h k i j b o n c (hm _ _ (by simp_all [V.on]) e)
  | rp b off cs f hb hlt hc hr => exact .rp b off cs f hb hlt hc hr
  | sv h n b cap e hc hx => exact .sv h n b cap (hm _ _ (by simp_all [V.on]) e) hc hx
  | clo fn first caps cf cc s1 s2 h1 h2 ih1 ih2 =>
    simp  [V.on] at ho
    exact .clo fn first caps cf cc s1 s2 (fun j x y hx hy => ih1 j x y hx hy (ons_mem ho.1 y (List.mem_of_getElem? hy))) (fun j x y hx hy => ih2 j x y hx hy (ons_mem ho.2 y (List.mem_of_getElem? hy)))
  | agg vs cs hs h1 h ih =>
    exact .agg vs cs hs h1 (fun j x y hx hy => ih j x y hx hy (ons_mem ho y (List.mem_of_getElem? hy)))
  | tup vs cs hs h ih =>
    exact .tup vs cs hs (fun j x y hx hy => ih j x y hx hy (ons_mem ho y (List.mem_of_getElem? hy)))
  | gt x y h ih => exact .gt x y (ih (by simp_all [V.on]))
  | gf y => exact .gf y
  | kn x Q h => exact .kn x Q h
  | any x => exact .any x
theorem Res.Holds.on {O} {ks} (hm : ∀ h x, h ∈ ks → m h = some x → m' h = some x) {x} {r : Res} (hr : r.Holds w O m x) (ho : r.on ks = true) : r.Holds w O m' x := by
  cases r with
  | box b ty cs =>
    obtain ⟨bb, hbb, cur, rfl, h1, h2, h3, h4⟩ := hr
    exact ⟨bb, hbb, cur, rfl, h1, h2, h3, fun j v c hv hc => (h4 j v c hv hc).on hm (ons_mem ho c (List.mem_of_getElem? hc))⟩
  | row ty k xs =>
    rcases hr with h | ⟨b, off, cap, cur, rfl, h1, h2, h3, h4, h5, h6, h7⟩
    · exact .inl h
    · simp  [Res.on] at ho
      exact .inr ⟨b, off, cap, cur, rfl, h1, h2, h3, h4, h5, h6, fun i j x y v hx hy hv => (h7 i j x y v hx hy hv).on hm (ons_mem (ho x (List.mem_of_getElem? hx)) y (List.mem_of_getElem? hy))⟩
  | env A => exact hr
  | mp es => exact hr
def St.on (ks : List Nat) (s : St) : Bool := s.fr.all (fun p => V.on ks p.2) && s.L.all (fun p => Res.on ks p.2)
theorem Wk.drop {s'} (hf : ∀ p ∈ s'.fr, p ∈ s.fr) (hL : ∀ p ∈ s'.L, p ∈ s.L) (hn : (keys s'.L).Nodup) (hon : s'.on (keys s'.L) = true) : Wk n s s' := by
  classical
  intro fo m a w g
  let m'  := fun h => if h ∈ keys s'.L then m h else none
  have hm' : ∀ h x, m' h = some x → m h = some x ∧ h ∈ keys s'.L := by
    grind
  have hmm : ∀ h x, h ∈ keys s'.L → m h = some x → m' h = some x := by
    grind
  have hown : ∀ b, own m' b → own m b := by
    rintro b ⟨h, x, hx, hb⟩
    exact ⟨h, x, (hm' h x hx).1, hb⟩
  have hO : ∀ b, b < w.heap.size → OO fo m' b → OO fo m b := fun b _ ho => ho.imp (hown b) id
  simp only [St.on, Bool.and_eq_true, List.all_eq_true] at hon
  refine ⟨m', ⟨g.size, ?_, ?_, g.defers⟩, ⟨rfl, rfl, rfl, Nat.le_refl _, fun _ _ _ => rfl, fun b _ ho => hown b ho⟩⟩
  · intro t x hx
    obtain ⟨h1, h2⟩ := g.fr t x (hf _ hx)
    exact ⟨h1, (h2.on hmm (hon.1 _ hx)).mono (Keep.refl w _) hO (fun _ _ e => e)⟩
  · refine ⟨hn, fun h x hx => (hm' h x hx).2, ?_, ?_, g.inv.folt, ?_, g.inv.glob.mono (Keep.refl w _) hO⟩
    · intro h h' x x' b hx hx' hb hb'
      exact g.inv.apart h h' x x' b (hm' h x hx).1 (hm' h' x' hx').1 hb hb'
    · intro h x b hx hb; exact g.inv.others h x b (hm' h x hx).1 hb
    · intro h r hr
      obtain ⟨x, hx, hh⟩ := g.inv.holds h r (hL _ hr)
      have hk : h ∈ keys s'.L := List.mem_map.2 ⟨_, hr, rfl⟩
      exact ⟨x, hmm h x hk hx, (hh.on hmm (hon.2 _ hr)).mono (fun _ _ => rfl) (Keep.refl w _) hO (fun _ _ e => e)⟩
theorem Wk.rem h : Wk n s (s.rem h) := by
  classical
  intro fo m a w g
  let m'  := fun i => if i = h then none else m i
  have hm : ∀ i x, i ≠ h → m i = some x → m' i = some x := fun i x hne hx => by grind
  have hm' : ∀ i x, m' i = some x → i ≠ h ∧ m i = some x := by
    grind
  have hown : ∀ b, own m' b → own m b := by
    rintro b ⟨i, x, hx, hb⟩
    exact ⟨i, x, (hm' i x hx).2, hb⟩
  have hO : ∀ b, b < w.heap.size → OO fo m' b → OO fo m b := fun b _ ho => ho.imp (hown b) id
  have hi := g.inv
  have hkeys : keys (St.rem h s).L = (keys s.L).filter (· != h) := by
    simp  [keys, St.rem, remL_eq, List.map_map]
    rw [List.filter_map]
    rfl
  refine ⟨m', ⟨g.size, ?_, ?_, g.defers⟩, ⟨rfl, rfl, rfl, Nat.le_refl _, fun _ _ _ => rfl, fun b _ ho => hown b ho⟩⟩
  · intro t x hx
    obtain ⟨p, hp, he⟩ := List.mem_map.1 hx
    cases he
    obtain ⟨h1, h2⟩ := g.fr p.1 p.2 hp
    exact ⟨h1, (h2.kill hm).mono (Keep.refl w _) hO (fun _ _ e => e)⟩
  · have hrem : (St.rem h s).L = (s.L.filter fun p => p.1 != h).map fun p => (p.1, p.2.kill h) := remL_eq h s.L
    refine ⟨?_, ?_, ?_, ?_, hi.folt, ?_, hi.glob.mono (Keep.refl w _) hO⟩
    · rw [hkeys]; exact hi.nodup.sublist List.filter_sublist
    · intro i x hx
      rw [hkeys, List.mem_filter]
      exact ⟨hi.dom i x (hm' i x hx).2, by grind⟩
    · intro i j x y b hx hy hb hb'
      exact hi.apart i j x y b (hm' i x hx).2 (hm' j y hy).2 hb hb'
    · intro i x b hx hb; exact hi.others i x b (hm' i x hx).2 hb
    · intro i r hr
      rw [hrem] at hr
      obtain ⟨p, hp, he⟩ := List.mem_map.1 hr
      cases he
      rw [List.mem_filter] at hp
      obtain ⟨x, hx, hh⟩ := hi.holds p.1 p.2 hp.1
      have hne : p.1 ≠ h := by grind
      exact ⟨x, hm _ _ hne hx, (hh.kill hm).mono (fun _ _ => rfl) (Keep.refl w _) hO (fun _ _ e => e)⟩
def makesNew : Op → Bool
  | .alloc _ | .box .. | .makeSlice .. | .buildSlice .. | .makeMap .. => true
  | _ => false
def St.fgt (s : St) (o : Oper) : St :=
  match o.dst with
  | some h => if makesNew o.op && (keys s.L).contains h then s.rem h else s
  | none => s
theorem Wk.fgt o : Wk n s (s.fgt o) := by
  grind [St.fgt, Wk.rem, Wk.refl]
theorem AOps.weaken {ops} {l} {s'} {Q} (h : Wk n s s') (k : AOps P n ops l s' Q) : AOps P n ops l s Q := by
  intro fo m0 w0 m a w st g
  obtain ⟨m', g', st'⟩ := h fo m a w g
  exact k fo m0 w0 m' a w (st.trans st') g'
end
def resV (P : Program) (s : St) : ResultVar → Option (V × Prop)
  | .tmp t => some (s.get t, True)
  | .cell a t => loadV P s.L t (s.get a)
def resVs (P : Program) (s : St) : List ResultVar → Option (List V × Prop)
  | [] => some ([], True)
  | r :: l => match resV P s r, resVs P s l with
    | some (x, c), some (xs, d) => some (x :: xs, c ∧ d)
    | _, _ => none
def tupV : List V → V
  | [x] => x
  | l => .tup l
def resOf (tmps : Array Value) (r : ResultVar) : Sem Value :=
  match r with
  | .tmp t => pure (tmps.getD t undef)
  | .cell a t => do loadVar t (← asAddr (tmps.getD a undef))
theorem results_eq fn tmps : results fn tmps = (do let vs ← fn.results.mapM (resOf tmps); pure (if h : vs.size = 1 then vs[0] else .tuple vs)) := rfl
def FPost (P : Program) (rs : List ResultVar) (R : AE → Heap → Prop) (x : AX) (s : St) : Prop :=
  match x with
  | .normal | .ret => match resVs P s rs with
    | some (xs, c) => c ∧ R (.ret (tupV xs)) s.L
    | none => False
  | .pan v => R (.pan v) s.L
  | _ => False
theorem resVs_sound {P} {fo} {n} {m} {s} {a} {w} (g : G fo n m s a w) : ∀ l {xs} {c}, resVs P s l = some (xs, c) → c →
    ∃ vs : List Value, (l.mapM (resOf a.tmps)).run P w = .ok vs w ∧ vs.length = xs.length ∧
      ∀ (j : Nat) v x, vs[j]? = some v → xs[j]? = some x → RelV w (OO fo m) m v x
  | [], xs, c, h, _ => by
    cases h
    exact ⟨[], by simp, rfl, by simp⟩
  | r :: l, xs, c, h, hc => by
    simp  [resVs] at h
    split at h
    · rename_i x c1 ys d h1 h2
      cases h
      obtain ⟨vs, hv1, hv2, hv3⟩ := resVs_sound g l h2 hc.2
      have hone : ∃ v, (resOf a.tmps r).run P w = .ok v w ∧ RelV w (OO fo m) m v x := by
        cases r with
        | tmp t =>
          cases h1
          exact ⟨_, rfl, get_rel g t⟩
        | cell ad t =>
          simp  [resV] at h1
          obtain ⟨v, hv, hr⟩ := loadV_sound h1 hc.1 g.inv (get_rel g ad)
          have hp : ∃ p, a.tmps.getD ad undef = .pointer (some p) := by
            have hgr := get_rel g ad
            grind [loadV, bp_inv, rp_inv, ep_inv]
          grind [resOf, Instr.loadAt, Instr.sureAddr, asAddr]
      obtain ⟨v, hv, hr⟩ := hone
      refine ⟨v :: vs, ?_, by grind, ?_⟩
      · simp_all
      grind
    grind
theorem results_sound {P} {fo} {n} {m} {s} {a} {w} (g : G fo n m s a w) {fn} {xs} {c} (h : resVs P s fn.results.toList = some (xs, c)) (hc : c) :
    ∃ v, (results fn a.tmps).run P w = .ok v w ∧ RelV w (OO fo m) m v (tupV xs) := by
  obtain ⟨vs, h1, h2, h3⟩ := resVs_sound g _ h hc
  rw [results_eq, Array.mapM_eq_mapM_toList]
  simp  
  rw [h1]
  match vs, xs, h2, h3 with
  | [v], [x], _, h3 =>
    simpa [tupV] using h3 0 v x rfl rfl
  | [], [], _, h3 =>
    refine ⟨.tuple #[], by simp, ?_⟩
    exact .tup _ _ rfl (by simp)
  | v1 :: v2 :: vs, x1 :: x2 :: xs, h2, h3 =>
    refine ⟨.tuple (v1 :: v2 :: vs).toArray, by simp, ?_⟩
    exact .tup _ _ (by omega) (fun j v x hv hx => h3 j v x (by grind) hx)
theorem G.others {fo} {n} {m} {s} {a} {w w'} (g : G fo n m s a w) (hs : w.heap.size ≤ w'.heap.size) (hb : ∀ b, b < w.heap.size → ¬ fo.f b → w'.heap[b]? = w.heap[b]?) : G fo n m s a w' := by
  have hk : Keep w (OO fo m) w' := ⟨hs, fun b h1 h2 => hb b h1 (fun h => h2 (.inr h))⟩
  refine ⟨g.size, fun t x hx => ⟨(g.fr t x hx).1, (g.fr t x hx).2.mono hk (fun _ _ h => h) (fun _ _ h => h)⟩, ⟨g.inv.nodup, g.inv.dom, g.inv.apart, g.inv.others, fun b hf => Nat.lt_of_lt_of_le (g.inv.folt b hf) hs, fun h r hr => ?_, g.inv.glob.mono hk (fun _ _ h => h)⟩, g.defers⟩
  obtain ⟨x, hx, hh⟩ := g.inv.holds h r hr
  exact ⟨x, hx, hh.mono (fun b hb' => hb b (g.inv.lt hx hb') (g.inv.others h x b hx hb')) hk (fun _ _ h => h) (fun _ _ h => h)⟩
theorem Inv.less {fo fo'} {m} {L} {w} (h : ∀ b, fo'.f b → fo.f b) (hi : Inv fo m L w) : Inv fo' m L w := by
  refine ⟨hi.nodup, hi.dom, hi.apart, fun i x b hx hb hf => hi.others i x b hx hb (h b hf), fun b hf => hi.folt b (h b hf), fun i r hr => ?_, hi.glob.mono (Keep.refl w _) (fun b _ hb => hb.imp id (h b))⟩
  obtain ⟨x, hx, hh⟩ := hi.holds i r hr
  exact ⟨x, hx, hh.mono (fun _ _ => rfl) (Keep.refl w _) (fun b _ hb => hb.imp id (h b)) (fun _ _ h => h)⟩
def setO (w : World) (r : Nat) (o : Obj) : World := { w with heap := w.heap.setIfInBounds r o }
theorem setO_size w r o : (setO w r o).heap.size = w.heap.size := by simp [setO]
theorem setO_ne {w} {r b} {o} (h : b ≠ r) : (setO w r o).heap[b]? = w.heap[b]? := by simp [setO, Ne.symm h]
theorem run_getO {P} {w} {r} {o} (h : w.heap[r]? = some o) (ho : ∀ c e f, o ≠ .cells c e f) : (getObj r).run P w = .ok o w := by
  unfold getObj
  simp  [Sem.run]
  rw [h]
  cases o with
  | cells c e f => exact (ho c e f rfl).elim
  | _ => rfl
theorem run_setO {P} {w} {r} {o o'} (h : w.heap[r]? = some o) (ho : ∀ c e f, o ≠ .cells c e f) : (setObj r o').run P w = .ok () (setO w r o') := by
  unfold setObj
  simp  [Sem.run]
  rw [h]
  cases o with
  | cells c e f => grind
  | _ => rfl
theorem leaves_marks {P} {fn} {n} {tmps} {R} {u} (hu : u ≠ .run) : ∀ (ms : List Nat) w, ms.Nodup → (∀ r ∈ ms, w.heap[r]? = some (.deferred (some []))) →
    (∀ w', w'.os = w.os → w'.tape = w.tape → w'.output = w.output → w.heap.size ≤ w'.heap.size → (∀ b, b ∉ ms → w'.heap[b]? = w.heap[b]?) → LeavesInM Fence.wide n P fn tmps R [] u w') → LeavesInM Fence.wide n P fn tmps R (ms.map (fun r => ⟨.collected r, #[]⟩)) u w
  | [], w, _, _, h => h w rfl rfl rfl (Nat.le_refl _) (fun _ _ => rfl)
  | r :: ms, w, hn, hm, h => by
    rw [List.nodup_cons] at hn
    refine ⟨hu, .inl ⟨r, setO w r (.deferred none), rfl, ?_, ?_⟩⟩
    · simp_all [Instr.takeDeferred, run_getO, run_setO]
    · refine leaves_marks hu ms _ hn.2 (fun r' hr' => ?_) (fun w' h1 h2 h3 h4 h5 => h w' h1 h2 h3 (Nat.le_trans (by simp [setO_size]) h4) (fun b hb => ?_))
      · have : r ≠ r' := fun e => hn.1 (e ▸ hr')
        simp_all [setO_ne, Ne.symm]
      simp_all [setO_ne]
theorem ACalls.of_AWP0 {P} {f} {fn} {c} {args} {L} {R} (hf : P.funcs[f]? = some fn) (hb : fn.body = some c) (hn : args.length ≤ fn.ntmps)
    (h : AWP P fn.ntmps c ⟨argFrame 0 args, L⟩ (FPost P fn.results.toList R)) {fo} {m} {w} {xs} (hD : fo.D = []) (hr0 : fo.r = none) (hnm : fo.nm = false) (hi : Inv fo m L w) (hx : RelVs w (OO fo m) m xs args) : Calls P f xs w (CPost fo m w R) := by
  refine callsIn_wide.1 (callsIn_of_wp_marks (n := 0) hf hb trivial ?_)
  have hsz : (xs ++ Array.replicate (fn.ntmps - xs.size) undef).size = fn.ntmps := by
    have := hx.1
    grind
  have g : G fo fn.ntmps m ⟨argFrame 0 args, L⟩ { tmps := xs ++ Array.replicate (fn.ntmps - xs.size) undef, defers := [] } w := by
    refine ⟨hsz, ?_, hi, hD.symm⟩
    intro t y hy
    obtain ⟨h1, h2, h3⟩ := mem_argFrame hy
    simp only [Nat.sub_zero, Nat.zero_add] at h2 h3
    refine ⟨by omega, ?_⟩
    have hlt : t < xs.size := by rw [hx.1]; exact h3
    have : (xs ++ Array.replicate (fn.ntmps - xs.size) undef).getD t undef = xs[t] := by
      simp [Array.getD, hlt]
      omega
    rw [this]
    exact hx.2 t _ y (Array.getElem?_eq_getElem hlt) h2
  have h0 := h fo m _ w (fun _ => ⟨hr0, hnm⟩) g
  rw [hr0] at h0
  refine Code.wpIn_mono (F := Fence.wide) ?_ h0
  rintro e a' w' ⟨ms, m', x, s', hm, hq, g', hx', st⟩
  have hdef : a'.defers = ms.map (fun r => ⟨.collected r, #[]⟩) := by
    rw [g'.defers]
    simp [FO.mark, hD]
  have stp : ∀ w2 : World, w2.os = w'.os → w2.tape = w'.tape → w2.output = w'.output → w'.heap.size ≤ w2.heap.size → (∀ b, b ∉ ms → w2.heap[b]? = w'.heap[b]?) →
      G (fo.mark ms) fn.ntmps m' s' a' w2 ∧ Inv fo m' s'.L w2 ∧ Step w (own m) w2 (own m') := by
    intro w2 h1 h2 h3 h4 h5
    have g2 := g'.others h4 (fun b _ hnf => h5 b (fun hb => hnf (.inr hb)))
    refine ⟨g2, g2.inv.less (fun b hb => Or.inl hb), ⟨h1.trans st.os, h2.trans st.tape, h3.trans st.output, Nat.le_trans st.size h4, fun b hb ho => ?_, st.owned⟩⟩
    rw [h5 b (fun hbm => by have := (hm.2 b hbm).1; omega)]
    exact st.block b hb ho
  have less : ∀ {w2 : World} {v : Value} {y : V}, RelV w2 (OO (fo.mark ms) m') m' v y → RelV w2 (OO fo m') m' v y := fun h => h.mono (Keep.refl _ _) (fun b _ hb => hb.imp id Or.inl) (fun _ _ h => h)
  have retn : ∀ (ys : List V) (c' : Prop), resVs P s' fn.results.toList = some (ys, c') → c' → R (.ret (tupV ys)) s'.L → LeavesInM Fence.wide 0 P fn a'.tmps (CPost fo m w R) a'.defers .returning w' := by
    intro ys c' hr hc hR
    rw [hdef]
    refine leaves_marks (by simp) ms w' hm.1.1 (fun r hr => (hm.2 r hr).2) (fun w2 h1 h2 h3 h4 h5 => ?_)
    obtain ⟨g2, i2, st2⟩ := stp w2 h1 h2 h3 h4 h5
    obtain ⟨v, k1, k2⟩ := results_sound g2 hr hc
    exact ⟨v, k1, m', _, _, hR, less k2, i2, st2⟩
  cases e with
  | normal =>
    cases x <;> simp only [Exits] at hx'
    simp only [FPost] at hq
    split at hq
    · rename_i ys c' hr
      exact retn ys c' hr hq.1 hq.2
    grind
  | ret =>
    cases x <;> simp only [Exits] at hx'
    simp only [FPost] at hq
    split at hq
    · rename_i ys c' hr
      exact retn ys c' hr hq.1 hq.2
    grind
  | panic ch =>
    cases x <;> simp only [Exits] at hx'
    simp only [FPost] at hq
    show LeavesInM Fence.wide 0 P fn a'.tmps (CPost fo m w R) a'.defers (.panicking ch) w'
    rw [hdef]
    refine leaves_marks (by simp) ms w' hm.1.1 (fun r hr => (hm.2 r hr).2) (fun w2 h1 h2 h3 h4 h5 => ?_)
    obtain ⟨g2, i2, st2⟩ := stp w2 h1 h2 h3 h4 h5
    obtain ⟨v, older, rfl, hold, hv⟩ := hx'
    exact ⟨m', _, _, hq, ⟨v, older, rfl, hold, less (hv.mono ⟨h4, fun b hb ho => h5 b (fun hbm => ho (.inr (.inr hbm)))⟩ (fun _ _ h => h) (fun _ _ h => h))⟩, i2, st2⟩
  | exit i => cases x <;> simp only [Exits] at hx'; exact hq.elim
  | goto i => cases x <;> simp only [Exits] at hx'; exact hq.elim
  | outgrown => simp_all [Exits]
theorem ACalls.of_AWP {P} {f} {fn} {c} {args} {L} {R} (hf : P.funcs[f]? = some fn) (hb : fn.body = some c) (hn : args.length ≤ fn.ntmps)
    (h : AWP P fn.ntmps c ⟨argFrame 0 args, L⟩ (FPost P fn.results.toList R)) : ACalls P f args L R := by
  intro fo m w xs hi hx
  have key : ∀ fo , fo.D = [] → fo.r = none → fo.nm = false → Inv fo m L w → RelVs w (OO fo m) m xs args → Calls P f xs w (CPost fo m w R) := by
    grind [ACalls.of_AWP0]
  exact (key ⟨fo.f, [], none, false⟩ rfl rfl rfl ⟨hi.nodup, hi.dom, hi.apart, hi.others, hi.folt, hi.holds, hi.glob⟩ hx).mono fun _ _ ⟨m', r, L', h1, h2, h3, h4⟩ => ⟨m', r, L', h1, h2, ⟨h3.nodup, h3.dom, h3.apart, h3.others, h3.folt, h3.holds, h3.glob⟩, h4⟩
end Go.Ab

namespace Go.Ab
section
variable {P : Program} {w w' : World} {fo : FO} {m m' : Nat → Option Value} {L : Heap} {n : Nat} {s : St} {a : Act} {Q : AX → St → Prop}
def OpT (P : Program) (o : Oper) (ρa : Operand → V) (L : Heap) (x : V) : Prop :=
  ∀ fo m (ρ : Operand → Value) w, Inv fo m L w → (∀ z, z ∈ o.op.operands → RelV w (OO fo m) m (ρ z) (ρa z)) →
    (∃ v, (execOp ρ o).run P w = .ok (.value v) w ∧ RelV w (OO fo m) m v x) ∨
    ∃ f args, (execOp ρ o).run P w = .ok (.enter f args) w ∧ Calls P f args w (fun e w' => ∃ v, e = .returned v ∧ RelV w' (OO fo m) m v x ∧ Inv fo m L w' ∧ Step w (own m) w' (own m))
theorem OpT.of_Q {o} {ρa} {x} (h : OpQ P o ρa L x) : OpT P o ρa L x := fun fo m ρ w hi hr => .inl (h fo m ρ w hi hr)
def enters (P : Program) (f : FuncId) : Bool :=
  match P.funcs[f]? with
  | some fn => fn.name != "runtime.NumGoroutine" && fn.body.isSome
  | none => false
theorem run_callFunc {f} (h : enters P f = true) args w : (callFunc f args).run P w = .ok (.enter f args) w := by
  unfold enters at h
  split at h
  · rename_i fn hf
    cases hb : fn.body with
    | none => grind
    | some c => simp_all [callFunc]
  grind
def callee (ρ : Operand → V) (c : Call) : Option (FuncId × List V) :=
  match c.callee with
  | .value fo => match ρ fo with
    | .clo (.func f) first caps => some (f, first ++ c.args.toList.map ρ ++ caps)
    | _ => none
  | _ => none
theorem clo_inv {x} {fn} {cf cc} {O} (hr : RelV w O m x (.clo fn cf cc)) : ∃ first caps : Array Value, x = .func fn first caps ∧ first.size = cf.length ∧ caps.size = cc.length ∧
    (∀ (j : Nat) x y, first[j]? = some x → cf[j]? = some y → RelV w O m x y) ∧ (∀ (j : Nat) x y, caps[j]? = some x → cc[j]? = some y → RelV w O m x y) := by
  cases hr with
  | clo _ first caps _ _ s1 s2 h1 h2 => grind
theorem RelVs.append {O} {xs xs'} {ys ys'} (h : RelVs w O m xs ys) (h' : RelVs w O m xs' ys') : RelVs w O m (xs ++ xs') (ys ++ ys') := by
  refine ⟨by simp [h.1, h'.1], fun j x y hx hy => ?_⟩
  rw [Array.getElem?_append] at hx
  rw [List.getElem?_append] at hy
  rw [h.1] at hx
  split at hx
  · rename_i hj; rw [if_pos hj] at hy; exact h.2 j x y hx hy
  · rename_i hj; rw [if_neg hj] at hy; exact h'.2 _ x y hx hy
theorem map_rel2 {ρ} {ρa} {O} (l : Array Operand) (h : ∀ z, z ∈ l → RelV w O m (ρ z) (ρa z)) :
    ∀ (j : Nat) x y, (l.map ρ)[j]? = some x → (l.toList.map ρa)[j]? = some y → RelV w O m x y := by
  grind
theorem call_enters {o} {c} {ρ} {ρa} {f} {args} {O} (hop : o.op = .call c) (hc : callee ρa c = some (f, args)) (he : enters P f = true)
    (hr : ∀ z, z ∈ o.op.operands → RelV w O m (ρ z) (ρa z)) : ∃ xs, (execOp ρ o).run P w = .ok (.enter f xs) w ∧ RelVs w O m xs args := by
  unfold callee at hc
  split at hc
  · rename_i fop hcal
    split at hc
    · rename_i f' first caps hfo
      cases hc
      have h1 := hr fop (by simp_all [Op.operands, Call.operands])
      rw [hfo] at h1
      obtain ⟨fa, ca, e, s1, s2, g1, g2⟩ := clo_inv h1
      refine ⟨fa ++ c.args.map ρ ++ ca, ?_, ?_⟩
      · simp_all [run_callFunc, execOp, resolve, Deferred.ofValue, invoke]
      · refine (RelVs.append ⟨s1, g1⟩ ?_).append ⟨s2, g2⟩
        refine ⟨by simp, ?_⟩
        grind [map_rel2, Op.operands, Call.operands]
    grind
  grind
theorem Inv.grown (hi : Inv fo m L w) (hs : w.heap.size ≤ w'.heap.size) (hb : ∀ b, b < w.heap.size → w'.heap[b]? = w.heap[b]?) : Inv fo m L w' := by
  refine ⟨hi.nodup, hi.dom, hi.apart, hi.others, fun b hf => Nat.lt_of_lt_of_le (hi.folt b hf) hs, ?_, hi.glob.mono ⟨hs, fun b hb' _ => hb b hb'⟩ (fun _ _ e => e)⟩
  intro h r hr
  obtain ⟨x, hx, hh⟩ := hi.holds h r hr
  exact ⟨x, hx, hh.mono (fun b hbx => hb b (hi.lt hx hbx)) ⟨hs, fun b hb' _ => hb b hb'⟩ (fun _ _ e => e) (fun _ _ e => e)⟩
def noneM : Nat → Option Value := fun _ => none
theorem noneM_own b : ¬ own noneM b := by rintro ⟨h, x, hx, _⟩; cases hx
theorem Inv.none_ (hi : Inv fo m L w) {fo1} (hf : ∀ b, fo1 b → OO fo m b) : Inv fo1 noneM [] w :=
  ⟨by simp [keys], (by intro h x hx; cases hx), (by intro h h' x x' b hx; cases hx), (by intro h x b hx; cases hx), (fun b hb => hi.OO_lt (hf b hb)), (by simp), hi.glob.mono (Keep.refl w _) (fun b _ hb => hb.elim (fun h => (noneM_own b h).elim) (hf b))⟩
theorem OpT.call {o} {c} {ρa} {f} {args} {x} (hop : o.op = .call c) (hc : callee ρa c = some (f, args)) (he : enters P f = true) (ho : V.ons [] args = true) (hx : x.on [] = true)
    (h : ACalls P f args [] (fun r _ => r = .ret x)) : OpT P o ρa L x := by
  intro fo m ρ w hi hr
  obtain ⟨xs, h1, h2⟩ := call_enters  hop hc he hr
  refine .inr ⟨f, xs, h1, ?_⟩
  have hrel : RelVs w (OO (OO fo m) noneM) noneM xs args := by
    refine ⟨h2.1, fun j v y hv hy => ?_⟩
    have := (h2.2 j v y hv hy).on  (m' := noneM) (by simp) (ons_mem ho y (List.mem_of_getElem? hy))
    exact this.mono (Keep.refl w _) (fun b _ hb => hb.elim (fun h => (noneM_own b h).elim) id) (fun _ _ e => e)
  refine (h (OO fo m) noneM w xs (hi.none_ fun b hb => hb) hrel).mono ?_
  rintro e w' ⟨m1, r, L', rfl, he', hi', st⟩
  cases e with
  | returned v =>
    refine ⟨v, rfl, ?_, hi.grown st.size (fun b hb => st.block b hb (noneM_own b)), ⟨st.os, st.tape, st.output, st.size, fun b hb _ => st.block b hb (noneM_own b), fun b hb h => h⟩⟩
    have := he'.on  (m' := m) (by simp) hx
    exact this.mono (Keep.refl w' _) (fun b _ hb => .inr hb) (fun _ _ e => e)
  | panicked ch => simp_all [Ends]
  | outgrown => simp_all [Ends]
theorem AOps.quietT {ops} {o : Oper} {rest} {x} (hg : o.guard = none) (hd : ∀ d, o.dst = some d → d < n) (h : OpT P o s.ev s.L x) (k : AOps P n ops rest (s.put o.dst x) Q) : AOps P n ops (o :: rest) s Q := by
  intro fo m0 w0 m a w st g
  rcases h fo m a.eval w g.inv (fun z _ => eval_rel g z) with ⟨v, hrun, hr⟩ | ⟨f, args, hrun, hc⟩
  · exact wpList_ok (by simp [Region.wanted, hg]) hrun (.inl rfl) (k fo m0 w0 m _ w st (g.put hd hr))
  · unfold wpListIn
    rw [if_pos (by simp [Region.wanted, hg])]
    refine owp_enter hrun ?_
    refine hc.mono ?_
    rintro e w' ⟨v, rfl, hr, hi', st'⟩
    have hkeep : Keep w (OO fo m) w' := ⟨st'.size, fun b hb ho => st'.block b hb (fun h => ho (.inl h))⟩
    have g' : G fo n m s a w' := ⟨g.size, fun t y hy => ⟨(g.fr t y hy).1, (g.fr t y hy).2.mono hkeep (fun _ _ h => h) (fun _ _ h => h)⟩, hi', g.defers⟩
    exact k fo m0 w0 m _ w' (st.trans st') (g'.put hd hr)
theorem AOps.guardedT {ops} {o} {rest} {b} {x} (hgd : guardV ops s o = some (some b)) (hd : ∀ d, o.dst = some d → d < n)
    (h : b = true → ∃ ρa : Operand → V, (∀ z, z ∈ o.op.operands → ∀ w O m v, RelV w O m v (s.ev z) → RelV w O m v (ρa z)) ∧ OpT P o ρa s.L x) (k : AOps P n ops rest (s.put o.dst (.gd b x)) Q) : AOps P n ops (o :: rest) s Q := by
  intro fo m0 w0 m a w st g
  have hw := guard_wanted g hgd
  cases b with
  | true =>
    obtain ⟨ρa, h1, h2⟩ := h rfl
    rcases h2 fo m a.eval w g.inv (fun z hz => h1 z hz _ _ _ _ (eval_rel g z)) with ⟨v, hrun, hr⟩ | ⟨f, args, hrun, hc⟩
    · exact wpList_ok hw hrun (.inl rfl) (k fo m0 w0 m _ w st (g.put hd (.gt _ _ hr)))
    · unfold wpListIn
      rw [if_pos hw]
      refine owp_enter hrun ?_
      refine hc.mono ?_
      rintro e w' ⟨v, rfl, hr, hi', st'⟩
      have hkeep : Keep w (OO fo m) w' := ⟨st'.size, fun b hb ho => st'.block b hb (fun h => ho (.inl h))⟩
      have g' : G fo n m s a w' := ⟨g.size, fun t y hy => ⟨(g.fr t y hy).1, (g.fr t y hy).2.mono hkeep (fun _ _ h => h) (fun _ _ h => h)⟩, hi', g.defers⟩
      exact k fo m0 w0 m _ w' (st.trans st') (g'.put hd (.gt _ _ hr))
  | false =>
    unfold wpListIn
    rw [if_neg (by grind)]
    exact ⟨fun _ _ => trivial, k fo m0 w0 m _ w st (g.put hd (.gf _))⟩
def OKCall (P : Program) (f : FuncId) (args : List V) (L : Heap) (x : V) : Prop := ∀ (o : Oper) (c : Call) (ρa : Operand → V), o.op = .call c → callee ρa c = some (f, args) → OpT P o ρa L x
def CallA (P : Program) : Option (FuncId × List V) → Heap → V → Prop
  | some (f, args), L, x => OKCall P f args L x
  | none, _, _ => False
def CallC (P : Program) (s : St) (o : Oper) (x : V) : Prop :=
  match o.op with
  | .call c => CallA P (callee s.ev c) s.L x
  | _ => False
def CallG (P : Program) (s : St) (o : Oper) (x : V) : Prop :=
  uncs s o.op.operands.toList ∧ match o.op with
  | .call c => CallA P (callee (fun z => (s.ev z).un) c) s.L x
  | _ => False
theorem CallA.opT {o} {c} {ρa} {x} (hop : o.op = .call c) (h : CallA P (callee ρa c) L x) : OpT P o ρa L x := by
  cases hc : callee ρa c with
  | none => rw [hc] at h; exact h.elim
  | some p =>
    rw [hc] at h
    exact h o c ρa hop hc
theorem CallC.opT {o} {x} (h : CallC P s o x) : OpT P o s.ev s.L x := by
  grind [CallC, CallA.opT]
theorem CallG.opT {o} {x} (h : CallG P s o x) : ∃ ρa : Operand → V, (∀ z, z ∈ o.op.operands → ∀ w O m v, RelV w O m v (s.ev z) → RelV w O m v (ρa z)) ∧ OpT P o ρa s.L x := by
  unfold CallG at h
  refine ⟨fun z => (s.ev z).un, fun z hz w O m v hr => un_rel hr (uncs_mem h.1 z (by grind)), ?_⟩
  grind [CallA.opT]
def isCall (o : Oper) : Bool :=
  match o.op with
  | .call { callee := .value _, .. } => true
  | _ => false
def callStep (P : Program) (ops : Array Oper) (s : St) (o : Oper) (us : List V) : Option (St × Prop × List V) :=
  match us with
  | [] => none
  | x :: us => match guardV ops s o with
    | some none => some (s.put o.dst x, CallC P s o x, us)
    | some (some g) => some (s.put o.dst (.gd g x), g = true → CallG P s o x, us)
    | none => none
def runC (P : Program) (ops : Array Oper) : List Oper → St → (Nat → Nat) → List V → (St → List Oper → Prop) → Prop
  | [], s, _, _, K => K s []
  | o :: rest, s, bs, us, K =>
    if isCall o then
      match callStep P ops s o us with
      | some (s', c, us') => c ∧ runC P ops rest s' bs us' K
      | none => K s (o :: rest)
    else
    match stepQ P ops s o with
    | some (s', c) => c ∧ runC P ops rest s' bs us K
    | none =>
      match guardV ops s o with
      | some none => match stepL P (s.fgt o) o (bs 0 + 1) with
        | some (x, s', c) => c ∧ runC P ops rest (s'.put o.dst x) (fun i => bs (i + 1)) us K
        | none => K s (o :: rest)
      | some (some true) => match stepL P (unO s o) o (bs 0 + 1) with
        | some (x, s', c) => (loudM o = true ∧ uncs s o.op.operands.toList ∧ c) ∧ runC P ops rest (St.put ⟨killO (killOf (unO s o) o) s.fr, s'.L⟩ o.dst (.gd true x)) (fun i => bs (i + 1)) us K
        | none => K s (o :: rest)
      | some (some false) => runC P ops rest (s.put o.dst (.gd false .any)) bs us K
      | none => K s (o :: rest)
def KK (P : Program) (n : Nat) (ops : Array Oper) (Q : AX → St → Prop) (s : St) : List Oper → Prop
  | [] => Q .normal s
  | r => AOps P n ops r s Q
theorem KK_ops {ops} {r} (h : KK P n ops Q s r) : AOps P n ops r s Q := by
  cases r with
  | nil => exact AOps.nil h
  | cons o r => exact h
def dstsOk (n : Nat) (l : List Oper) : Bool := l.all fun o => match o.dst with | some d => decide (d < n) | none => true
theorem runC_sound {ops} : ∀ l s us, dstsOk n l = true →
    (∀ bs, runC P ops l s bs us (KK P n ops Q)) → AOps P n ops l s Q
  | [], s, us, _, h => KK_ops (h (fun _ => 0))
  | o :: rest, s, us, hd, h => by
    have hd1 : ∀ d, o.dst = some d → d < n := by
      intro d hd'
      simp_all [dstsOk, List.all_cons, Bool.and_eq_true]
    have hd2 : dstsOk n rest = true := by
      simp_all [dstsOk, List.all_cons, Bool.and_eq_true]
    have h0 := h (fun _ => 0)
    rw [runC] at h0
    split at h0
    · rename_i hcall
      split at h0
      · rename_i s' c us' hcs
        have hall : ∀ bs, c ∧ runC P ops rest s' bs us' (KK P n ops Q) := by
          simp_all [runC, if_pos]
        have hrest := runC_sound rest s' us' hd2 (fun bs => (hall bs).2)
        have hc := h0.1
        unfold callStep at hcs
        split at hcs
        · cases hcs
        · split at hcs
          · rename_i hg
            cases hcs
            exact AOps.quietT (guardV_none hg) hd1 (CallC.opT hc) hrest
          · rename_i g hg
            cases hcs
            exact AOps.guardedT hg hd1 (fun hb => CallG.opT (hc hb)) hrest
          · cases hcs
      · exact h0
    · rename_i hcall
      split at h0
      · rename_i s' c hq
        have hall : ∀ bs, c ∧ runC P ops rest s' bs us (KK P n ops Q) := by
          simp_all [runC, if_neg]
        exact stepQ_sound hd1 hq h0.1 (runC_sound rest s' us hd2 (fun bs => (hall bs).2))
      · rename_i hq
        split at h0
        · rename_i hgn
          split at h0
          · rename_i x0 s0 c0 hl
            have hall : ∀ (bs : Nat → Nat) (x : V) (s' : St) (c : Prop), stepL P (s.fgt o) o (bs 0 + 1) = some (x, s', c) → c ∧ runC P ops rest (s'.put o.dst x) (fun i => bs (i + 1)) us (KK P n ops Q) := by
              intro bs x s' c hb
              have := h bs
              simp_all [runC, if_neg]
            refine AOps.weaken (Wk.fgt o) (AOps.loud (guardV_none hgn) hd1 (stepL_sound hl h0.1) ?_)
            rintro x s' ⟨b, c, hb⟩
            exact runC_sound rest _ us hd2 (fun bs => (hall (fun i => match i with | 0 => b | i + 1 => bs i) x s' c hb).2)
          · exact h0
        · rename_i hgn
          split at h0
          · rename_i x0 s0 c0 hl
            have hall : ∀ (bs : Nat → Nat) (x : V) (s' : St) (c : Prop), stepL P (unO s o) o (bs 0 + 1) = some (x, s', c) → (loudM o = true ∧ uncs s o.op.operands.toList ∧ c) ∧ runC P ops rest (St.put ⟨killO (killOf (unO s o) o) s.fr, s'.L⟩ o.dst (.gd true x)) (fun i => bs (i + 1)) us (KK P n ops Q) := by
              intro bs x s' c hb
              have := h bs
              simp_all [runC, if_neg]
            refine AOps.loudG hgn hd1 (fun _ => ⟨_, x0, s0, c0, hl, h0.1⟩) (fun _ x s' b c hb => ?_) (fun h => by cases h)
            exact runC_sound rest _ us hd2 (fun bs => (hall (fun i => match i with | 0 => b | i + 1 => bs i) x s' c hb).2)
          · exact h0
        · rename_i hgn
          have hall : ∀ bs, runC P ops rest (s.put o.dst (.gd false .any)) bs us (KK P n ops Q) := by
            intro bs
            have := h bs
            rw [runC, if_neg hcall, hq] at this
            simp only [hgn] at this
            exact this
          exact AOps.loudG hgn hd1 (fun h => by cases h) (fun h => by cases h) (fun _ => runC_sound rest _ us hd2 hall)
        · exact h0
def codeK (P : Program) (n : Nat) : Code → St → (AX → St → Prop) → Prop
  | .skip, s, Q => Q .normal s
  | .seq x y, s, Q => codeK P n x s (AX.then (fun s' => codeK P n y s' Q) Q)
  | .cond c x y, s, Q => match s.ev c with
    | .d (.v (.bool b)) => (b = true → codeK P n x s Q) ∧ (b = false → codeK P n y s Q)
    | _ => False
  | .block id c, s, Q => codeK P n c s (AX.inBlock id Q)
  | .exit id, s, Q => Q (.exit id) s
  | .ret, s, Q => Q .ret s
  | .region id ops draw, s, Q => if draw then AWP P n (.region id ops draw) s Q else dstsOk n ops.toList = true ∧ ∀ bs, runC P ops ops.toList s bs [] (KK P n ops Q)
  | c, s, Q => AWP P n c s Q
theorem AX.then_mono {f g} {Q Q'} (h : ∀ s, f s → g s) (hq : ∀ x s, Q x s → Q' x s) x s (hx : AX.then f Q x s) : AX.then g Q' x s := by
  cases x <;> simp  [AX.then] at hx ⊢ <;> first | exact h _ hx | exact hq _ _ hx
theorem wp_region_toList {r} {id} {ops} {Q} {a} {w} (h : wpListIn (wr r) 0 P ops Q ops.toList a w) : (Code.region id ops false).wpIn (wr r) 0 P Q a w := wpIn_region_list h
theorem codeK_sound : ∀ c s Q, codeK P n c s Q → AWP P n c s Q
  | .skip, s, Q, h => AWP.skip h
  | .seq x y, s, Q, h => AWP.seq (AWP.mono (codeK_sound x s _ h) (AX.then_mono (fun s' h' => codeK_sound y s' Q h') (fun _ _ h => h)))
  | .cond c x y, s, Q, h => by
    simp  [codeK] at h
    split at h
    · rename_i b hb
      exact AWP.cond hb (fun hb => codeK_sound x s Q (h.1 hb)) (fun hb => codeK_sound y s Q (h.2 hb))
    · exact h.elim
  | .block id c, s, Q, h => AWP.block (codeK_sound c s _ h)
  | .exit id, s, Q, h => AWP.exit h
  | .ret, s, Q, h => AWP.ret h
  | .region id ops draw, s, Q, h => by
    simp  [codeK] at h
    split at h
    · exact h
    · have : draw = false := by grind
      subst this
      intro fo m a w _ g
      exact wp_region_toList (runC_sound ops.toList s [] h.1 h.2 fo m w m a w (Step.refl w _) g)
  | .loop c, s, Q, h => h
  | .rangeFunc .., s, Q, h => h
  | .scope c, s, Q, h => h
  | .label l, s, Q, h => h
  | .goto l, s, Q, h => h
  | .refuse _, s, Q, h => h
end
end Go.Ab

namespace Go.Ab
section
variable {P : Program} {n : Nat} {Q : AX → St → Prop}
def YOp (P : Program) (ops : Array Oper) (o : Oper) (s : St) (x : V) : Prop :=
  ∀ fo m (a : Act) w, Inv fo m s.L w → (∀ t, t ∈ o.looksAt ops → RelV w (OO fo m) m (a.tmps.getD t undef) (s.get t)) →
    ∀ (next : Act → World → Prop) (Q' : Exit → Act → World → Prop), (∀ v w', RelV w' (OO fo m) m v x → Inv fo m s.L w' → Step w (own m) w' (own m) → next (a.put o.dst v) w') →
      if Region.wanted o (yielded ops a.tmps) then o.wpIn (wr fo.r) 0 P a w next Q' else next (a.put o.dst undef) w
theorem eval_of_slots {s : St} {w} {fo} {m} {a : Act} {z : Operand} (hgb : Globs w (OO fo m)) (h : ∀ t, z = .tmp t → RelV w (OO fo m) m (a.tmps.getD t undef) (s.get t)) : RelV w (OO fo m) m (a.eval z) (s.ev z) := by
  cases z with
  | tmp t => exact h t rfl
  | const v =>
    simp  [St.ev]
    unfold evConst
    split
    · rename_i h; exact .d _ _ (.v _ h)
    · exact .any _
  | global i => exact glob_rel hgb i
  | func f => exact .clo _ _ _ _ _ rfl rfl (by simp) (by simp)
theorem looks_operand {ops} {o : Oper} {t} (h : Operand.tmp t ∈ o.op.operands) : t ∈ o.looksAt ops := by
  refine List.mem_append.2 (.inl (List.mem_filterMap.2 ⟨.tmp t, by grind, rfl⟩))
theorem opT_wp {o} {ρa} {L} {x} (h : OpT P o ρa L x) {fo} {m} {a} {w} (hi : Inv fo m L w) (hr : ∀ z, z ∈ o.op.operands → RelV w (OO fo m) m (a.eval z) (ρa z))
    {next} {Q'} (k : ∀ v w', RelV w' (OO fo m) m v x → Inv fo m L w' → Step w (own m) w' (own m) → next (a.put o.dst v) w') : o.wpIn (wr fo.r) 0 P a w next Q' := by
  rcases h fo m a.eval w hi hr with ⟨v, hrun, hr'⟩ | ⟨f, args, hrun, hc⟩
  · exact owp_val hrun (.inl rfl) (k v w hr' hi (Step.refl w _))
  · refine owp_enter hrun ?_
    refine hc.mono ?_
    grind
theorem yop_plain {ops} {o} {s} {x} (hg : o.guard = none) (h : OpT P o s.ev s.L x) : YOp P ops o s x := by
  intro fo m a w hi hs next Q' k
  rw [if_pos (by simp [Region.wanted, hg])]
  exact opT_wp h hi (fun z hz => eval_of_slots hi.glob (fun t ht => hs t (looks_operand (by grind)))) k
theorem yop_guard {ops} {o} {s} {x} {b} (hgd : guardV ops s o = some (some b))
    (h : b = true → ∃ ρa : Operand → V, (∀ z, z ∈ o.op.operands → ∀ w O m v, RelV w O m v (s.ev z) → RelV w O m v (ρa z)) ∧ OpT P o ρa s.L x) : YOp P ops o s (.gd b x) := by
  intro fo m a w hi hs next Q' k
  have hw := guard_wanted' hs hgd
  cases b with
  | true =>
    obtain ⟨ρa, h1, h2⟩ := h rfl
    rw [if_pos hw]
    exact opT_wp h2 hi (fun z hz => h1 z hz _ _ _ _ (eval_of_slots hi.glob (fun t ht => hs t (looks_operand (by grind))))) (fun v w' hr => k v w' (.gt _ _ hr))
  | false =>
    rw [if_neg (by grind)]
    exact k undef w (.gf _) hi (Step.refl w _)
def runD (P : Program) (ops : Array Oper) : List Oper → St → List V → (St → Prop) → Prop
  | [], s, _, K => K s
  | o :: rest, s, us, K =>
    if isCall o then
      match callStep P ops s o us with
      | some (s', c, us') => c ∧ runD P ops rest s' us' K
      | none => False
    else
    match stepQ P ops s o with
    | some (s', c) => c ∧ runD P ops rest s' us K
    | none => False
inductive Trace (P : Program) (ops : Array Oper) : List Oper → St → List (St × V) → St → Prop
  | nil (s : St) : Trace P ops [] s [] s
  | cons {o : Oper} {rest : List Oper} {s : St} {x : V} {l : List (St × V)} {s' : St} (h : YOp P ops o s x) (k : Trace P ops rest (s.put o.dst x) l s') : Trace P ops (o :: rest) s ((s, x) :: l) s'
theorem runD_trace {ops} {K} : ∀ l s us, runD P ops l s us K → ∃ tr s', Trace P ops l s tr s' ∧ K s'
  | [], s, us, h => ⟨[], s, .nil s, h⟩
  | o :: rest, s, us, h => by
    rw [runD] at h
    split at h
    · split at h
      · rename_i s' c us' hcs
        obtain ⟨tr, s1, h1, h2⟩ := runD_trace rest s' us' h.2
        have hc := h.1
        unfold callStep at hcs
        split at hcs
        · grind
        · split at hcs
          · rename_i hg
            cases hcs
            exact ⟨_, _, .cons (yop_plain (guardV_none hg) (CallC.opT hc)) h1, h2⟩
          · rename_i g hg
            cases hcs
            exact ⟨_, _, .cons (yop_guard hg (fun hb => CallG.opT (hc hb))) h1, h2⟩
          grind
      grind
    · split at h
      · rename_i s' c hq
        obtain ⟨tr, s1, h1, h2⟩ := runD_trace rest s' us h.2
        have hc := h.1
        unfold stepQ at hq
        split at hq
        · rename_i hg
          split at hq
          · rename_i x c' hx
            cases hq
            exact ⟨_, _, .cons (yop_plain (guardV_none hg) (.of_Q (q2_sound hx hc))) h1, h2⟩
          grind
        · rename_i b hg
          split at hq
          · cases hq
          · cases hq
            refine ⟨_, _, .cons (yop_guard hg (fun hb => ?_)) h1, h2⟩
            obtain ⟨k1, k2⟩ := hc hb
            obtain ⟨c', h3, h4⟩ := gcon_sound k1
            exact ⟨_, gρ_rel k2, .of_Q (q2_sound h3 h4)⟩
        grind
      grind
def writes (ops : List Oper) (t : Tmp) : Option Nat := ops.findIdx? fun o => o.dst == some t
def indep (ops : List Oper) : Bool :=
  (ops.zipIdx.all fun (o, i) =>
    (match o.dst with | some d => writes ops d == some i | none => true) &&
    (o.after.toList.all fun e => !Region.binds .any e || decide (e.on < i)) &&
    ((o.looksAt ops.toArray).all fun t => match writes ops t with
      | none => true
      | some j => if j < i then o.after.toList.any fun e => Region.binds .any e && e.on == j
        else decide (i < j) && (match ops[j]? with | some oj => oj.after.toList.any fun e => Region.binds .any e && e.on == i | none => false)))
theorem Trace.len {ops} {l} {s s'} {tr} (h : Trace P ops l s tr s') : tr.length = l.length ∧ s'.L = s.L := by
  induction h with
  | nil s => simp
  | @cons o rest s x l s' h k ih =>
    refine ⟨by grind, ih.2.trans ?_⟩
    unfold St.put
    grind
theorem Trace.at {ops} {l} {s s'} {tr} (h : Trace P ops l s tr s') : ∀ (i : Nat) si xi, tr[i]? = some (si, xi) → si.L = s.L ∧ ∃ o : Oper, l[i]? = some o ∧ YOp P ops o si xi := by
  induction h with
  | nil s => simp
  | @cons o rest s x l s' h k ih =>
    intro i si xi hi
    cases i with
    | zero =>
      grind
    | succ i =>
      obtain ⟨h1, h2⟩ := ih i si xi hi
      refine ⟨h1.trans ?_, h2⟩
      unfold St.put
      grind
theorem getF_delF {t d} (h : t ≠ d) : ∀ l : List (Nat × V), getF t (delF d l) = getF t l
  | [] => rfl
  | (k, x) :: l => by
    rw [delF, getF]
    split
    · rename_i hk; subst hk; rw [if_neg (fun e => h e.symm)]; exact getF_delF h l
    · rw [getF, getF_delF h l]
theorem get_put {s : St} {o} {x} {t} (h : o ≠ some t) : (s.put o x).get t = s.get t := by
  cases o with
  | none => rfl
  | some d =>
    have hne : t ≠ d := fun e => h (by rw [e])
    simp_all [St.put, St.get, getF, getF_delF]
theorem get_put_same {s : St} {x} {t} : (s.put (some t) x).get t = x := by simp [St.put, St.get, getF]
theorem Trace.get_old {ops} {l} {s s'} {tr} (h : Trace P ops l s tr s') (t : Nat) : ∀ i si xi, tr[i]? = some (si, xi) → (∀ (j : Nat) o, j < i → l[j]? = some o → o.dst ≠ some t) → si.get t = s.get t := by
  induction h with
  | nil s => simp
  | @cons o rest s x l s' h k ih =>
    intro i si xi hi hn
    cases i with
    | zero =>
      grind
    | succ i =>
      rw [ih i si xi hi (fun j o' hj ho => hn (j + 1) o' (by omega) (by grind)), get_put (hn 0 o (by omega) rfl)]
theorem Trace.get_new {ops} {l} {s s'} {tr} (h : Trace P ops l s tr s') (t : Nat) : ∀ i j si xi sj xj (o : Oper), tr[i]? = some (si, xi) → j < i → tr[j]? = some (sj, xj) → l[j]? = some o → o.dst = some t →
    (∀ (j' : Nat) o', j < j' → j' < i → l[j']? = some o' → o'.dst ≠ some t) → si.get t = xj := by
  induction h with
  | nil s => simp
  | @cons o rest s x l s' h k ih =>
    intro i j si xi sj xj o' hi hji hj ho hd hn
    cases i with
    | zero => omega
    | succ i =>
      cases j with
      | zero =>
        rw [k.get_old t i si xi hi (fun j' o' hj' ho' => hn (j' + 1) o' (by omega) (by omega) (by grind))]
        simp_all [get_put_same]
      | succ j =>
        exact ih i j si xi sj xj o' hi (by omega) hj ho hd (fun j' o'' h1 h2 h3 => hn (j' + 1) o'' (by omega) (by omega) (by grind))
theorem mem_put {s : St} {d} {x} {p} (h : p ∈ (s.put d x).fr) : (d = some p.1 ∧ x = p.2) ∨ (p ∈ s.fr ∧ d ≠ some p.1) := by
  cases d with
  | none => exact .inr ⟨h, by simp⟩
  | some d =>
    simp  [St.put] at h
    rcases h with rfl | h
    · simp
    grind [mem_delF, Option.some.inj]
theorem Trace.mem {ops} {l} {s s'} {tr} (h : Trace P ops l s tr s') : ∀ p, p ∈ s'.fr → (∃ (j : Nat) (o : Oper) (sj : St), l[j]? = some o ∧ o.dst = some p.1 ∧ tr[j]? = some (sj, p.2)) ∨ (p ∈ s.fr ∧ ∀ (j : Nat) o, l[j]? = some o → o.dst ≠ some p.1) := by
  induction h with
  | nil s => simp
  | @cons o rest s x l s' h k ih =>
    intro p hp
    rcases ih p hp with ⟨j, o', sj, h1, h2, h3⟩ | ⟨h1, h2⟩
    · exact .inl ⟨j + 1, o', sj, by grind, h2, by grind⟩
    · rcases mem_put h1 with ⟨hd, hx⟩ | ⟨h3, h4⟩
      · exact .inl ⟨0, o, s, rfl, hd, by grind⟩
      grind
theorem writes_some {ops} {t} {j} (h : writes ops t = some j) : ∃ o, ops[j]? = some o ∧ o.dst = some t := by
  grind [writes, List.findIdx?_eq_some_iff_getElem, List.getElem?_eq_getElem]
theorem writes_none {ops} {t} (h : writes ops t = none) {j : Nat} {o} (hj : ops[j]? = some o) : o.dst ≠ some t := by
  grind [writes, List.findIdx?_eq_none_iff, List.mem_of_getElem?]
theorem indep_at {ops} (h : indep ops = true) {i} {o} (hi : ops[i]? = some o) :
    (∀ d, o.dst = some d → writes ops d = some i) ∧ (∀ e ∈ o.after, Region.binds .any e = true → e.on < i) ∧
    ∀ t ∈ o.looksAt ops.toArray, ∀ j, writes ops t = some j → (j < i ∧ ∃ e ∈ o.after, Region.binds .any e = true ∧ e.on = j) ∨ (i < j ∧ ∃ oj, ops[j]? = some oj ∧ ∃ e ∈ oj.after, Region.binds .any e = true ∧ e.on = i) := by
  unfold indep at h
  rw [List.all_eq_true] at h
  have hm : (o, i) ∈ ops.zipIdx := by
    grind
  have := h _ hm
  simp only [Bool.and_eq_true, List.all_eq_true] at this
  obtain ⟨⟨h1, h2⟩, h3⟩ := this
  refine ⟨?_, ?_, ?_⟩
  · grind
  · grind
  · intro t ht j hj
    have := h3 t ht
    rw [hj] at this
    simp only at this
    split at this
    · grind
    · right
      simp only [Bool.and_eq_true, decide_eq_true_eq] at this
      obtain ⟨h4, h5⟩ := this
      split at h5
      · rename_i oj hoj
        rw [List.any_eq_true] at h5
        grind
      grind
structure Mid (fo : FO) (m : Nat → Option Value) (m0 : Nat → Option Value) (w0 : World) (n : Nat) (l : List Oper) (s : St) (tr : List (St × V)) (listed : Array Bool) (a : Act) (w : World) : Prop where
  size : a.tmps.size = n
  defers : a.defers = fo.D
  inv : Inv fo m s.L w
  step : Step w0 (own m0) w (own m)
  lsz : listed.size = l.length
  done : ∀ (j : Nat) (o : Oper) (sj : St) (xj : V) (d : Nat), l[j]? = some o → tr[j]? = some (sj, xj) → o.dst = some d → listed.getD j false = true → RelV w (OO fo m) m (a.tmps.getD d undef) xj
  todo : ∀ t, (∀ (j : Nat) (o : Oper), l[j]? = some o → o.dst = some t → listed.getD j false = false) → RelV w (OO fo m) m (a.tmps.getD t undef) (s.get t)
  rest : ∀ p, p ∈ s.fr → (∀ (j : Nat) (o : Oper), l[j]? = some o → o.dst ≠ some p.1) → RelV w (OO fo m) m (a.tmps.getD p.1 undef) p.2
  closed : ∀ (j : Nat) (o : Oper), l[j]? = some o → listed.getD j false = true → ∀ e ∈ o.after, Region.binds .any e = true → listed.getD e.on false = true
theorem getD_lt {listed : Array Bool} {i} {b c} (h : i < listed.size) : listed.getD i b = listed.getD i c := by grind
theorem any_orderR {R : Exit → Act → World → Prop} {l : List Oper} {s s' : St} {tr : List (St × V)} (ht : Trace P l.toArray l s tr s') (hin : indep l = true) (hd : dstsOk n l = true) {fo : FO} {m m0 : Nat → Option Value} {w0 : World}
    (hfin : ∀ a w, G fo n m s' a w → Step w0 (own m0) w (own m) → R .normal a w)
    (hfr : ∀ p, p ∈ s.fr → p.1 < n) :
    ∀ (fuel : Nat) (listed : Array Bool) (un : List Nat) (a : Act) (w : World), un.length ≤ fuel → (∀ i, i < l.length → listed.getD i false = false → i ∈ un) →
      Mid fo m m0 w0 n l s tr listed a w → wpAnyIn (wr fo.r) 0 P .any l.toArray R fuel listed a w := by
  have hdl : ∀ (i : Nat) (o : Oper) (d : Nat), l[i]? = some o → o.dst = some d → d < n := by
    intro i o d hi ho
    unfold dstsOk at hd
    rw [List.all_eq_true] at hd
    have := hd o (List.mem_of_getElem? hi)
    rw [ho] at this
    simpa using this
  obtain ⟨hlen, hL⟩ := ht.len
  have htr : ∀ i : Nat, i < l.length → ∃ (si : St) (xi : V), tr[i]? = some (si, xi) := by
    intro i hi
    exact ⟨_, _, List.getElem?_eq_getElem (by omega)⟩
  have fin : ∀ (listed : Array Bool) (a : Act) (w : World), (∀ i, i < l.length → listed.getD i false = true) → Mid fo m m0 w0 n l s tr listed a w → R .normal a w := by
    intro listed a w hall M
    refine hfin a w ⟨M.size, ?_, by rw [hL]; exact M.inv, M.defers⟩ M.step
    intro t x hx
    rcases ht.mem (t, x) hx with ⟨j, o, sj, h1, h2, h3⟩ | ⟨h1, h2⟩
    · exact ⟨hdl j o t h1 h2, M.done j o sj x t h1 h3 h2 (hall j (List.getElem?_eq_some_iff.1 h1).1)⟩
    · exact ⟨hfr _ h1, M.rest _ h1 h2⟩
  have ready_nil : ∀ (listed : Array Bool), listed.size = l.length → (∀ (j : Nat) (o : Oper), l[j]? = some o → listed.getD j false = true → ∀ e ∈ o.after, Region.binds .any e = true → listed.getD e.on false = true) →
      Region.ready .any l.toArray listed = [] → ∀ i, i < l.length → listed.getD i false = true := by
    intro listed hsz _ hr i
    induction i using Nat.strongRecOn with
    | _ i ih =>
      intro hi
      cases hb : listed.getD i false with
      | true => rfl
      | false =>
        exfalso
        have hmem : i ∈ Region.ready .any l.toArray listed := by
          refine mem_ready.2 ⟨by rw [getD_lt (c := false) (by omega)]; exact hb, l[i], by simp [hi], fun e he hbd => ?_⟩
          have := (indep_at hin (List.getElem?_eq_getElem hi)).2.1 e he hbd
          exact ih e.on this (by omega)
        rw [hr] at hmem
        cases hmem
  intro fuel
  induction fuel with
  | zero =>
    intro listed un a w hun hall M
    have h0 : ∀ i, i < l.length → listed.getD i false = true := by
      intro i hi
      cases hb : listed.getD i false with
      | true => rfl
      | false => have h9 := hall i hi hb; have h8 : un = [] := List.eq_nil_of_length_eq_zero (by omega); rw [h8] at h9; cases h9
    refine ⟨?_, fin listed a w h0 M⟩
    rw [List.eq_nil_iff_forall_not_mem]
    intro j hj
    obtain ⟨h1, o, h2, _⟩ := mem_ready.1 hj
    have hjl : j < l.length := by have := (Array.getElem?_eq_some_iff.1 h2).1; simpa using this
    rw [getD_lt (c := false) (by have := M.lsz; omega)] at h1
    rw [h0 j hjl] at h1
    cases h1
  | succ fuel ih =>
    intro listed un a w hun hall M
    refine ⟨fun hr => fin listed a w (ready_nil listed M.lsz M.closed hr) M, ?_⟩
    intro i hi
    obtain ⟨h1, o, h2, h3⟩ := mem_ready.1 hi
    have hil : i < l.length := by have := (Array.getElem?_eq_some_iff.1 h2).1; simpa using this
    have hio : l[i]? = some o := by simpa using h2
    rw [getD_lt (c := false) (by have := M.lsz; omega)] at h1
    obtain ⟨si, xi, htri⟩ := htr i hil
    obtain ⟨hsL, o', ho', hy⟩ := ht.at i si xi htri
    rw [hio] at ho'
    obtain rfl := Option.some.inj ho'
    obtain ⟨i1, i2, i3⟩ := indep_at hin hio
    have uniq : ∀ (t : Nat) (j : Nat) (o'' : Oper), l[j]? = some o'' → o''.dst = some t → writes l t = some j := fun t j o'' hj hd => (indep_at hin hj).1 t hd
    have hslots : ∀ t, t ∈ o.looksAt l.toArray → RelV w (OO fo m) m (a.tmps.getD t undef) (si.get t) := by
      intro t htl
      cases hw : writes l t with
      | none =>
        rw [ht.get_old t i si xi htri (fun j o'' _ hj => writes_none hw hj)]
        exact M.todo t (fun j o'' hj hd => (writes_none hw hj hd).elim)
      | some j =>
        obtain ⟨oj, hoj, hdj⟩ := writes_some hw
        obtain ⟨sj, xj, htrj⟩ := htr j (List.getElem?_eq_some_iff.1 hoj).1
        rcases i3 t htl j hw with ⟨hlt, e, he, hb, hon⟩ | ⟨hlt, oj', hoj', e, he, hb, hon⟩
        · rw [ht.get_new t i j si xi sj xj oj htri hlt htrj hoj hdj (fun j' o'' hjj _ hj' hd' => by
            have := uniq t j' o'' hj' hd'
            rw [hw] at this
            have := Option.some.inj this
            omega)]
          exact M.done j oj sj xj t hoj htrj hdj (by rw [← hon]; exact h3 e he hb)
        · rw [ht.get_old t i si xi htri (fun j' o'' hj' ho'' hd' => by
            have := uniq t j' o'' ho'' hd'
            rw [hw] at this
            have := Option.some.inj this
            omega)]
          refine M.todo t (fun j' o'' hj' hd' => ?_)
          have := uniq t j' o'' hj' hd'
          rw [hw] at this
          obtain rfl := Option.some.inj this
          cases hb' : listed.getD j false with
          | false => rfl
          | true =>
            rw [hoj] at hoj'
            obtain rfl := Option.some.inj hoj'
            have := M.closed j oj hoj hb' e he hb
            rw [hon, h1] at this
            cases this
    have hrun := hy fo m a w (by rw [hsL]; exact M.inv) hslots (wpAnyIn (wr fo.r) 0 P .any l.toArray R fuel (listed.setIfInBounds i true)) R (fun v w' hr hi' st => by
      rw [hsL] at hi'
      have hkeep : Keep w (OO fo m) w' := ⟨st.size, fun b hb ho => st.block b hb (fun h => ho (.inl h))⟩
      have mono : ∀ {v : Value} {x : V}, RelV w (OO fo m) m v x → RelV w' (OO fo m) m v x := fun h => h.mono hkeep (fun _ _ h => h) (fun _ _ h => h)
      have hne : ∀ t, o.dst ≠ some t → (a.put o.dst v).tmps.getD t undef = a.tmps.getD t undef := by
        intro t hn
        cases hdd : o.dst with
        | none => rfl
        | some d =>
          have : d ≠ t := fun e => hn (by rw [hdd, e])
          simp [Act.put, Array.getElem?_setIfInBounds_ne this]
      have hset : ∀ j, (listed.setIfInBounds i true).getD j false = true ↔ (j = i ∨ listed.getD j false = true) := by
        intro j
        by_cases hj : j = i
        · subst hj
          have hjs : j < listed.size := by have := M.lsz; omega
          simp [Array.getD, hjs]
        · have : ¬ i = j := fun e => hj e.symm
          simp only [Array.getD_eq_getD_getElem?, Array.getElem?_setIfInBounds_ne this, hj, false_or]
      refine ih (listed.setIfInBounds i true) (un.erase i) (a.put o.dst v) w' ?_ ?_ ?_
      · have hmem := hall i hil h1
        rw [List.length_erase_of_mem hmem]; omega
      · intro j hj hb
        have hnj : ¬ ((listed.setIfInBounds i true).getD j false = true) := by rw [hb]; simp
        rw [hset] at hnj
        have hji : j ≠ i := fun e => hnj (.inl e)
        have hb2 : listed.getD j false = false := by
          cases hx : listed.getD j false with
          | false => rfl
          | true => exact (hnj (.inr hx)).elim
        exact (List.mem_erase_of_ne hji).2 (hall j hj hb2)
      · refine ⟨?_, ?_, hi', M.step.trans st, by simpa using M.lsz, ?_, ?_, ?_, ?_⟩
        · cases hdd : o.dst <;> simp [Act.put, M.size]
        · cases hdd : o.dst <;> simp [Act.put, M.defers]
        · intro j oj sj xj d hoj htrj hdj hb
          by_cases hji : j = i
          · subst hji
            rw [hio] at hoj
            obtain rfl := Option.some.inj hoj
            rw [htri] at htrj
            obtain ⟨rfl, rfl⟩ := Prod.mk.inj (Option.some.inj htrj)
            have hdn := hdl j o d hio hdj
            have : (a.put o.dst v).tmps.getD d undef = v := by
              have hsz := M.size
              rw [hdj]
              simp [Act.put, Array.getD, hsz, hdn]
            rw [this]; exact hr
          · have hnd : o.dst ≠ some d := by
              intro e
              have q1 := uniq d i o hio e
              have q2 := uniq d j oj hoj hdj
              rw [q1] at q2
              exact hji (Option.some.inj q2).symm
            rw [hne d hnd]
            exact mono (M.done j oj sj xj d hoj htrj hdj (((hset j).1 hb).resolve_left hji))
        · intro t hall'
          have hnd : o.dst ≠ some t := by
            intro e
            have := hall' i o hio e
            have h4 := (hset i).2 (.inl rfl)
            rw [this] at h4; cases h4
          rw [hne t hnd]
          refine mono (M.todo t (fun j oj hoj hdj => ?_))
          have := hall' j oj hoj hdj
          cases hx : listed.getD j false with
          | false => rfl
          | true => have h4 := (hset j).2 (.inr hx); rw [this] at h4; cases h4
        · intro p hp hnw
          rw [hne p.1 (hnw i o hio)]
          exact mono (M.rest p hp hnw)
        · intro j oj hoj hb e he hbd
          rw [hset]
          rcases (hset j).1 hb with rfl | hb'
          · rw [hio] at hoj
            obtain rfl := Option.some.inj hoj
            exact .inr (h3 e he hbd)
          · exact .inr (M.closed j oj hoj hb' e he hbd))
    unfold wpOpIn
    rw [h2]
    simp only
    split
    · rename_i hw; rw [if_pos hw] at hrun; exact hrun
    · rename_i hw; rw [if_neg hw] at hrun; exact ⟨fun _ _ => trivial, hrun⟩
theorem mid_start {fo : FO} {m : Nat → Option Value} {l : List Oper} {s : St} {tr : List (St × V)} {a : Act} {w : World} (g : G fo n m s a w) (k : Nat) : Mid fo m m w n l s tr (Array.replicate l.toArray.size false) a { w with drawn := k } := by
  have st : Step w (own m) { w with drawn := k } (own m) := ⟨rfl, rfl, rfl, Nat.le_refl _, fun _ _ _ => rfl, fun _ _ h => h⟩
  have mono : ∀ {v : Value} {x : V}, RelV w (OO fo m) m v x → RelV { w with drawn := k } (OO fo m) m v x := fun h => h.mono st.keep (fun _ _ h => h) (fun _ _ h => h)
  refine ⟨g.size, g.defers, g.inv.grown (Nat.le_refl _) (fun _ _ => rfl), st, by simp, ?_, fun t _ => mono (get_rel g t), fun p hp _ => mono (g.fr p.1 p.2 hp).2, ?_⟩
  · intro j o sj xj d _ _ _ hb
    have : (Array.replicate l.toArray.size false).getD j false = false := by simp [Array.getD]
    rw [this] at hb; cases hb
  · intro j o _ hb
    have : (Array.replicate l.toArray.size false).getD j false = false := by simp [Array.getD]
    rw [this] at hb; cases hb
theorem AWP.regionD {id : Nat} {l : List Oper} {s : St} (us : List V) (hm : P.follows .mixedOrders = true) (hin : indep l = true) (hd : dstsOk n l = true) (h : runD P l.toArray l s us (Q .normal)) : AWP P n (.region id l.toArray true) s Q := by
  intro fo m a w _ g
  obtain ⟨tr, s', ht, hq⟩ := runD_trace l s us h
  exact wpIn_region_any hm (any_orderR ht hin hd (fun a1 w1 g1 st => .of m .normal s' hq g1 trivial st) (fun p hp => (g.fr p.1 p.2 hp).1) l.length _ (List.range l.length) a _ (by simp) (fun i hi _ => by simpa using hi) (mid_start g _))
end
end Go.Ab

namespace Go.Ab
attribute [simp] runC runD callStep stepQ stepL guardV q2 q1 loadV fieldAddrV fieldV indexAddrV indexV binV unV lenV convV extractV nilCheckV callV lookupV lookRes doSData doUStr doMapSet meOf keyFits ME.val pickV_true pickV_false pickV_bb pickV_gb pickV_bg loudG loudM kO killO killOf opSlots unE unO St.fgt makesNew St.rem remL sameTmp sliceV bndV moreV boolEqV maxminV ifcV asrtV nilEqV isCst allD ofIfc eqAggV gρ gU gval gcon buildV fillV putAt doStore doMake doLit litRows doCut doAppend srcV
  St.put St.get St.ev evConst V.cl V.un V.unc uncs Op.operands Call.operands argFrame keys Heap.upd V.kill V.kills Res.kill St.kill AX.then AX.inBlock KK dstsOk isCall FPost resVs resV tupV boolV intV strV V.on V.ons Res.on St.on
  Value.oneCell' callee CallA CallC CallG cutRow List.lookup getF delF
@[simp] theorem kills_dmap h (l : List D) : V.kills h (l.map V.d) = l.map V.d := kills_d h l
@[simp] theorem map_kills_dd h ys : (dd ys).map (V.kills h) = dd ys := kill_dd h ys
@[simp] theorem ons_dmap ks (l : List D) : V.ons ks (l.map V.d) = true := ons_d ks l
@[simp] theorem all_ons_dd ks ys : (dd ys).all (V.ons ks) = true := on_dd ks ys
@[simp] theorem dd_length ys : (dd ys).length = ys.length := by simp [dd]
@[simp] theorem dd_append xs ys : dd xs ++ dd ys = dd (xs ++ ys) := by simp [dd]
@[simp] theorem dd_nil : dd [] = [] := rfl
@[simp] theorem dd_get ys (i : Nat) : (dd ys)[i]? = ys[i]?.map (·.map V.d) := by simp [dd]
def encI (l : List Int) : List (List D) := l.map fun n => [.v (.int .i64 n)]
@[simp] theorem encI_length l : (encI l).length = l.length := by simp [encI]
@[simp] theorem encI_get l (i : Nat) : (encI l)[i]? = l[i]?.map fun n => [.v (.int .i64 n)] := by simp [encI]
@[simp] theorem encI_cellAt l i : cellAt (dd (encI l)) i 0 [V.d (D.v (.int .i64 0))] = V.d (D.v (.int .i64 (l[i]?.getD 0))) := by
  unfold cellAt
  rw [dd_get, encI_get]
  cases l[i]? <;> rfl
def encB (l : List Bool) : List (List D) := l.map fun b => [.v (.bool b)]
@[simp] theorem encB_length (l : List Bool) : (encB l).length = l.length := by simp [encB]
@[simp] theorem encB_nil : encB [] = [] := rfl
@[simp] theorem encB_set (l : List Bool) (k : Nat) (v : Bool) : (dd (encB l)).set k [.d (.v (.bool v))] = dd (encB (l.set k v)) := by
  simp [dd, encB, List.map_set]
@[simp] theorem encB_replicate (N : Nat) (v : Bool) : List.replicate N [V.d (.v (.bool v))] = dd (encB (List.replicate N v)) := by simp [dd, encB]
def encS (l : List ByteArray) : List (List D) := l.map fun s => [.v (.string s)]
@[simp] theorem encS_length l : (encS l).length = l.length := by simp [encS]
@[simp] theorem encS_nil : encS [] = [] := rfl
def encSl {α : Type} (g : List α → List (List D)) (l : List (List α)) : List (List D) := l.map fun y => [.sl (g y)]
section
variable {α : Type} {g : List α → List (List D)}
@[simp] theorem encSl_length l : (encSl g l).length = l.length := by simp [encSl]
@[simp] theorem encSl_get l (i : Nat) : (encSl g l)[i]? = l[i]?.map fun y => [.sl (g y)] := by simp [encSl]
@[simp] theorem encSl_nil : encSl g [] = [] := rfl
@[simp] theorem encSl_snoc (l : List (List α)) (v : List α) : dd (encSl g l) ++ [[.d (.sl (g v))]] = dd (encSl g (l ++ [v])) := by
  simp [dd, encSl]
end
@[simp] theorem encI_nil : encI [] = [] := rfl
@[simp] theorem int_beq (a b : Int) : (a == b) = decide (a = b) := rfl
def encM1 {α : Type} (enc : α → D) (l : List (Int × α)) : List ME := l.map fun p => (.int .i64 p.1, false, [enc p.2])
def lput {α : Type} (l : List (Int × α)) (k : Int) (a : α) : List (Int × α) := if l.any (fun p => p.1 == k) then l.map (fun p => if p.1 == k then (k, a) else p) else l ++ [(k, a)]
@[simp] theorem mlook_encM1 {α : Type} (enc : α → D) (l : List (Int × α)) (k : Int) : mlook (encM1 enc l) (.int .i64 k) = (l.lookup k).map fun a => .d (enc a) := by
  induction l with
  | nil => rfl
  | cons p l ih =>
    obtain ⟨k', a⟩ := p
    simp only [encM1, List.map_cons, mlook, keyEq, List.lookup_cons] at ih ⊢
    rw [ih]
    by_cases h : k' = k
    · subst h; simp [ME.val]
    · have h' : (k == k') = false := by simpa using Ne.symm h
      simp [h, h']
@[simp] theorem fits_encM1 {α : Type} (enc : α → D) (l : List (Int × α)) : fitsAll (.int .i64) (encM1 enc l) = true := by simp [fitsAll, encM1, keyFits]
theorem mput_encM1 {α : Type} (enc : α → D) (l : List (Int × α)) (k : Int) (a : α) : mput (encM1 enc l) (.int .i64 k) false [enc a] = encM1 enc (lput l k a) := by
  have h : (encM1 enc l).any (fun e => keyEq e.1 (.int .i64 k)) = l.any (fun p => p.1 == k) := by
    simp only [encM1, List.any_map, Function.comp_def, keyEq, beq_self_eq_true, Bool.true_and]
  unfold mput lput
  rw [h]
  split
  · simp only [encM1, List.map_map]
    apply List.map_congr_left
    intro p _
    simp only [Function.comp_apply, keyEq, beq_self_eq_true, Bool.true_and]
    split <;> simp_all
  · simp [encM1]
theorem bytes_toList (a b : ByteArray) : a.toList = b.toList ↔ a = b := by
  constructor
  · intro h
    rw [ByteArray.toList_eq, ByteArray.toList_eq] at h
    cases a; cases b
    simpa using h
  · intro h; rw [h]
theorem bytes_beq (a b : ByteArray) : (a.toList == b.toList) = decide (a = b) := by
  rw [Bool.eq_iff_iff]
  simp [bytes_toList]
theorem inR_i64 {n} : inR .i64 n ↔ -9223372036854775808 ≤ n ∧ n ≤ 9223372036854775807 := by
  rfl
end Go.Ab

namespace Go.Ab
def unD : List V → Option (List D)
  | [] => some []
  | .d x :: l => match unD l with
    | some r => some (x :: r)
    | none => none
  | _ :: _ => none
def undd : List (List V) → Option (List (List D))
  | [] => some []
  | x :: l => match unD x, undd l with
    | some y, some r => some (y :: r)
    | _, _ => none
@[simp] theorem unD_map l : unD (l.map V.d) = some l := by
  induction l with
  | nil => rfl
  | cons x l ih => simp [unD, ih]
@[simp] theorem undd_dd ys : undd (dd ys) = some ys := by
  induction ys with
  | nil => rfl
  | cons x l ih => simp  [dd, undd]; rw [show List.map (fun x => List.map V.d x) l = dd l from rfl, ih]
theorem unD_eq : ∀ {l} {r}, unD l = some r → l = r.map V.d
  | [], r, h => by simp_all [unD]
  | .d x :: l, r, h => by
    rw [unD] at h
    split at h
    · rename_i r' hr
      simp   at h
      subst h
      rw [unD_eq hr]; rfl
    · cases h
  | .bp _ _ :: _, _, h => by grind [unD]
  | .rv _ :: _, _, h => by grind [unD]
  | .ep _ _ _ _ :: _, _, h => by grind [unD]
  | .rp _ :: _, _, h => by grind [unD]
  | .sv _ _ :: _, _, h => by grind [unD]
  | .clo _ _ _ :: _, _, h => by grind [unD]
  | .agg _ :: _, _, h => by grind [unD]
  | .tup _ :: _, _, h => by grind [unD]
  | .gd _ _ :: _, _, h => by grind [unD]
  | .any :: _, _, h => by grind [unD]
  | .kn _ :: _, _, h => by grind [unD]
theorem undd_eq : ∀ {l} {r}, undd l = some r → l = dd r
  | [], r, h => by simp  [undd] at h; subst h; rfl
  | x :: l, r, h => by
    rw [undd] at h
    split at h
    · rename_i y r' hy hr
      simp   at h
      subst h
      rw [unD_eq hy, undd_eq hr]; rfl
    · cases h
def cellD (L : Heap) : V → Option D
  | .d (.v (.slice none 0 0)) => some (.sl [])
  | .d x => some x
  | .rv h => match L.lookup h with
    | some (.row _ _ xs) => match undd xs with
      | some ys => some (.sl ys)
      | none => none
    | _ => none
  | _ => none
def cellsD (L : Heap) : List V → Option (List D)
  | [] => some []
  | x :: l => match cellD L x, cellsD L l with
    | some y, some r => some (y :: r)
    | _, _ => none
theorem cellsD_get {L} : ∀ {l} {r}, cellsD L l = some r → l.length = r.length ∧ ∀ (j : Nat) d, r[j]? = some d → ∃ y, l[j]? = some y ∧ cellD L y = some d
  | [], r, h => by simp_all [cellsD]
  | x :: l, r, h => by
    rw [cellsD] at h
    split at h
    · rename_i y r' hy hr
      obtain ⟨h1, h2⟩ := cellsD_get hr
      grind
    grind
@[simp] theorem cellsD_map {L} l (h : ∀ x ∈ l, x ≠ .v (.slice none 0 0)) : cellsD L (l.map V.d) = some l := by
  induction l with
  | nil => rfl
  | cons x l ih =>
    rw [List.map_cons, cellsD, ih (fun y hy => h y (List.mem_cons_of_mem _ hy))]
    have : cellD L (.d x) = some x := by
      unfold cellD
      split
      · rename_i heq; cases heq; exact (h _ List.mem_cons_self rfl).elim
      · rename_i heq; cases heq; rfl
      · rename_i heq; cases heq
      · rename_i h1 h2 h3; exact (h2 x rfl).elim
    rw [this]
mutual
def V.fz (L : Heap) : V → V
  | .d (.v (.slice none 0 0)) => .d (.sl [])
  | .rv h => match L.lookup h with
    | some (.row _ _ xs) => match undd xs with
      | some ys => .d (.sl ys)
      | none => .any
    | _ => .any
  | .bp h off => match L.lookup h with
    | some (.box _ _ cs) => match cellsD L cs with
      | some ds => .rp (ds.drop off)
      | none => .any
    | _ => .any
  | .sv _ _ => .any
  | .clo fn f c => .clo fn (V.fzs L f) (V.fzs L c)
  | .agg cs => .agg (V.fzs L cs)
  | .tup cs => .tup (V.fzs L cs)
  | x => x
def V.fzs (L : Heap) : List V → List V
  | [] => []
  | x :: l => V.fz L x :: V.fzs L l
end
section
variable {P : Program} {w w' : World} {fo : FO} {m m' : Nat → Option Value} {L : Heap} {n : Nat} {s : St} {a : Act} {Q : AX → St → Prop}
theorem fzs_get {L} : ∀ l (j : Nat), (V.fzs L l)[j]? = l[j]?.map (V.fz L)
  | [], j => by rfl
  | x :: l, 0 => by rfl
  | x :: l, j + 1 => by simp [V.fzs, fzs_get]
theorem fzs_len {L} : ∀ l, (V.fzs L l).length = l.length
  | [] => by rfl
  | x :: l => by simp [V.fzs, fzs_len l]
theorem nil_rel {O} : RelD w O (.slice none 0 0) (.sl []) := .sl none 0 0 [] 0 0 0 (fun _ _ => undef) rfl (by omega) (by simp) (by omega) (by simp) (by omega) (by simp)
theorem row_data (hi : Inv fo m L w) {h k} {ty} {ys} (hl : L.lookup h = some (.row ty k (dd ys))) {v} (hv : m h = some v) : RelD w fo v (.sl ys) := by
  obtain ⟨x, hx, hh⟩ := hi.holds h _ (lookup_mem hl)
  rw [hv] at hx
  obtain rfl := Option.some.inj hx
  rcases hh with ⟨rfl, hy⟩ | ⟨b, off, cap, cur, rfl, hb, h1, h2, h3, h4, h5, h6⟩
  · simp_all [dd, nil_rel]
  · have hlen : (dd ys).length = ys.length := by simp [dd]
    rw [hlen] at h1 ⊢
    have hget : ∀ (i : Nat) (x : List D), ys[i]? = some x → (dd ys)[i]? = some (x.map V.d) := by
      simp_all [dd]
    have hkx : ∀ (i : Nat) (x : List D), ys[i]? = some x → x.length = k := by
      grind
    have hbd : ∀ i j, i < ys.length → j < k → off + i * k + j < cur.size := by
      intro i j hi hj
      have : (i + 1) * k ≤ cap * k := Nat.mul_le_mul_right _ (by omega)
      grind
    refine .sl (some ⟨b, off, none⟩) ys.length cap ys k b off (fun i j => cur.getD (off + i * k + j) undef) rfl h1 h2 (fun _ => ⟨rfl, hi.others h _ b hv rfl, (Array.getElem?_eq_some_iff.1 hb).1⟩) hkx ?_ ?_
    · simp_all [World.cell?, Array.getD]
    · intro i j x y hx hy
      have hj : j < k := by grind
      have hil := (List.getElem?_eq_some_iff.1 hx).1
      have hlt := hbd i j hil hj
      have := h6 i j _ (.d y) (cur[off + i * k + j]) (hget i x hx) (by grind) (Array.getElem?_eq_getElem hlt)
      have h7 := this.d_inv
      have e : cur.getD (off + i * k + j) undef = cur[off + i * k + j] := by simp_all
      rw [e]
      exact h7.mono (Keep.refl w _) (fun b _ hb => .inr hb)
theorem cellD_rel (hi : Inv fo m L w) {v} {y} {d} (h : RelV w (OO fo m) m v y) (hd : cellD L y = some d) : RelD w fo v d := by
  unfold cellD at hd
  split at hd
  · have := h.v_inv
    grind [Option.some.injEq, nil_rel]
  · simp   at hd
    subst hd
    exact h.d_inv.mono (Keep.refl w _) (fun b _ hb => .inr hb)
  · split at hd
    · rename_i ty k xs hl
      split at hd
      · rename_i ys hys
        rw [undd_eq hys] at hl
        cases h with
        | rv _ _ e _ => grind [row_data]
      grind
    grind
  grind
theorem box_data (hi : Inv fo m L w) {h off b0} {ty} {cs} {ds} (hl : L.lookup h = some (.box b0 ty cs)) (hd : cellsD L cs = some ds) {b} (hv : m h = some (.pointer (some ⟨b, 0, none⟩))) :
    RelV w fo noneM (.pointer (some ⟨b, off, none⟩)) (.rp (ds.drop off)) := by
  obtain ⟨x, hx, bb, _, cur, rfl, hb, hs, h1, h2⟩ := hi.holds h _ (lookup_mem hl)
  rw [hv] at hx
  cases hx
  obtain ⟨k1, k2⟩ := cellsD_get hd
  refine .rp b off _ (fun j => cur.getD (off + j) undef) (hi.others h _ b hv rfl) (Array.getElem?_eq_some_iff.1 hb).1 (fun j hj => ?_) (fun j y hy => ?_)
  · have hlt : off + j < cur.size := by grind
    simp_all [World.cell?]
  · rw [List.getElem?_drop] at hy
    obtain ⟨z, hz, hzd⟩ := k2 _ _ hy
    have hlt : off + j < cur.size := by grind
    have := cellD_rel hi (h2 (off + j) _ z (Array.getElem?_eq_getElem hlt) hz) hzd
    simpa [Array.getD, hlt] using this
theorem fz_rel (hi : Inv fo m L w) {v} {y} (h : RelV w (OO fo m) m v y) : (y.fz L).on [] = true → RelV w fo noneM v (y.fz L) := by
  have hD : ∀ {x : Value} {d : D}, RelD w (OO fo m) x d → RelD w fo x d := fun h => h.mono (Keep.refl w _) (fun b _ hb => .inr hb)
  induction h with
  | d x y h =>
    intro _
    unfold V.fz
    split
    · rename_i heq; cases heq; cases h; exact .d _ _ nil_rel
    · grind
    · grind
    · grind
    · grind
    · grind
    · grind
    · exact .d _ _ (hD h)
  | bp h off b e =>
    intro _
    simp only [V.fz]
    split
    · rename_i b0 ty cs hl
      split
      · grind [box_data]
      · exact .any _
    · exact .any _
  | rv h x e e1 =>
    intro _
    simp only [V.fz]
    split
    · rename_i ty k xs hl
      split
      · rename_i ys hys
        rw [undd_eq hys] at hl
        exact .d _ _ (row_data hi hl e)
      · exact .any _
    · exact .any _
  | ep h k i j b o n c e => simp [V.fz, V.on]
  | rp b off cs f hb hlt hc hr => intro _; simp only [V.fz]; exact .rp b off cs f (fun hf => hb (.inr hf)) hlt hc (fun j y hy => hD (hr j y hy))
  | sv h n b cap e hc hx => intro _; simp only [V.fz]; exact .any _
  | clo fn first caps cf cc s1 s2 h1 h2 ih1 ih2 =>
    intro ho
    simp only [V.fz, V.on, Bool.and_eq_true] at ho ⊢
    refine .clo fn first caps _ _ (by simp_all [fzs_len]) (by simp_all [fzs_len]) ?_ ?_
    · intro j x y hx hy
      have hyo := ons_mem ho.1 y (List.mem_of_getElem? hy)
      rw [fzs_get] at hy
      grind
    · intro j x y hx hy
      have hyo := ons_mem ho.2 y (List.mem_of_getElem? hy)
      rw [fzs_get] at hy
      grind
  | agg vs cs hs h1 h ih =>
    intro ho
    refine .agg vs _ (by simp_all [fzs_len]) h1 ?_
    intro j x y hx hy
    have hyo := ons_mem ho y (List.mem_of_getElem? hy)
    rw [fzs_get] at hy
    grind
  | tup vs cs hs h ih =>
    intro ho
    refine .tup vs _ (by simp_all [fzs_len]) ?_
    intro j x y hx hy
    have hyo := ons_mem ho y (List.mem_of_getElem? hy)
    rw [fzs_get] at hy
    grind
  | gt x y h ih =>
    intro ho
    simp only [V.fz, V.on] at ho ⊢
    exact (RelV.on (ks := []) (m' := noneM) (by simp) (.gt x y h) (by simp_all [V.on])).mono (Keep.refl w _) (fun b _ hb => .inr hb) (fun _ _ e => e)
  | gf y => intro _; simp only [V.fz]; exact .gf y
  | kn x Q h => intro _; simp only [V.fz]; exact .kn x Q h
  | any x => intro _; simp only [V.fz]; exact .any x
theorem ACalls.data {f} {args} {L} {x} (h : ACalls P f args L (fun r L' => ∃ y, r = .ret y ∧ y.fz L' = x)) (hx : x.on [] = true) : ACalls P f args L (fun r L' => r = .ret x ∧ L' = []) := by
  intro fo m w xs hi hr
  refine (h fo m w xs hi hr).mono ?_
  rintro e w' ⟨m1, r, L1, ⟨y, rfl, rfl⟩, he, hi', st⟩
  cases e with
  | returned v =>
    refine ⟨noneM, .ret (y.fz L1), [], ⟨rfl, rfl⟩, ?_, hi'.none_ (fun b hb => .inr hb), ⟨st.os, st.tape, st.output, st.size, st.block, fun b _ hb => (noneM_own b hb).elim⟩⟩
    exact (fz_rel hi' he hx).mono (Keep.refl w' _) (fun b _ hb => hb.elim (fun h => (noneM_own b h).elim) id) (fun _ _ e => e)
  | panicked ch => simp_all [Ends]
  | outgrown => simp_all [Ends]
mutual
def V.scal : V → Bool
  | .d (.v _) => true
  | .agg cs => V.scals cs
  | .tup cs => V.scals cs
  | _ => false
def V.scals : List V → Bool
  | [] => true
  | x :: l => V.scal x && V.scals l
end
theorem scals_mem : ∀ {l}, V.scals l = true → ∀ x ∈ l, V.scal x = true
  | [], _, x, h => by cases h
  | y :: l, h, x, hx => by
    simp  [V.scals] at h
    rcases List.mem_cons.1 hx with rfl | hx
    · grind
    · exact scals_mem h.2 x hx
theorem scal_rel {O O'} {v} {y} (h : RelV w O m v y) : y.scal = true → RelV w' O' m' v y := by
  induction h with
  | d x y h =>
    intro hs
    cases y with
    | v u => cases h with | v _ h1 => exact .d _ _ (.v _ h1)
    | sl xs => grind [V.scal]
    | ifc t ag cs => grind [V.scal]
  | bp h off b e => simp [V.scal]
  | rv h x e e1 => simp [V.scal]
  | ep h k i j b o n c e => simp [V.scal]
  | rp b off cs f hb hlt hc hr => simp [V.scal]
  | sv h n b cap e hc hx => simp [V.scal]
  | clo fn first caps cf cc s1 s2 h1 h2 ih1 ih2 => simp [V.scal]
  | agg vs cs hs h1 h ih =>
    intro hsc
    exact .agg vs cs hs h1 (fun j x y hx hy => ih j x y hx hy (scals_mem hsc y (List.mem_of_getElem? hy)))
  | tup vs cs hs h ih =>
    intro hsc
    exact .tup vs cs hs (fun j x y hx hy => ih j x y hx hy (scals_mem hsc y (List.mem_of_getElem? hy)))
  | gt x y h ih => simp [V.scal]
  | gf y => simp [V.scal]
  | kn x Q h => simp [V.scal]
  | any x => simp [V.scal]
theorem OpT.lend {o} {c} {ρa} {f} {args} {x} (hop : o.op = .call c) (hc : callee ρa c = some (f, args)) (he : enters P f = true) (ho : V.ons [] (V.fzs L args) = true) (hx : x.scal = true)
    (h : ACalls P f (V.fzs L args) [] (fun r _ => r = .ret x)) : OpT P o ρa L x := by
  intro fo m ρ w hi hr
  obtain ⟨xs, h1, h2⟩ := call_enters  hop hc he hr
  refine .inr ⟨f, xs, h1, ?_⟩
  have hrel : RelVs w (OO fo noneM) noneM xs (V.fzs L args) := by
    refine ⟨by rw [fzs_len]; exact h2.1, fun j v y hv hy => ?_⟩
    have hyo := ons_mem ho y (List.mem_of_getElem? hy)
    rw [fzs_get] at hy
    obtain ⟨z, hz, rfl⟩ := Option.map_eq_some_iff.1 hy
    exact (fz_rel hi (h2.2 j v z hv hz) hyo).mono (Keep.refl w _) (fun b _ hb => hb.elim (fun h => (noneM_own b h).elim) id) (fun _ _ e => e)
  refine (h fo noneM w xs (hi.none_ fun b hb => .inr hb) hrel).mono ?_
  rintro e w' ⟨m1, r, L', rfl, he', hi', st⟩
  cases e with
  | returned v =>
    exact ⟨v, rfl, scal_rel he' hx, hi.grown st.size (fun b hb => st.block b hb (noneM_own b)), ⟨st.os, st.tape, st.output, st.size, fun b hb _ => st.block b hb (noneM_own b), fun b hb h => h⟩⟩
  | panicked ch => simp_all [Ends]
  | outgrown => simp_all [Ends]
theorem frame {L L1 L2 : Heap} {fo : FO} {m : Nat → Option Value} {w : World} (hi : Inv fo m L w) (hL : L.Perm (L1 ++ L2)) (hon : L1.all (fun p => Res.on (keys L1) p.2) = true)
    (hL2 : ∀ p ∈ L2, Res.on (keys L2 ++ (L1.filterMap fun p => match p.2 with | .box (_ + 1) _ _ => some p.1 | _ => none)) p.2 = true) :
    ∃ (fo1 : FO) (m1 : Nat → Option Value), (∀ b, OO fo1 m1 b ↔ OO fo m b) ∧ (∀ h x, h ∈ keys L1 → m h = some x → m1 h = some x) ∧ Inv fo1 m1 L1 w ∧
      ∀ (w' : World) (m1' : Nat → Option Value) (L1' : Heap), Inv fo1 m1' L1' w' → Step w (own m1) w' (own m1') → (∀ k ∈ keys L1', k ∉ keys L2) → (∀ k b ty cs, (k, Res.box (b + 1) ty cs) ∈ L1 → ∃ ty' cs', (k, Res.box (b + 1) ty' cs') ∈ L1') →
        ∃ mm : Nat → Option Value, Inv fo mm (L1' ++ L2) w' ∧ Step w (own m) w' (own mm) ∧ (∀ h y, m1' h = some y → mm h = some y) ∧ (∀ b, OO fo mm b ↔ OO fo1 m1' b) ∧
          (∀ h y, h ∈ keys L2 ++ (L1.filterMap fun p => match p.2 with | .box (_ + 1) _ _ => some p.1 | _ => none) → m h = some y → mm h = some y) ∧ Keep w (OO fo m) w' ∧ (∀ b, b < w.heap.size → OO fo mm b → OO fo m b) := by
  classical
  have hkeys : ∀ x, x ∈ keys L ↔ x ∈ keys L1 ∨ x ∈ keys L2 := by
    intro x
    have : (keys L).Perm (keys (L1 ++ L2)) := hL.map _
    rw [this.mem_iff]
    simp [keys]
  have hnd : (keys L1).Nodup ∧ (keys L2).Nodup ∧ ∀ x, x ∈ keys L1 → x ∉ keys L2 := by
    have hp : (keys L).Perm (keys L1 ++ keys L2) := by simpa [keys] using hL.map (·.1)
    have := hp.nodup_iff.1 hi.nodup
    rw [List.nodup_append] at this
    exact ⟨this.1, this.2.1, fun x h1 h2 => this.2.2 x h1 x h2 rfl⟩
  let m1 : Nat → Option Value := fun h => if h ∈ keys L1 then m h else none
  let m2 : Nat → Option Value := fun h => if h ∈ keys L2 then m h else none
  have hm1 : ∀ h x, m1 h = some x → m h = some x ∧ h ∈ keys L1 := by
    intro h x hx
    by_cases hh : h ∈ keys L1
    · simp only [m1, if_pos hh] at hx; exact ⟨hx, hh⟩
    · simp only [m1, if_neg hh] at hx; cases hx
  have hm2 : ∀ h x, m2 h = some x → m h = some x ∧ h ∈ keys L2 := by
    intro h x hx
    by_cases hh : h ∈ keys L2
    · simp only [m2, if_pos hh] at hx; exact ⟨hx, hh⟩
    · simp only [m2, if_neg hh] at hx; cases hx
  have hm1' : ∀ h x, h ∈ keys L1 → m h = some x → m1 h = some x := fun h x hh hx => by simp only [m1, if_pos hh]; exact hx
  have hm2' : ∀ h x, h ∈ keys L2 → m h = some x → m2 h = some x := fun h x hh hx => by simp only [m2, if_pos hh]; exact hx
  let fo1 : FO := fun b => fo b ∨ own m2 b
  have hown : ∀ b, own m b ↔ own m1 b ∨ own m2 b := by
    intro b
    constructor
    · rintro ⟨h, x, hx, hb⟩
      rcases (hkeys h).1 (hi.dom h x hx) with hh | hh
      · exact .inl ⟨h, x, hm1' h x hh hx, hb⟩
      · exact .inr ⟨h, x, hm2' h x hh hx, hb⟩
    · rintro (⟨h, x, hx, hb⟩ | ⟨h, x, hx, hb⟩)
      · exact ⟨h, x, (hm1 h x hx).1, hb⟩
      · exact ⟨h, x, (hm2 h x hx).1, hb⟩
  have hOO : ∀ b, OO fo1 m1 b ↔ OO fo m b := by
    intro b
    unfold OO
    rw [hown b]
    constructor
    · rintro (h | h | h)
      · exact .inl (.inl h)
      · exact .inr h
      · exact .inl (.inr h)
    · rintro ((h | h) | h)
      · exact .inl h
      · exact .inr (.inr h)
      · exact .inr (.inl h)
  have hi1 : Inv fo1 m1 L1 w := by
    refine ⟨hnd.1, fun h x hx => (hm1 h x hx).2, ?_, ?_, ?_, ?_, hi.glob.mono (Keep.refl w _) (fun b _ hb => (hOO b).1 hb)⟩
    · intro h h' x x' b hx hx' hb hb'
      exact hi.apart h h' x x' b (hm1 h x hx).1 (hm1 h' x' hx').1 hb hb'
    · rintro h x b hx hb (hf | ⟨h', x', hx', hb'⟩)
      · exact hi.others h x b (hm1 h x hx).1 hb hf
      · have := hi.apart h h' x x' b (hm1 h x hx).1 (hm2 h' x' hx').1 hb hb'
        subst this
        exact hnd.2.2 h (hm1 h x hx).2 (hm2 h x' hx').2
    · rintro b (hf | ⟨h', x', hx', hb'⟩)
      · exact hi.folt b hf
      · exact hi.lt (hm2 h' x' hx').1 hb'
    · intro h r hr
      obtain ⟨x, hx, hh⟩ := hi.holds h r (hL.mem_iff.2 (List.mem_append_left _ hr))
      have hk : h ∈ keys L1 := List.mem_map.2 ⟨_, hr, rfl⟩
      rw [List.all_eq_true] at hon
      exact ⟨x, hm1' h x hk hx, (hh.on hm1' (hon _ hr)).mono (fun _ _ => rfl) (Keep.refl w _) (fun b _ hb => (hOO b).1 hb) (fun _ _ e => e)⟩
  refine ⟨fo1, m1, hOO, hm1', hi1, ?_⟩
  intro w' m1' L1' hi' st' hdis hbox
  let mm : Nat → Option Value := fun h => if h ∈ keys L1' then m1' h else m2 h
  have hmm1 : ∀ h y, m1' h = some y → mm h = some y := fun h y hy => by simp only [mm, if_pos (hi'.dom h y hy)]; exact hy
  have hmm2 : ∀ h y, m2 h = some y → mm h = some y := by
    intro h y hy
    have : h ∉ keys L1' := fun hh => hdis h hh (hm2 h y hy).2
    simp only [mm, if_neg this]; exact hy
  have hmmi : ∀ h y, mm h = some y → (m1' h = some y ∧ h ∈ keys L1') ∨ (m2 h = some y ∧ h ∉ keys L1') := by
    intro h y hy
    by_cases hh : h ∈ keys L1'
    · simp only [mm, if_pos hh] at hy; exact .inl ⟨hy, hh⟩
    · simp only [mm, if_neg hh] at hy; exact .inr ⟨hy, hh⟩
  have hownm : ∀ b, own mm b ↔ own m1' b ∨ own m2 b := by
    intro b
    constructor
    · rintro ⟨h, y, hy, hb⟩
      rcases hmmi h y hy with ⟨hy, _⟩ | ⟨hy, _⟩
      · exact .inl ⟨h, y, hy, hb⟩
      · exact .inr ⟨h, y, hy, hb⟩
    · rintro (⟨h, y, hy, hb⟩ | ⟨h, y, hy, hb⟩)
      · exact ⟨h, y, hmm1 h y hy, hb⟩
      · exact ⟨h, y, hmm2 h y hy, hb⟩
  have hOOm : ∀ b, OO fo mm b ↔ OO fo1 m1' b := by
    intro b
    unfold OO
    rw [hownm b]
    constructor
    · rintro ((h | h) | h)
      · exact .inl h
      · exact .inr (.inr h)
      · exact .inr (.inl h)
    · rintro (h | h | h)
      · exact .inl (.inl h)
      · exact .inr h
      · exact .inl (.inr h)
  have hO' : ∀ b, b < w.heap.size → OO fo mm b → OO fo m b := by
    intro b hb ho'
    rcases (hOOm b).1 ho' with h | h | h
    · exact .inl ((hown b).2 (.inl (st'.owned b hb h)))
    · exact .inr h
    · exact .inl ((hown b).2 (.inr h))
  have hkeep : Keep w (OO fo m) w' := ⟨st'.size, fun b hb hno => st'.block b hb (fun h => hno (.inl ((hown b).2 (.inl h))))⟩
  have hboxm : ∀ h y, h ∈ keys L2 ++ (L1.filterMap fun p => match p.2 with | .box (_ + 1) _ _ => some p.1 | _ => none) → m h = some y → mm h = some y := by
    intro h y hh hy
    rcases List.mem_append.1 hh with hh | hh
    · exact hmm2 h y (hm2' h y hh hy)
    · obtain ⟨p, hp, hpe⟩ := List.mem_filterMap.1 hh
      obtain ⟨q, r⟩ := p
      cases r with
      | row ty k xs => simp at hpe
      | env A => simp at hpe
      | mp es => simp at hpe
      | box b0 ty cs =>
        cases b0 with
        | zero => simp at hpe
        | succ b =>
        simp only [Option.some.injEq] at hpe
        subst hpe
        obtain ⟨ty', cs', hb'⟩ := hbox q b ty cs hp
        obtain ⟨z, hz, hzh⟩ := hi'.holds q _ hb'
        obtain ⟨bb1, hb1, cur', e1, _⟩ := hzh
        obtain ⟨u, hu, huh⟩ := hi1.holds q _ hp
        obtain ⟨bb2, hb2, cur, e2, _⟩ := huh
        obtain rfl : bb1 = b := by omega
        obtain rfl : bb2 = bb1 := by omega
        have := (hm1 q u hu).1
        rw [hy] at this
        obtain rfl := Option.some.inj this
        rw [e2, ← e1]
        exact hmm1 q z hz
  have hinv : Inv fo mm (L1' ++ L2) w' := by
    refine ⟨?_, ?_, ?_, ?_, fun b hf => Nat.lt_of_lt_of_le (hi.folt b hf) st'.size, ?_, hi.glob.mono hkeep hO'⟩
    · show (keys (L1' ++ L2)).Nodup
      rw [show keys (L1' ++ L2) = keys L1' ++ keys L2 by simp [keys], List.nodup_append]
      exact ⟨hi'.nodup, hnd.2.1, fun x h1 y h2 e => hdis x h1 (by rw [e]; exact h2)⟩
    · intro h y hy
      show h ∈ keys (L1' ++ L2)
      rw [show keys (L1' ++ L2) = keys L1' ++ keys L2 by simp [keys]]
      rcases hmmi h y hy with ⟨_, hh⟩ | ⟨hy, _⟩
      · exact List.mem_append_left _ hh
      · exact List.mem_append_right _ (hm2 h y hy).2
    · intro h h' y y' b hy hy' hb hb'
      rcases hmmi h y hy with ⟨hy, _⟩ | ⟨hy, _⟩ <;> rcases hmmi h' y' hy' with ⟨hy', _⟩ | ⟨hy', _⟩
      · exact hi'.apart h h' y y' b hy hy' hb hb'
      · exact (hi'.others h y b hy hb (.inr ⟨h', y', hy', hb'⟩)).elim
      · exact (hi'.others h' y' b hy' hb' (.inr ⟨h, y, hy, hb⟩)).elim
      · exact hi.apart h h' y y' b (hm2 h y hy).1 (hm2 h' y' hy').1 hb hb'
    · intro h y b hy hb hf
      rcases hmmi h y hy with ⟨hy, _⟩ | ⟨hy, _⟩
      · exact hi'.others h y b hy hb (.inl hf)
      · exact hi.others h y b (hm2 h y hy).1 hb hf
    · intro h r hr
      rcases List.mem_append.1 hr with hr | hr
      · obtain ⟨z, hz, hzh⟩ := hi'.holds h r hr
        exact ⟨z, hmm1 h z hz, hzh.mono (fun _ _ => rfl) (Keep.refl w' _) (fun b _ hb => (hOOm b).1 hb) hmm1⟩
      · obtain ⟨z, hz, hzh⟩ := hi.holds h r (hL.mem_iff.2 (List.mem_append_right _ hr))
        have hk : h ∈ keys L2 := List.mem_map.2 ⟨_, hr, rfl⟩
        refine ⟨z, hmm2 h z (hm2' h z hk hz), (hzh.on hboxm (hL2 _ hr)).mono (fun b hb => ?_) hkeep hO' (fun _ _ e => e)⟩
        exact st'.block b (hi.lt hz hb) (fun ho1 => by
          obtain ⟨h', y', hy', hb'⟩ := ho1
          have := hi.apart h h' z y' b hz (hm1 h' y' hy').1 hb hb'
          subst this
          exact hnd.2.2 h (hm1 h y' hy').2 hk)
  have stt : Step w (own m) w' (own mm) := by
    refine ⟨st'.os, st'.tape, st'.output, st'.size, fun b hb hno => st'.block b hb (fun h => hno ((hown b).2 (.inl h))), fun b hb ho' => ?_⟩
    rcases (hownm b).1 ho' with h | h
    · exact (hown b).2 (.inl (st'.owned b hb h))
    · exact (hown b).2 (.inr h)
  exact ⟨mm, hinv, stt, hmm1, hOOm, hboxm, hkeep, hO'⟩
theorem call_core {o : Oper} {c : Call} {f : FuncId} {args : List V} {L1 L2 : Heap} {R : AE → Heap → Prop}
    (hop : o.op = .call c) (hc : callee s.ev c = some (f, args)) (he : enters P f = true) (ho : V.ons (keys L1) args = true) (hL : s.L.Perm (L1 ++ L2)) (hon : L1.all (fun p => Res.on (keys L1) p.2) = true)
    (hL2 : ∀ p ∈ L2, Res.on (keys L2 ++ (L1.filterMap fun p => match p.2 with | .box (_ + 1) _ _ => some p.1 | _ => none)) p.2 = true)
    (h : ACalls P f args L1 R)
    (hstay : ∀ r L1', R r L1' → (∃ x, r = .ret x) ∧ (∀ k ∈ keys L1', k ∉ keys L2) ∧ ∀ k b ty cs, (k, Res.box (b + 1) ty cs) ∈ L1 → ∃ ty' cs', (k, Res.box (b + 1) ty' cs') ∈ L1')
    {fo : FO} {m : Nat → Option Value} {a : Act} {w : World} (g : G fo n m s a w) {next : Act → World → Prop} {Q' : Exit → Act → World → Prop}
    (k : ∀ x L1' mm v w', R (.ret x) L1' → RelV w' (OO fo mm) mm v x → Inv fo mm (L1' ++ L2) w' → Step w (own m) w' (own mm) →
      (∀ h y, h ∈ keys L2 ++ (L1.filterMap fun p => match p.2 with | .box (_ + 1) _ _ => some p.1 | _ => none) → m h = some y → mm h = some y) →
      Keep w (OO fo m) w' → (∀ b, b < w.heap.size → OO fo mm b → OO fo m b) → next (a.put o.dst v) w') : o.wpIn (wr fo.r) 0 P a w next Q' := by
  obtain ⟨xs, h1, h2⟩ := call_enters (P := P) (w := w) (m := m) (O := OO fo m) hop hc he (fun z _ => eval_rel g z)
  obtain ⟨fo1, m1, hOO, hm1', hi1, fin⟩ := frame g.inv hL hon hL2
  refine owp_enter h1 ?_
  refine (h fo1 m1 w xs hi1 ⟨h2.1, fun j v y hv hy => ((h2.2 j v y hv hy).on hm1' (ons_mem ho y (List.mem_of_getElem? hy))).mono (Keep.refl w _) (fun b _ hb => (hOO b).1 hb) (fun _ _ e => e)⟩).mono ?_
  rintro e w' ⟨m1', r, L1', hR, he', hi', st'⟩
  obtain ⟨⟨x, rfl⟩, hdis, hbox⟩ := hstay r L1' hR
  obtain ⟨mm, hinv, stt, hmm1, hOOm, hboxm, hkeep, hO'⟩ := fin w' m1' L1' hi' st' hdis hbox
  cases e <;> simp only [Ends] at he'
  exact k x L1' mm _ w' hR (he'.mono (Keep.refl w' _) (fun b _ hb => (hOOm b).1 hb) hmm1) hinv stt hboxm hkeep hO'
theorem AOps.callG {ops} {o : Oper} {rest} {c} {f} {args} {L1 L2 : Heap} {R} (hg : o.guard = none) (hd : ∀ d, o.dst = some d → d < n)
    (hop : o.op = .call c) (hc : callee s.ev c = some (f, args)) (he : enters P f = true) (ho : V.ons (keys L1) args = true) (hL : s.L.Perm (L1 ++ L2)) (hon : L1.all (fun p => Res.on (keys L1) p.2) = true)
    (hfr : ∀ p ∈ s.fr, V.on (keys L2 ++ (L1.filterMap fun p => match p.2 with | .box (_ + 1) _ _ => some p.1 | _ => none)) p.2 = true)
    (hL2 : ∀ p ∈ L2, Res.on (keys L2 ++ (L1.filterMap fun p => match p.2 with | .box (_ + 1) _ _ => some p.1 | _ => none)) p.2 = true)
    (h : ACalls P f args L1 R)
    (hstay : ∀ r L1', R r L1' → (∃ x, r = .ret x) ∧ (∀ k ∈ keys L1', k ∉ keys L2) ∧ ∀ k b ty cs, (k, Res.box (b + 1) ty cs) ∈ L1 → ∃ ty' cs', (k, Res.box (b + 1) ty' cs') ∈ L1')
    (k : ∀ x L1', R (.ret x) L1' → AOps P n ops rest (St.put { s with L := L1' ++ L2 } o.dst x) Q) : AOps P n ops (o :: rest) s Q := by
  intro fo m0 w0 m a w st g
  unfold wpListIn
  rw [if_pos (by simp [Region.wanted, hg])]
  refine call_core hop hc he ho hL hon hL2 h hstay g fun x L1' mm v w' hR hrx hinv stt hbx hkeep hO' => ?_
  have g' : G fo n mm { s with L := L1' ++ L2 } a w' := ⟨g.size, fun t y hy => by
    obtain ⟨q1, q2⟩ := g.fr t y hy
    exact ⟨q1, (q2.on hbx (hfr _ hy)).mono hkeep hO' (fun _ _ e => e)⟩, hinv, g.defers⟩
  exact k x L1' hR fo m0 w0 mm _ w' (st.trans stt) (g'.put hd hrx)
end
end Go.Ab

namespace Go.Ab
attribute [simp] cellD cellsD V.fz V.fzs V.scal V.scals unD undd
def isBox : Res → Bool
  | .box (_ + 1) _ _ => true
  | _ => false
section
variable {P : Program} {w w' : World} {fo : FO} {m m' : Nat → Option Value} {L : Heap} {n : Nat} {s : St} {a : Act} {Q : AX → St → Prop}
theorem OKCall.pure {f} {args} {x} (he : enters P f = true) (ho : V.ons [] args = true) (hx : x.on [] = true) (h : ACalls P f args [] (fun r _ => r = .ret x)) : OKCall P f args L x :=
  fun _ _ _ hop hc => OpT.call hop hc he ho hx h
attribute [simp] isBox
@[simp] theorem dd_snoc xs x : dd xs ++ [x.map V.d] = dd (xs ++ [x]) := by simp [dd]
end
end Go.Ab

namespace Go.Ab
section
variable {P : Program} {n : Nat} {Q : AX → St → Prop}
def LOp (P : Program) (n : Nat) (ops : Array Oper) (o : Oper) (fr : List (Nat × V)) (L : Heap) (k : Option Nat) (x : V) (L' : Heap) : Prop :=
  ∀ fr2, (∀ t, t ∈ o.looksAt ops → getF t fr2 = getF t fr) → ∀ fo m a w, G fo n m ⟨fr2, L⟩ a w →
    (Region.wanted o (yielded ops a.tmps) = true ∧ ∀ (next : Act → World → Prop) (Q' : Exit → Act → World → Prop),
      (∀ v w' m', RelV w' (OO fo m') m' v x → G fo n m' ⟨killO k fr2, L'⟩ a w' → Step w (own m) w' (own m') → next (a.put o.dst v) w') → o.wpIn (wr fo.r) 0 P a w next Q') ∨
    (Region.wanted o (yielded ops a.tmps) = false ∧ k = none ∧ L' = L ∧ RelV w (OO fo m) m undef x)
theorem LOp.run {o} {fo} {m m'} {a} {w w'} {x} {s'} {nx} {v} (hrun : (execOp a.eval o).run P w = .ok nx w') (hnx : nx = .value v ∨ (nx = .skip ∧ v = undef))
    (hr : RelV w' (OO fo m') m' v x) (g' : G fo n m' s' a w') (st : Step w (own m) w' (own m')) next Q'
    (k : ∀ v w' m', RelV w' (OO fo m') m' v x → G fo n m' s' a w' → Step w (own m) w' (own m') → next (a.put o.dst v) w') : o.wpIn (wr fo.r) 0 P a w next Q' := by
  grind [owp_val]
def lv (P : Program) (ops : Array Oper) (s : St) (o : Oper) : Option (V × Option Nat × Heap × Prop) :=
  match guardV ops s o with
  | some none => match stepL P s o 0 with
    | some (x, s', c) => some (x, killOf s o, s'.L, loudM o = true ∧ c)
    | none => none
  | some (some true) => match stepL P (unO s o) o 0 with
    | some (x, s', c) => some (.gd true x, killOf (unO s o) o, s'.L, loudM o = true ∧ uncs s o.op.operands.toList ∧ c)
    | none => none
  | some (some false) => some (.gd false .any, none, s.L, True)
  | none => none
theorem LOp.of {ops} {o} {s} {x} {k} {L'} {c} (h : lv P ops s o = some (x, k, L', c)) (hc : c) : LOp P n ops o s.fr s.L k x L' := by
  intro fr2 he fo m a w g
  have he' : ∀ z, z ∈ o.op.operands → St.ev ⟨fr2, s.L⟩ z = s.ev z := by
    intro z hz
    cases z with
    | tmp t => simp_all [looks_operand]
    | const v => rfl
    | global g => rfl
    | func f => rfl
  have hs : ∀ t, t ∈ o.looksAt ops → RelV w (OO fo m) m (a.tmps.getD t undef) (s.get t) := by
    intro t ht
    have := get_rel g t
    simp_all
  unfold lv at h
  split at h
  · rename_i hg
    split at h
    · rename_i x' s' c' hst
      simp only [Option.some.injEq, Prod.mk.injEq] at h
      obtain ⟨rfl, rfl, rfl, rfl⟩ := h
      obtain ⟨nx, v, w', m', x1, s1, hrun, hnx, ⟨rfl, rfl⟩, hr, g', st⟩ := stepL_sound0 (n := n) (stepL_frame hc.1 hst fr2 he') hc.2 fo m a w g
      grind [Region.wanted, guardV_none, LOp.run]
    grind
  · rename_i hg
    split at h
    · rename_i x' s' c' hst
      simp only [Option.some.injEq, Prod.mk.injEq] at h
      obtain ⟨rfl, rfl, rfl, rfl⟩ := h
      obtain ⟨hm, hu, hc⟩ := hc
      have hget : ∀ t, t ∈ opSlots o → St.get ⟨fr2, s.L⟩ t = s.get t := by
        intro t ht
        obtain ⟨z, hz, hze⟩ := List.mem_filterMap.1 ht
        have hzt : z = .tmp t := by
          grind
        subst hzt
        exact he' _ (by simpa using hz)
      have hE : unE ⟨fr2, s.L⟩ o = unE s o := by
        unfold unE
        have : ∀ l : List Nat, (∀ t ∈ l, St.get ⟨fr2, s.L⟩ t = s.get t) → (l.filterMap fun t => match St.get ⟨fr2, s.L⟩ t with | .gd _ x => some (t, x) | _ => none) = l.filterMap fun t => match s.get t with | .gd _ x => some (t, x) | _ => none := by
          intro l
          induction l with
          | nil => simp
          | cons t l ih =>
            grind
        exact this _ hget
      have hu2 : uncs ⟨fr2, s.L⟩ o.op.operands.toList := by
        have : ∀ l : List Operand, (∀ z ∈ l, St.ev ⟨fr2, s.L⟩ z = s.ev z) → uncs s l → uncs ⟨fr2, s.L⟩ l := by
          intro l
          induction l with
          | nil => simp
          | cons z l ih =>
            intro hl h
            exact ⟨by rw [hl z List.mem_cons_self]; exact h.1, ih (fun z hz => hl z (List.mem_cons_of_mem _ hz)) h.2⟩
        grind
      have he2 : ∀ z, z ∈ o.op.operands → St.ev ⟨unE s o ++ fr2, s.L⟩ z = (unO s o).ev z := by
        intro z hz
        cases z with
        | const v => rfl
        | global g => rfl
        | func f => rfl
        | tmp t =>
          have ht := he t (looks_operand hz)
          show getF t (unE s o ++ fr2) = getF t (unE s o ++ s.fr)
          generalize unE s o = l
          induction l with
          | nil => exact ht
          | cons p l ih =>
            simp [*]
      have g2 : G fo n m ⟨unE s o ++ fr2, s.L⟩ a w := by
        have := g.unO hu2
        grind [unO]
      obtain ⟨nx, v, w', m', x1, s1, hrun, hnx, ⟨rfl, rfl⟩, hr, g', st⟩ := stepL_sound0 (n := n) (stepL_frame hm hst (unE s o ++ fr2) he2) hc fo m a w g2
      refine .inl ⟨guard_wanted' hs hg, LOp.run (s' := ⟨killO (killOf (unO s o) o) fr2, s'.L⟩) hrun hnx (.gt _ _ hr) ⟨g'.size, fun t y hy => g'.fr t y ?_, g'.inv, g'.defers⟩ st⟩
      grind [killO, List.mem_append_right]
    grind
  · rename_i hg
    simp only [Option.some.injEq, Prod.mk.injEq] at h
    obtain ⟨rfl, rfl, rfl, rfl⟩ := h
    exact .inr ⟨guard_wanted' hs hg, rfl, rfl, .gf _⟩
  grind
abbrev FrM := List (Nat × Nat × V)
theorem LOp.call {ops} {o} {s : St} {c} {f} {args} {L1 L1'} {x} r (hs : List Nat) (hop : o.op = .call c) (h : ACalls P f args L1 (fun r L => r = .ret x ∧ L = L1')) (hc : callee s.ev c = some (f, args)) (hg : o.guard = none)
    (he : enters P f = true) (hL : s.L.filter (fun p => hs.contains p.1) = L1)
    (ho : V.ons (keys L1) args = true ∧ L1.all (fun p => Res.on (keys L1) p.2) = true ∧ L1.all (fun p => (match p.2 with | .box (_ + 1) _ _ => true | _ => p.1 == r)) = true)
    (hb : ∀ k b ty cs, (k, Res.box (b + 1) ty cs) ∈ L1 → ∃ ty' cs', (k, Res.box (b + 1) ty' cs') ∈ L1')
    (hL2 : (s.L.filter fun p => !hs.contains p.1).all (fun p => Res.on (keys (s.L.filter fun p => !hs.contains p.1) ++ (L1.filterMap fun p => match p.2 with | .box (_ + 1) _ _ => some p.1 | _ => none)) p.2) = true)
    (hk : ∀ k ∈ keys L1', k ∉ keys (s.L.filter fun p => !hs.contains p.1)) :
    LOp P n ops o s.fr s.L (some r) x (L1' ++ s.L.filter fun p => !hs.contains p.1) := by
  intro fr2 hlook fo m a w g
  have he' : ∀ z, z ∈ o.op.operands → St.ev ⟨fr2, s.L⟩ z = s.ev z := by
    intro z hz
    cases z with
    | tmp t => simp_all [looks_operand]
    | const v => rfl
    | global g => rfl
    | func f => rfl
  have hperm : s.L.Perm (L1 ++ s.L.filter fun p => !hs.contains p.1) := by subst hL; exact (List.filter_append_perm _ s.L).symm
  refine .inl ⟨by simp [Region.wanted, hg], fun next Q' kk => ?_⟩
  refine call_core (s := ⟨fr2, s.L⟩) hop ?_ he ho.1 hperm ho.2.1 (fun p hp => List.all_eq_true.1 hL2 p hp) h ?_ g fun x' L1'' mm v w' hR hrx hinv stt hbx hkeep hO' => ?_
  · rw [← hc]
    unfold callee
    cases hcal : c.callee with
    | value fo =>
      simp only
      rw [he' fo (by simp_all)]
      have : c.args.toList.map (St.ev ⟨fr2, s.L⟩) = c.args.toList.map s.ev := by
        simp_all
      rw [this]
    | _ => rfl
  · rintro r' L1'' ⟨rfl, rfl⟩
    grind
  · obtain ⟨e, rfl⟩ := hR
    obtain rfl := AE.ret.inj e
    refine kk v w' mm hrx ⟨g.size, fun t y hy => ?_, hinv, g.defers⟩ stt
    unfold killO at hy
    obtain ⟨p, hp, hpe⟩ := List.mem_map.1 hy
    simp only [Prod.mk.injEq] at hpe
    obtain ⟨rfl, rfl⟩ := hpe
    obtain ⟨q1, q2⟩ := g.fr p.1 p.2 hp
    refine ⟨q1, (RelV.kill (m' := mm) (h := r) (fun i y hne hi => hbx i y ?_ hi) q2).mono hkeep hO' (fun _ _ e => e)⟩
    have hkey : i ∈ keys s.L := g.inv.dom i y hi
    obtain ⟨⟨i', res⟩, hmem, rfl⟩ := List.mem_map.1 hkey
    rcases List.mem_append.1 (hperm.mem_iff.1 hmem) with hm | hm
    · refine List.mem_append_right _ (List.mem_filterMap.2 ⟨_, hm, ?_⟩)
      have := List.all_eq_true.1 ho.2.2 _ hm
      cases res with
      | row _ _ _ => grind
      | env _ => grind
      | mp _ => grind
      | box b _ _ =>
        cases b with
        | zero => grind
        | succ b => rfl
    · exact List.mem_append_left _ (List.mem_map.2 ⟨_, hm, rfl⟩)
def killR (ks : List (Option Nat)) (β p : Nat) (x : V) : V := ((ks.take p).drop β).foldl (fun x k => kO k x) x
def frAt (ks : List (Option Nat)) (p : Nat) (fr : FrM) : List (Nat × V) := fr.map fun e => (e.1, killR ks e.2.1 p e.2.2)
def getM (t : Nat) : FrM → Nat × V
  | [] => (0, .any)
  | (k, b, x) :: l => if k = t then (b, x) else getM t l
def delM (t : Nat) : FrM → FrM
  | [] => []
  | (k, b, x) :: l => if k = t then delM t l else (k, b, x) :: delM t l
def putM (fr : FrM) (t : Option Nat) (β : Nat) (x : V) : FrM :=
  match t with
  | none => fr
  | some t => (t, β, x) :: delM t fr
theorem killR_any ks β p : killR ks β p .any = .any := by
  unfold killR
  generalize (ks.take p).drop β = l
  induction l with
  | nil => rfl
  | cons k l ih => rw [List.foldl_cons, show kO k .any = .any by cases k <;> rfl]; exact ih
theorem getF_frAt ks p t : ∀ fr : FrM, getF t (frAt ks p fr) = killR ks (getM t fr).1 p (getM t fr).2
  | [] => (killR_any ks 0 p).symm
  | (k, b, x) :: l => by
    simp  [frAt, getM]
    split
    · rfl
    · exact getF_frAt ks p t l
theorem killR_succ {ks} {β p} (hb : β ≤ p) (hp : p < ks.length) x : killR ks β (p + 1) x = kO (ks.getD p none) (killR ks β p x) := by
  grind [killR, List.take_add_one, List.getElem?_eq_getElem, List.length_take]
theorem killR_self {ks} {β p} (h : p ≤ β) x : killR ks β p x = x := by
  grind [killR, List.drop_eq_nil_of_le, List.length_take]
theorem killR_pre {ks ks'} {β p} (h : p ≤ ks.length) x : killR (ks ++ ks') β p x = killR ks β p x := by
  simp_all [killR, List.take_append_of_le_length]
theorem frAt_pre {ks ks'} {p} (h : p ≤ ks.length) fr : frAt (ks ++ ks') p fr = frAt ks p fr := by
  simp_all [frAt, killR_pre]
theorem getM_delM {t d} (h : t ≠ d) : ∀ l : FrM, getM t (delM d l) = getM t l
  | [] => rfl
  | (k, b, x) :: l => by
    rw [delM, getM]
    split
    · rename_i hk; subst hk; rw [if_neg (fun e => h e.symm)]; exact getM_delM h l
    · rw [getM, getM_delM h l]
theorem getM_put {fr} {o} {β} {x} {t} (h : o ≠ some t) : getM t (putM fr o β x) = getM t fr := by
  cases o with
  | none => rfl
  | some d =>
    have hne : t ≠ d := fun e => h (by rw [e])
    simp_all [putM, getM, getM_delM]
theorem getM_put_same {fr} {β} {x} {t} : getM t (putM fr (some t) β x) = (β, x) := by simp [putM, getM]
theorem mem_delM {t} {p} : ∀ {l}, p ∈ delM t l → p ∈ l ∧ p.1 ≠ t
  | [], h => by cases h
  | (k, b, x) :: l, h => by
    rw [delM] at h
    split at h
    · have := mem_delM h; exact ⟨List.mem_cons_of_mem _ this.1, this.2⟩
    · rcases List.mem_cons.1 h with rfl | h
      · grind
      · have := mem_delM h; exact ⟨List.mem_cons_of_mem _ this.1, this.2⟩
theorem mem_putM {fr} {d} {β} {x} {p} (h : p ∈ putM fr d β x) : (d = some p.1 ∧ p.2 = (β, x)) ∨ (p ∈ fr ∧ d ≠ some p.1) := by
  cases d with
  | none => exact .inr ⟨h, by simp⟩
  | some d =>
    simp  [putM] at h
    rcases h with rfl | h
    · simp
    grind [mem_delM, Option.some.inj]
structure Rec where
  fr : FrM
  x : V
  lo : Nat
  hi : Nat
  loud : Bool
  q : Nat
def Rec.birth (r : Rec) : Nat := if r.loud then r.q + 1 else r.lo
inductive TrM : List (Oper × Option (Nat × Nat)) → FrM → Nat → List Rec → FrM → Nat → Prop
  | nil (fr : FrM) (q : Nat) : TrM [] fr q [] fr q
  | quiet {o : Oper} {rest : List (Oper × Option (Nat × Nat))} {fr : FrM} {q : Nat} {x : V} {lo hi : Nat} {l : List Rec} {fr' : FrM} {q' : Nat} (k : TrM rest (putM fr o.dst lo x) q l fr' q') :
      TrM ((o, some (lo, hi)) :: rest) fr q (⟨fr, x, lo, hi, false, q⟩ :: l) fr' q'
  | loud {o : Oper} {rest : List (Oper × Option (Nat × Nat))} {fr : FrM} {q : Nat} {x : V} {l : List Rec} {fr' : FrM} {q' : Nat} (k : TrM rest (putM fr o.dst (q + 1) x) (q + 1) l fr' q') :
      TrM ((o, none) :: rest) fr q (⟨fr, x, 0, 0, true, q⟩ :: l) fr' q'
theorem TrM.len {l} {fr fr'} {q q'} {tr} (h : TrM l fr q tr fr' q') : tr.length = l.length := by
  induction h with
  | nil => rfl
  | quiet k ih => grind
  | loud k ih => grind
theorem TrM.get_old {l} {fr fr'} {q q'} {tr} (h : TrM l fr q tr fr' q') (t : Nat) : ∀ i r, tr[i]? = some r →
    (∀ (j : Nat) o, j < i → l[j]? = some o → o.1.dst ≠ some t) → getM t r.fr = getM t fr := by
  induction h with
  | nil => simp
  | @quiet o rest fr q x lo hi l fr' q' k ih =>
    intro i r hi hn
    cases i with
    | zero => grind
    | succ i =>
      rw [ih i r hi (fun j o' hj ho => hn (j + 1) o' (by omega) (by grind)), getM_put (hn 0 _ (by omega) rfl)]
  | @loud o rest fr q x l fr' q' k ih =>
    intro i r hi hn
    cases i with
    | zero => grind
    | succ i =>
      rw [ih i r hi (fun j o' hj ho => hn (j + 1) o' (by omega) (by grind)), getM_put (hn 0 _ (by omega) rfl)]
theorem TrM.get_new {l : List (Oper × Option (Nat × Nat))} {fr fr' : FrM} {q q' : Nat} {tr : List Rec} (h : TrM l fr q tr fr' q') (t : Nat) : ∀ (i j : Nat) (r rj : Rec) (o : Oper × Option (Nat × Nat)), tr[i]? = some r → j < i → tr[j]? = some rj → l[j]? = some o → o.1.dst = some t →
    (∀ (j' : Nat) (o' : Oper × Option (Nat × Nat)), j < j' → j' < i → l[j']? = some o' → o'.1.dst ≠ some t) → getM t r.fr = (rj.birth, rj.x) := by
  induction h with
  | nil => intro i j r rj o h; simp at h
  | @quiet o rest fr q x lo hi l fr' q' k ih =>
    intro i j r rj o' hi hji hj ho hd hn
    cases i with
    | zero => omega
    | succ i =>
      simp only [List.getElem?_cons_succ] at hi
      cases j with
      | zero =>
        simp only [List.getElem?_cons_zero, Option.some.injEq] at hj ho
        subst hj; subst ho
        rw [k.get_old t i r hi (fun j' o' hj' ho' => hn (j' + 1) o' (by omega) (by omega) (by simpa using ho'))]
        simp only at hd
        rw [hd]; exact getM_put_same
      | succ j =>
        simp only [List.getElem?_cons_succ] at hj ho
        exact ih i j r rj o' hi (by omega) hj ho hd (fun j' o'' h1 h2 h3 => hn (j' + 1) o'' (by omega) (by omega) (by simpa using h3))
  | @loud o rest fr q x l fr' q' k ih =>
    intro i j r rj o' hi hji hj ho hd hn
    cases i with
    | zero => omega
    | succ i =>
      simp only [List.getElem?_cons_succ] at hi
      cases j with
      | zero =>
        simp only [List.getElem?_cons_zero, Option.some.injEq] at hj ho
        subst hj; subst ho
        rw [k.get_old t i r hi (fun j' o' hj' ho' => hn (j' + 1) o' (by omega) (by omega) (by simpa using ho'))]
        simp only at hd
        rw [hd]; exact getM_put_same
      | succ j =>
        simp only [List.getElem?_cons_succ] at hj ho
        exact ih i j r rj o' hi (by omega) hj ho hd (fun j' o'' h1 h2 h3 => hn (j' + 1) o'' (by omega) (by omega) (by simpa using h3))
theorem TrM.mem {l : List (Oper × Option (Nat × Nat))} {fr fr' : FrM} {q q' : Nat} {tr : List Rec} (h : TrM l fr q tr fr' q') : ∀ p, p ∈ fr' →
    (∃ (j : Nat) (o : Oper × Option (Nat × Nat)) (rj : Rec), l[j]? = some o ∧ o.1.dst = some p.1 ∧ tr[j]? = some rj ∧ p.2 = (rj.birth, rj.x)) ∨ (p ∈ fr ∧ ∀ (j : Nat) (o : Oper × Option (Nat × Nat)), l[j]? = some o → o.1.dst ≠ some p.1) := by
  induction h with
  | nil => intro p hp; exact .inr ⟨hp, by simp⟩
  | @quiet o rest fr q x lo hi l fr' q' k ih =>
    intro p hp
    rcases ih p hp with ⟨j, o', rj, h1, h2, h3, h4⟩ | ⟨h1, h2⟩
    · exact .inl ⟨j + 1, o', rj, by simpa using h1, h2, by simpa using h3, h4⟩
    · rcases mem_putM h1 with ⟨hd, hx⟩ | ⟨h3, h4⟩
      · exact .inl ⟨0, _, _, rfl, hd, rfl, hx⟩
      · refine .inr ⟨h3, fun j o' hj => ?_⟩
        cases j with
        | zero => simp only [List.getElem?_cons_zero, Option.some.injEq] at hj; subst hj; exact h4
        | succ j => simp only [List.getElem?_cons_succ] at hj; exact h2 j o' hj
  | @loud o rest fr q x l fr' q' k ih =>
    intro p hp
    rcases ih p hp with ⟨j, o', rj, h1, h2, h3, h4⟩ | ⟨h1, h2⟩
    · exact .inl ⟨j + 1, o', rj, by simpa using h1, h2, by simpa using h3, h4⟩
    · rcases mem_putM h1 with ⟨hd, hx⟩ | ⟨h3, h4⟩
      · exact .inl ⟨0, _, _, rfl, hd, rfl, hx⟩
      · refine .inr ⟨h3, fun j o' hj => ?_⟩
        cases j with
        | zero => simp only [List.getElem?_cons_zero, Option.some.injEq] at hj; subst hj; exact h4
        | succ j => simp only [List.getElem?_cons_succ] at hj; exact h2 j o' hj
def SemM (P : Program) (n : Nat) (ops : Array Oper) (ks : List (Option Nat)) (Ls : Nat → Heap) (r : Rec) (o : Oper) : Prop :=
  (r.loud = true → r.q < ks.length ∧ LOp P n ops o (frAt ks r.q r.fr) (Ls r.q) (ks.getD r.q none) r.x (Ls (r.q + 1))) ∧
  (r.loud = false → ∀ p, r.lo ≤ p → p ≤ r.hi → YOp P ops o ⟨frAt ks p r.fr, Ls p⟩ r.x)
def addL (xs m : List Nat) : List Nat := xs.foldl (fun m x => if m.contains x then m else x :: m) m
def ancStep (acc : List (List Nat)) (o : Oper) : List Nat := o.after.toList.foldl (fun m e => if Region.binds .any e then addL (e.on :: acc.getD e.on []) m else m) []
def ancs : List Oper → List (List Nat) → List (List Nat)
  | [], acc => acc
  | o :: r, acc => ancs r (acc ++ [ancStep acc o])
def ancOk (l : List Oper) (anc : List (List Nat)) : Bool :=
  l.zipIdx.all fun (o, i) => (anc.getD i []).all fun j => o.after.toList.any fun e => Region.binds .any e && (e.on == j || (anc.getD e.on []).contains j)
def loudsOf (rg : List (Option (Nat × Nat))) : List Nat := rg.zipIdx.filterMap fun p => if p.1.isNone then some p.2 else none
def okGo (anc : List (List Nat)) (lds : List Nat) : List (Oper × Option (Nat × Nat)) → Nat → Nat → Bool
  | [], _, q => lds.length == q
  | (o, none) :: rest, i, q => (lds[q]? == some i) && ((lds.take q).all fun j => (anc.getD i []).contains j) && okGo anc lds rest (i + 1) (q + 1)
  | (_, some (lo, hi)) :: rest, i, q => decide (lo ≤ lds.length) && !lds.contains i && ((lds.take lo).all fun j => (anc.getD i []).contains j) && ((lds.drop hi).all fun j => (anc.getD j []).contains i) && okGo anc lds rest (i + 1) q
def okM (n : Nat) (l : List Oper) (rg : List (Option (Nat × Nat))) : Bool :=
  indep l && dstsOk n l && (rg.length == l.length) && decide (loudsOf rg).Nodup && ancOk l (ancs l []) && okGo (ancs l []) (loudsOf rg) (l.zip rg) 0 0 &&
    l.all fun o => (o.looksAt l.toArray).all fun t => decide (t < n)
theorem okGo_at {anc : List (List Nat)} {lds : List Nat} {l : List (Oper × Option (Nat × Nat))} {fr fr' : FrM} {q q' : Nat} {tr : List Rec} (h : TrM l fr q tr fr' q') : ∀ i0, okGo anc lds l i0 q = true → lds.length = q' ∧
    ∀ (i : Nat) (r : Rec) (o : Oper × Option (Nat × Nat)), tr[i]? = some r → l[i]? = some o →
      (r.loud = true → lds[r.q]? = some (i0 + i) ∧ (∀ j ∈ lds.take r.q, j ∈ anc.getD (i0 + i) [])) ∧
      (r.loud = false → r.lo ≤ lds.length ∧ i0 + i ∉ lds ∧ (∀ j ∈ lds.take r.lo, j ∈ anc.getD (i0 + i) []) ∧ ∀ j ∈ lds.drop r.hi, i0 + i ∈ anc.getD j []) := by
  induction h with
  | nil fr q =>
    intro i0 h
    simp only [okGo, beq_iff_eq] at h
    exact ⟨h, by simp⟩
  | @quiet o rest fr q x lo hi l fr' q' k ih =>
    intro i0 h
    simp only [okGo, Bool.and_eq_true, decide_eq_true_eq, Bool.not_eq_true', List.all_eq_true, List.contains_eq_mem, decide_eq_false_iff_not] at h
    obtain ⟨⟨⟨⟨h1, h2⟩, h3⟩, h4⟩, h5⟩ := h
    obtain ⟨g1, g2⟩ := ih (i0 + 1) h5
    refine ⟨g1, fun i r o' hr ho => ?_⟩
    cases i with
    | zero =>
      simp only [List.getElem?_cons_zero, Option.some.injEq] at hr ho
      subst hr
      exact ⟨(fun h => by cases h), fun _ => ⟨h1, h2, h3, h4⟩⟩
    | succ i =>
      have := g2 i r o' (by simpa using hr) (by simpa using ho)
      rw [show i0 + 1 + i = i0 + (i + 1) by omega] at this
      exact this
  | @loud o rest fr q x l fr' q' k ih =>
    intro i0 h
    simp only [okGo, Bool.and_eq_true, beq_iff_eq, List.all_eq_true, List.contains_eq_mem, decide_eq_true_eq] at h
    obtain ⟨⟨h1, h2⟩, h5⟩ := h
    obtain ⟨g1, g2⟩ := ih (i0 + 1) h5
    refine ⟨g1, fun i r o' hr ho => ?_⟩
    cases i with
    | zero =>
      simp only [List.getElem?_cons_zero, Option.some.injEq] at hr ho
      subst hr; subst ho
      exact ⟨fun _ => ⟨h1, h2⟩, (fun h => by cases h)⟩
    | succ i =>
      have := g2 i r o' (by simpa using hr) (by simpa using ho)
      rw [show i0 + 1 + i = i0 + (i + 1) by omega] at this
      exact this
theorem anc_listed {l : List Oper} {anc : List (List Nat)} (hin : indep l = true) (ha : ancOk l anc = true) {listed : Array Bool}
    (hcl : ∀ (j : Nat) (o : Oper), l[j]? = some o → listed.getD j false = true → ∀ e ∈ o.after, Region.binds .any e = true → listed.getD e.on false = true) :
    ∀ (i : Nat) (o : Oper), l[i]? = some o → (∀ e ∈ o.after, Region.binds .any e = true → listed.getD e.on false = true) → ∀ j ∈ anc.getD i [], listed.getD j false = true := by
  intro i
  induction i using Nat.strongRecOn with
  | _ i ih =>
    intro o hi hr j hj
    unfold ancOk at ha
    rw [List.all_eq_true] at ha
    have := ha (o, i) (by rw [List.mem_zipIdx_iff_getElem?]; exact hi)
    simp only [List.all_eq_true] at this
    have := this j hj
    rw [List.any_eq_true] at this
    obtain ⟨e, he, h⟩ := this
    simp only [Bool.and_eq_true, Bool.or_eq_true, beq_iff_eq, List.contains_eq_mem, decide_eq_true_eq] at h
    obtain ⟨hb, h⟩ := h
    have he' : e ∈ o.after := by simpa using he
    have hle := hr e he' hb
    rcases h with rfl | h
    · exact hle
    · have hlt := (indep_at hin hi).2.1 e he' hb
      have hel : e.on < l.length := by have := (List.getElem?_eq_some_iff.1 hi).1; omega
      exact ih e.on hlt l[e.on] (List.getElem?_eq_getElem hel) (fun e' he' hb' => hcl e.on _ (List.getElem?_eq_getElem hel) hle e' he' hb') j h
end
end Go.Ab

namespace Go.Ab
section
variable {P : Program} {n : Nat} {Q : AX → St → Prop}
structure MidM (fo : FO) (m : Nat → Option Value) (m0 : Nat → Option Value) (w0 : World) (n : Nat) (l : List Oper) (lds : List Nat) (ks : List (Option Nat)) (Ls : Nat → Heap) (fr0 : FrM) (tr : List Rec) (p : Nat) (listed : Array Bool) (a : Act) (w : World) : Prop where
  size : a.tmps.size = n
  defers : a.defers = fo.D
  inv : Inv fo m (Ls p) w
  step : Step w0 (own m0) w (own m)
  lsz : listed.size = l.length
  ple : p ≤ lds.length
  louds : ∀ q j, lds[q]? = some j → (listed.getD j false = true ↔ q < p)
  born : ∀ (j : Nat) (r : Rec), tr[j]? = some r → listed.getD j false = true → r.birth ≤ p
  done : ∀ (j : Nat) (o : Oper) (r : Rec) (d : Nat), l[j]? = some o → tr[j]? = some r → o.dst = some d → listed.getD j false = true → RelV w (OO fo m) m (a.tmps.getD d undef) (killR ks r.birth p r.x)
  todo : ∀ t, (∀ (j : Nat) (o : Oper), l[j]? = some o → o.dst = some t → listed.getD j false = false) → RelV w (OO fo m) m (a.tmps.getD t undef) (killR ks (getM t fr0).1 p (getM t fr0).2)
  rest : ∀ e, e ∈ fr0 → (∀ (j : Nat) (o : Oper), l[j]? = some o → o.dst ≠ some e.1) → RelV w (OO fo m) m (a.tmps.getD e.1 undef) (killR ks e.2.1 p e.2.2)
  closed : ∀ (j : Nat) (o : Oper), l[j]? = some o → listed.getD j false = true → ∀ e ∈ o.after, Region.binds .any e = true → listed.getD e.on false = true
theorem getF_range {f : Nat → V} {rest} {t} : ∀ k b, b ≤ t → t < b + k → getF t ((List.range' b k).map (fun t => (t, f t)) ++ rest) = f t
  | 0, b, h1, h2 => by omega
  | k + 1, b, h1, h2 => by
    rw [List.range'_succ, List.map_cons, List.cons_append, getF]
    split
    · grind
    · exact getF_range k (b + 1) (by omega) (by omega)
theorem killR_rel {ks} {β p} {w} {O} {m} {v} x (h : RelV w O m v x) : RelV w O m v (killR ks β p x) := by
  unfold killR
  generalize (ks.take p).drop β = l
  induction l generalizing x with
  | nil => exact h
  | cons k l ih =>
    refine ih _ ?_
    cases k with
    | none => exact h
    | some i => exact h.kill (fun _ _ _ e => e)
theorem okGo_loud {anc} {lds} {l} {fr fr'} {q q'} {tr} (h : TrM l fr q tr fr' q') : ∀ i0, okGo anc lds l i0 q = true →
    ∀ p j, q ≤ p → lds[p]? = some j → ∃ (i : Nat) (r : Rec), j = i0 + i ∧ tr[i]? = some r ∧ r.loud = true ∧ r.q = p := by
  induction h with
  | nil fr q =>
    simp_all [okGo, beq_iff_eq]
  | @quiet o rest fr q x lo hi l fr' q' k ih =>
    intro i0 h p j hp hj
    simp  [okGo, Bool.and_eq_true] at h
    obtain ⟨i, r, h1, h2, h3, h4⟩ := ih (i0 + 1) h.2 p j hp hj
    exact ⟨i + 1, r, by omega, by grind, h3, h4⟩
  | @loud o rest fr q x l fr' q' k ih =>
    intro i0 h p j hp hj
    simp  [okGo, Bool.and_eq_true] at h
    rcases Nat.lt_or_ge q p with hlt | hge
    · obtain ⟨i, r, h1, h2, h3, h4⟩ := ih (i0 + 1) h.2 p j (by omega) hj
      exact ⟨i + 1, r, by omega, by grind, h3, h4⟩
    · obtain rfl : q = p := by omega
      simp_all
def LOpP (P : Program) (n : Nat) (ops : Array Oper) (o : Oper) (fr : List (Nat × V)) (L : Heap) (y : V) (L' : Heap) : Prop :=
  ∀ fr2, (∀ t, t ∈ o.looksAt ops → getF t fr2 = getF t fr) → ∀ fo m a w, G fo n m ⟨fr2, L⟩ a w →
    Region.wanted o (yielded ops a.tmps) = true ∧ ∀ (next : Act → World → Prop) (Q' : Exit → Act → World → Prop),
      (∀ ch w' m', Chain w' (OO fo m') m' ch y → Inv fo m' L' w' → Step w (own m) w' (own m') → Q' (.panic ch) a w') → o.wpIn (wr fo.r) 0 P a w next Q'
def SemP (P : Program) (n : Nat) (Q : AX → St → Prop) (ops : Array Oper) (dd : Option Nat) (ks : List (Option Nat)) (Ls : Nat → Heap) (r : Rec) (o : Oper) : Prop :=
  (r.loud = true → (∃ q, dd = some q ∧ q < r.q) ∨ (dd = some r.q ∧ ∃ y L', LOpP P n ops o (frAt ks r.q r.fr) (Ls r.q) y L' ∧ Q (.pan y) ⟨[], L'⟩) ∨
    (dd ≠ some r.q ∧ r.q < ks.length ∧ LOp P n ops o (frAt ks r.q r.fr) (Ls r.q) (ks.getD r.q none) r.x (Ls (r.q + 1)))) ∧
  (r.loud = false → ∀ p, r.lo ≤ p → p ≤ r.hi → (∀ q, dd = some q → p ≤ q) → YOp P ops o ⟨frAt ks p r.fr, Ls p⟩ r.x)
theorem any_orderP {dd : Option Nat} {l : List Oper} {rg : List (Option (Nat × Nat))} {lds : List Nat} {ks : List (Option Nat)} {Ls : Nat → Heap} {fr0 frE : FrM} {tr : List Rec} {k : Nat} (hz : rg.length = l.length)
    (ht : TrM (l.zip rg) fr0 0 tr frE k) (hsem : ∀ (i : Nat) (r : Rec) (o : Oper), tr[i]? = some r → l[i]? = some o → SemP P n Q l.toArray dd ks Ls r o) (hin : indep l = true) (hd : dstsOk n l = true) (hnd : lds.Nodup)
    (hanc : ancOk l (ancs l []) = true) (hgo : okGo (ancs l []) lds (l.zip rg) 0 0 = true) (hlk : ∀ o ∈ l, ∀ t ∈ o.looksAt l.toArray, t < n) (hks : ks.length = k) (hdq : ∀ q, dd = some q → q < lds.length) (hq : dd = none → Q .normal ⟨frAt ks k frE, Ls k⟩)
    {fo : FO} {m0 : Nat → Option Value} {w0 : World} (hfr : ∀ e, e ∈ fr0 → e.1 < n) (hf0 : ∀ e, e ∈ fr0 → e.2.1 = 0) :
    ∀ (fuel : Nat) (m : Nat → Option Value) (p : Nat) (listed : Array Bool) (un : List Nat) (a : Act) (w : World), un.length ≤ fuel → (∀ i, i < l.length → listed.getD i false = false → i ∈ un) →
      (∀ q, dd = some q → p ≤ q) → MidM fo m m0 w0 n l lds ks Ls fr0 tr p listed a w → wpAnyIn (wr fo.r) 0 P .any l.toArray (Post fo n m0 w0 Q) fuel listed a w := by
  have hdl : ∀ (i : Nat) (o : Oper) (d : Nat), l[i]? = some o → o.dst = some d → d < n := by
    intro i o d hi ho
    unfold dstsOk at hd
    rw [List.all_eq_true] at hd
    have := hd o (List.mem_of_getElem? hi)
    rw [ho] at this
    simpa using this
  have hzl : (l.zip rg).length = l.length := by rw [List.length_zip]; omega
  have hlen : tr.length = l.length := by rw [ht.len, hzl]
  have htr : ∀ i : Nat, i < l.length → ∃ r : Rec, tr[i]? = some r := fun i hi => ⟨_, List.getElem?_eq_getElem (by omega)⟩
  have hzip : ∀ (i : Nat) (o : Oper), l[i]? = some o → ∃ g, (l.zip rg)[i]? = some (o, g) := by
    intro i o hi
    have hil := (List.getElem?_eq_some_iff.1 hi).1
    refine ⟨rg[i]'(by omega), ?_⟩
    rw [List.getElem?_zip_eq_some]
    exact ⟨hi, List.getElem?_eq_getElem (by omega)⟩
  have hunzip : ∀ (i : Nat) (z : Oper × Option (Nat × Nat)), (l.zip rg)[i]? = some z → l[i]? = some z.1 := by
    intro i z hz'
    exact (List.getElem?_zip_eq_some.1 hz').1
  obtain ⟨hlds, hat0⟩ := okGo_at ht 0 hgo
  have hat : ∀ (i : Nat) (r : Rec) (o : Oper), tr[i]? = some r → l[i]? = some o →
      (r.loud = true → lds[r.q]? = some i ∧ (∀ j ∈ lds.take r.q, j ∈ (ancs l []).getD i [])) ∧
      (r.loud = false → r.lo ≤ lds.length ∧ i ∉ lds ∧ (∀ j ∈ lds.take r.lo, j ∈ (ancs l []).getD i []) ∧ ∀ j ∈ lds.drop r.hi, i ∈ (ancs l []).getD j []) := by
    intro i r o hr ho
    obtain ⟨g, hg⟩ := hzip i o ho
    have := hat0 i r (o, g) hr hg
    simpa using this
  have getM0 : ∀ t, (getM t fr0).1 = 0 := by
    intro t
    clear ht hfr
    induction fr0 with
    | nil => rfl
    | cons e fr ih =>
      obtain ⟨k, b, x⟩ := e
      rw [getM]
      split
      · exact hf0 _ List.mem_cons_self
      · exact ih (fun e he => hf0 e (List.mem_cons_of_mem _ he))
  have hloud : ∀ (q j : Nat), lds[q]? = some j → j < l.length ∧ ∃ r, tr[j]? = some r ∧ r.loud = true ∧ r.q = q := by
    intro q j hj
    obtain ⟨i, r, h1, h2, h3, h4⟩ := okGo_loud ht 0 hgo q j (Nat.zero_le _) hj
    obtain rfl : j = i := by omega
    exact ⟨by have := (List.getElem?_eq_some_iff.1 h2).1; omega, r, h2, h3, h4⟩
  have fin : ∀ (m : Nat → Option Value) (p : Nat) (listed : Array Bool) (a : Act) (w : World), (∀ i, i < l.length → listed.getD i false = true) → (∀ q, dd = some q → p ≤ q) → MidM fo m m0 w0 n l lds ks Ls fr0 tr p listed a w → Post fo n m0 w0 Q .normal a w := by
    intro m p listed a w hall hdp M
    have hpk : p = k := by
      have h1 := M.ple
      rcases Nat.lt_or_ge p lds.length with h | h
      · have hj := M.louds p lds[p] (List.getElem?_eq_getElem h)
        have hmem : lds[p] < l.length := by
          refine Classical.byContradiction fun hn => ?_
          exact hn (hloud p _ (List.getElem?_eq_getElem h)).1
        have := hj.1 (hall _ hmem)
        omega
      · omega
    subst hpk
    have hdn : dd = none := by
      cases hdd : dd with
      | none => rfl
      | some q =>
        have h1 := hdp q hdd
        have h2 := hdq q hdd
        omega
    refine .of m .normal _ (hq hdn) ⟨M.size, ?_, M.inv, M.defers⟩ trivial M.step
    intro t x hx
    obtain ⟨e, he, hex⟩ := List.mem_map.1 hx
    simp only [Prod.mk.injEq] at hex
    obtain ⟨rfl, rfl⟩ := hex
    rcases ht.mem e he with ⟨j, z, r, h1, h2, h3, h4⟩ | ⟨h1, h2⟩
    · have h1' := hunzip j z h1
      refine ⟨hdl j z.1 e.1 h1' h2, ?_⟩
      have := M.done j z.1 r e.1 h1' h3 h2 (hall j (List.getElem?_eq_some_iff.1 h1').1)
      rw [h4]
      exact this
    · exact ⟨hfr _ h1, M.rest _ h1 (fun j o hj => by
        obtain ⟨g, hg⟩ := hzip j o hj
        exact h2 j (o, g) hg)⟩
  have ready_nil : ∀ (listed : Array Bool), listed.size = l.length → Region.ready .any l.toArray listed = [] → ∀ i, i < l.length → listed.getD i false = true := by
    intro listed hsz hr i
    induction i using Nat.strongRecOn with
    | _ i ih =>
      intro hi
      cases hb : listed.getD i false with
      | true => rfl
      | false =>
        exfalso
        have hmem : i ∈ Region.ready .any l.toArray listed := by
          refine mem_ready.2 ⟨by rw [getD_lt (c := false) (by omega)]; exact hb, l[i], by simp [hi], fun e he hbd => ?_⟩
          have := (indep_at hin (List.getElem?_eq_getElem hi)).2.1 e he hbd
          exact ih e.on this (by omega)
        rw [hr] at hmem
        cases hmem
  intro fuel
  induction fuel with
  | zero =>
    intro m p listed un a w hun hall hdp M
    have h0 : ∀ i, i < l.length → listed.getD i false = true := by
      intro i hi
      cases hb : listed.getD i false with
      | true => rfl
      | false => have h9 := hall i hi hb; have h8 : un = [] := List.eq_nil_of_length_eq_zero (by omega); rw [h8] at h9; cases h9
    refine ⟨?_, fin m p listed a w h0 hdp M⟩
    rw [List.eq_nil_iff_forall_not_mem]
    intro j hj
    obtain ⟨h1, o, h2, _⟩ := mem_ready.1 hj
    have hjl : j < l.length := by have := (Array.getElem?_eq_some_iff.1 h2).1; simpa using this
    rw [getD_lt (c := false) (by have := M.lsz; omega)] at h1
    rw [h0 j hjl] at h1
    cases h1
  | succ fuel ih =>
    intro m p listed un a w hun hall hdp M
    refine ⟨fun hr => fin m p listed a w (ready_nil listed M.lsz hr) hdp M, ?_⟩
    intro i hi
    obtain ⟨h1, o, h2, h3⟩ := mem_ready.1 hi
    have hil : i < l.length := by have := (Array.getElem?_eq_some_iff.1 h2).1; simpa using this
    have hio : l[i]? = some o := by simpa using h2
    rw [getD_lt (c := false) (by have := M.lsz; omega)] at h1
    obtain ⟨r, htri⟩ := htr i hil
    obtain ⟨hs1, hs2⟩ := hsem i r o htri hio
    obtain ⟨ha1, ha2⟩ := hat i r o htri hio
    obtain ⟨i1, i2, i3⟩ := indep_at hin hio
    have uniq : ∀ (t : Nat) (j : Nat) (o'' : Oper), l[j]? = some o'' → o''.dst = some t → writes l t = some j := fun t j o'' hj hd => (indep_at hin hj).1 t hd
    have hancs : ∀ j ∈ (ancs l []).getD i [], listed.getD j false = true := anc_listed hin hanc M.closed i o hio h3
    have hancl : ∀ (j : Nat) (oj : Oper), l[j]? = some oj → listed.getD j false = true → ∀ j' ∈ (ancs l []).getD j [], listed.getD j' false = true :=
      fun j oj hoj hb => anc_listed hin hanc M.closed j oj hoj (M.closed j oj hoj hb)
    have hslots : ∀ t, t ∈ o.looksAt l.toArray → RelV w (OO fo m) m (a.tmps.getD t undef) (getF t (frAt ks p r.fr)) := by
      intro t htl
      rw [getF_frAt]
      cases hw : writes l t with
      | none =>
        rw [ht.get_old t i r htri (fun j z _ hj => writes_none hw (hunzip j z hj))]
        exact M.todo t (fun j o'' hj hd => (writes_none hw hj hd).elim)
      | some j =>
        obtain ⟨oj, hoj, hdj⟩ := writes_some hw
        obtain ⟨rj, htrj⟩ := htr j (List.getElem?_eq_some_iff.1 hoj).1
        obtain ⟨gj, hgj⟩ := hzip j oj hoj
        rcases i3 t htl j hw with ⟨hlt, e, he, hb, hon⟩ | ⟨hlt, oj', hoj', e, he, hb, hon⟩
        · rw [ht.get_new t i j r rj (oj, gj) htri hlt htrj hgj hdj (fun j' z hjj _ hj' hd' => by
            have := uniq t j' z.1 (hunzip j' z hj') hd'
            rw [hw] at this
            have := Option.some.inj this
            omega)]
          exact M.done j oj rj t hoj htrj hdj (by rw [← hon]; exact h3 e he hb)
        · rw [ht.get_old t i r htri (fun j' z hj' hz' hd' => by
            have := uniq t j' z.1 (hunzip j' z hz') hd'
            rw [hw] at this
            have := Option.some.inj this
            omega)]
          refine M.todo t (fun j' o'' hj' hd' => ?_)
          have := uniq t j' o'' hj' hd'
          rw [hw] at this
          obtain rfl := Option.some.inj this
          cases hb' : listed.getD j false with
          | false => rfl
          | true =>
            rw [hoj] at hoj'
            obtain rfl := Option.some.inj hoj'
            have := M.closed j oj hoj hb' e he hb
            rw [hon, h1] at this
            cases this
    have hne : ∀ (v : Value) (t : Nat), o.dst ≠ some t → (a.put o.dst v).tmps.getD t undef = a.tmps.getD t undef := by
      intro v t hn
      cases hdd : o.dst with
      | none => rfl
      | some d =>
        have : d ≠ t := fun e => hn (by rw [hdd, e])
        simp [Act.put, Array.getElem?_setIfInBounds_ne this]
    have hset : ∀ j, (listed.setIfInBounds i true).getD j false = true ↔ (j = i ∨ listed.getD j false = true) := by
      intro j
      by_cases hj : j = i
      · subst hj
        have hjs : j < listed.size := by have := M.lsz; omega
        simp [Array.getD, hjs]
      · have : ¬ i = j := fun e => hj e.symm
        simp only [Array.getD_eq_getD_getElem?, Array.getElem?_setIfInBounds_ne this, hj, false_or]
    have next : ∀ (m' : Nat → Option Value) (p' : Nat) (v : Value) (w' : World), p ≤ p' → (∀ q, dd = some q → p' ≤ q) → Inv fo m' (Ls p') w' → Step w (own m) w' (own m') → RelV w' (OO fo m') m' v r.x → r.birth = p' ∨ r.birth ≤ p → (∀ x β, β ≤ p → ∀ u, RelV w (OO fo m) m u (killR ks β p x) → (∃ t, t < n ∧ u = a.tmps.getD t undef ∧ ((∃ (j : Nat) (oj : Oper) (rj : Rec), l[j]? = some oj ∧ tr[j]? = some rj ∧ oj.dst = some t ∧ listed.getD j false = true ∧ x = rj.x ∧ β = rj.birth) ∨ ((∀ (j : Nat) (o : Oper), l[j]? = some o → o.dst = some t → listed.getD j false = false) ∧ x = (getM t fr0).2 ∧ β = (getM t fr0).1) ∨ ((t, β, x) ∈ fr0 ∧ ∀ (j : Nat) (o : Oper), l[j]? = some o → o.dst ≠ some t))) → RelV w' (OO fo m') m' u (killR ks β p' x)) →
        (p' ≤ lds.length) → (∀ q j, lds[q]? = some j → ((listed.setIfInBounds i true).getD j false = true ↔ q < p')) → RelV w' (OO fo m') m' v (killR ks r.birth p' r.x) → wpAnyIn (wr fo.r) 0 P .any l.toArray (Post fo n m0 w0 Q) fuel (listed.setIfInBounds i true) (a.put o.dst v) w' := by
      intro m' p' v w' hpp hdp' hinv hst hv hb hold hple' hlouds' hvk
      refine ih m' p' (listed.setIfInBounds i true) (un.erase i) (a.put o.dst v) w' ?_ ?_ hdp' ?_
      · have hmem := hall i hil h1
        rw [List.length_erase_of_mem hmem]; omega
      · intro j hj hb
        have hnj : ¬ ((listed.setIfInBounds i true).getD j false = true) := by rw [hb]; simp
        rw [hset] at hnj
        have hji : j ≠ i := fun e => hnj (.inl e)
        have hb2 : listed.getD j false = false := by
          cases hx : listed.getD j false with
          | false => rfl
          | true => exact (hnj (.inr hx)).elim
        exact (List.mem_erase_of_ne hji).2 (hall j hj hb2)
      · refine ⟨?_, ?_, hinv, M.step.trans hst, by simpa using M.lsz, hple', hlouds', ?_, ?_, ?_, ?_, ?_⟩
        · cases hdd : o.dst <;> simp [Act.put, M.size]
        · cases hdd : o.dst <;> simp [Act.put, M.defers]
        · intro j rj hrj hbj
          rcases (hset j).1 hbj with rfl | hbj'
          · rw [htri] at hrj
            obtain rfl := Option.some.inj hrj
            rcases hb with h | h <;> omega
          · exact Nat.le_trans (M.born j rj hrj hbj') hpp
        · intro j oj rj d hoj htrj hdj hbj
          by_cases hji : j = i
          · subst hji
            rw [hio] at hoj
            obtain rfl := Option.some.inj hoj
            rw [htri] at htrj
            obtain rfl := Option.some.inj htrj
            have hdn := hdl j o d hio hdj
            have : (a.put o.dst v).tmps.getD d undef = v := by
              have hsz := M.size
              rw [hdj]
              simp [Act.put, Array.getD, hsz, hdn]
            rw [this]; exact hvk
          · have hnd' : o.dst ≠ some d := by
              intro e
              have q1 := uniq d i o hio e
              have q2 := uniq d j oj hoj hdj
              rw [q1] at q2
              exact hji (Option.some.inj q2).symm
            have hbj' := ((hset j).1 hbj).resolve_left hji
            rw [hne v d hnd']
            exact hold _ _ (M.born j rj htrj hbj') _ (M.done j oj rj d hoj htrj hdj hbj') ⟨d, hdl j oj d hoj hdj, rfl, .inl ⟨j, oj, rj, hoj, htrj, hdj, hbj', rfl, rfl⟩⟩
        · intro t hall'
          have hall2 : ∀ (j : Nat) (oj : Oper), l[j]? = some oj → oj.dst = some t → listed.getD j false = false := by
            intro j oj hoj hdj
            have := hall' j oj hoj hdj
            cases hx : listed.getD j false with
            | false => rfl
            | true => have h4 := (hset j).2 (.inr hx); rw [this] at h4; cases h4
          have hnd' : o.dst ≠ some t := by
            intro e
            have := hall' i o hio e
            have h4 := (hset i).2 (.inl rfl)
            rw [this] at h4; cases h4
          rw [hne v t hnd']
          by_cases htn : t < n
          · exact hold _ _ (by rw [getM0]; omega) _ (M.todo t hall2) ⟨t, htn, rfl, .inr (.inl ⟨hall2, rfl, rfl⟩)⟩
          · have : (getM t fr0).2 = .any := by
              have : ∀ fr : FrM, (∀ e ∈ fr, e.1 < n) → (getM t fr).2 = .any := by
                intro fr hf
                induction fr with
                | nil => rfl
                | cons e fr ih' =>
                  obtain ⟨k', b', x'⟩ := e
                  rw [getM]
                  split
                  · rename_i hk
                    have h9 : k' < n := hf (k', b', x') List.mem_cons_self
                    exact absurd (hk ▸ h9) htn
                  · exact ih' (fun e he => hf e (List.mem_cons_of_mem _ he))
              exact this fr0 hfr
            rw [this, killR_any]
            exact .any _
        · intro e he hnw
          rw [hne v e.1 (hnw i o hio)]
          exact hold _ _ (by rw [hf0 e he]; omega) _ (M.rest e he hnw) ⟨e.1, hfr e he, rfl, .inr (.inr ⟨he, hnw⟩)⟩
        · intro j oj hoj hbj e he hbd
          rw [hset]
          rcases (hset j).1 hbj with rfl | hbj'
          · rw [hio] at hoj
            obtain rfl := Option.some.inj hoj
            exact .inr (h3 e he hbd)
          · exact .inr (M.closed j oj hoj hbj' e he hbd)
    unfold wpOpIn
    rw [h2]
    simp only
    cases hlo : r.loud with
    | false =>
      obtain ⟨g1, g2, g3, g4⟩ := ha2 hlo
      have hpl : r.lo ≤ p := by
        refine Classical.byContradiction fun hn => ?_
        have hp1 : p < lds.length := by omega
        have hm : lds[p] ∈ lds.take r.lo := by
          rw [List.mem_take_iff_getElem]
          exact ⟨p, by omega, rfl⟩
        have := (M.louds p _ (List.getElem?_eq_getElem hp1)).1 (hancs _ (g3 _ hm))
        omega
      have hph : p ≤ r.hi := by
        refine Classical.byContradiction fun hn => ?_
        have hp1 : r.hi < lds.length := by have := M.ple; omega
        have hl := hloud r.hi _ (List.getElem?_eq_getElem hp1)
        have hm : lds[r.hi] ∈ lds.drop r.hi := by
          rw [List.mem_drop_iff_getElem]
          exact ⟨0, by omega, by simp⟩
        have hb := (M.louds r.hi _ (List.getElem?_eq_getElem hp1)).2 (by omega)
        have := hancl _ _ (List.getElem?_eq_getElem hl.1) hb i (g4 _ hm)
        rw [h1] at this
        cases this
      have hrun := hs2 hlo p hpl hph hdp fo m a w M.inv hslots (wpAnyIn (wr fo.r) 0 P .any l.toArray (Post fo n m0 w0 Q) fuel (listed.setIfInBounds i true)) (Post fo n m0 w0 Q) (fun v w' hr hi' st => by
        have hkeep : Keep w (OO fo m) w' := ⟨st.size, fun b hb ho => st.block b hb (fun h => ho (.inl h))⟩
        have mono : ∀ {v : Value} {x : V}, RelV w (OO fo m) m v x → RelV w' (OO fo m) m v x := fun h => h.mono hkeep (fun _ _ h => h) (fun _ _ h => h)
        have hbirth : r.birth ≤ p := by unfold Rec.birth; rw [hlo]; exact hpl
        refine next m p v w' (Nat.le_refl _) hdp hi' st hr (.inr hbirth) (fun x β _ u hu _ => mono hu) M.ple (fun q j hq => ?_) ?_
        · rw [hset, ← M.louds q j hq]
          constructor
          · rintro (rfl | h)
            · exact (g2 (List.mem_of_getElem? hq)).elim
            · exact h
          · exact .inr
        · exact killR_rel _ hr)
      split
      · rename_i hw; rw [if_pos hw] at hrun; exact hrun
      · rename_i hw; rw [if_neg hw] at hrun; exact ⟨fun _ _ => trivial, hrun⟩
    | true =>
      obtain ⟨g1, g2⟩ := ha1 hlo
      have hqp : r.q = p := by
        have e1 : ¬ r.q < p := fun h => by
          have := (M.louds r.q i g1).2 h
          rw [h1] at this; cases this
        refine Classical.byContradiction fun hn => ?_
        have hlt : p < r.q := by omega
        have hp1 : p < lds.length := by have := (List.getElem?_eq_some_iff.1 g1).1; omega
        have hm : lds[p] ∈ lds.take r.q := by
          rw [List.mem_take_iff_getElem]
          exact ⟨p, by omega, rfl⟩
        have := (M.louds p _ (List.getElem?_eq_getElem hp1)).1 (hancs _ (g2 _ hm))
        omega
      have hqp' := hqp
      subst hqp
      have hs1' := hs1 hlo
      let cur : Nat → V := fun t => match writes l t with
        | some j => if listed.getD j false = true then (match tr[j]? with | some rj => killR ks rj.birth r.q rj.x | none => .any) else killR ks (getM t fr0).1 r.q (getM t fr0).2
        | none => killR ks (getM t fr0).1 r.q (getM t fr0).2
      have hcur : ∀ t, RelV w (OO fo m) m (a.tmps.getD t undef) (cur t) := by
        intro t
        simp only [cur]
        cases hw : writes l t with
        | none => exact M.todo t (fun j o'' hj hd => (writes_none hw hj hd).elim)
        | some j =>
          obtain ⟨oj, hoj, hdj⟩ := writes_some hw
          obtain ⟨rj, htrj⟩ := htr j (List.getElem?_eq_some_iff.1 hoj).1
          simp only [htrj]
          split
          · rename_i hb; exact M.done j oj rj t hoj htrj hdj hb
          · rename_i hb
            refine M.todo t (fun j' o'' hj' hd' => ?_)
            have := uniq t j' o'' hj' hd'
            rw [hw] at this
            obtain rfl := Option.some.inj this
            simpa using hb
      let base : List (Nat × V) := (fr0.filter fun e => (writes l e.1).isNone).map fun e => (e.1, killR ks e.2.1 r.q e.2.2)
      let fr2 : List (Nat × V) := (List.range' 0 n).map (fun t => (t, cur t)) ++ base
      have hget : ∀ t, t < n → getF t fr2 = cur t := fun t ht' => getF_range n 0 (Nat.zero_le _) (by omega)
      have g2' : G fo n m ⟨fr2, Ls r.q⟩ a w := by
        refine ⟨M.size, ?_, M.inv, M.defers⟩
        intro t x hx
        rcases List.mem_append.1 hx with hx | hx
        · obtain ⟨t', ht', e⟩ := List.mem_map.1 hx
          simp only [Prod.mk.injEq] at e
          obtain ⟨rfl, rfl⟩ := e
          have : t' < n := by have := List.mem_range'.1 ht'; obtain ⟨_, _, _⟩ := this; omega
          exact ⟨this, hcur t'⟩
        · obtain ⟨e, he, hex⟩ := List.mem_map.1 hx
          simp only [Prod.mk.injEq] at hex
          obtain ⟨rfl, rfl⟩ := hex
          obtain ⟨he1, he2⟩ := List.mem_filter.1 he
          have hwn : writes l e.1 = none := by simpa using he2
          exact ⟨hfr e he1, M.rest e he1 (fun j oj hj => writes_none hwn hj)⟩
      have hlook : ∀ t, t ∈ o.looksAt l.toArray → getF t fr2 = getF t (frAt ks r.q r.fr) := by
        intro t htl
        rw [hget t (hlk o (List.mem_of_getElem? hio) t htl), getF_frAt]
        simp only [cur]
        cases hw : writes l t with
        | none => rw [ht.get_old t i r htri (fun j z _ hj => writes_none hw (hunzip j z hj))]
        | some j =>
          obtain ⟨oj, hoj, hdj⟩ := writes_some hw
          obtain ⟨rj, htrj⟩ := htr j (List.getElem?_eq_some_iff.1 hoj).1
          obtain ⟨gj, hgj⟩ := hzip j oj hoj
          simp only [htrj]
          rcases i3 t htl j hw with ⟨hlt, e, he, hb, hon⟩ | ⟨hlt, oj', hoj', e, he, hb, hon⟩
          · rw [if_pos (by rw [← hon]; exact h3 e he hb), ht.get_new t i j r rj (oj, gj) htri hlt htrj hgj hdj (fun j' z hjj _ hj' hd' => by
              have := uniq t j' z.1 (hunzip j' z hj') hd'
              rw [hw] at this
              have := Option.some.inj this
              omega)]
          · rw [if_neg, ht.get_old t i r htri (fun j' z hj' hz' hd' => by
              have := uniq t j' z.1 (hunzip j' z hz') hd'
              rw [hw] at this
              have := Option.some.inj this
              omega)]
            intro hb'
            rw [hoj] at hoj'
            obtain rfl := Option.some.inj hoj'
            have := M.closed j oj hoj hb' e he hb
            rw [hon, h1] at this
            cases this
      rcases hs1' with ⟨q, hdd, hlt⟩ | ⟨hdd, y, L', hlopP, hpan⟩ | ⟨hdd, hqk, hlop⟩
      · have := hdp q hdd
        omega
      · obtain ⟨hw, hrun⟩ := hlopP fr2 hlook fo m a w g2'
        rw [if_pos hw]
        refine hrun _ _ fun ch w' m' hch hi' st => ?_
        exact .of m' (.pan y) ⟨[], L'⟩ hpan ⟨M.size, by simp, hi', M.defers⟩ hch (M.step.trans st)
      have fin : ∀ (m' : Nat → Option Value) (v : Value) (w' : World), RelV w' (OO fo m') m' v r.x → G fo n m' ⟨killO (ks.getD r.q none) fr2, Ls (r.q + 1)⟩ a w' → Step w (own m) w' (own m') → wpAnyIn (wr fo.r) 0 P .any l.toArray (Post fo n m0 w0 Q) fuel (listed.setIfInBounds i true) (a.put o.dst v) w' := by
       intro m' v w' hr g' st
       exact next m' (r.q + 1) v w' (by omega) (fun q hq => by have h1 := hdp q hq; have h2 : q ≠ r.q := fun e => hdd (by rw [hq, e]); omega) g'.inv st hr (.inl (by unfold Rec.birth; rw [hlo]; rfl)) (by
        intro x β hβ u hu ⟨t, htn, hut, hwhich⟩
        rw [killR_succ hβ hqk]
        subst hut
        have hmem : ∀ y, (t, y) ∈ fr2 → RelV w' (OO fo m') m' (a.tmps.getD t undef) (kO (ks.getD r.q none) y) := by
          intro y hy
          exact (g'.fr t _ (List.mem_map.2 ⟨(t, y), hy, rfl⟩)).2
        have hcurm : (t, cur t) ∈ fr2 := List.mem_append_left _ (List.mem_map.2 ⟨t, List.mem_range'.2 ⟨t, by omega, by omega⟩, rfl⟩)
        rcases hwhich with ⟨j, oj, rj, hoj, htrj, hdj, hb, rfl, rfl⟩ | ⟨hall2, rfl, rfl⟩ | ⟨he, hnw⟩
        · have hw := uniq t j oj hoj hdj
          have : cur t = killR ks rj.birth r.q rj.x := by simp only [cur, hw, if_pos hb, htrj]
          rw [← this]; exact hmem _ hcurm
        · have : cur t = killR ks (getM t fr0).1 r.q (getM t fr0).2 := by
            simp only [cur]
            cases hw : writes l t with
            | none => rfl
            | some j =>
              obtain ⟨oj, hoj, hdj⟩ := writes_some hw
              simp [hall2 j oj hoj hdj]
          rw [← this]; exact hmem _ hcurm
        · refine hmem _ (List.mem_append_right _ (List.mem_map.2 ⟨(t, β, x), List.mem_filter.2 ⟨he, ?_⟩, rfl⟩))
          cases hw : writes l t with
          | none => simp [hw]
          | some j =>
            obtain ⟨oj, hoj, hdj⟩ := writes_some hw
            exact (hnw j oj hoj hdj).elim)
        (by have := (List.getElem?_eq_some_iff.1 g1).1; omega) (fun q j hq => by
          rw [hset, M.louds q j hq]
          constructor
          · rintro (rfl | h)
            · have e1 := List.getElem?_eq_some_iff.1 hq
              have e2 := List.getElem?_eq_some_iff.1 g1
              have := (List.getElem_inj hnd).1 (e1.2.trans e2.2.symm)
              omega
            · omega
          · intro h
            rcases Nat.lt_or_ge q r.q with h' | h'
            · exact .inr h'
            · obtain rfl : q = r.q := by omega
              rw [g1] at hq
              exact .inl (Option.some.inj hq).symm)
        (by rw [killR_self (by unfold Rec.birth; rw [hlo]; exact Nat.le_refl _)]; exact hr)
      rcases hlop fr2 hlook fo m a w g2' with ⟨hw, hrun⟩ | ⟨hw, hk0, hL0, hr⟩
      · rw [if_pos hw]
        exact hrun _ _ fun v w' m' hr g' st => fin m' v w' hr g' st
      · rw [if_neg (by rw [hw]; simp)]
        refine ⟨fun _ _ => trivial, fin m undef w hr ?_ (Step.refl w _)⟩
        rw [hk0, hL0, killO_none]
        exact g2'
theorem midM_start {fo : FO} {m : Nat → Option Value} {l : List Oper} {s : St} {a : Act} {w : World} {lds : List Nat} {ks : List (Option Nat)} {Ls : Nat → Heap} {tr : List Rec} (g : G fo n m s a w) (k : Nat) (hL : Ls 0 = s.L) :
    MidM fo m m w n l lds ks Ls (s.fr.map fun e => (e.1, 0, e.2)) tr 0 (Array.replicate l.length false) a { w with drawn := k } := by
  have st : Step w (own m) { w with drawn := k } (own m) := ⟨rfl, rfl, rfl, Nat.le_refl _, fun _ _ _ => rfl, fun _ _ h => h⟩
  have mono : ∀ {v : Value} {x : V}, RelV w (OO fo m) m v x → RelV { w with drawn := k } (OO fo m) m v x := fun h => h.mono st.keep (fun _ _ h => h) (fun _ _ h => h)
  have hfalse : ∀ j, (Array.replicate l.length false).getD j false = false := by intro j; simp [Array.getD]
  refine ⟨g.size, g.defers, by rw [hL]; exact g.inv.grown (Nat.le_refl _) (fun _ _ => rfl), st, by simp, Nat.zero_le _, ?_, ?_, ?_, ?_, ?_, ?_⟩
  · intro q j _; rw [hfalse]; simp
  · intro j r _ hb; rw [hfalse] at hb; cases hb
  · intro j o r d _ _ _ hb; rw [hfalse] at hb; cases hb
  · intro t _
    rw [killR_self (Nat.zero_le _)]
    have : (getM t (s.fr.map fun e => (e.1, 0, e.2))).2 = s.get t := by
      unfold St.get
      generalize s.fr = fr
      induction fr with
      | nil => rfl
      | cons e fr ih =>
        obtain ⟨k, x⟩ := e
        simp only [List.map_cons, getM, getF]
        split
        · rfl
        · exact ih
    rw [this]
    exact mono (get_rel g t)
  · intro e he _
    obtain ⟨x, hx, rfl⟩ := List.mem_map.1 he
    rw [killR_self (Nat.zero_le _)]
    exact mono (g.fr x.1 x.2 hx).2
  · intro j o _ hb; rw [hfalse] at hb; cases hb
theorem any_startP {dd : Option Nat} {l : List Oper} {s : St} {rg : List (Option (Nat × Nat))} {ks : List (Option Nat)} {Ls : Nat → Heap} {frE : FrM} {tr : List Rec} (ok : okM n l rg = true) (ht : TrM (l.zip rg) (s.fr.map fun e => (e.1, 0, e.2)) 0 tr frE ks.length)
    (hsem : ∀ (i : Nat) (r : Rec) (z : Oper × Option (Nat × Nat)), tr[i]? = some r → (l.zip rg)[i]? = some z → SemP P n Q l.toArray dd ks Ls r z.1) (hL : Ls 0 = s.L) (hdq : ∀ q, dd = some q → q < ks.length) (hq : dd = none → Q .normal ⟨frAt ks ks.length frE, Ls ks.length⟩)
    {fo : FO} {m : Nat → Option Value} {a : Act} {w : World} (g : G fo n m s a w) (k : Nat) : wpAnyIn (wr fo.r) 0 P .any l.toArray (Post fo n m w Q) l.length (Array.replicate l.length false) a { w with drawn := k } := by
  simp only [okM, Bool.and_eq_true, beq_iff_eq, decide_eq_true_eq, List.all_eq_true] at ok
  obtain ⟨⟨⟨⟨⟨⟨o1, o2⟩, o3⟩, o4⟩, o5⟩, o6⟩, o7⟩ := ok
  have hlds := (okGo_at ht 0 o6).1
  exact any_orderP o3 ht (fun i r o hr ho => by
      have hil := (List.getElem?_eq_some_iff.1 ho).1
      exact hsem i r (o, rg[i]'(by omega)) hr (by rw [List.getElem?_zip_eq_some]; exact ⟨ho, List.getElem?_eq_getElem (by omega)⟩))
    o1 o2 o4 o5 o6 (fun o ho t ht => by simpa using o7 o ho t ht) rfl (fun q h => by rw [hlds]; exact hdq q h) hq
    (fun e he => by obtain ⟨x, hx, rfl⟩ := List.mem_map.1 he; exact (g.fr x.1 x.2 hx).1) (fun e he => by obtain ⟨x, hx, rfl⟩ := List.mem_map.1 he; rfl)
    l.length m 0 _ (List.range l.length) a _ (by simp) (fun i hi _ => by simpa using hi) (fun q _ => Nat.zero_le _) (midM_start g k hL)
theorem any_startM {l : List Oper} {s : St} {rg : List (Option (Nat × Nat))} {ks : List (Option Nat)} {Ls : Nat → Heap} {frE : FrM} {tr : List Rec} (ok : okM n l rg = true) (ht : TrM (l.zip rg) (s.fr.map fun e => (e.1, 0, e.2)) 0 tr frE ks.length)
    (hsem : ∀ (i : Nat) (r : Rec) (z : Oper × Option (Nat × Nat)), tr[i]? = some r → (l.zip rg)[i]? = some z → SemM P n l.toArray ks Ls r z.1) (hL : Ls 0 = s.L) (hq : Q .normal ⟨frAt ks ks.length frE, Ls ks.length⟩)
    {fo : FO} {m : Nat → Option Value} {a : Act} {w : World} (g : G fo n m s a w) (k : Nat) : wpAnyIn (wr fo.r) 0 P .any l.toArray (Post fo n m w Q) l.length (Array.replicate l.length false) a { w with drawn := k } :=
  any_startP (dd := none) ok ht (fun i r z hr hz => ⟨fun hl => .inr (.inr ⟨by simp, (hsem i r z hr hz).1 hl⟩), fun hl p h1 h2 _ => (hsem i r z hr hz).2 hl p h1 h2⟩) hL (by simp) (fun _ => hq) g k
end
end Go.Ab

namespace Go.Ab
section
variable {P : Program} {n : Nat} {Q : AX → St → Prop}
def qv (P : Program) (ops : Array Oper) (s : St) (o : Oper) : Option (V × Prop) :=
  match guardV ops s o with
  | some none => q2 P s.ev s.L o
  | some (some g) => some (.gd g (gval (q2 P (gρ s o) s.L o)), g = true → gcon (q2 P (gρ s o) s.L o) ∧ gU s o)
  | none => none
def cv (P : Program) (ops : Array Oper) (s : St) (o : Oper) (u : V) : Option (V × Prop) :=
  match guardV ops s o with
  | some none => some (u, CallC P s o u)
  | some (some g) => some (.gd g u, g = true → CallG P s o u)
  | none => none
theorem qv_sound {ops} {s} {o} {x} {c} (h : qv P ops s o = some (x, c)) (hc : c) : YOp P ops o s x := by
  unfold qv at h
  split at h
  · rename_i hg
    exact yop_plain (guardV_none hg) (.of_Q (q2_sound h hc))
  · rename_i g hg
    cases h
    refine yop_guard hg (fun hb => ?_)
    obtain ⟨k1, k2⟩ := hc hb
    obtain ⟨c', h3, h4⟩ := gcon_sound k1
    exact ⟨_, gρ_rel k2, .of_Q (q2_sound h3 h4)⟩
  grind
theorem cv_sound {ops} {s} {o} {u x} {c} (h : cv P ops s o u = some (x, c)) (hc : c) : YOp P ops o s x := by
  unfold cv at h
  split at h
  · grind [yop_plain, guardV_none, CallC.opT]
  · grind [yop_guard, CallG.opT]
  grind
def allP : Nat → Nat → (Nat → Prop) → Prop
  | 0, _, _ => True
  | k + 1, p, f => f p ∧ allP k (p + 1) f
theorem allP_at {f} : ∀ {k p}, allP k p f → ∀ i, p ≤ i → i < p + k → f i
  | 0, p, _, i, h1, h2 => by omega
  | k + 1, p, h, i, h1, h2 => by
    rcases Nat.lt_or_ge p i with hlt | hge
    · exact allP_at h.2 i (by omega) (by omega)
    · obtain rfl : p = i := by omega
      exact h.1
structure Dfr where
  o : Oper
  fr : FrM
  x : V
  lo : Nat
  hi : Nat
  told : Option V
def qAt (P : Program) (ops : Array Oper) (o : Oper) (s : St) (x : V) : Option V → Prop
  | some u => match cv P ops s o u with
    | some (x', c) => x' = x ∧ c
    | none => False
  | none => match qv P ops s o with
    | some (x', c) => x' = x ∧ c
    | none => False
theorem qAt_sound {ops} {s} {o} {x} {t} (h : qAt P ops o s x t) : YOp P ops o s x := by
  cases t with
  | some u =>
    simp  [qAt] at h
    split at h
    · rename_i x' c hc; obtain ⟨rfl, h⟩ := h; exact cv_sound hc h
    grind
  | none =>
    simp  [qAt] at h
    split at h
    · rename_i x' c hc; obtain ⟨rfl, h⟩ := h; exact qv_sound hc h
    grind
def dAll (P : Program) (ops : Array Oper) (ks : List (Option Nat)) (Ls : List Heap) : List Dfr → Prop
  | [] => True
  | d :: ds => allP (d.hi - d.lo) (d.lo + 1) (fun p => qAt P ops d.o ⟨frAt ks p d.fr, Ls.getD p []⟩ d.x d.told) ∧ dAll P ops ks Ls ds
def EffM (P : Program) (ops : Array Oper) (o : Oper) (s : St) (K : V → Option Nat → Heap → Prop) : Prop := ∃ x k L', (∀ n, LOp P n ops o s.fr s.L k x L') ∧ K x k L'
theorem EffM.intro {ops} {o} {s} {K} {x} {k} {L'} (h : ∀ n, LOp P n ops o s.fr s.L k x L') (hk : K x k L') : EffM P ops o s K := ⟨x, k, L', h, hk⟩
def runM (P : Program) (ops : Array Oper) : List (Oper × Option (Nat × Nat)) → FrM → List (Option Nat) → List Heap → List V → List Dfr → (FrM → List (Option Nat) → List Heap → Prop) → Prop
  | [], fr, ks, Ls, _, ds, K => dAll P ops ks Ls ds ∧ K fr ks Ls
  | (o, none) :: rest, fr, ks, Ls, us, ds, K =>
    match lv P ops ⟨frAt ks ks.length fr, Ls.getD ks.length []⟩ o with
    | some (x, k, L', c) => c ∧ runM P ops rest (putM fr o.dst (ks.length + 1) x) (ks ++ [k]) (Ls ++ [L']) us ds K
    | none => EffM P ops o ⟨frAt ks ks.length fr, Ls.getD ks.length []⟩ fun x k L' => runM P ops rest (putM fr o.dst (ks.length + 1) x) (ks ++ [k]) (Ls ++ [L']) us ds K
  | (o, some (lo, hi)) :: rest, fr, ks, Ls, us, ds, K =>
    if isCall o then
      match us with
      | [] => False
      | u :: us' => match cv P ops ⟨frAt ks ks.length fr, Ls.getD ks.length []⟩ o u with
        | some (x, c) => c ∧ allP (ks.length - lo) lo (fun p => qAt P ops o ⟨frAt ks p fr, Ls.getD p []⟩ x (some u)) ∧
            runM P ops rest (putM fr o.dst lo x) ks Ls us' (if ks.length < hi then ⟨o, fr, x, ks.length, hi, some u⟩ :: ds else ds) K
        | none => False
    else
      match qv P ops ⟨frAt ks ks.length fr, Ls.getD ks.length []⟩ o with
      | some (x, c) => c ∧ allP (ks.length - lo) lo (fun p => qAt P ops o ⟨frAt ks p fr, Ls.getD p []⟩ x none) ∧
          runM P ops rest (putM fr o.dst lo x) ks Ls us (if ks.length < hi then ⟨o, fr, x, ks.length, hi, none⟩ :: ds else ds) K
      | none => False
theorem getD_pre {Ls Ls' : List Heap} {p} (h : p < Ls.length) : (Ls ++ Ls').getD p [] = Ls.getD p [] := by
  grind
theorem runM_tr {ops} {K} : ∀ l fr ks Ls us ds, Ls.length = ks.length + 1 → runM P ops l fr ks Ls us ds K →
    ∃ tr frE ks1 Ls1, TrM l fr ks.length tr frE (ks ++ ks1).length ∧ (∀ (i : Nat) r z, tr[i]? = some r → l[i]? = some z → SemM P n ops (ks ++ ks1) (fun p => (Ls ++ Ls1).getD p []) r z.1) ∧
      dAll P ops (ks ++ ks1) (Ls ++ Ls1) ds ∧ K frE (ks ++ ks1) (Ls ++ Ls1)
  | [], fr, ks, Ls, us, ds, hl, h => by
    refine ⟨[], fr, [], [], ?_, by simp, ?_, ?_⟩
    · simp only [List.append_nil]; exact .nil fr ks.length
    · simpa using h.1
    · simpa using h.2
  | (o, none) :: rest, fr, ks, Ls, us, ds, hl, h => by
    have key : ∀ (x : V) (k : Option Nat) (L' : Heap), LOp P n ops o (frAt ks ks.length fr) (Ls.getD ks.length []) k x L' → runM P ops rest (putM fr o.dst (ks.length + 1) x) (ks ++ [k]) (Ls ++ [L']) us ds K →
        ∃ tr frE ks1 Ls1, TrM ((o, none) :: rest) fr ks.length tr frE (ks ++ ks1).length ∧ (∀ (i : Nat) (r : Rec) (z : Oper × Option (Nat × Nat)), tr[i]? = some r → ((o, none) :: rest)[i]? = some z → SemM P n ops (ks ++ ks1) (fun p => (Ls ++ Ls1).getD p []) r z.1) ∧
          dAll P ops (ks ++ ks1) (Ls ++ Ls1) ds ∧ K frE (ks ++ ks1) (Ls ++ Ls1) := by
      intro x k L' hlop hr
      obtain ⟨tr, frE, ks1, Ls1, h1, h2, h3, h4⟩ := runM_tr rest _ _ _ us ds (by grind) hr
      rw [List.append_assoc] at h1 h3 h4
      simp only [List.append_assoc, List.length_append, List.length_cons, List.length_nil] at h1 h2 h3 h4
      refine ⟨⟨fr, x, 0, 0, true, ks.length⟩ :: tr, frE, _, _, .loud (by grind), ?_, h3, h4⟩
      intro i r z hi hz
      cases i with
      | zero =>
        simp only [List.getElem?_cons_zero, Option.some.injEq] at hi hz
        subst hi; subst hz
        refine ⟨fun _ => ⟨by simp, ?_⟩, (fun h => by cases h)⟩
        simp only
        rw [frAt_pre (Nat.le_refl _), getD_pre (by omega)]
        grind
      | succ i => grind
    rw [runM] at h
    split at h
    · rename_i x k L' c hst
      exact key x k L' (LOp.of (n := n) hst h.1) h.2
    · obtain ⟨x, k, L', hlop, hr⟩ := h
      grind
  | (o, some (lo, hi)) :: rest, fr, ks, Ls, us, ds, hl, h => by
    have key : ∀ (x : V) (t : Option V) (us' : List V), YOp P ops o ⟨frAt ks ks.length fr, Ls.getD ks.length []⟩ x → allP (ks.length - lo) lo (fun p => qAt P ops o ⟨frAt ks p fr, Ls.getD p []⟩ x t) →
        runM P ops rest (putM fr o.dst lo x) ks Ls us' (if ks.length < hi then ⟨o, fr, x, ks.length, hi, t⟩ :: ds else ds) K →
        ∃ tr frE ks1 Ls1, TrM ((o, some (lo, hi)) :: rest) fr ks.length tr frE (ks ++ ks1).length ∧ (∀ (i : Nat) (r : Rec) (z : Oper × Option (Nat × Nat)), tr[i]? = some r → ((o, some (lo, hi)) :: rest)[i]? = some z → SemM P n ops (ks ++ ks1) (fun p => (Ls ++ Ls1).getD p []) r z.1) ∧
          dAll P ops (ks ++ ks1) (Ls ++ Ls1) ds ∧ K frE (ks ++ ks1) (Ls ++ Ls1) := by
      intro x t us' hc ha hr
      obtain ⟨tr, frE, ks1, Ls1, h1, h2, h3, h4⟩ := runM_tr rest _ _ _ us' _ hl hr
      have hds : dAll P ops (ks ++ ks1) (Ls ++ Ls1) ds := by
        split at h3
        · exact h3.2
        omega
      refine ⟨⟨fr, x, lo, hi, false, ks.length⟩ :: tr, frE, ks1, Ls1, .quiet h1, ?_, hds, h4⟩
      intro i r z hi' hz
      cases i with
      | zero =>
        simp only [List.getElem?_cons_zero, Option.some.injEq] at hi' hz
        subst hi'; subst hz
        refine ⟨(fun h => by cases h), fun _ p hp1 hp2 => ?_⟩
        simp only at hp1 hp2 ⊢
        rcases Nat.lt_trichotomy p ks.length with hlt | heq | hgt
        · grind [frAt_pre, getD_pre, qAt_sound, allP_at]
        · grind [frAt_pre, getD_pre]
        · rw [if_pos (by omega)] at h3
          exact qAt_sound (allP_at h3.1 p (by grind) (by grind))
      | succ i => grind
    cases hcall : isCall o with
    | true =>
      cases us with
      | nil => simp_all [runM, if_pos]
      | cons u us' =>
        rw [runM, if_pos hcall] at h
        split at h
        · rename_i x c hcv
          exact key x (some u) us' (cv_sound hcv h.1) h.2.1 h.2.2
        grind
    | false =>
      rw [runM.eq_def] at h
      simp only [hcall, Bool.false_eq_true, if_false] at h
      split at h
      · rename_i x c hqv
        exact key x none us (qv_sound hqv h.1) h.2.1 h.2.2
      grind
theorem AWP.regionM0 {id} {l} {s} rg us (hm : P.follows .mixedOrders = true) (ok : okM n l rg = true)
    (h : runM P l.toArray (l.zip rg) (s.fr.map fun e => (e.1, 0, e.2)) [] [s.L] us [] (fun fr ks Ls => Q .normal ⟨frAt ks ks.length fr, Ls.getD ks.length []⟩)) : AWP P n (.region id l.toArray true) s Q := by
  intro fo m a w _ g
  obtain ⟨tr, frE, ks, Ls, h1, h2, -, h4⟩ := runM_tr  (l.zip rg) _ [] [s.L] us [] rfl h
  exact wpIn_region_any hm (any_startM ok h1 h2 rfl h4 g _)
def opnR (bs : Nat → Nat) (h : Nat) : Res → Res
  | .box 0 ty cs => .box (bs h + 1) ty cs
  | r => r
def St.opn (bs : Nat → Nat) (s : St) : St := ⟨s.fr, s.L.map fun p => (p.1, opnR bs p.1 p.2)⟩
@[simp] theorem opnR_row (bs : Nat → Nat) (h : Nat) (ty : TypeId) (k : Nat) (xs : List (List V)) : opnR bs h (.row ty k xs) = .row ty k xs := rfl
@[simp] theorem opnR_box (bs : Nat → Nat) (h b : Nat) (ty : TypeId) (cs : List V) : opnR bs h (.box (b + 1) ty cs) = .box (b + 1) ty cs := rfl
@[simp] theorem opnR_box0 (bs : Nat → Nat) (h : Nat) (ty : TypeId) (cs : List V) : opnR bs h (.box 0 ty cs) = .box (bs h + 1) ty cs := rfl
theorem G.opn {fo} {m} {s} {a} {w} (g : G fo n m s a w) : ∃ bs, G fo n m (s.opn bs) a w := by
  let bs  := fun h => match m h with
    | some (.pointer (some x)) => x.block
    | _ => 0
  have hi := g.inv
  have hk : keys (St.opn bs s).L = keys s.L := by simp [St.opn]
  refine ⟨bs, g.size, g.fr, ⟨by rw [hk]; exact hi.nodup, fun h x hx => by rw [hk]; exact hi.dom h x hx, hi.apart, hi.others, hi.folt, ?_, hi.glob⟩, g.defers⟩
  intro h r hr
  obtain ⟨p, hp, he⟩ := List.mem_map.1 hr
  cases he
  obtain ⟨x, hx, hh⟩ := hi.holds p.1 p.2 hp
  refine ⟨x, hx, ?_⟩
  generalize hq : p.2 = q at hh
  cases q with
  | row ty k xs => exact hh
  | env A => exact hh
  | mp es => exact hh
  | box b ty cs =>
    cases b with
    | succ b => exact hh
    | zero =>
      obtain ⟨bb, _, cur, rfl, h1⟩ := hh
      refine ⟨bb, .inr ?_, cur, rfl, h1⟩
      grind
theorem AWP.opened {c} {s} (h : AWP P n c s (fun x s' => ∀ bs, Q x (s'.opn bs))) : AWP P n c s Q := by
  intro fo m a w hr g
  refine Code.wpIn_mono (fun e a1 w1 hp => ?_) (h fo m a w hr g)
  obtain ⟨ms, m', x, s', hm, hq, g', he, st⟩ := hp
  obtain ⟨bs, g2⟩ := g'.opn
  exact ⟨ms, m', x, s'.opn bs, hm, hq bs, g2, he, st⟩
attribute [simp] St.opn runM lv qv cv qAt dAll allP killOf frAt killR kO putM delM loudM
end
end Go.Ab

namespace Go.Ab
section
variable {P : Program} {n : Nat} {s : St} {L : Heap}
theorem Wk.own' {t h k} {ty} (hg : getF t s.fr = .d (.v (.slice none 0 0))) (hn : h ∉ keys s.L) : Wk n s ⟨(t, .rv h) :: delF t s.fr, (h, .row ty k []) :: s.L⟩ := by
  intro fo m a w g
  obtain ⟨g', st⟩ := g.new (Grows.refl w) hn  (r := .row ty k []) (by simp [blk, blk1]) (.inl ⟨rfl, rfl⟩)
  have hm : (t, getF t s.fr) ∈ s.fr := by
    grind [getF_mem]
  rw [hg] at hm
  refine ⟨_, ⟨g'.size, ?_, g'.inv, g'.defers⟩, st⟩
  intro t' x hx
  simp   at hx
  rcases hx with ⟨rfl, rfl⟩ | hx
  · obtain ⟨h1, h2⟩ := g'.fr t' _ hm
    refine ⟨h1, ?_⟩
    have := h2.v_inv
    rw [this]
    exact .rv h _ (mset_same _ _) rfl
  · exact g'.fr t' x (mem_delF hx).1
def St.pick (ts hs : List Nat) (s : St) : St := ⟨ts.map fun t => (t, getF t s.fr), hs.filterMap fun h => (s.L.lookup h).map fun r => (h, r)⟩
theorem pick_keys (hs : List Nat) (L : Heap) : ∀ x, x ∈ keys (hs.filterMap fun h => (L.lookup h).map fun r => (h, r)) → x ∈ hs := by
  simp_all
theorem pick_nodup (L : Heap) : ∀ hs : List Nat, hs.Nodup → (keys (hs.filterMap fun h => (L.lookup h).map fun r => (h, r))).Nodup
  | [], _ => by simp
  | h :: hs, hn => by
    have hn' := List.nodup_cons.1 hn
    rw [List.filterMap_cons]
    cases hl : L.lookup h with
    | none => exact pick_nodup L hs hn'.2
    | some r =>
      simp only [Option.map_some, keys, List.map_cons, List.nodup_cons]
      exact ⟨fun hm => hn'.1 (pick_keys hs L h hm), pick_nodup L hs hn'.2⟩
theorem Wk.pick ts hs (ht : ts.all (fun t => decide (t < n)) = true) (hh : hs.Nodup) (hon : (s.pick ts hs).on (keys (s.pick ts hs).L) = true) : Wk n s (s.pick ts hs) := by
  intro fo m a w g
  have key : Wk n ⟨(s.pick ts hs).fr ++ s.fr, s.L⟩ (s.pick ts hs) := Wk.drop (fun p hp => List.mem_append_left _ hp) (fun p hp => by
      obtain ⟨h, _, he⟩ := List.mem_filterMap.1 hp
      obtain ⟨r, hr, rfl⟩ := Option.map_eq_some_iff.1 he
      exact lookup_mem hr) (pick_nodup _ _ hh) hon
  refine key fo m a w ⟨g.size, fun t x hx => ?_, g.inv, g.defers⟩
  rcases List.mem_append.1 hx with hx | hx
  · obtain ⟨t', ht', e⟩ := List.mem_map.1 hx
    simp   at e
    obtain ⟨rfl, rfl⟩ := e
    refine ⟨by grind, ?_⟩
    exact get_rel g t'
  · exact g.fr t x hx
attribute [simp] St.pick
@[simp] theorem dd_encI_set l k v : (dd (encI l)).set k [.d (.v (.int .i64 v))] = dd (encI (l.set k v)) := by
  simp [dd, encI]
@[simp] theorem dd_encI_snoc l v : dd (encI l) ++ [[.d (.v (.int .i64 v))]] = dd (encI (l ++ [v])) := by
  simp [dd, encI]
@[simp] theorem dd_lens xs k : (∀ y ∈ dd xs, y.length = k) ↔ ∀ x ∈ xs, x.length = k := by
  simp [dd]
variable {Q : AX → St → Prop} {ops : Array Oper} {us : List V}
@[congr] theorem codeK_cg {c} {s s'} (h : s = s') : codeK P n c s Q = codeK P n c s' Q := by rw [h]
@[congr] theorem AOps_cg {l} {s s'} (h : s = s') : AOps P n ops l s Q = AOps P n ops l s' Q := by rw [h]
@[congr] theorem AWP_cg {c} {s s'} (h : s = s') : AWP P n c s Q = AWP P n c s' Q := by rw [h]
@[congr] theorem runM_cg {l} {fr fr'} {ks ks'} {Ls Ls'} {us us'} {ds ds'} {K}
    (h1 : fr = fr') (h2 : ks = ks') (h3 : Ls = Ls') (h4 : us = us') (h5 : ds = ds') : runM P ops l fr ks Ls us ds K = runM P ops l fr' ks' Ls' us' ds' K := by grind
inductive KI where
  | seq (c : Code)
  | blk (id : Nat)
  | inv (J : St → Prop)
def kontK (P : Program) (n : Nat) (Q : AX → St → Prop) : List KI → AX → St → Prop
  | [] => Q
  | .seq c :: ks => AX.then (fun s => codeK P n c s (kontK P n Q ks)) (kontK P n Q ks)
  | .blk id :: ks => AX.inBlock id (kontK P n Q ks)
  | .inv J :: ks => AX.then J (kontK P n Q ks)
theorem codeK_region {id} {l} {s} : codeK P n (.region id l.toArray false) s Q = (dstsOk n l = true ∧ ∀ bs, runC P l.toArray l s bs [] (KK P n l.toArray Q)) := by rfl
theorem codeK_draw {id} {l : List Oper} {s} : codeK P n (.region id l.toArray true) s Q = AWP P n (.region id l.toArray true) s Q := by rfl
theorem codeK_skip {s} : codeK P n .skip s Q = Q .normal s := by rfl
theorem codeK_seq {x y} {s} {ks} : codeK P n (.seq x y) s (kontK P n Q ks) = codeK P n x s (kontK P n Q (.seq y :: ks)) := by rfl
def condC (P : Program) (n : Nat) (v : V) (x y : Code) (s : St) (Q : AX → St → Prop) : Prop :=
  match v with
  | .d (.v (.bool t)) => (t = true → codeK P n x s Q) ∧ (t = false → codeK P n y s Q)
  | _ => False
@[simp] theorem cB {t} {x y} {s} : condC P n (.d (.v (.bool t))) x y s Q = ((if t = true then codeK P n x s Q else True) ∧ (if t = true then True else codeK P n y s Q)) := by
  cases t <;> simp [condC]
@[simp] theorem condC_t {x y} {s} : condC P n (.d (.v (.bool true))) x y s Q = codeK P n x s Q := by simp
@[simp] theorem condC_f {x y} {s} : condC P n (.d (.v (.bool false))) x y s Q = codeK P n y s Q := by simp
theorem condC_split {t} {x y} {s} (h1 : t = true → codeK P n x s Q) (h2 : t = false → codeK P n y s Q) : condC P n (.d (.v (.bool t))) x y s Q := ⟨h1, h2⟩
theorem codeK_cond {c} {x y} {s} : codeK P n (.cond c x y) s Q = condC P n (s.ev c) x y s Q := by
  rfl
theorem codeK_block {id} {c} {s} {ks} : codeK P n (.block id c) s (kontK P n Q ks) = codeK P n c s (kontK P n Q (.blk id :: ks)) := by rfl
theorem codeK_exit {id} {s} : codeK P n (.exit id) s Q = Q (.exit id) s := by rfl
theorem codeK_ret {s} : codeK P n .ret s Q = Q .ret s := by rfl
theorem codeK_loop {c} {s} : codeK P n (.loop c) s Q = AWP P n (.loop c) s Q := by rfl
attribute [simp] codeK_region codeK_draw codeK_skip codeK_seq codeK_cond codeK_block codeK_exit codeK_ret codeK_loop
variable {ks : List KI}
@[simp] theorem kontK_nil {x : AX} : kontK P n Q [] x s = Q x s := rfl
@[simp] theorem kontK_seq_n {c : Code} : kontK P n Q (.seq c :: ks) .normal s = codeK P n c s (kontK P n Q ks) := rfl
@[simp] theorem kontK_seq_e {c : Code} {i : Nat} : kontK P n Q (.seq c :: ks) (.exit i) s = kontK P n Q ks (.exit i) s := rfl
@[simp] theorem kontK_seq_g {c : Code} {i : Nat} : kontK P n Q (.seq c :: ks) (.goto i) s = kontK P n Q ks (.goto i) s := rfl
@[simp] theorem kontK_seq_r {c : Code} : kontK P n Q (.seq c :: ks) .ret s = kontK P n Q ks .ret s := rfl
@[simp] theorem kontK_seq_p {c : Code} {v : V} : kontK P n Q (.seq c :: ks) (.pan v) s = kontK P n Q ks (.pan v) s := rfl
@[simp] theorem kontK_inv_n {J : St → Prop} : kontK P n Q (.inv J :: ks) .normal s = J s := rfl
@[simp] theorem kontK_inv_e {J : St → Prop} {i : Nat} : kontK P n Q (.inv J :: ks) (.exit i) s = kontK P n Q ks (.exit i) s := rfl
@[simp] theorem kontK_inv_g {J : St → Prop} {i : Nat} : kontK P n Q (.inv J :: ks) (.goto i) s = kontK P n Q ks (.goto i) s := rfl
@[simp] theorem kontK_inv_r {J : St → Prop} : kontK P n Q (.inv J :: ks) .ret s = kontK P n Q ks .ret s := rfl
@[simp] theorem kontK_inv_p {J : St → Prop} {v : V} : kontK P n Q (.inv J :: ks) (.pan v) s = kontK P n Q ks (.pan v) s := rfl
@[simp] theorem kontK_blk_n {i : Nat} : kontK P n Q (.blk i :: ks) .normal s = kontK P n Q ks .normal s := rfl
@[simp] theorem kontK_blk_e {i j} : kontK P n Q (.blk i :: ks) (.exit j) s = if j = i then kontK P n Q ks .normal s else kontK P n Q ks (.exit j) s := by
  rfl
@[simp] theorem kontK_blk_g {i j : Nat} : kontK P n Q (.blk i :: ks) (.goto j) s = kontK P n Q ks (.goto j) s := rfl
@[simp] theorem kontK_blk_r {i : Nat} : kontK P n Q (.blk i :: ks) .ret s = kontK P n Q ks .ret s := rfl
@[simp] theorem kontK_blk_p {i : Nat} {v : V} : kontK P n Q (.blk i :: ks) (.pan v) s = kontK P n Q ks (.pan v) s := rfl
theorem ACalls.run {f} {args} {R} {fn} {c} (hf : P.funcs[f]? = some fn) (hb : fn.body = some c) (hn : args.length ≤ fn.ntmps)
    (h : codeK P fn.ntmps c ⟨argFrame 0 args, L⟩ (kontK P fn.ntmps (FPost P fn.results.toList R) [])) : ACalls P f args L R :=
  ACalls.of_AWP hf hb hn (codeK_sound _ _ _ h)
end
end Go.Ab

namespace Go.Ab
mutual
def V.frz (h : Nat) (y : V) : V → V
  | .bp i o => if i = h then .any else .bp i o
  | .rv i => if i = h then y else .rv i
  | .ep i k a b => if i = h then .any else .ep i k a b
  | .clo fn f c => .clo fn (V.frzs h y f) (V.frzs h y c)
  | .agg cs => .agg (V.frzs h y cs)
  | .tup cs => .tup (V.frzs h y cs)
  | .gd b x => .gd b (V.frz h y x)
  | .d x => .d x
  | .rp cs => .rp cs
  | .sv i n => if i = h then .any else .sv i n
  | .kn Q => .kn Q
  | .any => .any
def V.frzs (h : Nat) (y : V) : List V → List V
  | [] => []
  | x :: l => V.frz h y x :: V.frzs h y l
end
theorem frzs_eq h y : ∀ l : List V, V.frzs h y l = l.map (V.frz h y)
  | [] => by rfl
  | x :: l => by simp [V.frzs, frzs_eq]
@[simp] theorem frzs_dmap h y (l : List D) : V.frzs h y (l.map V.d) = l.map V.d := by
  rw [frzs_eq, List.map_map]
  simp [V.frz]
def Res.frz (h : Nat) (y : V) : Res → Res
  | .box b ty cs => .box b ty (V.frzs h y cs)
  | .row ty k xs => .row ty k (xs.map (V.frzs h y))
  | .env A => .env A
  | .mp es => .mp es
@[simp] theorem map_frzs_dd h y ys : (dd ys).map (V.frzs h y) = dd ys := by
  unfold dd
  simp
section
variable {P : Program} {w w' : World} {fo : FO} {m m' : Nat → Option Value} {L : Heap} {n : Nat} {s : St}
theorem RelV.frz {O O'} {h} {y} (hO : ∀ b, O' b → O b) (hm : ∀ i x, i ≠ h → m i = some x → m' i = some x) (hy : ∀ v, m h = some v → RelV w O' m' v y) {x} {z} (hr : RelV w O m x z) : RelV w O' m' x (V.frz h y z) := by
  induction hr with
  | d x y hd => simpa [V.frz] using RelV.d x y (hd.mono (Keep.refl w _) (fun b _ hb => hO b hb))
  | bp i off b e =>
    simp only [V.frz]
    split
    · exact .any _
    · rename_i hne; exact .bp i off b (hm _ _ hne e)
  | rv i x e e1 =>
    simp only [V.frz]
    split
    · grind
    · rename_i hne; exact .rv i x (hm _ _ hne e) e1
  | ep i k p q b o n c e =>
    simp only [V.frz]
    split
    · exact .any _
    · rename_i hne; exact .ep i k p q b o n c (hm _ _ hne e)
  | rp b off cs f hb hlt hc hr => simpa [V.frz] using RelV.rp (m := m') b off cs f (fun h => hb (hO b h)) hlt hc (fun j y hy => (hr j y hy).mono (Keep.refl w _) (fun b _ hb => hO b hb))
  | sv i n b cap e hc hx =>
    simp only [V.frz]
    split
    · exact .any _
    · rename_i hne; exact .sv i n b cap (hm _ _ hne e) hc hx
  | clo fn first caps cf cc s1 s2 h1 h2 ih1 ih2 =>
    simp only [V.frz, frzs_eq]
    refine .clo fn first caps _ _ (by grind) (by grind) ?_ ?_
    · grind
    grind
  | agg vs cs hs h1 h2 ih =>
    simp only [V.frz, frzs_eq]
    refine .agg vs _ (by grind) h1 ?_
    grind
  | tup vs cs hs h2 ih =>
    simp only [V.frz, frzs_eq]
    refine .tup vs _ (by grind) ?_
    grind
  | gt x y h ih => simpa [V.frz] using RelV.gt _ _ ih
  | gf y => simpa [V.frz] using RelV.gf _
  | kn x Q h => simpa [V.frz] using RelV.kn  x Q h
  | any x => simpa [V.frz] using RelV.any _
theorem Res.Holds.frz {O O'} {h} {y} (hO : ∀ b, O' b → O b) (hm : ∀ i x, i ≠ h → m i = some x → m' i = some x) (hy : ∀ v, m h = some v → RelV w O' m' v y) {x} {r : Res} (hr : r.Holds w O m x) : (r.frz h y).Holds w O' m' x := by
  cases r with
  | box b ty cs =>
    obtain ⟨bb, hbb, cur, rfl, h1, h2, h3, h4⟩ := hr
    refine ⟨bb, hbb, cur, rfl, h1, by simp_all [frzs_eq], h3, fun j v c hv hc => ?_⟩
    rw [frzs_eq, List.getElem?_map] at hc
    obtain ⟨z, hz, rfl⟩ := Option.map_eq_some_iff.1 hc
    exact (h4 j v z hv hz).frz hO hm hy
  | row ty k xs =>
    rcases hr with ⟨h1, h2⟩ | ⟨b, off, cap, cur, rfl, h1, h2, h3, h4, h5, h6, h7⟩
    · exact .inl ⟨h1, by grind⟩
    · refine .inr ⟨b, off, cap, cur, by simp, h1, by grind, h3, h4, ?_, h6, ?_⟩
      · grind [frzs_eq, List.length_map]
      · intro i j x y' v hx hy' hv
        rw [List.getElem?_map] at hx
        obtain ⟨z, hz, rfl⟩ := Option.map_eq_some_iff.1 hx
        rw [frzs_eq, List.getElem?_map] at hy'
        obtain ⟨u, hu, rfl⟩ := Option.map_eq_some_iff.1 hy'
        exact (h7 i j z u v hz hu hv).frz hO hm hy
  | env A => exact A.mono hr (fun _ _ => rfl) (Keep.refl w _) (fun b _ h => hO b h)
  | mp es => exact mapH_mono hr (fun _ _ => rfl) (Keep.refl w _) (fun b _ h => hO b h)
theorem row_data' {O'} (hi : Inv fo m L w) {h k} {ty} {ys} (hl : L.lookup h = some (.row ty k (dd ys))) {v} (hv : m h = some v) (hO : ∀ b, O' b → OO fo m b) (hb' : ∀ b, blk v b → ¬ O' b) : RelD w O' v (.sl ys) := by
  obtain ⟨x, hx, hh⟩ := hi.holds h _ (lookup_mem hl)
  rw [hv] at hx
  obtain rfl := Option.some.inj hx
  rcases hh with ⟨rfl, hy⟩ | ⟨b, off, cap, cur, rfl, hb, h1, h2, h3, h4, h5, h6⟩
  · simp_all [dd, nil_rel]
  · have hlen : (dd ys).length = ys.length := by simp
    rw [hlen] at h1 ⊢
    have hget : ∀ (i : Nat) (x : List D), ys[i]? = some x → (dd ys)[i]? = some (x.map V.d) := by
      simp_all
    have hkx : ∀ (i : Nat) (x : List D), ys[i]? = some x → x.length = k := by
      grind
    have hbd : ∀ i j, i < ys.length → j < k → off + i * k + j < cur.size := by
      intro i j hi hj
      have : (i + 1) * k ≤ cap * k := Nat.mul_le_mul_right _ (by omega)
      grind
    refine .sl (some ⟨b, off, none⟩) ys.length cap ys k b off (fun i j => cur.getD (off + i * k + j) undef) rfl h1 h2 (fun _ => ⟨rfl, hb' b rfl, (Array.getElem?_eq_some_iff.1 hb).1⟩) hkx ?_ ?_
    · simp_all [World.cell?, Array.getD]
    · intro i j x y hx hy
      have hj : j < k := by grind
      have hil := (List.getElem?_eq_some_iff.1 hx).1
      have hlt := hbd i j hil hj
      have := h6 i j _ (.d y) (cur[off + i * k + j]) (hget i x hx) (by grind) (Array.getElem?_eq_getElem hlt)
      have h7 := this.d_inv
      have e : cur.getD (off + i * k + j) undef = cur[off + i * k + j] := by simp_all
      rw [e]
      exact h7.mono (Keep.refl w _) (fun b _ hb => hO b hb)
def frzL (h : Nat) (y : V) : Heap → Heap
  | [] => []
  | (i, r) :: l => if i = h then frzL h y l else (i, Res.frz h y r) :: frzL h y l
theorem frzL_eq h y : ∀ L : Heap, frzL h y L = (L.filter fun p => p.1 != h).map fun p => (p.1, p.2.frz h y)
  | [] => rfl
  | (i, r) :: l => by
    rw [frzL, frzL_eq h y l]
    by_cases hi : i = h <;> simp [hi]
theorem Wk.freeze0 h {ty} {k} {ys} y' (hy' : ∀ (w : World) O v, RelD w O v (.sl ys) → RelD w O v y') (hl : s.L.lookup h = some (.row ty k (dd ys))) :
    Wk n s ⟨s.fr.map fun p => (p.1, V.frz h (.d y') p.2), (s.L.filter fun p => p.1 != h).map fun p => (p.1, p.2.frz h (.d y'))⟩ := by
  intro fo m a w g
  let m'  := fun i => if i = h then none else m i
  have hm'1 : ∀ i x, m' i = some x → m i = some x ∧ i ≠ h := by
    grind
  have hm'2 : ∀ i x, i ≠ h → m i = some x → m' i = some x := by
    grind
  have hown : ∀ b, Ab.own m' b → Ab.own m b := by
    rintro b ⟨i, x, hx, hb⟩
    exact ⟨i, x, (hm'1 i x hx).1, hb⟩
  have hOO : ∀ b, OO fo m' b → OO fo m b := fun b hb => hb.imp (hown b) id
  have hi := g.inv
  have hy : ∀ v, m h = some v → RelV w (OO fo m') m' v (.d y') := by
    intro v hv
    refine .d _ _ (hy' _ _ _ (row_data' hi hl hv hOO ?_))
    rintro b hb (⟨i, x, hx, hb'⟩ | hf)
    · have := hi.apart h i v x b hv (hm'1 i x hx).1 hb hb'
      grind
    · exact hi.others h v b hv hb hf
  refine ⟨m', ⟨g.size, ?_, ⟨?_, ?_, ?_, ?_, hi.folt, ?_, hi.glob.mono (Keep.refl w _) (fun b _ hb => hOO b hb)⟩, g.defers⟩, ⟨rfl, rfl, rfl, Nat.le_refl _, fun _ _ _ => rfl, fun b _ hb => hown b hb⟩⟩
  · intro t x hx
    obtain ⟨p, hp, e⟩ := List.mem_map.1 hx
    cases e
    obtain ⟨h1, h2⟩ := g.fr p.1 p.2 hp
    exact ⟨h1, h2.frz hOO hm'2 hy⟩
  · have : keys ((s.L.filter fun p => p.1 != h).map fun p => (p.1, p.2.frz h (.d y'))) = (keys s.L).filter fun i => i != h := by
      simp  [keys, List.map_map, List.filter_map]
      rfl
    rw [this]
    exact hi.nodup.filter _
  · intro i x hx
    obtain ⟨h1, h2⟩ := hm'1 i x hx
    have := hi.dom i x h1
    simp_all
  · intro i i' x x' b hx hx' hb hb'
    exact hi.apart i i' x x' b (hm'1 i x hx).1 (hm'1 i' x' hx').1 hb hb'
  · intro i x b hx hb
    exact hi.others i x b (hm'1 i x hx).1 hb
  · intro i r hr
    obtain ⟨p, hp, e⟩ := List.mem_map.1 hr
    cases e
    obtain ⟨hp1, hp2⟩ := List.mem_filter.1 hp
    obtain ⟨x, hx, hh⟩ := hi.holds p.1 p.2 hp1
    exact ⟨x, hm'2 _ _ (by grind) hx, hh.frz hOO hm'2 hy⟩
theorem Wk.freeze h {ty} {k} {ys} (hl : s.L.lookup h = some (.row ty k (dd ys))) :
    Wk n s ⟨s.fr.map fun p => (p.1, V.frz h (.d (.sl ys)) p.2), frzL h (.d (.sl ys)) s.L⟩ := by
  rw [frzL_eq]
  exact Wk.freeze0 h _ (fun _ _ _ h => h) hl
theorem RelD.nn {w} {O} {x} {y} (h : RelD w O x y) : RelD w O x y.nn := by
  unfold D.nn
  split
  · cases h; exact nil_rel
  omega
attribute [simp] V.frz V.frzs Res.frz frzL D.nn
end
end Go.Ab

namespace Go.Ab
open Go.ChangeShapes Go.WideShapes Go.RowKit
def otherT : Option TypeDesc → Bool
  | some .bool | some (.int _) | some .string | some (.slice _) | some (.struct _) | some (.array _ _) => false
  | _ => true
inductive HasT (P : Program) : TypeId → List D → Prop
  | bool {t : TypeId} (b : Bool) (u : P.underlying t = some .bool) : HasT P t [.v (.bool b)]
  | int {t : TypeId} {k : IntKind} (n : Int) (u : P.underlying t = some (.int k)) (h : inR k n) : HasT P t [.v (.int k n)]
  | str {t : TypeId} (s : ByteArray) (u : P.underlying t = some .string) (h : s.size ≤ 140737488351232) : HasT P t [.v (.string s)]
  | sl {t e : TypeId} (xs : List (List D)) (u : P.underlying t = some (.slice e)) (hx : ∀ (i : Nat) (x : List D), xs[i]? = some x → HasT P e x) (hl : xs.length ≤ 9223372036854775807) (hw : xs.length * P.bytesOf e ≤ 140737488351232) : HasT P t [.sl xs]
  | struct {t : TypeId} {fs : Array Field} (yss : List (List D)) (u : P.underlying t = some (.struct fs)) (hl : yss.length = fs.size)
      (h : ∀ (i : Nat) (f : Field) (ys : List D), fs[i]? = some f → yss[i]? = some ys → HasT P f.type ys) : HasT P t yss.flatten
  | arr {t e : TypeId} {n : Nat} (yss : List (List D)) (u : P.underlying t = some (.array n e)) (hl : yss.length = n)
      (h : ∀ (i : Nat) (ys : List D), yss[i]? = some ys → HasT P e ys) : HasT P t yss.flatten
  | other {t : TypeId} (y : D) (u : otherT (P.underlying t) = true) : HasT P t [y]
mutual
def bD : D → Nat
  | .v (.string s) => s.size + 1
  | .v _ => 1
  | .sl xs => bDss xs + 1
  | .ifc _ _ _ => 1
def bDs : List D → Nat
  | [] => 0
  | x :: l => bD x + bDs l
def bDss : List (List D) → Nat
  | [] => 0
  | x :: l => bDs x + bDss l
end
mutual
def bulkW {H : Type} : DataW H → Nat
  | .lit (.string bytes) => bytes.length + 1
  | .lit _ => 1
  | .nil => 1
  | .ptr d => bulkW d + 1
  | .slice elems spare => bulkAll elems + bulkAll spare + 1
  | .agg parts => bulkAll parts + 1
  | .iface _ d => bulkW d + 1
  | .map entries => bulkEntries entries + 1
  | .held _ => 1
def bulkAll {H : Type} : List (DataW H) → Nat
  | [] => 0
  | d :: r => bulkW d + bulkAll r
def bulkEntries {H : Type} : List (Lit × DataW H) → Nat
  | [] => 0
  | x :: r => bulkEntry x + bulkEntries r
def bulkEntry {H : Type} : Lit × DataW H → Nat
  | (.string bytes, d) => bytes.length + bulkW d + 1
  | (_, d) => bulkW d + 1
end
theorem bulkW_pos {H} (d : DataW H) : 1 ≤ bulkW d := by
  cases d with
  | lit l => cases l <;> simp [bulkW]
  | nil => simp [bulkW]
  | ptr d => simp [bulkW]
  | slice elems spare => simp [bulkW]
  | agg parts => simp [bulkW]
  | iface t d => simp [bulkW]
  | map entries => simp [bulkW]
  | held h => simp [bulkW]
theorem bDs_app l r : bDs (l ++ r) = bDs l + bDs r := by
  induction l with
  | nil => simp [bDs]
  | cons x l ih => grind [bDs]
theorem bDss_le {H} : ∀ l r, l.length = r.length → (∀ (i : Nat) x (d : DataW H), l[i]? = some x → r[i]? = some d → bDs x ≤ bulkW d) → bDss l ≤ bulkAll r
  | [], [], _, _ => by simp [bDss]
  | x :: l, d :: r, h, hb => by
    have h0 := hb 0 x d rfl rfl
    have h1 := bDss_le l r (by grind) (fun i x d hx hd => hb (i + 1) x d (by grind) (by grind))
    grind [bDss, bulkAll]
  | [], _ :: _, h, _ => by grind
  | _ :: _, [], h, _ => by grind
theorem bDs_flatten l : bDs l.flatten = bDss l := by
  induction l with
  | nil => rfl
  | cons x l ih => simp_all [bDs_app, bDss]
theorem add_none' {a : Addr} {i} (h : a.spot = none) : a.add i = ⟨a.block, a.off + i, none⟩ := by
  obtain ⟨b, o, s⟩ := a
  simp_all [Addr.add]
def contig (P : Program) : Nat → List Field → Option Nat
  | o, [] => some o
  | o, f :: fs => if f.offset = o then contig P (o + P.cellsOf f.type) fs else none
def fineB (P : Program) : Bool := (List.range P.types.size).all fun t => match P.underlying t with
  | some (.slice e) => decide (0 < P.cellsOf e) && decide (e < P.types.size)
  | some (.struct fs) => (contig P 0 fs.toList == some (P.cellsOf t)) && fs.toList.all fun f => decide (f.type < P.types.size)
  | some (.array n e) => (P.cellsOf t == n * P.cellsOf e) && decide (e < P.types.size)
  | _ => true
def RelC (w : World) (cs : List Value) (ys : List D) : Prop :=
  cs.length = ys.length ∧ ∀ (j : Nat) (x : Value) (y : D), cs[j]? = some x → ys[j]? = some y → x.oneCell' = true ∧ RelD w (fun _ => False) x y
theorem RelC.nil w : RelC w [] [] := ⟨rfl, by simp⟩
theorem RelC.one {w} {x} {y} (h1 : x.oneCell' = true) (h : RelD w (fun _ => False) x y) : RelC w [x] [y] := by
  refine ⟨rfl, fun j x' y' hx hy => ?_⟩
  grind
theorem RelC.append {w} {c1 c2} {y1 y2} (h1 : RelC w c1 y1) (h2 : RelC w c2 y2) : RelC w (c1 ++ c2) (y1 ++ y2) := by
  refine ⟨by simp [h1.1, h2.1], fun j x y hx hy => ?_⟩
  by_cases hj : j < c1.length
  · rw [List.getElem?_append_left hj] at hx
    rw [List.getElem?_append_left (by rw [← h1.1]; exact hj)] at hy
    exact h1.2 j x y hx hy
  · rw [List.getElem?_append_right (by omega)] at hx
    rw [List.getElem?_append_right (by rw [← h1.1]; omega)] at hy
    rw [← h1.1] at hy
    exact h2.2 _ x y hx hy
theorem flat_fields {P} {w} {cs : List Value} : ∀ (Hh : Nat → Field → List D → Prop) fs o, contig P o fs = some cs.length →
    (∀ i f, fs[i]? = some f → ∃ ys, RelC w ((cs.drop f.offset).take (P.cellsOf f.type)) ys ∧ Hh i f ys) →
    ∃ yss : List (List D), yss.length = fs.length ∧ RelC w (cs.drop o) yss.flatten ∧ ∀ i f ys, fs[i]? = some f → yss[i]? = some ys → Hh i f ys
  | _, [], o, hc, _ => by
    simp  [contig] at hc
    subst hc
    exact ⟨[], rfl, by simp [RelC.nil], by simp⟩
  | Hh, f :: fs, o, hc, h => by
    rw [contig] at hc
    split at hc
    · obtain ⟨ys, h1, h2⟩ := h 0 f rfl
      obtain ⟨yss, h3, h4, h5⟩ := flat_fields (fun i => Hh (i + 1)) fs _ hc (fun i g hg => h (i + 1) g (by grind))
      refine ⟨ys :: yss, by grind, ?_, fun i g zs hi hz => ?_⟩
      · have e : cs.drop o = ((cs.drop f.offset).take (P.cellsOf f.type)) ++ cs.drop (o + P.cellsOf f.type) := by
          grind [List.drop_drop, List.take_append_drop]
        rw [e]
        exact h1.append h4
      grind
    grind
theorem flat_elems {w} {k} : ∀ (Hh : Nat → List D → Prop) n cs, cs.length = n * k →
    (∀ i, i < n → ∃ ys, RelC w ((cs.drop (i * k)).take k) ys ∧ Hh i ys) →
    ∃ yss : List (List D), yss.length = n ∧ RelC w cs yss.flatten ∧ ∀ i ys, yss[i]? = some ys → Hh i ys
  | _, 0, cs, hl, _ => by
    have  := List.length_eq_zero_iff.1 (by simpa using hl)
    subst this
    exact ⟨[], rfl, by simp [RelC.nil], by simp⟩
  | Hh, n + 1, cs, hl, h => by
    obtain ⟨ys, h1, h2⟩ := h 0 (by omega)
    obtain ⟨yss, h3, h4, h5⟩ := flat_elems (k := k) (fun i => Hh (i + 1)) n (cs.drop k) (by grind) (fun i hi => by
      obtain ⟨ys, a, b⟩ := h (i + 1) (by omega)
      refine ⟨ys, ?_, b⟩
      rw [List.drop_drop, show k + i * k = (i + 1) * k by grind]
      exact a)
    refine ⟨ys :: yss, by grind, ?_, fun i zs hz => ?_⟩
    · have := h1.append h4
      simp_all
    grind
section
variable {H : Type} {enc : TypeId × Value → H} {P : Program} {w : World}
theorem weights_all {e} {B} {l} (h : ∀ n ∈ DataW.weightsAll P e l, n ≤ B) {d : DataW H} (hd : d ∈ l) : ∀ n ∈ DataW.weights P e d, n ≤ B := by
  induction l with
  | nil => cases hd
  | cons a l ih =>
    simp  [DataW.weightsAll] at h
    grind
theorem weights_each {B} : ∀ {ts} {l} (_ : ∀ n ∈ DataW.weightsEach P ts l, n ≤ B) {i : Nat} {t} {d : DataW H} (_ : ts[i]? = some t) (_ : l[i]? = some d), ∀ n ∈ DataW.weights P t d, n ≤ B
  | [], _, _, i, _, _, ht, _ => by grind
  | _ :: _, [], _, i, _, _, _, hd => by grind
  | t0 :: ts, d0 :: l, h, i, t, d, ht, hd => by
    simp  [DataW.weightsEach] at h
    cases i with
    | zero => grind
    | succ i => exact weights_each (fun n hn => h n (.inr hn)) (by simpa using ht) (by grind)
theorem open_trod (hf : fineB P = true) : ∀ (fuel : Nat) (t : TypeId) (cs : List Value) (d : DataW H) (ps : List MemPlace), t < P.types.size →
    DataW.trod enc P w 0 (fun _ => true) true fuel t cs = some (d, ps) → (∀ n ∈ DataW.weights P t d, n ≤ reachBytes) → ∃ ys, RelC w cs ys ∧ HasT P t ys ∧ bDs ys ≤ bulkW d
  | 0, _, _, _, _, _, h, _ => by simp [DataW.trod] at h
  | fuel + 1, t, cs, d, ps, ht, h, hw => by
    have IH := open_trod hf fuel
    have hft : _ := List.all_eq_true.1 hf t (by simpa using ht)
    unfold DataW.trod at h
    split at h
    · rename_i b hu; exact ⟨_, RelC.one rfl (.v _ rfl), .bool _ hu, by have := bulkW_pos d; simp [bDs, bD]; omega⟩
    · rename_i k k' n hu
      split at h
      · rename_i hk
        obtain ⟨rfl, hk⟩ := hk
        exact ⟨_, RelC.one rfl (.v _ rfl), .int _ hu (by simpa [inR, Lit.wf] using hk), by have := bulkW_pos d; simp [bDs, bD]; omega⟩
      · cases h
    · rename_i k k' n hu; exact ⟨_, RelC.one rfl (.v _ rfl), .other _ (by simp [hu, otherT]), by have := bulkW_pos d; simp [bDs, bD]; omega⟩
    · rename_i s hu
      split at h
      · cases h
        refine ⟨_, RelC.one rfl (.v _ rfl), .str _ hu ?_, by simp only [bDs, bD, bulkW, Array.length_toList]; exact Nat.le_refl _⟩
        have := hw s.data.toList.length (by simp [DataW.weights])
        simpa [reachBytes] using this
      · cases h
    · rename_i e hu; exact ⟨_, RelC.one rfl (.v _ rfl), .other _ (by simp [hu, otherT]), by have := bulkW_pos d; simp [bDs, bD]; omega⟩
    · rename_i e a hu; exact ⟨_, RelC.one rfl (.v _ rfl), .other _ (by simp [hu, otherT]), by have := bulkW_pos d; simp [bDs, bD]; omega⟩
    · rename_i e hu
      exact ⟨_, RelC.one rfl (.sl none 0 0 [] 0 0 0 (fun _ _ => undef) rfl (Nat.le_refl _) (by unfold maxLen; omega) (by omega) (by simp) (by omega) (by simp)), .sl [] hu (by simp) (by simp) (by simp), by have := bulkW_pos d; simp [bDs, bD, bDss]; omega⟩
    · rename_i e a len cap hu
      rw [hu] at hft
      simp only [Bool.and_eq_true, decide_eq_true_eq] at hft
      simp only at h
      split at h
      · rename_i hb
        obtain ⟨_, hlc, hcm⟩ := hb
        obtain ⟨elems, he, h⟩ := Option.bind_eq_some_iff.1 h
        obtain ⟨rest, hr, h⟩ := Option.map_eq_some_iff.1 h
        simp only [Prod.mk.injEq] at h
        obtain ⟨rfl, _⟩ := h
        have hlen : elems.length = len := by simpa using mapM_some_length he
        simp only [if_true] at hr
        have hlr : rest.length = cap - len := by simpa using mapM_some_length hr
        have hwl : ∀ n ∈ (((elems.map (·.1)).length + (rest.map (·.1)).length) * P.bytesOf e) :: (DataW.weightsAll P e (elems.map (·.1)) ++ DataW.weightsAll P e (rest.map (·.1))), n ≤ reachBytes := by
          simpa [DataW.weights, hu] using hw
        have key : ∀ i, i < len → ∃ cs x, (w.cells? 0 (a.add (i * P.cellsOf e)) (P.cellsOf e)) = some cs ∧ RelC w cs x ∧ HasT P e x ∧ ∀ y, elems[i]? = some y → bDs x ≤ bulkW y.1 := fun i hi => by
          have hi' := mapM_some_get he i i (by simp [hi])
          obtain ⟨y, hy⟩ : ∃ y, elems[i]? = some y := ⟨_, List.getElem?_eq_getElem (by omega)⟩
          rw [hy] at hi'
          obtain ⟨cs', hcs, htr⟩ := Option.bind_eq_some_iff.1 hi'
          obtain ⟨yd, yp⟩ := y
          obtain ⟨x, hx1, hx2, hx3⟩ := IH e cs' yd yp hft.2 htr (weights_all (l := elems.map (·.1)) (fun n hn => hwl n (List.mem_cons_of_mem _ (List.mem_append_left _ hn))) (List.mem_map.2 ⟨(yd, yp), List.mem_of_getElem? hy, rfl⟩))
          exact ⟨cs', x, hcs, hx1, hx2, fun y' hy' => by rw [hy] at hy'; cases hy'; exact hx3⟩
        have kc : ∀ i, ∃ cs x, i < len → (w.cells? 0 (a.add (i * P.cellsOf e)) (P.cellsOf e)) = some cs ∧ RelC w cs x ∧ HasT P e x ∧ ∀ y, elems[i]? = some y → bDs x ≤ bulkW y.1 := fun i => by
          by_cases hi : i < len
          · obtain ⟨cs, x, h⟩ := key i hi; exact ⟨cs, x, fun _ => h⟩
          · exact ⟨[], [], fun h => absurd h hi⟩
        obtain ⟨fc, kc⟩ := Classical.axiomOfChoice kc
        obtain ⟨fx, kc⟩ := Classical.axiomOfChoice kc
        have spot : 0 < len → a.spot = none := fun h0 => by
          have := (World.cells?_some (kc 0 h0).1).2.2 0 hft.1
          have hx : ∃ v, (fc 0)[0]? = some v := ⟨_, List.getElem?_eq_getElem (by rw [(World.cells?_some (kc 0 h0).1).2.1]; exact hft.1)⟩
          obtain ⟨v, hv⟩ := hx
          rw [hv] at this
          have := World.cell?_spot this
          simpa [Addr.add] using this
        have cells : ∀ i j, i < len → j < P.cellsOf e → w.cell? ⟨a.block, a.off + i * P.cellsOf e + j, none⟩ = (fc i)[j]? := fun i j hi hj => by
          have := (World.cells?_some (kc i hi).1).2.2 j hj
          have hs := spot (by omega)
          rw [← this, add_none' hs, add_none' rfl]
        have lenc : ∀ i, i < len → (fc i).length = P.cellsOf e := fun i hi => (World.cells?_some (kc i hi).1).2.1
        refine ⟨_, RelC.one rfl (.sl (some a) len cap ((List.range len).map fx) (P.cellsOf e) a.block a.off (fun i j => (fc i).getD j undef) (by rw [List.length_map, List.length_range]) hlc hcm (fun h0 => ⟨?_, fun h => h, ?_⟩) ?_ ?_ ?_), .sl _ hu ?_ ?_ ?_, ?_⟩
        · obtain ⟨ab, ao, asp⟩ := a
          simp only at spot
          rw [spot h0]
        · have h1 := cells 0 0 h0 hft.1
          have : (fc 0)[0]? = some ((fc 0)[0]'(by rw [lenc 0 h0]; exact hft.1)) := List.getElem?_eq_getElem _
          rw [this] at h1
          exact lt_of_cell h1
        · intro i x hx
          obtain ⟨hi, rfl⟩ : i < len ∧ fx i = x := by
            simp only [List.getElem?_map, Option.map_eq_some_iff] at hx
            obtain ⟨i', hi', rfl⟩ := hx
            have hh : i < len := by
              have := (List.getElem?_eq_some_iff.1 hi').1
              simpa using this
            rw [List.getElem?_range hh] at hi'
            cases hi'
            exact ⟨hh, rfl⟩
          rw [← (kc i hi).2.1.1]
          exact lenc i hi
        · intro i j hi hj
          rw [cells i j hi hj, List.getElem?_eq_getElem (by rw [lenc i hi]; exact hj)]
          simp [List.getD_eq_getElem?_getD, List.getElem?_eq_getElem (show j < (fc i).length by rw [lenc i hi]; exact hj)]
        · intro i j x y hx hy
          obtain ⟨hi, rfl⟩ : i < len ∧ fx i = x := by
            simp only [List.getElem?_map, Option.map_eq_some_iff] at hx
            obtain ⟨i', hi', rfl⟩ := hx
            have hh : i < len := by
              have := (List.getElem?_eq_some_iff.1 hi').1
              simpa using this
            rw [List.getElem?_range hh] at hi'
            cases hi'
            exact ⟨hh, rfl⟩
          have hjl : j < (fc i).length := by
            rw [(kc i hi).2.1.1]
            exact (List.getElem?_eq_some_iff.1 hy).1
          refine ((kc i hi).2.1.2 j _ y (List.getElem?_eq_getElem hjl) hy).2 |> fun h => ?_
          simpa [List.getD_eq_getElem?_getD, List.getElem?_eq_getElem hjl] using h
        · intro i x hx
          simp only [List.getElem?_map, Option.map_eq_some_iff] at hx
          obtain ⟨i', hi', rfl⟩ := hx
          have hh : i < len := by
            have := (List.getElem?_eq_some_iff.1 hi').1
            simpa using this
          rw [List.getElem?_range hh] at hi'
          cases hi'
          exact (kc i hh).2.2.1
        · unfold maxLen at hcm; simp; omega
        · have := hwl _ List.mem_cons_self
          simp only [List.length_map, hlen, hlr, reachBytes] at this
          simp only [List.length_map, List.length_range]
          refine Nat.le_trans ?_ this
          exact Nat.mul_le_mul_right _ (by omega)
        · have hs := bDss_le ((List.range len).map fx) (elems.map (·.1)) (by simp [hlen]) (fun i x d hx hd => by
            simp only [List.getElem?_map, Option.map_eq_some_iff] at hx hd
            obtain ⟨i', hi', rfl⟩ := hx
            obtain ⟨y, hy, rfl⟩ := hd
            have hh : i < len := by
              have := (List.getElem?_eq_some_iff.1 hi').1
              simpa using this
            rw [List.getElem?_range hh] at hi'
            cases hi'
            exact (kc i hh).2.2.2 y hy)
          simp only [bDs, bD, bulkW]; omega
      · cases h
    · rename_i cs xo cs2 fs hu
      rw [hu] at hft
      simp only [Bool.and_eq_true, beq_iff_eq, List.all_eq_true, decide_eq_true_eq] at hft
      split at h
      · rename_i hcl
        obtain ⟨xs, hxs, h⟩ := Option.map_eq_some_iff.1 h
        simp only [Prod.mk.injEq] at h
        obtain ⟨rfl, _⟩ := h
        have hlen := mapM_some_length hxs
        obtain ⟨yss, h1, h2, h3⟩ := flat_fields (w := w) (cs := cs) (fun i f ys => HasT P f.type ys ∧ ∀ x, xs[i]? = some x → bDs ys ≤ bulkW x.1) fs.toList 0 (by rw [hcl]; exact hft.1) (fun i f hi => by
          have hfm : f ∈ fs.toList := List.mem_of_getElem? hi
          have := mapM_some_get hxs i f hi
          obtain ⟨x, hx⟩ : ∃ x, xs[i]? = some x := ⟨_, List.getElem?_eq_getElem (by rw [hlen]; exact (List.getElem?_eq_some_iff.1 hi).1)⟩
          rw [hx] at this
          obtain ⟨xd, xp⟩ := x
          obtain ⟨zs, z1, z2, z3⟩ := IH f.type _ xd xp (hft.2 f hfm) this (weights_each (ts := fs.toList.map (·.type)) (l := xs.map (·.1)) (by simpa [DataW.weights, hu] using hw) (i := i) (by simp only [List.getElem?_map, hi]; rfl) (by simp only [List.getElem?_map, hx]; rfl))
          exact ⟨zs, z1, z2, fun x' hx' => by rw [hx] at hx'; cases hx'; exact z3⟩)
        refine ⟨_, by simpa using h2, .struct yss hu (by simpa using h1) (fun i f ys hi hy => (h3 i f ys (by simpa using hi) hy).1), ?_⟩
        have hs := bDss_le yss (xs.map (·.1)) (by simp [h1, hlen]) (fun i ys d hy hd => by
          simp only [List.getElem?_map, Option.map_eq_some_iff] at hd
          obtain ⟨x, hx, rfl⟩ := hd
          have hif : i < fs.toList.length := by rw [← hlen]; exact (List.getElem?_eq_some_iff.1 hx).1
          exact (h3 i _ ys (List.getElem?_eq_getElem hif) hy).2 x hx)
        rw [bDs_flatten]
        simp only [bulkW]; omega
      · cases h
    · rename_i cs xo cs2 n e hu
      rw [hu] at hft
      simp only [Bool.and_eq_true, beq_iff_eq, decide_eq_true_eq] at hft
      split at h
      · rename_i hcl
        obtain ⟨xs, hxs, h⟩ := Option.map_eq_some_iff.1 h
        simp only [Prod.mk.injEq] at h
        obtain ⟨rfl, _⟩ := h
        have hlen : xs.length = n := by simpa using mapM_some_length hxs
        obtain ⟨yss, h1, h2, h3⟩ := flat_elems (w := w) (k := P.cellsOf e) (fun i ys => HasT P e ys ∧ ∀ x, xs[i]? = some x → bDs ys ≤ bulkW x.1) n cs (by rw [hcl]; exact hft.1) (fun i hi => by
          have := mapM_some_get hxs i i (by simp [hi])
          obtain ⟨x, hx⟩ : ∃ x, xs[i]? = some x := ⟨_, List.getElem?_eq_getElem (by omega)⟩
          rw [hx] at this
          obtain ⟨xd, xp⟩ := x
          obtain ⟨zs, z1, z2, z3⟩ := IH e _ xd xp hft.2 this (weights_all (l := xs.map (·.1)) (by simpa [DataW.weights, hu] using hw) (List.mem_map.2 ⟨_, List.mem_of_getElem? hx, rfl⟩))
          exact ⟨zs, z1, z2, fun x' hx' => by rw [hx] at hx'; cases hx'; exact z3⟩)
        refine ⟨_, h2, .arr yss hu h1 (fun i ys hy => (h3 i ys hy).1), ?_⟩
        have hs := bDss_le yss (xs.map (·.1)) (by simp [h1, hlen]) (fun i ys d hy hd => by
          simp only [List.getElem?_map, Option.map_eq_some_iff] at hd
          obtain ⟨x, hx, rfl⟩ := hd
          exact (h3 i ys hy).2 x hx)
        rw [bDs_flatten]
        simp only [bulkW]; omega
      · cases h
    · rename_i ms hu; exact ⟨_, RelC.one rfl (.v _ rfl), .other _ (by simp [hu, otherT]), by have := bulkW_pos d; simp [bDs, bD]; omega⟩
    · rename_i ms u v hu
      exact ⟨_, RelC.one rfl (.v _ rfl), .other _ (by simp [hu, otherT]), by have := bulkW_pos d; simp [bDs, bD]; omega⟩
    · rename_i hu; exact ⟨_, RelC.one rfl (.v _ rfl), .other _ (by simp [hu, otherT]), by have := bulkW_pos d; simp [bDs, bD]; omega⟩
    · rename_i hu; exact ⟨_, RelC.one rfl (.v _ rfl), .other _ (by simp [hu, otherT]), by have := bulkW_pos d; simp [bDs, bD]; omega⟩
    · rename_i hu; exact ⟨_, RelC.one rfl (.v _ rfl), .other _ (by simp [hu, otherT]), by have := bulkW_pos d; simp [bDs, bD]; omega⟩
    · rename_i hu; exact ⟨_, RelC.one rfl (.v _ rfl), .other _ (by simp [hu, otherT]), by have := bulkW_pos d; simp [bDs, bD]; omega⟩
    · rename_i hu; exact ⟨_, RelC.one rfl (.v _ rfl), .other _ (by simp [hu, otherT]), by have := bulkW_pos d; simp [bDs, bD]; omega⟩
    · rename_i hu; exact ⟨_, RelC.one rfl (.v _ rfl), .other _ (by simp [hu, otherT]), by have := bulkW_pos d; simp [bDs, bD]; omega⟩
    · rename_i hu; exact ⟨_, RelC.one rfl (.v _ rfl), .other _ (by simp [hu, otherT]), by have := bulkW_pos d; simp [bDs, bD]; omega⟩
    · rename_i hu; exact ⟨_, RelC.one rfl (.v _ rfl), .other _ (by simp [hu, otherT]), by have := bulkW_pos d; simp [bDs, bD]; omega⟩
    · cases h
end
end Go.Ab
