/-
  The engine, part K: running lists of operations; regions; functions.
-/
import Derived.Test.YticchnalleplcaaAbJ
set_option linter.unusedSimpArgs false
set_option linter.unusedVariables false
namespace Go.Ab

section
variable {P : Program} {w w' : World} {fo : Nat → Prop} {m m' : Nat → Option Value} {L : Heap} {n : Nat} {s : St} {a : Act}

theorem fillV_rows {k : Nat} : ∀ (l : List (Nat × V)) (r : List (List V)) (j : Nat) (pre post : List V), pre.length = j * k → l.length * k ≤ post.length →
    l.length = r.length → (∀ (i : Nat) (p : Nat × V) (x : List V), l[i]? = some p → r[i]? = some x → p.1 = j + i ∧ p.2.cl = some x) → (∀ x ∈ r, x.length = k) →
    ∃ c : Prop, fillV (fun i => some (i * k, k)) (pre ++ post) l = some (pre ++ r.flatten ++ post.drop (l.length * k), c) ∧ c
  | [], [], j, pre, post, _, _, _, _, _ => ⟨True, by simp [fillV], trivial⟩
  | [], _ :: _, _, _, _, _, _, h, _, _ => by simp at h
  | _ :: _, [], _, _, _, _, _, h, _, _ => by simp at h
  | (i, x) :: l, x0 :: r, j, pre, post, hp, hl, hlr, hrel, hk => by
    obtain ⟨h1, h2⟩ := hrel 0 (i, x) x0 rfl rfl
    simp only [Nat.add_zero] at h1 h2
    subst h1
    have hx0 : x0.length = k := hk x0 (by simp)
    simp only [List.length_cons, Nat.add_mul, Nat.one_mul] at hl
    have hput : putAt (i * k) x0 (pre ++ post) = (pre ++ x0) ++ post.drop k := by
      unfold putAt
      rw [← hp, List.take_left, List.append_assoc, List.append_assoc, hx0, List.drop_append]
      simp
    obtain ⟨c, hc1, hc2⟩ := fillV_rows l r (i + 1) (pre ++ x0) (post.drop k) (by rw [List.length_append, hp, hx0, Nat.add_mul, Nat.one_mul]) (by rw [List.length_drop]; omega) (by simpa using hlr)
      (fun q p y hq hy => by have := hrel (q + 1) p y (by simpa using hq) (by simpa using hy); exact ⟨by omega, this.2⟩) (fun y hy => hk y (by simp [hy]))
    refine ⟨(x0.length = k ∧ i * k + k ≤ (pre ++ post).length) ∧ c, ?_, ⟨hx0, by rw [List.length_append, hp]; omega⟩, hc2⟩
    simp only [fillV, h2, hput, hc1]
    simp only [Option.some.injEq, Prod.mk.injEq, and_true]
    rw [List.flatten_cons, List.drop_drop, List.length_cons, Nat.add_mul, Nat.one_mul]
    simp only [List.append_assoc]
    rw [Nat.add_comm k]

theorem litRows_spec {s : St} : ∀ (l : List (Nat × Operand)) (j : Nat) {r : List (List V)}, litRows s l j = some r → l.length = r.length ∧
    ∀ (i : Nat) (p : Nat × Operand) (x : List V), l[i]? = some p → r[i]? = some x → p.1 = j + i ∧ (s.ev p.2).cl = some x
  | [], j, r, h => by simp only [litRows, Option.some.injEq] at h; subst h; exact ⟨rfl, by simp⟩
  | (i, x) :: l, j, r, h => by
    rw [litRows] at h
    split at h
    · rename_i hij
      split at h
      · rename_i cs r' hcs hr'
        simp only [Option.some.injEq] at h
        subst h
        obtain ⟨h1, h2⟩ := litRows_spec l (j + 1) hr'
        refine ⟨by simp [h1], ?_⟩
        intro q p y hq hy
        match q with
        | 0 => simp only [List.getElem?_cons_zero, Option.some.injEq] at hq hy; subst hq; subst hy; exact ⟨by omega, hcs⟩
        | q + 1 => simp only [List.getElem?_cons_succ] at hq hy; have := h2 q p y hq hy; exact ⟨by omega, this.2⟩
      · cases h
    · cases h

def doLit (P : Program) (s : St) (h : Nat) (t : TypeId) (len : Nat) (ps : List (Nat × Operand)) : Option (V × St × Prop) :=
  match tySl P t, litRows s ps 0 with
  | some (e, k, _, _), some r => some (.rv h, { s with L := (h, .row e k r) :: s.L }, (0 < k ∧ h ∉ keys s.L) ∧ (len * k ≤ 2 ^ 24 ∧ r.length = len) ∧ ∀ x ∈ r, x.length = k)
  | _, _ => none

def doCut (P : Program) (s : St) (t : TypeId) (xo : Operand) (lo hi : Option Operand) : Option (V × St × Prop) :=
  match s.ev xo, tyE P t with
  | .rv h, some (_, k) =>
    match s.L.lookup h with
    | some (.row e' k' xs) =>
      match lo.map s.ev, hi.map s.ev with
      | none, none => some (.rv h, ⟨(s.kill h).fr, Heap.upd (s.kill h).L h (.row e' k' ((cutRow xs 0 xs.length).map (V.kills h)))⟩, k = k')
      | some (.d (.v (.int _ l))), none => some (.rv h, ⟨(s.kill h).fr, Heap.upd (s.kill h).L h (.row e' k' ((cutRow xs l.toNat xs.length).map (V.kills h)))⟩, k = k' ∧ 0 ≤ l ∧ l ≤ xs.length)
      | none, some (.d (.v (.int _ u))) => some (.rv h, ⟨(s.kill h).fr, Heap.upd (s.kill h).L h (.row e' k' ((cutRow xs 0 u.toNat).map (V.kills h)))⟩, k = k' ∧ 0 ≤ u ∧ u ≤ xs.length)
      | some (.d (.v (.int _ l))), some (.d (.v (.int _ u))) => some (.rv h, ⟨(s.kill h).fr, Heap.upd (s.kill h).L h (.row e' k' ((cutRow xs l.toNat u.toNat).map (V.kills h)))⟩, k = k' ∧ 0 ≤ l ∧ l ≤ u ∧ u ≤ xs.length)
      | _, _ => none
    | _ => none
  | _, _ => none

def stepL (P : Program) (s : St) (o : Oper) (b : Nat) : Option (V × St × Prop) :=
  match o.op with
  | .alloc e => match o.dst, tyZ P e with
    | some h, some z => some (.bp h 0, { s with L := (h, .box b e (z.map fun x => .d (.v x))) :: s.L }, h ∉ keys s.L)
    | _, _ => none
  | .box e x => match o.dst, (s.ev x).cl with
    | some h, some cs => some (.bp h 0, { s with L := (h, .box b e cs) :: s.L }, h ∉ keys s.L)
    | _, _ => none
  | .store t a x => doStore P s t a x
  | .makeSlice t l c => match o.dst with
    | some h => doMake P s h t l c
    | none => none
  | .buildSlice t len ps => match o.dst with
    | some h => doLit P s h t len ps.toList
    | none => none
  | .slice t x lo hi none => doCut P s t x lo hi
  | .call c => match o.dst with
    | some h => doAppend P s h c
    | none => none
  | _ => none

theorem OpL.mono {o : Oper} {K K' : V → St → Prop} (h : OpL P n o s K) (hk : ∀ x s', K x s' → K' x s') : OpL P n o s K' := by
  intro fo m a w g
  obtain ⟨nx, v, w', m', x, s', h1, h2, h3, h4⟩ := h fo m a w g
  exact ⟨nx, v, w', m', x, s', h1, h2, hk _ _ h3, h4⟩

theorem rv_of_key {h : Nat} {ty : TypeId} {k : Nat} {xs : List (List V)} (_ : L.lookup h = some (.row ty k xs)) : True := trivial

theorem stepL_sound {o : Oper} {b0 : Nat} {x0 : V} {s0 : St} {c0 : Prop} (h : stepL P s o b0 = some (x0, s0, c0)) (hc : c0) : OpL P n o s (fun x s' => ∃ b c, stepL P s o (b + 1) = some (x, s', c)) := by
  obtain ⟨dst, op, ty, pos, after, guard⟩ := o
  unfold stepL at h
  simp only at h
  split at h
  · split at h
    · rename_i e hh z hz
      simp only [Option.some.injEq, Prod.mk.injEq] at h
      obtain ⟨_, _, rfl⟩ := h
      refine (allocL hz hc).mono ?_
      rintro x s' ⟨b, rfl, rfl⟩
      exact ⟨b, _, (by simp only [stepL, hz]; rfl)⟩
    · cases h
  · split at h
    · rename_i e xo hh cs hcs
      simp only [Option.some.injEq, Prod.mk.injEq] at h
      obtain ⟨_, _, rfl⟩ := h
      refine (boxL hcs hc).mono ?_
      rintro x s' ⟨b, rfl, rfl⟩
      exact ⟨b, _, (by simp only [stepL, hcs]; rfl)⟩
    · cases h
  · rename_i t ao xo
    have h' := h
    unfold doStore at h
    split at h
    · rename_i g0 k cs ht hcs
      split at h
      · rename_i hh off ha
        split at h
        · rename_i b bty old hl
          simp only [Option.some.injEq, Prod.mk.injEq] at h
          obtain ⟨rfl, rfl, rfl⟩ := h
          refine (storeL_box ht ha hl hcs hc.1 hc.2).mono ?_
          rintro x s' ⟨rfl, rfl⟩
          exact ⟨b0, _, h'⟩
        · cases h
      · rename_i hh k' i j ha
        split at h
        · rename_i e k'' xs hl
          simp only [Option.some.injEq, Prod.mk.injEq] at h
          obtain ⟨rfl, rfl, rfl⟩ := h
          obtain ⟨⟨h1, h2⟩, h3, rfl⟩ := hc
          intro fo m a w g
          have he : (if j = 0 ∧ k = k' then cs else putAt j cs (xs[i]?.getD [])) = putAt j cs (xs[i]?.getD []) := by
            split
            · rename_i hjk
              obtain ⟨rfl, rfl⟩ := hjk
              obtain ⟨_, _, _, _, _, _, _, _, _, hlen, _⟩ := row_cells g.inv (lookup_mem hl) (by omega)
              have hx : xs[i]? = some xs[i] := List.getElem?_eq_getElem h2
              have := hlen i _ hx
              simp only [putAt, hx, Option.getD_some, List.take_zero, List.nil_append, Nat.zero_add, h1]
              rw [List.drop_of_length_le (by omega), List.append_nil]
            · rfl
          rw [he] at h'
          refine (storeL_row ht ha hl hcs h1 h2 h3).mono (K' := fun x s' => ∃ b c, stepL P s _ (b + 1) = some (x, s', c)) ?_ fo m a w g
          rintro x s' ⟨rfl, rfl⟩
          exact ⟨b0, _, h'⟩
        · cases h
      · cases h
    · cases h
  · rename_i t lo co
    split at h
    · rename_i hh
      have h' := h
      unfold doMake at h
      split at h
      · rename_i e k by_ z kl l kc c ht hl hcc
        simp only [Option.some.injEq, Prod.mk.injEq] at h
        obtain ⟨rfl, rfl, rfl⟩ := h
        obtain ⟨⟨h1, h2⟩, h3, h4⟩ := hc
        refine (makeL ht hl hcc h1 h2 h3 h4).mono ?_
        rintro x s' ⟨rfl, rfl⟩
        exact ⟨b0, _, h'⟩
      · cases h
    · cases h
  · rename_i t len ps
    split at h
    · rename_i hh
      have h' := h
      unfold doLit at h
      split at h
      · rename_i e k by_ z r ht hr
        simp only [Option.some.injEq, Prod.mk.injEq] at h
        obtain ⟨rfl, rfl, rfl⟩ := h
        obtain ⟨⟨h1, h2⟩, ⟨h3, h4⟩, h5⟩ := hc
        obtain ⟨q1, q2⟩ := litRows_spec _ 0 hr
        have hzk : (z.map fun x => V.d (.v x)).length = k := by
          obtain ⟨i, zv, -, -, -, -, -, e1, e2, -⟩ := tySl_spec ht
          rw [List.length_map, ← e1]; simpa using e2
        have hlen : (ps.toList.map fun p => (p.1, s.ev p.2)).length = len := by rw [List.length_map, q1, h4]
        have hfl : (List.replicate len (z.map fun x => V.d (.v x))).flatten.length = len * k := by
          rw [flat_len (k := k) _ (by intro x hx; rw [List.mem_replicate] at hx; rw [hx.2, hzk])]; simp
        obtain ⟨c, hf, hc'⟩ := fillV_rows (k := k) (ps.toList.map fun p => (p.1, s.ev p.2)) r 0 [] (List.replicate len (z.map fun x => V.d (.v x))).flatten (by simp) (by rw [hlen, hfl]; exact Nat.le_refl _)
          (by rw [List.length_map]; exact q1) (by
            intro i p x hp hx
            rw [List.getElem?_map] at hp
            obtain ⟨y, hy, rfl⟩ := Option.map_eq_some_iff.1 hp
            exact q2 i y x hy hx) h5
        rw [hlen, List.nil_append, List.nil_append, List.drop_eq_nil_of_le (by rw [hfl]; exact Nat.le_refl _), List.append_nil] at hf
        refine (buildSliceL ht h1 h2 h3 hf hc' rfl h4 h5).mono ?_
        rintro x s' ⟨rfl, rfl⟩
        exact ⟨b0, _, h'⟩
      · cases h
    · cases h
  · rename_i t xo lo hi
    have h' := h
    unfold doCut at h
    split at h
    · rename_i hh e k hs hE
      split at h
      · rename_i e' k' xs hl
        have fin : ∀ {l u : Nat} {kl ku : IntKind} {x : V} {s1 : St} {c : Prop}, stepL P s ⟨dst, .slice t xo lo hi none, ty, pos, after, guard⟩ b0 = some (x, s1, c) → x = .rv hh → s1 = ⟨(s.kill hh).fr, Heap.upd (s.kill hh).L hh (.row e' k ((cutRow xs l u).map (V.kills hh)))⟩ → k = k' →
            ((lo = none ∧ l = 0) ∨ ∃ z, lo = some z ∧ s.ev z = .d (.v (.int kl l))) → ((hi = none ∧ u = xs.length) ∨ ∃ z, hi = some z ∧ s.ev z = .d (.v (.int ku u))) → l ≤ u → u ≤ xs.length →
            OpL P n ⟨dst, .slice t xo lo hi none, ty, pos, after, guard⟩ s (fun x s' => ∃ b c, stepL P s ⟨dst, .slice t xo lo hi none, ty, pos, after, guard⟩ (b + 1) = some (x, s', c)) := by
          intro l u kl ku x s1 c h0 hx hs1 hk hlo hhi h1 h2
          subst hk
          refine (resliceL hE hs hl hlo hhi h1 h2).mono ?_
          rintro x' s' ⟨rfl, rfl⟩
          exact ⟨b0, c, by rw [show stepL P s ⟨dst, .slice t xo lo hi none, ty, pos, after, guard⟩ (b0 + 1) = stepL P s ⟨dst, .slice t xo lo hi none, ty, pos, after, guard⟩ b0 from rfl, h0, hx, hs1]⟩
        have h0 : stepL P s ⟨dst, .slice t xo lo hi none, ty, pos, after, guard⟩ b0 = some (x0, s0, c0) := h'
        cases lo with
        | none =>
          cases hi with
          | none =>
            simp only [Option.map_none, Option.some.injEq, Prod.mk.injEq] at h
            obtain ⟨h1, h2, rfl⟩ := h
            subst hc
            exact fin (kl := .i64) (ku := .i64) h0 h1.symm h2.symm rfl (.inl ⟨rfl, rfl⟩) (.inl ⟨rfl, rfl⟩) (Nat.zero_le _) (Nat.le_refl _)
          | some hz =>
            simp only [Option.map_none, Option.map_some] at h
            split at h
            · contradiction
            · contradiction
            · rename_i ku u _ heq
              simp only [Option.some.injEq] at heq
              simp only [Option.some.injEq, Prod.mk.injEq] at h
              obtain ⟨h1, h2, rfl⟩ := h
              obtain ⟨rfl, hu0, hu1⟩ := hc
              exact fin (kl := .i64) h0 h1.symm h2.symm rfl (.inl ⟨rfl, rfl⟩) (.inr ⟨hz, rfl, by rw [heq, Int.toNat_of_nonneg hu0]⟩) (Nat.zero_le _) (by omega)
            · contradiction
            · cases h
        | some lz =>
          cases hi with
          | none =>
            simp only [Option.map_none, Option.map_some] at h
            split at h
            · contradiction
            · rename_i kl l heq _
              simp only [Option.some.injEq] at heq
              simp only [Option.some.injEq, Prod.mk.injEq] at h
              obtain ⟨h1, h2, rfl⟩ := h
              obtain ⟨rfl, hu0, hu1⟩ := hc
              exact fin (ku := .i64) h0 h1.symm h2.symm rfl (.inr ⟨lz, rfl, by rw [heq, Int.toNat_of_nonneg hu0]⟩) (.inl ⟨rfl, rfl⟩) (by omega) (Nat.le_refl _)
            · contradiction
            · contradiction
            · cases h
          | some hz =>
            simp only [Option.map_some] at h
            split at h
            · contradiction
            · contradiction
            · contradiction
            · rename_i kl l ku u heq heq2
              simp only [Option.some.injEq] at heq heq2
              simp only [Option.some.injEq, Prod.mk.injEq] at h
              obtain ⟨h1, h2, rfl⟩ := h
              obtain ⟨rfl, hl0, hlu, hu1⟩ := hc
              exact fin h0 h1.symm h2.symm rfl (.inr ⟨lz, rfl, by rw [heq, Int.toNat_of_nonneg hl0]⟩) (.inr ⟨hz, rfl, by rw [heq2, Int.toNat_of_nonneg (by omega)]⟩) (by omega) (by omega)
            · cases h
      · cases h
    · cases h
  · rename_i cl
    split at h
    · rename_i hh
      have h' := h
      obtain ⟨callee, args, argTypes⟩ := cl
      unfold doAppend at h
      split at h
      · rename_i so xo t t2 hcal hargs htys
        simp only at hcal hargs htys
        obtain rfl : args = #[so, xo] := by rw [← Array.toList_inj]; exact hargs
        obtain rfl : argTypes = #[t, t2] := by rw [← Array.toList_inj]; exact htys
        subst hcal
        split at h
        · rename_i e k by_ z ys ht hx
          split at h
          · rename_i ht2
            split at h
            · rename_i h1 hs
              split at h
              · rename_i e' k' xs hl
                simp only [Option.some.injEq, Prod.mk.injEq] at h
                obtain ⟨rfl, rfl, rfl⟩ := h
                obtain ⟨⟨⟨rfl, rfl⟩, hk1, hk2⟩, h3, h4⟩ := hc
                refine (appendL ht ht2 hs hl rfl hx ⟨hk1, hk2⟩ h3 h4).mono ?_
                rintro x s' ⟨rfl, rfl⟩
                exact ⟨b0, _, h'⟩
              · cases h
            · rename_i hs
              simp only [Option.some.injEq, Prod.mk.injEq] at h
              obtain ⟨rfl, rfl, rfl⟩ := h
              obtain ⟨⟨hk1, hk2, hk3⟩, h3, h4⟩ := hc
              refine (appendNilL ht ht2 hs hk3 hx ⟨hk1, hk2⟩ h3 h4).mono ?_
              rintro x s' ⟨rfl, rfl⟩
              exact ⟨b0, _, h'⟩
            · cases h
          · cases h
        · cases h
      · cases h
    · cases h
  · cases h

def kO : Option Nat → V → V
  | none, x => x
  | some h, x => x.kill h
def killO (k : Option Nat) (fr : List (Nat × V)) : List (Nat × V) := fr.map fun p => (p.1, kO k p.2)

/-- Operations that change what is owned. -/
def loudM (o : Oper) : Bool :=
  match o.op with
  | .store .. | .makeSlice .. | .buildSlice .. | .slice .. | .alloc _ | .box .. => true
  | .call { callee := .builtin .append, .. } => true
  | _ => false

def killOf (s : St) (o : Oper) : Option Nat :=
  match o.op with
  | .slice _ x _ _ none => match s.ev x with
    | .rv h => some h
    | _ => none
  | .call c => match c.args.toList with
    | [so, _] => match s.ev so with
      | .rv h => some h
      | _ => none
    | _ => none
  | _ => none

theorem killO_none (fr : List (Nat × V)) : killO none fr = fr := by
  unfold killO
  have : (fun p : Nat × V => (p.1, kO none p.2)) = id := by funext p; rfl
  rw [this, List.map_id]

theorem litRows_congr {s s2 : St} : ∀ (l : List (Nat × Operand)) (j : Nat), (∀ p ∈ l, s2.ev p.2 = s.ev p.2) → litRows s2 l j = litRows s l j
  | [], j, _ => rfl
  | (i, x) :: l, j, h => by
    simp only [litRows]
    rw [h (i, x) List.mem_cons_self, litRows_congr l (j + 1) (fun p hp => h p (List.mem_cons_of_mem _ hp))]

theorem stepL_frame {s : St} {o : Oper} {b : Nat} {x : V} {s' : St} {c : Prop} (hm : loudM o = true) (h : stepL P s o b = some (x, s', c)) (fr2 : List (Nat × V))
    (he : ∀ z, z ∈ o.op.operands → St.ev ⟨fr2, s.L⟩ z = s.ev z) : stepL P ⟨fr2, s.L⟩ o b = some (x, ⟨killO (killOf s o) fr2, s'.L⟩, c) := by
  obtain ⟨dst, op, ty, pos, after, guard⟩ := o
  unfold stepL at h ⊢
  simp only at h he ⊢
  split at h
  · simp only [killOf, killO_none] at h ⊢
    split at h
    · simp only [Option.some.injEq, Prod.mk.injEq] at h
      obtain ⟨rfl, rfl, rfl⟩ := h
      simp_all
    · cases h
  · rename_i e xo
    have e1 := he xo (by simp [Op.operands])
    simp only [killOf, killO_none, e1] at h ⊢
    split at h
    · simp only [Option.some.injEq, Prod.mk.injEq] at h
      obtain ⟨rfl, rfl, rfl⟩ := h
      simp_all
    · cases h
  · rename_i t ao xo
    have e1 := he ao (by simp [Op.operands])
    have e2 := he xo (by simp [Op.operands])
    simp only [doStore, e1, e2, killOf, killO_none] at h ⊢
    split at h
    · split at h
      · split at h
        · simp only [Option.some.injEq, Prod.mk.injEq] at h
          obtain ⟨rfl, rfl, rfl⟩ := h
          simp_all
        · cases h
      · split at h
        · simp only [Option.some.injEq, Prod.mk.injEq] at h
          obtain ⟨rfl, rfl, rfl⟩ := h
          simp_all
        · cases h
      · cases h
    · cases h
  · rename_i t lo co
    have e1 := he lo (by simp [Op.operands])
    have e2 := he co (by simp [Op.operands])
    split at h
    · simp only [doMake, e1, e2, killOf, killO_none] at h ⊢
      split at h
      · simp only [Option.some.injEq, Prod.mk.injEq] at h
        obtain ⟨rfl, rfl, rfl⟩ := h
        simp_all
      · cases h
    · cases h
  · rename_i t len ps
    have e1 := litRows_congr (s2 := ⟨fr2, s.L⟩) (s := s) ps.toList 0 (fun p hp => he p.2 (by
      simp only [Op.operands, List.mem_toArray, List.mem_map]
      exact ⟨p, hp, rfl⟩))
    split at h
    · simp only [doLit, e1, killOf, killO_none] at h ⊢
      split at h
      · simp only [Option.some.injEq, Prod.mk.injEq] at h
        obtain ⟨rfl, rfl, rfl⟩ := h
        simp_all
      · cases h
    · cases h
  · rename_i t xo lo hi
    have e1 := he xo (by simp [Op.operands])
    have e2 : lo.map (St.ev ⟨fr2, s.L⟩) = lo.map s.ev := by
      cases lo with
      | none => rfl
      | some z => simp only [Option.map_some]; rw [he z (by simp [Op.operands])]
    have e3 : hi.map (St.ev ⟨fr2, s.L⟩) = hi.map s.ev := by
      cases hi with
      | none => rfl
      | some z => simp only [Option.map_some]; rw [he z (by simp [Op.operands])]
    simp only [doCut, e1, e2, e3, killOf] at h ⊢
    split at h
    · rename_i hh e k hs hE
      simp only [hs] at h ⊢
      split at h
      · rename_i e' k' xs hl
        split at h <;> first | (cases h; done) | (simp only [Option.some.injEq, Prod.mk.injEq] at h; obtain ⟨rfl, rfl, rfl⟩ := h; simp_all [St.kill, killO, kO])
      · cases h
    · cases h
  · rename_i cl
    split at h
    · simp only [doAppend] at h ⊢
      split at h
      · rename_i so xo t t2 h1 h2 h3
        have e1 := he so (by simp only [Op.operands, Call.operands, Array.mem_append]; right; rw [← Array.mem_toList_iff, h2]; simp)
        have e2 := he xo (by simp only [Op.operands, Call.operands, Array.mem_append]; right; rw [← Array.mem_toList_iff, h2]; simp)
        simp only [h1, h2, h3, e1, e2, killOf] at h ⊢
        split at h
        · split at h
          · rename_i hsrc
            split at h
            · rename_i hh hso
              simp only [hso] at h ⊢
              split at h
              · simp only [Option.some.injEq, Prod.mk.injEq] at h
                obtain ⟨rfl, rfl, rfl⟩ := h
                simp_all [St.kill, killO, kO]
              · cases h
            · rename_i hso
              simp only [Option.some.injEq, Prod.mk.injEq] at h
              obtain ⟨rfl, rfl, rfl⟩ := h
              simp_all [killO_none]
            · cases h
          · cases h
        · cases h
      · cases h
    · cases h
  · cases h

/-- A loud operation, of whose new memory the place is not told. -/
theorem stepL_sound0 {o : Oper} {s : St} {x0 : V} {s0 : St} {c0 : Prop} (h : stepL P s o 0 = some (x0, s0, c0)) (hc : c0) : OpL P n o s (fun x s' => x = x0 ∧ s' = s0) := by
  have h' := h
  obtain ⟨dst, op, ty, pos, after, guard⟩ := o
  unfold stepL at h
  simp only at h
  split at h
  · split at h
    · rename_i e hh z hz
      simp only [Option.some.injEq, Prod.mk.injEq] at h
      obtain ⟨rfl, rfl, rfl⟩ := h
      refine (allocL' (fun _ => 0) (fun _ => .inl rfl) hz hc).mono ?_
      rintro x s' ⟨b, rfl, rfl⟩
      exact ⟨rfl, rfl⟩
    · cases h
  · split at h
    · rename_i e xo hh cs hcs
      simp only [Option.some.injEq, Prod.mk.injEq] at h
      obtain ⟨rfl, rfl, rfl⟩ := h
      refine (boxL' (fun _ => 0) (fun _ => .inl rfl) hcs hc).mono ?_
      rintro x s' ⟨b, rfl, rfl⟩
      exact ⟨rfl, rfl⟩
    · cases h
  all_goals
    first
      | (cases h; done)
      | (refine (stepL_sound h' hc).mono ?_
         rintro x1 s1 ⟨b, c1, hb⟩
         have hb2 := h'.symm.trans (show _ = some (x1, s1, c1) from hb)
         simp only [Option.some.injEq, Prod.mk.injEq] at hb2
         exact ⟨hb2.1.symm, hb2.2.1.symm⟩)

end
end Go.Ab
