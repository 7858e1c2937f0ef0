/-
  The engine, part H: append, cuts of owned rows.
-/
import Derived.Test.YticchnalleplcaaAbG
set_option linter.unusedSimpArgs false
set_option linter.unusedVariables false
namespace Go.Ab

section
variable {P : Program} {w w' : World} {fo : Nat → Prop} {m m' : Nat → Option Value} {L : Heap} {n : Nat} {s : St} {a : Act}

/-- What is appended: its length, and its cells, in whatever world has this memory. -/
structure Src (P : Program) (k : Nat) (x : Value) (N : Nat) (news : List Value) (w : World) : Prop where
  len : news.length = N * k
  one : ∀ u ∈ news, u.oneCell' = true
  run : ∀ w', w'.heap = w.heap → (Builtin.lenOf x).run P w' = .ok N w' ∧ (Builtin.firstCells k N x).run P w' = .ok news.toArray w'

theorem run_append_room' {t t2 ty e : TypeId} {d2 : TypeDesc} {i : TypeInfo} {k : Nat} {x : Value} {N : Nat} {news : List Value} (ht : P.underlying t = some (.slice e)) (ht2 : P.underlying t2 = some d2) (hd2 : (∃ e2, d2 = .slice e2) ∨ d2 = .string) (hi : P.info? e = some i) (hk : i.size = k)
    (src : Src P k x N news w) {b off sLen sCap : Nat} {cur : Array Value} (hg : w.heap[b]? = some (.cells cur e (0, 0))) (hroom : sLen + N ≤ sCap) (hfit : off + sLen * k + news.length ≤ cur.size) :
    (Builtin.append_ #[t, t2] ty #[.slice (some ⟨b, off, none⟩) sLen sCap, x]).run P w =
      .ok (.slice (some ⟨b, off, none⟩) (sLen + N) sCap) (w.setRow b (cur.toList.take (off + sLen * k) ++ news ++ cur.toList.drop (off + sLen * k + news.length)).toArray) := by
  obtain ⟨h1, h2⟩ := src.run w rfl
  have hst := run_storeCells_at P b (off + sLen * k) e news 0 cur w hg (by simpa using hfit) src.one
  simp only [Nat.add_zero] at hst
  rcases hd2 with ⟨e2, rfl⟩ | rfl <;> simp [Builtin.append_, run_underlying ht, run_underlying ht2, sizeOf, typeInfo, hi, hk, h1, h2, hroom, Addr.add_lit, hst]

theorem run_append_grow' {t t2 ty e : TypeId} {d2 : TypeDesc} {i : TypeInfo} {z : Value} {k : Nat} {x : Value} {N : Nat} {news olds : List Value} {ao : Option Addr} {sLen sCap : Nat} (ht : P.underlying t = some (.slice e)) (ht2 : P.underlying t2 = some d2) (hd2 : (∃ e2, d2 = .slice e2) ∨ d2 = .string) (hi : P.info? e = some i) (hk : i.size = k)
    (hz : i.zero = some z) (src : Src P k x N news w) (hold : Src P k (.slice ao sLen sCap) sLen olds w)
    (hg : sCap < sLen + N) (h63 : ((sLen + N : Nat) : Int) ≤ 9223372036854775807) (hfit : Builtin.nextslicecap (sLen + N) sCap * i.bytes ≤ 281474976710656) :
    (Builtin.append_ #[t, t2] ty #[.slice ao sLen sCap, x]).run P w =
      .ok (.slice (some ⟨w.heap.size, 0, none⟩) (sLen + N) (grownCap w (sLen + N) sCap e))
        (w.drew.alloc (.cells (olds.toArray ++ news.toArray ++ Builtin.zeroCells z.cells (grownCap w (sLen + N) sCap e - (sLen + N))) e)) := by
  obtain ⟨h1, _⟩ := src.run w rfl
  obtain ⟨_, h2⟩ := src.run w.drew rfl
  obtain ⟨_, h3⟩ := hold.run w.drew rfl
  have hn : ¬ (sLen + N ≤ sCap) := by omega
  have h63' : ¬ (9223372036854775807 < ((sLen : Int) + (N : Int))) := by omega
  have h48' : ¬ (281474976710656 < Builtin.nextslicecap (sLen + N) sCap * i.bytes) := by omega
  rcases hd2 with ⟨e2, rfl⟩ | rfl
  all_goals
      (simp [Builtin.append_, run_underlying ht, run_underlying ht2, sizeOf, typeInfo, zeroValue, hi, hk, hz, h1, hn, h63', h48', Question.forced, h2, h3, newRow, grownCap]
       congr 2
       apply Array.ext'
       simp [List.append_assoc])

/-- What an abstract value yields as a source. -/
def srcV (L : Heap) (x : V) : Option (List (List V)) :=
  match x with
  | .d (.sl ys) => some (dd ys)
  | .d (.v (.slice none 0 0)) => some []
  | .d (.v (.string s)) => some (dd (s.data.toList.map fun b => [.v (.int .u8 (b.toNat : Nat))]))
  | .rv h => match L.lookup h with
    | some (.row _ _ xs) => some xs
    | _ => none
  | _ => none

theorem Src.of_cells {k N cap : Nat} {b off : Nat} {news : List Value} (hlen : news.length = N * k) (hone : ∀ u ∈ news, u.oneCell' = true)
    (hc : ∀ (j : Nat) (u : Value), news[j]? = some u → w.cell? ⟨b, off + j, none⟩ = some u) : Src P k (.slice (some ⟨b, off, none⟩) N cap) N news w := by
  refine ⟨hlen, hone, fun w' hw => ⟨rfl, run_firstCells_some w' k N ⟨b, off, none⟩ N cap news hlen fun j v hv => ?_⟩⟩
  rw [Addr.add_lit]
  have := hc j v hv
  simp only [World.cell?, hw] at this ⊢
  exact this

theorem Src.none' {k cap : Nat} : Src P k (.slice none 0 cap) 0 [] w := ⟨by simp, by simp, fun w' _ => ⟨rfl, by simp [Builtin.firstCells]⟩⟩

theorem Src.empty {k cap : Nat} {ao : Option Addr} : Src P k (.slice ao 0 cap) 0 [] w := by
  refine ⟨by simp, by simp, fun w' _ => ⟨rfl, ?_⟩⟩
  cases ao <;> simp [Builtin.firstCells, loadCells, loadCellsFrom]

/-- The cells of rows laid one behind the other. -/
theorem flat_get {α : Type} {k : Nat} : ∀ (xs : List (List α)), (∀ x ∈ xs, x.length = k) → ∀ (q : Nat), 0 < k → xs.flatten[q]? = (xs[q / k]?.bind fun x => x[q % k]?)
  | [], _, q, _ => by simp
  | x0 :: xs, hxk, q, hk => by
    have h0 : x0.length = k := hxk x0 (by simp)
    rw [List.flatten_cons, List.getElem?_append, h0]
    split
    · rename_i hq
      rw [Nat.div_eq_of_lt hq, Nat.mod_eq_of_lt hq]; simp
    · rename_i hq
      rw [flat_get xs (fun x hx => hxk x (by simp [hx])) (q - k) hk]
      have e1 : q / k = (q - k) / k + 1 := by
        rw [Nat.div_eq_sub_div hk (by omega)]
      rw [e1, ← Nat.mod_eq_sub_mod (by omega)]; simp

theorem flat_len {α : Type} {k : Nat} : ∀ (xs : List (List α)), (∀ x ∈ xs, x.length = k) → xs.flatten.length = xs.length * k
  | [], _ => by simp
  | x0 :: xs, hxk => by rw [List.flatten_cons, List.length_append, flat_len xs (fun x hx => hxk x (by simp [hx])), hxk x0 (by simp), List.length_cons, Nat.add_mul]; omega

theorem bytes_len (s : ByteArray) : s.data.toList.length = s.size := by rw [Array.length_toList]; rfl

/-- A source is there, and its cells stand for the rows. -/
theorem srcV_sound (hi : Inv fo m L w) {x : Value} {y : V} {ys : List (List V)} {k : Nat} (hr : RelV w (OO fo m) m x y) (h : srcV L y = some ys) (hk : 0 < k) (hys : ∀ z ∈ ys, z.length = k) :
    ∃ news, Src P k x ys.length news w ∧ ∀ (j : Nat) (u : Value) (c : V), news[j]? = some u → ys.flatten[j]? = some c → RelV w (OO fo m) m u c := by
  unfold srcV at h
  split at h
  · rename_i zs
    simp only [Option.some.injEq] at h
    subst h
    obtain ⟨ao, cap, rfl, hcap, hmax, k', b, off, f, ha, hk', hc, hrr⟩ := hr.d_inv.sl_inv
    by_cases h0 : zs = []
    · subst h0
      exact ⟨[], by simpa [dd] using Src.empty (P := P) (w := w) (k := k) (cap := cap) (ao := ao), by simp⟩
    · have hpos : 0 < zs.length := List.length_pos_iff.2 h0
      obtain ⟨rfl, hO, hlt⟩ := ha hpos
      have hkk : k' = k := by
        have h1 := hk' 0 _ (List.getElem?_eq_getElem hpos)
        have h2 := hys (zs[0].map V.d) (by unfold dd; exact List.mem_map.2 ⟨_, List.getElem_mem hpos, rfl⟩)
        rw [← h1, ← h2]; simp
      subst hkk
      have hlen : (dd zs).length = zs.length := by simp [dd]
      refine ⟨(List.range (zs.length * k')).map fun q => f (q / k') (q % k'), ?_, ?_⟩
      · rw [hlen]
        refine Src.of_cells (by simp) ?_ ?_
        · intro u hu
          obtain ⟨q, hq, rfl⟩ := List.mem_map.1 hu
          simp at hq
          have h1 : q / k' < zs.length := Nat.div_lt_of_lt_mul (by rw [Nat.mul_comm]; exact hq)
          have h2 : q % k' < k' := Nat.mod_lt _ hk
          have hg := List.getElem?_eq_getElem h1
          have := hk' _ _ hg
          exact relD_oneCell (hrr _ _ _ _ hg (List.getElem?_eq_getElem (by omega)))
        · intro j u hu
          rw [List.getElem?_map] at hu
          obtain ⟨q, hq, rfl⟩ := Option.map_eq_some_iff.1 hu
          obtain ⟨hj, hq'⟩ := List.getElem?_eq_some_iff.1 hq
          simp at hq' hj
          subst hq'
          have h1 : j / k' < zs.length := Nat.div_lt_of_lt_mul (by rw [Nat.mul_comm]; exact hj)
          have := hc (j / k') (j % k') h1 (Nat.mod_lt _ hk)
          rw [Nat.add_assoc, Nat.mul_comm (j / k') k', Nat.div_add_mod] at this
          exact this
      · intro j u c hu hcc
        rw [List.getElem?_map] at hu
        obtain ⟨q, hq, rfl⟩ := Option.map_eq_some_iff.1 hu
        obtain ⟨hj, hq'⟩ := List.getElem?_eq_some_iff.1 hq
        simp at hq'
        subst hq'
        rw [flat_get _ hys _ hk] at hcc
        obtain ⟨z, hz, hz2⟩ := Option.bind_eq_some_iff.1 hcc
        unfold dd at hz
        rw [List.getElem?_map] at hz
        obtain ⟨z0, hz0, rfl⟩ := Option.map_eq_some_iff.1 hz
        rw [List.getElem?_map] at hz2
        obtain ⟨d0, hd0, rfl⟩ := Option.map_eq_some_iff.1 hz2
        exact .d _ _ (hrr _ _ _ _ hz0 hd0)
  · simp only [Option.some.injEq] at h
    subst h
    rw [hr.v_inv]
    exact ⟨[], Src.none', by simp⟩
  · rename_i s
    simp only [Option.some.injEq] at h
    subst h
    rw [hr.v_inv]
    have hk1 : k = 1 ∨ s.size = 0 := by
      cases hl : s.data.toList with
      | nil => right; rw [← bytes_len, hl]; rfl
      | cons b l =>
        left
        have := hys [V.d (.v (.int .u8 (b.toNat : Nat)))] (by rw [hl]; simp [dd])
        simpa using this.symm
    have hlen : (dd (s.data.toList.map fun b => [D.v (.int .u8 (b.toNat : Nat))])).length = s.size := by rw [← bytes_len]; simp only [dd, List.length_map]
    refine ⟨s.data.toList.map fun b => .int .u8 (b.toNat : Nat), ?_, ?_⟩
    · rw [hlen]
      refine ⟨?_, ?_, ?_⟩
      · rw [List.length_map, bytes_len]
        rcases hk1 with rfl | h0
        · rw [Nat.mul_one]
        · rw [h0, Nat.zero_mul]
      · intro u hu
        obtain ⟨b, _, rfl⟩ := List.mem_map.1 hu
        rfl
      · intro w' _
        refine ⟨rfl, ?_⟩
        simp only [Builtin.firstCells, Sem.run_pure]
        congr 1
        apply Array.ext'
        have : (s.extract 0 s.size) = s := ByteArray.extract_zero_size
        rw [this, Array.toList_map]
    · intro j u c hu hc
      rw [List.getElem?_map] at hu
      obtain ⟨b, hb, rfl⟩ := Option.map_eq_some_iff.1 hu
      have hfl : (dd (s.data.toList.map fun b => [D.v (.int .u8 (b.toNat : Nat))])).flatten = s.data.toList.map fun b => V.d (.v (.int .u8 (b.toNat : Nat))) := by
        unfold dd
        rw [List.map_map]
        induction s.data.toList with
        | nil => rfl
        | cons b l ih => simp only [List.map_cons, List.flatten_cons, Function.comp_apply, List.map_nil, ih]; rfl
      rw [hfl, List.getElem?_map, hb] at hc
      simp only [Option.map_some, Option.some.injEq] at hc
      subst hc
      exact mkint _ _
  · rename_i h'
    split at h
    · rename_i ty k' xs hl
      simp only [Option.some.injEq] at h
      subst h
      by_cases h0 : xs = []
      · subst h0
        obtain ⟨ao, cap, _, rfl⟩ := rv_slice hi hl hr
        exact ⟨[], Src.empty, by simp⟩
      · have hpos : 0 < xs.length := List.length_pos_iff.2 h0
        obtain ⟨b, off, cap, cur, hm, hheap, hcap, hmax, hsz, hlen, hone, hcell, hrel⟩ := row_cells hi (lookup_mem hl) hpos
        have := rv_inv hr
        rw [hm] at this
        obtain rfl := Option.some.inj this
        have hkk : k' = k := by
          have h1 := hlen 0 _ (List.getElem?_eq_getElem hpos)
          rw [← h1, hys _ (List.getElem_mem hpos)]
        subst hkk
        have hbd : xs.length * k' ≤ cap * k' := Nat.mul_le_mul_right _ hcap
        have hcur : ∀ q, q < xs.length * k' → cur[off + q]? = some (cur.getD (off + q) undef) := fun q hq => by simp [Array.getD, show off + q < cur.size by omega]
        refine ⟨(List.range (xs.length * k')).map fun q => cur.getD (off + q) undef, Src.of_cells (by simp) ?_ ?_, ?_⟩
        · intro u hu
          obtain ⟨q, hq, rfl⟩ := List.mem_map.1 hu
          simp at hq
          exact hone _ _ (hcur q hq)
        · intro j u hu
          rw [List.getElem?_map] at hu
          obtain ⟨q, hq, rfl⟩ := Option.map_eq_some_iff.1 hu
          obtain ⟨hj, hq'⟩ := List.getElem?_eq_some_iff.1 hq
          simp at hq' hj
          subst hq'
          rw [hcell]; exact hcur j hj
        · intro j u c hu hcc
          rw [List.getElem?_map] at hu
          obtain ⟨q, hq, rfl⟩ := Option.map_eq_some_iff.1 hu
          obtain ⟨hj, hq'⟩ := List.getElem?_eq_some_iff.1 hq
          simp at hq' hj
          subst hq'
          rw [flat_get _ hys _ hk] at hcc
          obtain ⟨z, hz, hz2⟩ := Option.bind_eq_some_iff.1 hcc
          refine hrel (j / k') (j % k') z c _ hz hz2 ?_
          rw [Nat.add_assoc, Nat.mul_comm (j / k') k', Nat.div_add_mod]
          exact hcur j hj
    · cases h
  · cases h

theorem zeroCells_get {z : Array Value} {N q : Nat} {u : Value} (h : (Builtin.zeroCells z N)[q]? = some u) : ∃ p : Nat, z[p]? = some u := by
  unfold Builtin.zeroCells at h
  rw [Array.getElem?_map] at h
  obtain ⟨r, hr, rfl⟩ := Option.map_eq_some_iff.1 h
  have hlt := (Array.getElem?_eq_some_iff.1 hr).1
  simp at hlt
  have hz : 0 < z.size := by
    rcases Nat.eq_zero_or_pos z.size with h0 | h0
    · rw [h0] at hlt; simp at hlt
    · exact h0
  have hm : r % z.size < z.size := Nat.mod_lt _ hz
  exact ⟨r % z.size, by simp [hm]⟩

/-- The new row behind an append that grows. -/
theorem grown_holds {O : Nat → Prop} {e : TypeId} {k : Nat} {zv : Value} {z : List Value} {olds news : List Value} {xs ys : List (List V)} {cap : Nat} (hzl : zv.cells.toList = z) (hzs : zv.cells.size = k) (hone : ∀ x ∈ z, x.oneCell' = true) (hk : 0 < k)
    (ho : olds.length = xs.length * k) (hnw : news.length = ys.length * k) (ho1 : ∀ u ∈ olds, u.oneCell' = true) (hn1 : ∀ u ∈ news, u.oneCell' = true) (hxk : ∀ x ∈ xs, x.length = k) (hyk : ∀ x ∈ ys, x.length = k)
    (hor : ∀ (j : Nat) (u : Value) (c : V), olds[j]? = some u → xs.flatten[j]? = some c → RelV w O m u c) (hnr : ∀ (j : Nat) (u : Value) (c : V), news[j]? = some u → ys.flatten[j]? = some c → RelV w O m u c)
    (hge : xs.length + ys.length ≤ cap) (hcm : cap ≤ maxLen) {w0 : World} {fr : World} (hheap : fr.heap[w0.heap.size]? = some (.cells (olds.toArray ++ news.toArray ++ Builtin.zeroCells zv.cells (cap - (xs.length + ys.length))) e (0, 0)))
    {O' : Nat → Prop} {m' : Nat → Option Value} (hmono : ∀ u c, RelV w O m u c → RelV fr O' m' u c) :
    (Res.row e k (xs ++ ys)).Holds fr O' m' (.slice (some ⟨w0.heap.size, 0, none⟩) (xs.length + ys.length) cap) := by
  have hxyk : ∀ x ∈ xs ++ ys, x.length = k := by
    intro x hx
    rcases List.mem_append.1 hx with hx | hx
    · exact hxk x hx
    · exact hyk x hx
  refine .inr ⟨w0.heap.size, 0, cap, _, by simp, hheap, by simpa using hge, hcm, ?_, fun i x hx => hxyk x (List.mem_of_getElem? hx), ?_, ?_⟩
  · simp only [Array.size_append, List.size_toArray, size_zeroCells, hzs, ho, hnw, ← Nat.add_mul, Nat.zero_add]
    rw [show xs.length + ys.length + (cap - (xs.length + ys.length)) = cap by omega]; exact Nat.le_refl _
  · intro j u hu
    rw [Array.getElem?_append] at hu
    split at hu
    · rw [Array.getElem?_append] at hu
      split at hu
      · exact ho1 u (List.mem_of_getElem? (by simpa using hu))
      · exact hn1 u (List.mem_of_getElem? (by simpa using hu))
    · obtain ⟨p, hp⟩ := zeroCells_get hu
      exact hone u (by rw [← hzl]; exact List.mem_of_getElem? (by rw [Array.getElem?_toList]; exact hp))
  · intro i j x y u hx hy hu
    rw [Nat.zero_add] at hu
    have hj : j < k := by have := (List.getElem?_eq_some_iff.1 hy).1; have := hxyk x (List.mem_of_getElem? hx); omega
    have hi := (List.getElem?_eq_some_iff.1 hx).1
    simp at hi
    have hb : (i + 1) * k ≤ (xs.length + ys.length) * k := Nat.mul_le_mul_right _ (by omega)
    rw [Nat.add_mul, Nat.one_mul, Nat.add_mul] at hb
    rw [Array.getElem?_append, if_pos (by simp [ho, hnw]; omega)] at hu
    have hfl : (xs ++ ys).flatten[i * k + j]? = some y := by
      rw [flat_get _ hxyk _ hk, Nat.mul_comm i k, Nat.mul_add_div hk, Nat.div_eq_of_lt hj, Nat.add_zero, hx, Nat.mul_add_mod, Nat.mod_eq_of_lt hj]
      exact hy
    rw [List.flatten_append, List.getElem?_append, flat_len _ hxk] at hfl
    refine hmono _ _ ?_
    rw [Array.getElem?_append] at hu
    simp only [List.size_toArray, ho] at hu
    split at hu
    · rename_i hq; rw [if_pos hq] at hfl; exact hor _ u y (by simpa using hu) hfl
    · rename_i hq; rw [if_neg hq] at hfl; exact hnr _ u y (by simpa using hu) hfl


def tySrc (P : Program) (t : TypeId) : Bool :=
  match P.underlying t with
  | some (.slice _) => true
  | some .string => true
  | _ => false

theorem tySrc_spec {t : TypeId} (h : tySrc P t = true) : ∃ d2, P.underlying t = some d2 ∧ ((∃ e2, d2 = .slice e2) ∨ d2 = .string) := by
  unfold tySrc at h
  split at h
  · rename_i e he; exact ⟨_, he, .inl ⟨_, rfl⟩⟩
  · rename_i he; exact ⟨_, he, .inr rfl⟩
  · cases h

theorem maxLen_of {N by_ : Nat} (hb : 0 < by_) (h : N * by_ ≤ 140737488355328) : N ≤ maxLen := by
  have h1 : N * 1 ≤ N * by_ := Nat.mul_le_mul_left _ hb
  simp only [maxLen]; omega

/-- append onto an owned row -/
theorem appendL {dst : Option Tmp} {t t2 : TypeId} {so xo : Operand} {ty : TypeId} {pos : String} {after : Array Edge} {guard : Option (Nat × Bool)} {h k by_ : Nat} {e e' : TypeId} {z : List Value} {xs ys : List (List V)}
    (ht : tySl P t = some (e, k, by_, z)) (ht2 : tySrc P t2 = true) (hs : s.ev so = .rv h) (hl : s.L.lookup h = some (.row e' k xs)) (he : e' = e) (hx : srcV s.L (s.ev xo) = some ys) (hk : 0 < k ∧ 0 < by_) (hys : ∀ y ∈ ys, y.length = k)
    (hb : (xs.length + ys.length) * by_ ≤ 140737488355328) :
    OpL P n ⟨dst, .call { callee := .builtin .append, args := #[so, xo], argTypes := #[t, t2] }, ty, pos, after, guard⟩ s
      (fun x s' => x = .rv h ∧ s' = ⟨(s.kill h).fr, Heap.upd (s.kill h).L h (.row e k ((xs ++ ys).map (V.kills h)))⟩) := by
  intro fo m a w g
  subst he
  obtain ⟨i, zv, hu, hi, hz, hsize, hbytes, hzl, hzs, hone⟩ := tySl_spec ht
  obtain ⟨d2, hu2, hd2⟩ := tySrc_spec ht2
  have hrs := eval_rel g so
  rw [hs] at hrs
  have hrx := eval_rel g xo
  obtain ⟨news, src, hnr⟩ := srcV_sound (P := P) g.inv hrx hx hk.1 hys
  have hlm : xs.length + ys.length ≤ maxLen := maxLen_of hk.2 hb
  have hkk : ∀ (l : List (List V)), (∀ x ∈ l, x.length = k) → ∀ x ∈ l.map (V.kills h), x.length = k := by
    intro l hl x hx
    obtain ⟨y, hy, rfl⟩ := List.mem_map.1 hx
    rw [kills_eq, List.length_map]; exact hl y hy
  have hflk : ∀ (l : List (List V)), (l.map (V.kills h)).flatten = l.flatten.map (V.kill h) := by
    intro l
    induction l with
    | nil => rfl
    | cons x l ih => simp only [List.map_cons, List.flatten_cons, ih, kills_eq, List.map_append]
  have hrelk : ∀ {us : List Value} {l : List (List V)} {v' : Value}, (∀ (j : Nat) (u : Value) (c : V), us[j]? = some u → l.flatten[j]? = some c → RelV w (OO fo m) m u c) →
      ∀ (j : Nat) (u : Value) (c : V), us[j]? = some u → (l.map (V.kills h)).flatten[j]? = some c → RelV w (OO fo m) (mset m h v') u c := by
    intro us l v' hh j u c hu hc
    rw [hflk, List.getElem?_map] at hc
    obtain ⟨y, hy, rfl⟩ := Option.map_eq_some_iff.1 hc
    exact (hh j u y hu hy).kill (fun i x hi hx => by rw [mset_ne v' hi]; exact hx)
  obtain ⟨sx, hsx, hholds⟩ := g.inv.holds h _ (lookup_mem hl)
  have hsv := rv_inv hrs
  rw [hsv] at hsx
  obtain rfl := Option.some.inj hsx
  have hexec : ∀ {v' : Value} {w' : World}, (Builtin.append_ #[t, t2] ty #[a.eval so, a.eval xo]).run P w = .ok v' w' →
      (execOp a.eval ⟨dst, .call { callee := .builtin .append, args := #[so, xo], argTypes := #[t, t2] }, ty, pos, after, guard⟩).run P w = .ok (.value v') w' := by
    intro v' w' hr
    simp [execOp, resolve, invoke, builtin, hr]
  -- the row grows
  have grow : ∀ {ao : Option Addr} {cap : Nat} {olds : List Value}, a.eval so = .slice ao xs.length cap → Src P k (.slice ao xs.length cap) xs.length olds w →
      (∀ (j : Nat) (u : Value) (c : V), olds[j]? = some u → xs.flatten[j]? = some c → RelV w (OO fo m) m u c) → (∀ x ∈ xs, x.length = k) → cap < xs.length + ys.length →
      ∃ nx v w' m' x s', (execOp a.eval ⟨dst, .call { callee := .builtin .append, args := #[so, xo], argTypes := #[t, t2] }, ty, pos, after, guard⟩).run P w = .ok nx w' ∧ (nx = .value v ∨ (nx = .skip ∧ v = undef)) ∧
        (x = V.rv h ∧ s' = ⟨(s.kill h).fr, Heap.upd (s.kill h).L h (.row e' k ((xs ++ ys).map (V.kills h)))⟩) ∧ RelV w' (OO fo m') m' v x ∧ G fo n m' s' a w' ∧ Step w (own m) w' (own m') := by
    intro ao cap olds hso hold hor hxk hcap
    have hrun := run_append_grow' (P := P) (ty := ty) hu hu2 hd2 hi hsize hz src hold hcap (by simp only [maxLen] at hlm; omega) (by rw [hbytes]; exact growslice_fits hcap hb)
    have hge := grownCap_ge w (xs.length + ys.length) cap e'
    have hcm := grownCap_le_maxLen w (xs.length + ys.length) cap e' hlm
    have hnb : ∀ b, blk (.slice (some ⟨w.heap.size, 0, none⟩) (xs.length + ys.length) (grownCap w (xs.length + ys.length) cap e')) = some b → blk (a.eval so) = some b ∨ w.heap.size ≤ b := by
      intro b hb; simp [blk] at hb; right; omega
    have hgr := Grows.alloc w.drew (.cells (olds.toArray ++ news.toArray ++ Builtin.zeroCells zv.cells (grownCap w (xs.length + ys.length) cap e' - (xs.length + ys.length))) e')
    have hh : (Res.row e' k ((xs ++ ys).map (V.kills h))).Holds (w.drew.alloc (.cells (olds.toArray ++ news.toArray ++ Builtin.zeroCells zv.cells (grownCap w (xs.length + ys.length) cap e' - (xs.length + ys.length))) e'))
        (OO fo (mset m h (.slice (some ⟨w.heap.size, 0, none⟩) (xs.length + ys.length) (grownCap w (xs.length + ys.length) cap e')))) (mset m h (.slice (some ⟨w.heap.size, 0, none⟩) (xs.length + ys.length) (grownCap w (xs.length + ys.length) cap e')))
        (.slice (some ⟨w.heap.size, 0, none⟩) (xs.length + ys.length) (grownCap w (xs.length + ys.length) cap e')) := by
      rw [List.map_append]
      have := grown_holds (w := w) (O := OO fo m) (m := mset m h (.slice (some ⟨w.heap.size, 0, none⟩) (xs.length + ys.length) (grownCap w (xs.length + ys.length) cap e'))) (e := e') (k := k) (zv := zv) (z := z) (olds := olds) (news := news)
        (xs := xs.map (V.kills h)) (ys := ys.map (V.kills h)) (cap := grownCap w (xs.length + ys.length) cap e') hzl hzs hone hk.1 (by rw [List.length_map]; exact hold.len) (by rw [List.length_map]; exact src.len) hold.one src.one (hkk _ hxk) (hkk _ hys)
        (hrelk hor) (hrelk hnr) (by simpa using hge) hcm (w0 := w)
        (fr := w.drew.alloc (.cells (olds.toArray ++ news.toArray ++ Builtin.zeroCells zv.cells (grownCap w (xs.length + ys.length) cap e' - (xs.length + ys.length))) e'))
        (by simpa using heap_alloc_new w.drew (.cells (olds.toArray ++ news.toArray ++ Builtin.zeroCells zv.cells (grownCap w (xs.length + ys.length) cap e' - (xs.length + ys.length))) e'))
        (O' := OO fo (mset m h (.slice (some ⟨w.heap.size, 0, none⟩) (xs.length + ys.length) (grownCap w (xs.length + ys.length) cap e'))))
        (m' := mset m h (.slice (some ⟨w.heap.size, 0, none⟩) (xs.length + ys.length) (grownCap w (xs.length + ys.length) cap e')))
        (fun u c hu => RelV.mono (w := w) (O := OO fo m) ⟨hgr.size, fun b hb _ => hgr.block b hb⟩ (by
          rintro b hb (⟨p, y, hy, hby⟩ | hf)
          · by_cases hph : p = h
            · subst hph; rw [mset_same] at hy; obtain rfl := Option.some.inj hy; simp [blk] at hby; omega
            · rw [mset_ne _ hph] at hy; exact .inl ⟨p, y, hy, hby⟩
          · exact .inr hf) (fun _ _ e => e) hu)
      simpa using this
    obtain ⟨g', st⟩ := g.change hsv (by rfl) (by rfl) (by rfl) hgr.size (fun c hc _ => hgr.block c hc) hnb hh
    rw [← hso] at hrun
    exact ⟨_, _, _, _, _, _, hexec hrun, .inl rfl, ⟨rfl, rfl⟩, .rv h _ (mset_same _ _) rfl, g', st⟩
  rcases hholds with ⟨hnil, rfl⟩ | ⟨b, off, cap, cur, hso, hheap, hcap, hmax, hsz, hlen, h1, hrel⟩
  · -- nil
    by_cases hy0 : ys = []
    · subst hy0
      have hn0 : news = [] := List.eq_nil_of_length_eq_zero (by simpa using src.len)
      subst hn0
      have hrun : (Builtin.append_ #[t, t2] ty #[a.eval so, a.eval xo]).run P w = .ok (.slice none 0 0) w := by
        obtain ⟨q1, q2⟩ := src.run w rfl
        simp only [List.length_nil] at q1 q2
        rw [hnil]
        rcases hd2 with ⟨e2, rfl⟩ | rfl <;> simp [Builtin.append_, run_underlying hu, run_underlying hu2, sizeOf, typeInfo, hi, hsize, q1, q2]
      obtain ⟨g', st⟩ := g.change (w' := w) hsv rfl rfl rfl (Nat.le_refl _) (fun _ _ _ => rfl) (v' := .slice none 0 0) (by intro b hb; simp [blk] at hb) (r' := .row e' k []) (.inl ⟨rfl, rfl⟩)
      exact ⟨_, _, _, _, _, _, hexec hrun, .inl rfl, ⟨rfl, by simp⟩, .rv h _ (mset_same _ _) rfl, g', st⟩
    · exact grow (ao := none) (cap := 0) (olds := []) (by simpa using hnil) Src.none' (by simp) (by simp) (by have := List.length_pos_iff.2 hy0; simpa using this)
  · have hxk : ∀ x ∈ xs, x.length = k := by
      intro x hx
      obtain ⟨j, hj, rfl⟩ := List.getElem_of_mem hx
      exact hlen j _ (List.getElem?_eq_getElem hj)
    have hbd : xs.length * k ≤ cap * k := Nat.mul_le_mul_right _ hcap
    have hcur : ∀ q, q < xs.length * k → cur[off + q]? = some (cur.getD (off + q) undef) := fun q hq => by simp [Array.getD, show off + q < cur.size by omega]
    by_cases hroom : xs.length + ys.length ≤ cap
    · -- there is room
      have hbd2 : (xs.length + ys.length) * k ≤ cap * k := Nat.mul_le_mul_right _ hroom
      rw [Nat.add_mul] at hbd2
      have hnl := src.len
      have hrun := run_append_room' (P := P) (ty := ty) hu hu2 hd2 hi hsize src hheap (off := off) (sLen := xs.length) (sCap := cap) hroom (by omega)
      rw [← hso] at hrun
      have hsp := fun q => getElem?_splice cur.toList news (off + xs.length * k) (by simp; omega) q
      have wr := wrote_setRow w b (cur.toList.take (off + xs.length * k) ++ news ++ cur.toList.drop (off + xs.length * k + news.length)).toArray
      have hnb : ∀ b', blk (.slice (some ⟨b, off, none⟩) (xs.length + ys.length) cap) = some b' → blk (a.eval so) = some b' ∨ w.heap.size ≤ b' := by
        intro b' hb'; left; rw [hso]; exact hb'
      have hO : ∀ c, c < w.heap.size → OO fo (mset m h (.slice (some ⟨b, off, none⟩) (xs.length + ys.length) cap)) c → OO fo m c := by
        rintro c hc (⟨p, y, hy, hby⟩ | hf)
        · by_cases hph : p = h
          · subst hph; rw [mset_same] at hy; obtain rfl := Option.some.inj hy; exact .inl ⟨p, _, hsv, by rw [hso]; exact hby⟩
          · rw [mset_ne _ hph] at hy; exact .inl ⟨p, y, hy, hby⟩
        · exact .inr hf
      have hkeep : Keep w (OO fo m) (w.setRow b (cur.toList.take (off + xs.length * k) ++ news ++ cur.toList.drop (off + xs.length * k + news.length)).toArray) :=
        ⟨wr.size, fun c hc ho => wr.block c hc (fun e => ho (.inl ⟨h, _, hsv, by rw [hso]; simp [blk, e]⟩))⟩
      have hxyk : ∀ x ∈ xs ++ ys, x.length = k := by
        intro x hx
        rcases List.mem_append.1 hx with hx | hx
        · exact hxk x hx
        · exact hys x hx
      have hh : (Res.row e' k ((xs ++ ys).map (V.kills h))).Holds (w.setRow b (cur.toList.take (off + xs.length * k) ++ news ++ cur.toList.drop (off + xs.length * k + news.length)).toArray)
          (OO fo (mset m h (.slice (some ⟨b, off, none⟩) (xs.length + ys.length) cap))) (mset m h (.slice (some ⟨b, off, none⟩) (xs.length + ys.length) cap)) (.slice (some ⟨b, off, none⟩) (xs.length + ys.length) cap) := by
        refine .inr ⟨b, off, cap, _, by simp, setRow_heap w b cur _ e' _ hheap, by simpa using hroom, hmax, by simp; omega, ?_, ?_, ?_⟩
        · intro q x hx; exact hkk _ hxyk x (List.mem_of_getElem? hx)
        · intro q u hu
          rw [List.getElem?_toArray, hsp] at hu
          split at hu
          · exact src.one u (List.mem_of_getElem? hu)
          · exact h1 q u (by rw [← Array.getElem?_toList]; exact hu)
        · intro p q x y u hx hy hu
          rw [List.getElem?_toArray, hsp] at hu
          have hq : q < k := by have := (List.getElem?_eq_some_iff.1 hy).1; have := hkk _ hxyk x (List.mem_of_getElem? hx); omega
          rw [List.getElem?_map] at hx
          obtain ⟨x0, hx0, rfl⟩ := Option.map_eq_some_iff.1 hx
          rw [kills_eq, List.getElem?_map] at hy
          obtain ⟨y0, hy0, rfl⟩ := Option.map_eq_some_iff.1 hy
          refine RelV.mono hkeep hO (fun _ _ e => e) (RelV.kill (m := m) (fun i x hi hx => by rw [mset_ne _ hi]; exact hx) ?_)
          rw [List.getElem?_append] at hx0
          split at hx0
          · rename_i hp
            have := Nat.mul_le_mul_right k (show p + 1 ≤ xs.length by omega)
            rw [Nat.add_mul, Nat.one_mul] at this
            rw [if_neg (by omega)] at hu
            exact hrel p q x0 y0 u hx0 hy0 (by rw [← Array.getElem?_toList]; exact hu)
          · rename_i hp
            have hpl := (List.getElem?_eq_some_iff.1 hx0).1
            have e1 : p * k = xs.length * k + (p - xs.length) * k := by rw [← Nat.add_mul]; congr 1; omega
            have e2 := Nat.mul_le_mul_right k (show (p - xs.length) + 1 ≤ ys.length by omega)
            rw [Nat.add_mul, Nat.one_mul] at e2
            rw [if_pos (by omega), show off + p * k + q - (off + xs.length * k) = (p - xs.length) * k + q by omega] at hu
            refine hnr _ u y0 hu ?_
            rw [flat_get _ hys _ hk.1, Nat.mul_comm _ k, Nat.mul_add_div hk.1, Nat.div_eq_of_lt hq, Nat.add_zero, hx0, Nat.mul_add_mod, Nat.mod_eq_of_lt hq]
            exact hy0
      obtain ⟨g', st⟩ := g.change hsv wr.os wr.tape wr.output wr.size (fun c hc hne => wr.block c hc (fun e => hne (by rw [hso, e]; rfl))) hnb hh
      exact ⟨_, _, _, _, _, _, hexec hrun, .inl rfl, ⟨rfl, rfl⟩, .rv h _ (mset_same _ _) rfl, g', st⟩
    · refine grow (ao := some ⟨b, off, none⟩) (cap := cap) (olds := (List.range (xs.length * k)).map fun q => cur.getD (off + q) undef) hso (Src.of_cells (by simp) ?_ ?_) ?_ hxk (by omega)
      · intro u hu
        obtain ⟨q, hq, rfl⟩ := List.mem_map.1 hu
        simp at hq
        exact h1 _ _ (hcur q hq)
      · intro j u hu
        rw [List.getElem?_map] at hu
        obtain ⟨q, hq, rfl⟩ := Option.map_eq_some_iff.1 hu
        obtain ⟨hj, hq'⟩ := List.getElem?_eq_some_iff.1 hq
        simp at hq' hj
        subst hq'
        simp only [World.cell?, hheap]
        exact hcur j hj
      · intro j u c hu hcc
        rw [List.getElem?_map] at hu
        obtain ⟨q, hq, rfl⟩ := Option.map_eq_some_iff.1 hu
        obtain ⟨hj, hq'⟩ := List.getElem?_eq_some_iff.1 hq
        simp at hq' hj
        subst hq'
        rw [flat_get _ hxk _ hk.1] at hcc
        obtain ⟨zz, hz1, hz2⟩ := Option.bind_eq_some_iff.1 hcc
        refine hrel (j / k) (j % k) zz c _ hz1 hz2 ?_
        rw [Nat.add_assoc, Nat.mul_comm (j / k) k, Nat.div_add_mod]
        exact hcur j hj

end
end Go.Ab
