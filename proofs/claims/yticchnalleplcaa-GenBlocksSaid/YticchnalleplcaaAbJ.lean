/-
  The engine, part J: running lists of operations; regions; calls; functions.
-/
import Derived.Test.YticchnalleplcaaAbI
set_option linter.unusedSimpArgs false
set_option linter.unusedVariables false
namespace Go.Ab

section
variable {P : Program} {w w' : World} {fo : Nat → Prop} {m m' : Nat → Option Value} {L : Heap} {n : Nat} {s : St} {a : Act}

theorem Grows.refl (w : World) : Grows w w := ⟨rfl, rfl, rfl, Nat.le_refl _, fun _ _ => rfl⟩

/-- append onto a nil slice -/
theorem appendNilL {dst : Option Tmp} {t t2 : TypeId} {so xo : Operand} {ty : TypeId} {pos : String} {after : Array Edge} {guard : Option (Nat × Bool)} {h k by_ : Nat} {e : TypeId} {z : List Value} {ys : List (List V)}
    (ht : tySl P t = some (e, k, by_, z)) (ht2 : tySrc P t2 = true) (hs : s.ev so = .d (.v (.slice none 0 0))) (hn : h ∉ keys s.L) (hx : srcV s.L (s.ev xo) = some ys) (hk : 0 < k ∧ 0 < by_) (hys : ∀ y ∈ ys, y.length = k)
    (hb : ys.length * by_ ≤ 140737488355328) :
    OpL P n ⟨dst, .call { callee := .builtin .append, args := #[so, xo], argTypes := #[t, t2] }, ty, pos, after, guard⟩ s
      (fun x s' => x = .rv h ∧ s' = { s with L := (h, .row e k ys) :: s.L }) := by
  intro fo m a w g
  obtain ⟨i, zv, hu, hi, hz, hsize, hbytes, hzl, hzs, hone⟩ := tySl_spec ht
  obtain ⟨d2, hu2, hd2⟩ := tySrc_spec ht2
  have hso := eval_rel g so
  rw [hs] at hso
  have hnil := hso.v_inv
  have hrx := eval_rel g xo
  obtain ⟨news, src, hnr⟩ := srcV_sound (P := P) g.inv hrx hx hk.1 hys
  have hlm : ys.length ≤ maxLen := maxLen_of hk.2 hb
  have hexec : ∀ {v' : Value} {w' : World}, (Builtin.append_ #[t, t2] ty #[a.eval so, a.eval xo]).run P w = .ok v' w' →
      (execOp a.eval ⟨dst, .call { callee := .builtin .append, args := #[so, xo], argTypes := #[t, t2] }, ty, pos, after, guard⟩).run P w = .ok (.value v') w' := by
    intro v' w' hr
    simp [execOp, resolve, invoke, builtin, hr]
  by_cases hy0 : ys = []
  · subst hy0
    have hn0 : news = [] := List.eq_nil_of_length_eq_zero (by simpa using src.len)
    subst hn0
    have hrun : (Builtin.append_ #[t, t2] ty #[a.eval so, a.eval xo]).run P w = .ok (.slice none 0 0) w := by
      obtain ⟨q1, q2⟩ := src.run w rfl
      simp only [List.length_nil] at q1 q2
      rw [hnil]
      rcases hd2 with ⟨e2, rfl⟩ | rfl <;> simp [Builtin.append_, run_underlying hu, run_underlying hu2, sizeOf, typeInfo, hi, hsize, q1, q2]
    obtain ⟨g', st⟩ := g.new (Grows.refl w) hn (x := .slice none 0 0) (r := .row e k []) (by intro b hb; simp [blk] at hb) (.inl ⟨rfl, rfl⟩)
    exact ⟨_, _, _, _, _, _, hexec hrun, .inl rfl, ⟨rfl, rfl⟩, .rv h _ (mset_same _ _) rfl, g', st⟩
  · have hpos := List.length_pos_iff.2 hy0
    have hrun := run_append_grow' (P := P) (ty := ty) (ao := none) (sLen := 0) (sCap := 0) (olds := []) hu hu2 hd2 hi hsize hz src Src.none' (by omega) (by simp only [maxLen] at hlm; omega) (by rw [hbytes]; exact growslice_fits (by omega) (by simpa using hb))
    have hge := grownCap_ge w (0 + ys.length) 0 e
    have hcm := grownCap_le_maxLen w (0 + ys.length) 0 e (by omega)
    have hnb : ∀ b, blk (.slice (some ⟨w.heap.size, 0, none⟩) (0 + ys.length) (grownCap w (0 + ys.length) 0 e)) = some b → w.heap.size ≤ b := by
      intro b hb; simp [blk] at hb; omega
    have hgr : Grows w (w.drew.alloc (.cells (#[] ++ news.toArray ++ Builtin.zeroCells zv.cells (grownCap w (0 + ys.length) 0 e - (0 + ys.length))) e)) := by
      have := Grows.alloc w.drew (.cells (#[] ++ news.toArray ++ Builtin.zeroCells zv.cells (grownCap w (0 + ys.length) 0 e - (0 + ys.length))) e)
      exact ⟨this.os, this.tape, this.output, this.size, this.block⟩
    obtain ⟨g', st⟩ := g.new hgr hn (x := .slice (some ⟨w.heap.size, 0, none⟩) (0 + ys.length) (grownCap w (0 + ys.length) 0 e)) (r := .row e k ys) hnb (by
      have := grown_holds (w := w) (O := OO fo m) (m := m) (e := e) (k := k) (zv := zv) (z := z) (olds := []) (news := news) (xs := []) (ys := ys) (cap := grownCap w (0 + ys.length) 0 e) hzl hzs hone hk.1 (by simp) src.len (by simp) src.one (by simp) hys
        (by simp) hnr (by simpa using hge) hcm (w0 := w) (fr := w.drew.alloc (.cells (#[] ++ news.toArray ++ Builtin.zeroCells zv.cells (grownCap w (0 + ys.length) 0 e - (0 + ys.length))) e))
        (heap_alloc_new w.drew (.cells (#[] ++ news.toArray ++ Builtin.zeroCells zv.cells (grownCap w (0 + ys.length) 0 e - (0 + ys.length))) e))
        (O' := OO fo (mset m h (.slice (some ⟨w.heap.size, 0, none⟩) (0 + ys.length) (grownCap w (0 + ys.length) 0 e)))) (m' := mset m h (.slice (some ⟨w.heap.size, 0, none⟩) (0 + ys.length) (grownCap w (0 + ys.length) 0 e)))
        (fun u c hu => RelV.mono (w := w) (O := OO fo m) ⟨hgr.size, fun b hb _ => hgr.block b hb⟩ (OO_new g.inv hnb) (mset_sub g.inv hn _) hu)
      simpa using this)
    rw [← hnil] at hrun
    exact ⟨_, _, _, _, _, _, hexec hrun, .inl rfl, ⟨rfl, rfl⟩, .rv h _ (mset_same _ _) rfl, g', st⟩

/-- a cut of an owned row -/
def cutRow (xs : List (List V)) (l h : Nat) : List (List V) := (xs.take h).drop l

theorem resliceL {dst : Option Tmp} {t : TypeId} {xo : Operand} {lo hi : Option Operand} {ty : TypeId} {pos : String} {after : Array Edge} {guard : Option (Nat × Bool)} {h k : Nat} {e e' : TypeId} {xs : List (List V)} {l u : Nat} {kl ku : IntKind}
    (ht : tyE P t = some (e, k)) (hs : s.ev xo = .rv h) (hl : s.L.lookup h = some (.row e' k xs))
    (hlo : (lo = none ∧ l = 0) ∨ ∃ z, lo = some z ∧ s.ev z = .d (.v (.int kl l))) (hhi : (hi = none ∧ u = xs.length) ∨ ∃ z, hi = some z ∧ s.ev z = .d (.v (.int ku u))) (hlu : l ≤ u) (hux : u ≤ xs.length) :
    OpL P n ⟨dst, .slice t xo lo hi none, ty, pos, after, guard⟩ s
      (fun x s' => x = .rv h ∧ s' = ⟨(s.kill h).fr, Heap.upd (s.kill h).L h (.row e' k ((cutRow xs l u).map (V.kills h)))⟩) := by
  intro fo m a w g
  have hrs := eval_rel g xo
  rw [hs] at hrs
  have hsv := rv_inv hrs
  obtain ⟨sx, hsx, hholds⟩ := g.inv.holds h _ (lookup_mem hl)
  rw [hsv] at hsx
  obtain rfl := Option.some.inj hsx
  obtain ⟨ht1, ht2⟩ := tyE_spec ht w
  have hel : ∀ {C : Nat}, u ≤ C → (Instr.sliceBounds true xs.length C (lo.map a.eval) (hi.map a.eval) none).run P w = .ok (l, u, C) w := by
    intro C huC
    have h1 : ∀ z, s.ev z = .d (.v (.int kl l)) → a.eval z = .int kl l := fun z hz => by have := eval_rel g z; rw [hz] at this; exact this.v_inv
    have h2 : ∀ z, s.ev z = .d (.v (.int ku u)) → a.eval z = .int ku u := fun z hz => by have := eval_rel g z; rw [hz] at this; exact this.v_inv
    rcases hlo with ⟨rfl, rfl⟩ | ⟨z, rfl, hz⟩ <;> rcases hhi with ⟨rfl, rfl⟩ | ⟨z', rfl, hz'⟩
    · simp [Instr.sliceBounds]
    · simp [Instr.sliceBounds, h2 _ hz', Instr.sliceBound, asIntOf, huC]
    · simp [Instr.sliceBounds, h1 _ hz, Instr.sliceBound, asIntOf, hlu]
    · simp [Instr.sliceBounds, h1 _ hz, h2 _ hz', Instr.sliceBound, asIntOf, huC, hlu]
  have hrunv : ∀ {ao : Option Addr} {C : Nat}, a.eval xo = .slice ao xs.length C → u ≤ C →
      (execOp a.eval ⟨dst, .slice t xo lo hi none, ty, pos, after, guard⟩).run P w = .ok (.value (.slice (if C = l then ao else ao.map (·.add (l * k))) (u - l) (C - l))) w := by
    intro ao C hso huC
    simp only [execOp, Instr.sliceAt, Instr.slice, hso, Sem.run_bind, ht1, ht2, Result.andThen_ok, Option.map_none, hel huC]
    rfl
  have hcl : (cutRow xs l u).length = u - l := by simp [cutRow]; omega
  have hcg : ∀ (i : Nat) (x : List V), (cutRow xs l u)[i]? = some x → i < u - l ∧ xs[l + i]? = some x := by
    intro i x hx
    unfold cutRow at hx
    rw [List.getElem?_drop, List.getElem?_take] at hx
    split at hx
    · exact ⟨by omega, hx⟩
    · cases hx
  rcases hholds with ⟨hnil, rfl⟩ | ⟨b, off, cap, cur, hso, hheap, hcap, hmax, hsz, hlen, h1, hrel⟩
  · have hu0 : u = 0 := by simpa using hux
    subst hu0
    have hl0 : l = 0 := by omega
    subst hl0
    have hrun := hrunv (ao := none) (C := 0) (by simpa using hnil) (by omega)
    obtain ⟨g', st⟩ := g.change (w' := w) hsv rfl rfl rfl (Nat.le_refl _) (fun _ _ _ => rfl) (v' := .slice none 0 0) (by intro b hb; simp [blk] at hb) (r' := .row e' k []) (.inl ⟨rfl, rfl⟩)
    refine ⟨_, _, _, _, _, _, hrun, .inl rfl, ⟨rfl, by simp [cutRow]⟩, ?_, g', st⟩
    exact .rv h _ (by simp [mset_same]) rfl
  · have hrun := hrunv hso (by omega)
    have hv' : (if cap = l then (some (⟨b, off, none⟩ : Addr)) else (some (⟨b, off, none⟩ : Addr)).map (·.add (l * k))) = some ⟨b, if cap = l then off else off + l * k, none⟩ := by
      split
      · rfl
      · simp [Addr.add_lit]
    rw [hv'] at hrun
    have hnb : ∀ b', blk (.slice (some ⟨b, if cap = l then off else off + l * k, none⟩) (u - l) (cap - l)) = some b' → blk (a.eval xo) = some b' ∨ w.heap.size ≤ b' := by
      intro b' hb'; left; rw [hso]; exact hb'
    have hbd : (cap - l) * k + l * k = cap * k := by rw [← Nat.add_mul]; congr 1; omega
    have hh : (Res.row e' k ((cutRow xs l u).map (V.kills h))).Holds w (OO fo (mset m h (.slice (some ⟨b, if cap = l then off else off + l * k, none⟩) (u - l) (cap - l)))) (mset m h (.slice (some ⟨b, if cap = l then off else off + l * k, none⟩) (u - l) (cap - l)))
        (.slice (some ⟨b, if cap = l then off else off + l * k, none⟩) (u - l) (cap - l)) := by
      refine .inr ⟨b, if cap = l then off else off + l * k, cap - l, cur, by simp [hcl], hheap, by simp [hcl]; omega, by omega, ?_, ?_, h1, ?_⟩
      · split
        · rename_i hc; rw [hc]; simp; omega
        · omega
      · intro i x hx
        rw [List.getElem?_map] at hx
        obtain ⟨x0, hx0, rfl⟩ := Option.map_eq_some_iff.1 hx
        rw [kills_eq, List.length_map]
        exact hlen _ x0 (hcg i x0 hx0).2
      · intro i j x y v hx hy hv
        rw [List.getElem?_map] at hx
        obtain ⟨x0, hx0, rfl⟩ := Option.map_eq_some_iff.1 hx
        rw [kills_eq, List.getElem?_map] at hy
        obtain ⟨y0, hy0, rfl⟩ := Option.map_eq_some_iff.1 hy
        obtain ⟨hi', hx1⟩ := hcg i x0 hx0
        have hne : ¬ cap = l := by omega
        rw [if_neg hne] at hv ⊢
        have := hrel (l + i) j x0 y0 v hx1 hy0 (by rw [Nat.add_mul, ← Nat.add_assoc]; exact hv)
        refine RelV.mono (w := w) (O := OO fo m) (Keep.refl w _) ?_ (fun _ _ e => e) (RelV.kill (m := m) (fun i x hi hx => by rw [mset_ne _ hi]; exact hx) this)
        rintro c hc (⟨p, y, hy, hby⟩ | hf)
        · by_cases hph : p = h
          · subst hph; rw [mset_same] at hy; obtain rfl := Option.some.inj hy; exact .inl ⟨p, _, hsv, by rw [hso]; exact hby⟩
          · rw [mset_ne _ hph] at hy; exact .inl ⟨p, y, hy, hby⟩
        · exact .inr hf
    obtain ⟨g', st⟩ := g.change (w' := w) hsv rfl rfl rfl (Nat.le_refl _) (fun _ _ _ => rfl) hnb hh
    exact ⟨_, _, _, _, _, _, hrun, .inl rfl, ⟨rfl, rfl⟩, .rv h _ (mset_same _ _) rfl, g', st⟩

end
end Go.Ab
