/-
  The engine, part X: what a call hands back read as data; arguments lent; calls that are given owned memory.
-/
import Derived.Test.YticchnalleplcaaAbW
set_option linter.unusedSimpArgs false
set_option linter.unusedVariables false
namespace Go.Ab

/-- Rows whose cells are all data, as data. -/
def unD : List V → Option (List D)
  | [] => some []
  | .d x :: l => match unD l with
    | some r => some (x :: r)
    | none => none
  | _ :: _ => none
def undd : List (List V) → Option (List (List D))
  | [] => some []
  | x :: l => match unD x, undd l with
    | some y, some r => some (y :: r)
    | _, _ => none

@[simp] theorem unD_map (l : List D) : unD (l.map V.d) = some l := by
  induction l with
  | nil => rfl
  | cons x l ih => simp [unD, ih]
@[simp] theorem undd_dd (ys : List (List D)) : undd (dd ys) = some ys := by
  induction ys with
  | nil => rfl
  | cons x l ih => simp only [dd, List.map_cons, undd, unD_map]; rw [show List.map (fun x => List.map V.d x) l = dd l from rfl, ih]

theorem unD_eq : ∀ {l : List V} {r : List D}, unD l = some r → l = r.map V.d
  | [], r, h => by simp only [unD, Option.some.injEq] at h; subst h; rfl
  | .d x :: l, r, h => by
    rw [unD] at h
    split at h
    · rename_i r' hr
      simp only [Option.some.injEq] at h
      subst h
      rw [unD_eq hr]; rfl
    · cases h
  | .bp _ _ :: _, _, h => by simp [unD] at h
  | .rv _ :: _, _, h => by simp [unD] at h
  | .ep _ _ _ _ :: _, _, h => by simp [unD] at h
  | .rp _ :: _, _, h => by simp [unD] at h
  | .clo _ _ _ :: _, _, h => by simp [unD] at h
  | .agg _ :: _, _, h => by simp [unD] at h
  | .tup _ :: _, _, h => by simp [unD] at h
  | .gd _ _ :: _, _, h => by simp [unD] at h
  | .any :: _, _, h => by simp [unD] at h

theorem undd_eq : ∀ {l : List (List V)} {r : List (List D)}, undd l = some r → l = dd r
  | [], r, h => by simp only [undd, Option.some.injEq] at h; subst h; rfl
  | x :: l, r, h => by
    rw [undd] at h
    split at h
    · rename_i y r' hy hr
      simp only [Option.some.injEq] at h
      subst h
      rw [unD_eq hy, undd_eq hr]; rfl
    · cases h

/-! What a value comes to where what is owned is given up: owned rows become data, a nil slice reads as an empty one. -/
mutual
def V.fz (L : Heap) : V → V
  | .d (.v (.slice none 0 0)) => .d (.sl [])
  | .rv h => match L.lookup h with
    | some (.row _ _ xs) => match undd xs with
      | some ys => .d (.sl ys)
      | none => .any
    | _ => .any
  | .agg cs => .agg (V.fzs L cs)
  | .tup cs => .tup (V.fzs L cs)
  | x => x
def V.fzs (L : Heap) : List V → List V
  | [] => []
  | x :: l => V.fz L x :: V.fzs L l
end

section
variable {P : Program} {w w' : World} {fo : Nat → Prop} {m m' : Nat → Option Value} {L : Heap} {n : Nat} {s : St} {a : Act} {Q : AX → St → Prop}

theorem fzs_get {L : Heap} : ∀ (l : List V) (j : Nat), (V.fzs L l)[j]? = l[j]?.map (V.fz L)
  | [], j => by simp [V.fzs]
  | x :: l, 0 => by simp [V.fzs]
  | x :: l, j + 1 => by simp [V.fzs, fzs_get l j]

theorem fzs_len {L : Heap} : ∀ (l : List V), (V.fzs L l).length = l.length
  | [] => by simp [V.fzs]
  | x :: l => by simp [V.fzs, fzs_len l]

theorem nil_rel {O : Nat → Prop} : RelD w O (.slice none 0 0) (.sl []) := .sl none 0 0 [] 0 0 0 (fun _ _ => undef) rfl (by omega) (by simp [maxLen]) (by omega) (by simp) (by omega) (by simp)

/-- A row as data. -/
theorem row_data (hi : Inv fo m L w) {h k : Nat} {ty : TypeId} {ys : List (List D)} (hl : L.lookup h = some (.row ty k (dd ys))) {v : Value} (hv : m h = some v) : RelD w fo v (.sl ys) := by
  obtain ⟨x, hx, hh⟩ := hi.holds h _ (lookup_mem hl)
  rw [hv] at hx
  obtain rfl := Option.some.inj hx
  rcases hh with ⟨rfl, hy⟩ | ⟨b, off, cap, cur, rfl, hb, h1, h2, h3, h4, h5, h6⟩
  · have : ys = [] := by
      cases ys with
      | nil => rfl
      | cons y l => simp [dd] at hy
    subst this
    exact nil_rel
  · have hlen : (dd ys).length = ys.length := by simp [dd]
    rw [hlen] at h1 ⊢
    have hget : ∀ (i : Nat) (x : List D), ys[i]? = some x → (dd ys)[i]? = some (x.map V.d) := by
      intro i x hx; simp [dd, hx]
    have hkx : ∀ (i : Nat) (x : List D), ys[i]? = some x → x.length = k := by
      intro i x hx
      have := h4 i _ (hget i x hx)
      simpa using this
    have hbd : ∀ i j, i < ys.length → j < k → off + i * k + j < cur.size := by
      intro i j hi hj
      have : (i + 1) * k ≤ cap * k := Nat.mul_le_mul_right _ (by omega)
      rw [Nat.add_mul, Nat.one_mul] at this
      omega
    refine .sl (some ⟨b, off, none⟩) ys.length cap ys k b off (fun i j => cur.getD (off + i * k + j) undef) rfl h1 h2 (fun _ => ⟨rfl, hi.others h _ b hv rfl, (Array.getElem?_eq_some_iff.1 hb).1⟩) hkx ?_ ?_
    · intro i j hi hj
      have := hbd i j hi hj
      simp [World.cell?, hb, Array.getD, this]
    · intro i j x y hx hy
      have hj : j < k := by have := (List.getElem?_eq_some_iff.1 hy).1; have := hkx i x hx; omega
      have hil := (List.getElem?_eq_some_iff.1 hx).1
      have hlt := hbd i j hil hj
      have := h6 i j _ (.d y) (cur[off + i * k + j]) (hget i x hx) (by simp [hy]) (Array.getElem?_eq_getElem hlt)
      have h7 := this.d_inv
      have e : cur.getD (off + i * k + j) undef = cur[off + i * k + j] := by simp [Array.getD, hlt]
      rw [e]
      exact h7.mono (Keep.refl w _) (fun b _ hb => .inr hb)

theorem fz_rel (hi : Inv fo m L w) {v : Value} {y : V} (h : RelV w (OO fo m) m v y) : (y.fz L).on [] = true → RelV w fo noneM v (y.fz L) := by
  have hD : ∀ {x : Value} {d : D}, RelD w (OO fo m) x d → RelD w fo x d := fun h => h.mono (Keep.refl w _) (fun b _ hb => .inr hb)
  induction h with
  | d x y h =>
    intro _
    unfold V.fz
    split
    · rename_i heq; cases heq; cases h; exact .d _ _ nil_rel
    · rename_i heq; cases heq
    · rename_i heq; cases heq
    · rename_i heq; cases heq
    · exact .d _ _ (hD h)
  | bp h off b e => intro ho; simp [V.fz, V.on] at ho
  | rv h x e e1 =>
    intro _
    simp only [V.fz]
    split
    · rename_i ty k xs hl
      split
      · rename_i ys hys
        rw [undd_eq hys] at hl
        exact .d _ _ (row_data hi hl e)
      · exact .any _
    · exact .any _
  | ep h k i j b o n c e => intro ho; simp [V.fz, V.on] at ho
  | rp b off cs f hb hlt hc hr => intro _; simp only [V.fz]; exact .rp b off cs f (fun hf => hb (.inr hf)) hlt hc (fun j y hy => hD (hr j y hy))
  | clo fn first caps cf cc s1 s2 h1 h2 ih1 ih2 =>
    intro ho
    simp only [V.fz] at ho ⊢
    have : RelV w (OO fo m) m (.func fn first caps) (.clo fn cf cc) := .clo fn first caps cf cc s1 s2 h1 h2
    exact (this.on (ks := []) (m' := noneM) (by simp) ho).mono (Keep.refl w _) (fun b _ hb => .inr hb) (fun _ _ e => e)
  | agg vs cs hs h1 h ih =>
    intro ho
    simp only [V.fz, V.on] at ho ⊢
    refine .agg vs _ (by rw [fzs_len]; exact hs) h1 ?_
    intro j x y hx hy
    have hyo := ons_mem ho y (List.mem_of_getElem? hy)
    rw [fzs_get] at hy
    obtain ⟨z, hz, rfl⟩ := Option.map_eq_some_iff.1 hy
    exact ih j x z hx hz hyo
  | tup vs cs hs h ih =>
    intro ho
    simp only [V.fz, V.on] at ho ⊢
    refine .tup vs _ (by rw [fzs_len]; exact hs) ?_
    intro j x y hx hy
    have hyo := ons_mem ho y (List.mem_of_getElem? hy)
    rw [fzs_get] at hy
    obtain ⟨z, hz, rfl⟩ := Option.map_eq_some_iff.1 hy
    exact ih j x z hx hz hyo
  | gt x y h ih =>
    intro ho
    simp only [V.fz, V.on] at ho ⊢
    exact (RelV.on (ks := []) (m' := noneM) (by simp) (.gt x y h) (by simpa [V.on] using ho)).mono (Keep.refl w _) (fun b _ hb => .inr hb) (fun _ _ e => e)
  | gf y => intro _; simp only [V.fz]; exact .gf y
  | any x => intro _; simp only [V.fz]; exact .any x

/-- A function's result as data, all that it owned given up. -/
theorem ACalls.data {f : FuncId} {args : List V} {L : Heap} {x : V} (h : ACalls P f args L (fun r L' => ∃ y, r = .ret y ∧ y.fz L' = x)) (hx : x.on [] = true) : ACalls P f args L (fun r L' => r = .ret x ∧ L' = []) := by
  intro fo m w xs hi hr
  refine (h fo m w xs hi hr).mono ?_
  rintro e w' ⟨m1, r, L1, ⟨y, rfl, rfl⟩, he, hi', st⟩
  cases e with
  | returned v =>
    simp only [Ends] at he
    refine ⟨noneM, .ret (y.fz L1), [], ⟨rfl, rfl⟩, ?_, hi'.none_ (fun b hb => .inr hb), ⟨st.os, st.tape, st.output, st.size, st.block, fun b _ hb => (noneM_own b hb).elim⟩⟩
    simp only [Ends]
    exact (fz_rel hi' he hx).mono (Keep.refl w' _) (fun b _ hb => hb.elim (fun h => (noneM_own b h).elim) id) (fun _ _ e => e)
  | panicked ch => simp only [Ends] at he
  | outgrown => simp only [Ends] at he

/-! Numbers, truths, strings, and what is made of these. -/
mutual
def V.scal : V → Bool
  | .d (.v _) => true
  | .agg cs => V.scals cs
  | .tup cs => V.scals cs
  | _ => false
def V.scals : List V → Bool
  | [] => true
  | x :: l => V.scal x && V.scals l
end

theorem scals_mem : ∀ {l : List V}, V.scals l = true → ∀ x ∈ l, V.scal x = true
  | [], _, x, h => by cases h
  | y :: l, h, x, hx => by
    simp only [V.scals, Bool.and_eq_true] at h
    rcases List.mem_cons.1 hx with rfl | hx
    · exact h.1
    · exact scals_mem h.2 x hx

theorem scal_rel {O O' : Nat → Prop} {v : Value} {y : V} (h : RelV w O m v y) : y.scal = true → RelV w' O' m' v y := by
  induction h with
  | d x y h =>
    intro hs
    cases y with
    | v u => cases h with | v _ h1 => exact .d _ _ (.v _ h1)
    | sl xs => simp [V.scal] at hs
    | ifc t ag cs => simp [V.scal] at hs
  | bp h off b e => intro hs; simp [V.scal] at hs
  | rv h x e e1 => intro hs; simp [V.scal] at hs
  | ep h k i j b o n c e => intro hs; simp [V.scal] at hs
  | rp b off cs f hb hlt hc hr => intro hs; simp [V.scal] at hs
  | clo fn first caps cf cc s1 s2 h1 h2 ih1 ih2 => intro hs; simp [V.scal] at hs
  | agg vs cs hs h1 h ih =>
    intro hsc
    simp only [V.scal] at hsc
    exact .agg vs cs hs h1 (fun j x y hx hy => ih j x y hx hy (scals_mem hsc y (List.mem_of_getElem? hy)))
  | tup vs cs hs h ih =>
    intro hsc
    simp only [V.scal] at hsc
    exact .tup vs cs hs (fun j x y hx hy => ih j x y hx hy (scals_mem hsc y (List.mem_of_getElem? hy)))
  | gt x y h ih => intro hs; simp [V.scal] at hs
  | gf y => intro hs; simp [V.scal] at hs
  | any x => intro hs; simp [V.scal] at hs

/-- A call that is lent owned rows, and hands back plain values. -/
theorem OpT.lend {o : Oper} {c : Call} {ρa : Operand → V} {f : FuncId} {args : List V} {x : V} (hop : o.op = .call c) (hc : callee ρa c = some (f, args)) (he : enters P f = true) (ho : V.ons [] (V.fzs L args) = true) (hx : x.scal = true)
    (h : ACalls P f (V.fzs L args) [] (fun r _ => r = .ret x)) : OpT P o ρa L x := by
  intro fo m ρ w hi hr
  obtain ⟨xs, h1, h2⟩ := call_enters (P := P) hop hc he hr
  refine .inr ⟨f, xs, h1, ?_⟩
  have hrel : RelVs w (OO fo noneM) noneM xs (V.fzs L args) := by
    refine ⟨by rw [fzs_len]; exact h2.1, fun j v y hv hy => ?_⟩
    have hyo := ons_mem ho y (List.mem_of_getElem? hy)
    rw [fzs_get] at hy
    obtain ⟨z, hz, rfl⟩ := Option.map_eq_some_iff.1 hy
    exact (fz_rel hi (h2.2 j v z hv hz) hyo).mono (Keep.refl w _) (fun b _ hb => hb.elim (fun h => (noneM_own b h).elim) id) (fun _ _ e => e)
  refine (h fo noneM w xs (hi.none_ fun b hb => .inr hb) hrel).mono ?_
  rintro e w' ⟨m1, r, L', rfl, he', hi', st⟩
  cases e with
  | returned v =>
    simp only [Ends] at he'
    exact ⟨v, rfl, scal_rel he' hx, hi.grown st.size (fun b hb => st.block b hb (noneM_own b)), ⟨st.os, st.tape, st.output, st.size, fun b hb _ => st.block b hb (noneM_own b), fun b hb h => h⟩⟩
  | panicked ch => simp only [Ends] at he'
  | outgrown => simp only [Ends] at he'

/-! ### Calls that are given owned memory -/



/-- What a call that is given the resources L1 out of L1 ++ L2 leaves. -/
theorem call_core {o : Oper} {c : Call} {f : FuncId} {args : List V} {L1 L2 : Heap} {R : AE → Heap → Prop}
    (hop : o.op = .call c) (hc : callee s.ev c = some (f, args)) (he : enters P f = true) (ho : V.ons (keys L1) args = true) (hL : s.L.Perm (L1 ++ L2)) (hon : L1.all (fun p => Res.on (keys L1) p.2) = true)
    (hL2 : ∀ p ∈ L2, Res.on (keys L2 ++ (L1.filterMap fun p => match p.2 with | .box (_ + 1) _ _ => some p.1 | _ => none)) p.2 = true)
    (h : ACalls P f args L1 R)
    (hstay : ∀ r L1', R r L1' → (∃ x, r = .ret x) ∧ (∀ k ∈ keys L1', k ∉ keys L2) ∧ ∀ k b ty cs, (k, Res.box (b + 1) ty cs) ∈ L1 → ∃ ty' cs', (k, Res.box (b + 1) ty' cs') ∈ L1')
    {fo : Nat → Prop} {m : Nat → Option Value} {a : Act} {w : World} (g : G fo n m s a w) {next : Act → World → Prop} {Q' : Exit → Act → World → Prop}
    (k : ∀ x L1' mm v w', R (.ret x) L1' → RelV w' (OO fo mm) mm v x → Inv fo mm (L1' ++ L2) w' → Step w (own m) w' (own mm) →
      (∀ h y, h ∈ keys L2 ++ (L1.filterMap fun p => match p.2 with | .box (_ + 1) _ _ => some p.1 | _ => none) → m h = some y → mm h = some y) →
      Keep w (OO fo m) w' → (∀ b, b < w.heap.size → OO fo mm b → OO fo m b) → next (a.put o.dst v) w') : o.wp P a w next Q' := by
  classical
  obtain ⟨xs, h1, h2⟩ := call_enters (P := P) (w := w) (m := m) (O := OO fo m) hop hc he (fun z _ => eval_rel g z)
  have hi := g.inv
  have hkeys : ∀ x, x ∈ keys s.L ↔ x ∈ keys L1 ∨ x ∈ keys L2 := by
    intro x
    have : (keys s.L).Perm (keys (L1 ++ L2)) := hL.map _
    rw [this.mem_iff]
    simp [keys]
  have hnd : (keys L1).Nodup ∧ (keys L2).Nodup ∧ ∀ x, x ∈ keys L1 → x ∉ keys L2 := by
    have hp : (keys s.L).Perm (keys L1 ++ keys L2) := by simpa [keys] using hL.map (·.1)
    have := hp.nodup_iff.1 hi.nodup
    rw [List.nodup_append] at this
    exact ⟨this.1, this.2.1, fun x h1 h2 => this.2.2 x h1 x h2 rfl⟩
  let m1 : Nat → Option Value := fun h => if h ∈ keys L1 then m h else none
  let m2 : Nat → Option Value := fun h => if h ∈ keys L2 then m h else none
  have hm1 : ∀ h x, m1 h = some x → m h = some x ∧ h ∈ keys L1 := by
    intro h x hx
    by_cases hh : h ∈ keys L1
    · simp only [m1, if_pos hh] at hx; exact ⟨hx, hh⟩
    · simp only [m1, if_neg hh] at hx; cases hx
  have hm2 : ∀ h x, m2 h = some x → m h = some x ∧ h ∈ keys L2 := by
    intro h x hx
    by_cases hh : h ∈ keys L2
    · simp only [m2, if_pos hh] at hx; exact ⟨hx, hh⟩
    · simp only [m2, if_neg hh] at hx; cases hx
  have hm1' : ∀ h x, h ∈ keys L1 → m h = some x → m1 h = some x := fun h x hh hx => by simp only [m1, if_pos hh]; exact hx
  have hm2' : ∀ h x, h ∈ keys L2 → m h = some x → m2 h = some x := fun h x hh hx => by simp only [m2, if_pos hh]; exact hx
  let fo1 : Nat → Prop := fun b => fo b ∨ own m2 b
  have hown : ∀ b, own m b ↔ own m1 b ∨ own m2 b := by
    intro b
    constructor
    · rintro ⟨h, x, hx, hb⟩
      rcases (hkeys h).1 (hi.dom h x hx) with hh | hh
      · exact .inl ⟨h, x, hm1' h x hh hx, hb⟩
      · exact .inr ⟨h, x, hm2' h x hh hx, hb⟩
    · rintro (⟨h, x, hx, hb⟩ | ⟨h, x, hx, hb⟩)
      · exact ⟨h, x, (hm1 h x hx).1, hb⟩
      · exact ⟨h, x, (hm2 h x hx).1, hb⟩
  have hOO : ∀ b, OO fo1 m1 b ↔ OO fo m b := by
    intro b
    unfold OO
    rw [hown b]
    constructor
    · rintro (h | h | h)
      · exact .inl (.inl h)
      · exact .inr h
      · exact .inl (.inr h)
    · rintro ((h | h) | h)
      · exact .inl h
      · exact .inr (.inr h)
      · exact .inr (.inl h)
  have hi1 : Inv fo1 m1 L1 w := by
    refine ⟨hnd.1, fun h x hx => (hm1 h x hx).2, ?_, ?_, ?_, ?_⟩
    · intro h h' x x' b hx hx' hb hb'
      exact hi.apart h h' x x' b (hm1 h x hx).1 (hm1 h' x' hx').1 hb hb'
    · rintro h x b hx hb (hf | ⟨h', x', hx', hb'⟩)
      · exact hi.others h x b (hm1 h x hx).1 hb hf
      · have := hi.apart h h' x x' b (hm1 h x hx).1 (hm2 h' x' hx').1 hb hb'
        subst this
        exact hnd.2.2 h (hm1 h x hx).2 (hm2 h x' hx').2
    · rintro b (hf | ⟨h', x', hx', hb'⟩)
      · exact hi.folt b hf
      · exact hi.lt (hm2 h' x' hx').1 hb'
    · intro h r hr
      obtain ⟨x, hx, hh⟩ := hi.holds h r (hL.mem_iff.2 (List.mem_append_left _ hr))
      have hk : h ∈ keys L1 := List.mem_map.2 ⟨_, hr, rfl⟩
      rw [List.all_eq_true] at hon
      exact ⟨x, hm1' h x hk hx, (hh.on hm1' (hon _ hr)).mono (fun _ _ => rfl) (Keep.refl w _) (fun b _ hb => (hOO b).1 hb) (fun _ _ e => e)⟩
  have hrel : RelVs w (OO fo1 m1) m1 xs args := by
    refine ⟨h2.1, fun j v y hv hy => ?_⟩
    exact ((h2.2 j v y hv hy).on hm1' (ons_mem ho y (List.mem_of_getElem? hy))).mono (Keep.refl w _) (fun b _ hb => (hOO b).1 hb) (fun _ _ e => e)
  unfold Oper.wp
  rw [h1, Oper.upon_enter]
  refine (h fo1 m1 w xs hi1 hrel).mono ?_
  rintro e w' ⟨m1', r, L1', hR, he', hi', st'⟩
  obtain ⟨⟨x, rfl⟩, hdis, hbox⟩ := hstay r L1' hR
  cases e with
  | panicked ch => simp only [Ends] at he'
  | outgrown => simp only [Ends] at he'
  | returned v =>
    simp only [Ends] at he'
    let mm : Nat → Option Value := fun h => if h ∈ keys L1' then m1' h else m2 h
    have hmm1 : ∀ h y, m1' h = some y → mm h = some y := fun h y hy => by simp only [mm, if_pos (hi'.dom h y hy)]; exact hy
    have hmm2 : ∀ h y, m2 h = some y → mm h = some y := by
      intro h y hy
      have : h ∉ keys L1' := fun hh => hdis h hh (hm2 h y hy).2
      simp only [mm, if_neg this]; exact hy
    have hmmi : ∀ h y, mm h = some y → (m1' h = some y ∧ h ∈ keys L1') ∨ (m2 h = some y ∧ h ∉ keys L1') := by
      intro h y hy
      by_cases hh : h ∈ keys L1'
      · simp only [mm, if_pos hh] at hy; exact .inl ⟨hy, hh⟩
      · simp only [mm, if_neg hh] at hy; exact .inr ⟨hy, hh⟩
    have hownm : ∀ b, own mm b ↔ own m1' b ∨ own m2 b := by
      intro b
      constructor
      · rintro ⟨h, y, hy, hb⟩
        rcases hmmi h y hy with ⟨hy, _⟩ | ⟨hy, _⟩
        · exact .inl ⟨h, y, hy, hb⟩
        · exact .inr ⟨h, y, hy, hb⟩
      · rintro (⟨h, y, hy, hb⟩ | ⟨h, y, hy, hb⟩)
        · exact ⟨h, y, hmm1 h y hy, hb⟩
        · exact ⟨h, y, hmm2 h y hy, hb⟩
    have hOOm : ∀ b, OO fo mm b ↔ OO fo1 m1' b := by
      intro b
      unfold OO
      rw [hownm b]
      constructor
      · rintro ((h | h) | h)
        · exact .inl h
        · exact .inr (.inr h)
        · exact .inr (.inl h)
      · rintro (h | h | h)
        · exact .inl (.inl h)
        · exact .inr h
        · exact .inl (.inr h)
    have hO' : ∀ b, b < w.heap.size → OO fo mm b → OO fo m b := by
      intro b hb ho'
      rcases (hOOm b).1 ho' with h | h | h
      · exact .inl ((hown b).2 (.inl (st'.owned b hb h)))
      · exact .inr h
      · exact .inl ((hown b).2 (.inr h))
    have hkeep : Keep w (OO fo m) w' := ⟨st'.size, fun b hb hno => st'.block b hb (fun h => hno (.inl ((hown b).2 (.inl h))))⟩
    have hboxm : ∀ h y, h ∈ keys L2 ++ (L1.filterMap fun p => match p.2 with | .box (_ + 1) _ _ => some p.1 | _ => none) → m h = some y → mm h = some y := by
      intro h y hh hy
      rcases List.mem_append.1 hh with hh | hh
      · exact hmm2 h y (hm2' h y hh hy)
      · obtain ⟨p, hp, hpe⟩ := List.mem_filterMap.1 hh
        obtain ⟨q, r⟩ := p
        cases r with
        | row ty k xs => simp at hpe
        | box b0 ty cs =>
          cases b0 with
          | zero => simp at hpe
          | succ b =>
          simp only [Option.some.injEq] at hpe
          subst hpe
          obtain ⟨ty', cs', hb'⟩ := hbox q b ty cs hp
          obtain ⟨z, hz, hzh⟩ := hi'.holds q _ hb'
          obtain ⟨bb1, hb1, cur', e1, _⟩ := hzh
          obtain ⟨u, hu, huh⟩ := hi1.holds q _ hp
          obtain ⟨bb2, hb2, cur, e2, _⟩ := huh
          obtain rfl : bb1 = b := by omega
          obtain rfl : bb2 = bb1 := by omega
          have := (hm1 q u hu).1
          rw [hy] at this
          obtain rfl := Option.some.inj this
          rw [e2, ← e1]
          exact hmm1 q z hz
    have hinv : Inv fo mm (L1' ++ L2) w' := by
      refine ⟨?_, ?_, ?_, ?_, fun b hf => Nat.lt_of_lt_of_le (hi.folt b hf) st'.size, ?_⟩
      · show (keys (L1' ++ L2)).Nodup
        rw [show keys (L1' ++ L2) = keys L1' ++ keys L2 by simp [keys], List.nodup_append]
        exact ⟨hi'.nodup, hnd.2.1, fun x h1 y h2 e => hdis x h1 (by rw [e]; exact h2)⟩
      · intro h y hy
        show h ∈ keys (L1' ++ L2)
        rw [show keys (L1' ++ L2) = keys L1' ++ keys L2 by simp [keys]]
        rcases hmmi h y hy with ⟨_, hh⟩ | ⟨hy, _⟩
        · exact List.mem_append_left _ hh
        · exact List.mem_append_right _ (hm2 h y hy).2
      · intro h h' y y' b hy hy' hb hb'
        rcases hmmi h y hy with ⟨hy, _⟩ | ⟨hy, _⟩ <;> rcases hmmi h' y' hy' with ⟨hy', _⟩ | ⟨hy', _⟩
        · exact hi'.apart h h' y y' b hy hy' hb hb'
        · exact (hi'.others h y b hy hb (.inr ⟨h', y', hy', hb'⟩)).elim
        · exact (hi'.others h' y' b hy' hb' (.inr ⟨h, y, hy, hb⟩)).elim
        · exact hi.apart h h' y y' b (hm2 h y hy).1 (hm2 h' y' hy').1 hb hb'
      · intro h y b hy hb hf
        rcases hmmi h y hy with ⟨hy, _⟩ | ⟨hy, _⟩
        · exact hi'.others h y b hy hb (.inl hf)
        · exact hi.others h y b (hm2 h y hy).1 hb hf
      · intro h r hr
        rcases List.mem_append.1 hr with hr | hr
        · obtain ⟨z, hz, hzh⟩ := hi'.holds h r hr
          exact ⟨z, hmm1 h z hz, hzh.mono (fun _ _ => rfl) (Keep.refl w' _) (fun b _ hb => (hOOm b).1 hb) hmm1⟩
        · obtain ⟨z, hz, hzh⟩ := hi.holds h r (hL.mem_iff.2 (List.mem_append_right _ hr))
          have hk : h ∈ keys L2 := List.mem_map.2 ⟨_, hr, rfl⟩
          refine ⟨z, hmm2 h z (hm2' h z hk hz), (hzh.on hboxm (hL2 _ hr)).mono (fun b hb => ?_) hkeep hO' (fun _ _ e => e)⟩
          exact st'.block b (hi.lt hz hb) (fun ho1 => by
            obtain ⟨h', y', hy', hb'⟩ := ho1
            have := hi.apart h h' z y' b hz (hm1 h' y' hy').1 hb hb'
            subst this
            exact hnd.2.2 h (hm1 h y' hy').2 hk)
    have stt : Step w (own m) w' (own mm) := by
      refine ⟨st'.os, st'.tape, st'.output, st'.size, fun b hb hno => st'.block b hb (fun h => hno ((hown b).2 (.inl h))), fun b hb ho' => ?_⟩
      rcases (hownm b).1 ho' with h | h
      · exact (hown b).2 (.inl (st'.owned b hb h))
      · exact (hown b).2 (.inr h)
    have hrx : RelV w' (OO fo mm) mm v x := he'.mono (Keep.refl w' _) (fun b _ hb => (hOOm b).1 hb) hmm1
    exact k x L1' mm v w' hR hrx hinv stt hboxm hkeep hO'

/-- The frame rule: the call is given the resources L1 out of L1 ++ L2; the boxes of L1 stay where they are; other handles of L1 are forgotten elsewhere. -/
theorem AOps.callG {ops : Array Oper} {o : Oper} {rest : List Oper} {c : Call} {f : FuncId} {args : List V} {L1 L2 : Heap} {R : AE → Heap → Prop} (hg : o.guard = none) (hd : ∀ d, o.dst = some d → d < n)
    (hop : o.op = .call c) (hc : callee s.ev c = some (f, args)) (he : enters P f = true) (ho : V.ons (keys L1) args = true) (hL : s.L.Perm (L1 ++ L2)) (hon : L1.all (fun p => Res.on (keys L1) p.2) = true)
    (hfr : ∀ p ∈ s.fr, V.on (keys L2 ++ (L1.filterMap fun p => match p.2 with | .box (_ + 1) _ _ => some p.1 | _ => none)) p.2 = true)
    (hL2 : ∀ p ∈ L2, Res.on (keys L2 ++ (L1.filterMap fun p => match p.2 with | .box (_ + 1) _ _ => some p.1 | _ => none)) p.2 = true)
    (h : ACalls P f args L1 R)
    (hstay : ∀ r L1', R r L1' → (∃ x, r = .ret x) ∧ (∀ k ∈ keys L1', k ∉ keys L2) ∧ ∀ k b ty cs, (k, Res.box (b + 1) ty cs) ∈ L1 → ∃ ty' cs', (k, Res.box (b + 1) ty' cs') ∈ L1')
    (k : ∀ x L1', R (.ret x) L1' → AOps P n ops rest (St.put { s with L := L1' ++ L2 } o.dst x) Q) : AOps P n ops (o :: rest) s Q := by
  intro fo m0 w0 m a w st g
  unfold wpList
  rw [if_pos (by simp [Region.wanted, hg])]
  refine .inl (call_core hop hc he ho hL hon hL2 h hstay g fun x L1' mm v w' hR hrx hinv stt hbx hkeep hO' => ?_)
  have g' : G fo n mm { s with L := L1' ++ L2 } a w' := ⟨g.size, fun t y hy => by
    obtain ⟨q1, q2⟩ := g.fr t y hy
    exact ⟨q1, (q2.on hbx (hfr _ hy)).mono hkeep hO' (fun _ _ e => e)⟩, hinv, g.defers⟩
  exact k x L1' hR fo m0 w0 mm _ w' (st.trans stt) (g'.put hd hrx)

end
end Go.Ab
