/-
  The engine, part R: the rule of regions, of functions, of calls; what may be forgotten.
-/
import Derived.Test.YticchnalleplcaaAbK
set_option linter.unusedSimpArgs false
set_option linter.unusedVariables false
namespace Go.Ab

section
variable {P : Program} {w w' : World} {fo : Nat → Prop} {m m' : Nat → Option Value} {L : Heap} {n : Nat} {s : St} {a : Act}

def uncs (s : St) : List Operand → Prop
  | [] => True
  | z :: l => (s.ev z).unc ∧ uncs s l

theorem uncs_mem {s : St} : ∀ {l : List Operand}, uncs s l → ∀ z ∈ l, (s.ev z).unc
  | [], _, z, h => by cases h
  | y :: l, h, z, hz => by
    rcases List.mem_cons.1 hz with rfl | hz
    · exact h.1
    · exact uncs_mem h.2 z hz

def sameTmp : Operand → Operand → Bool
  | .tmp i, .tmp j => i == j
  | _, _ => false
/-- The operands of a guarded operation, the guard holding. -/
def gρ (s : St) (o : Oper) (z : Operand) : V :=
  match o.op with
  | .pick c _ _ => if sameTmp z c then (s.ev z).un else s.ev z
  | _ => (s.ev z).un
def gU (s : St) (o : Oper) : Prop :=
  match o.op with
  | .pick c _ _ => (s.ev c).unc
  | _ => uncs s o.op.operands.toList
def gval : Option (V × Prop) → V
  | some (x, _) => x
  | none => .any
def gcon : Option (V × Prop) → Prop
  | some (_, c) => c
  | none => False

theorem gρ_rel {s : St} {o : Oper} (h : gU s o) : ∀ z, z ∈ o.op.operands → ∀ w O m v, RelV w O m v (s.ev z) → RelV w O m v (gρ s o z) := by
  intro z hz w O m v hr
  unfold gU at h
  unfold gρ
  split
  · rename_i c a b hop
    simp only [hop] at h
    split
    · rename_i hs
      have : z = c := by
        cases z <;> cases c <;> simp only [sameTmp, beq_iff_eq] at hs <;> first | (rw [hs]; done) | cases hs
      subst this
      exact un_rel hr h
    · exact hr
  · rename_i hop
    split at h
    · rename_i c a b hop'; exact (hop c a b hop').elim
    · exact un_rel hr (uncs_mem h z (by simpa using hz))

theorem gcon_sound {r : Option (V × Prop)} (h : gcon r) : ∃ c, r = some (gval r, c) ∧ c := by
  cases r with
  | none => exact h.elim
  | some p => exact ⟨p.2, rfl, h⟩

/-- Operations that change what is owned, under a guard: a cut only of what is owned. -/
def loudG (s : St) (o : Oper) : Bool :=
  match o.op with
  | .slice _ x _ _ _ => match s.ev x with
    | .rv _ => true
    | .gd _ (.rv _) => true
    | _ => false
  | _ => loudM o

/-- A quiet operation, as a step of the state. -/
def stepQ (P : Program) (ops : Array Oper) (s : St) (o : Oper) : Option (St × Prop) :=
  match guardV ops s o with
  | some none => match q2 P s.ev s.L o with
    | some (x, c) => some (s.put o.dst x, c)
    | none => none
  | some (some g) => if loudG s o then none else some (s.put o.dst (.gd g (gval (q2 P (gρ s o) s.L o))), g = true → gcon (q2 P (gρ s o) s.L o) ∧ gU s o)
  | none => none

theorem stepQ_sound {ops : Array Oper} {s s' : St} {o : Oper} {c : Prop} {rest : List Oper} {Q : AX → St → Prop} (hd : ∀ d, o.dst = some d → d < n) (h : stepQ P ops s o = some (s', c)) (hc : c) (k : AOps P n ops rest s' Q) : AOps P n ops (o :: rest) s Q := by
  unfold stepQ at h
  split at h
  · rename_i hg
    split at h
    · rename_i x c' hx
      simp only [Option.some.injEq, Prod.mk.injEq] at h
      obtain ⟨rfl, rfl⟩ := h
      exact AOps.quiet (guardV_none hg) hd (q2_sound hx hc) k
    · cases h
  · rename_i b hg
    split at h
    · cases h
    · simp only [Option.some.injEq, Prod.mk.injEq] at h
      obtain ⟨rfl, rfl⟩ := h
      refine AOps.guarded hg hd (fun hb => ?_) k
      obtain ⟨h1, h2⟩ := hc hb
      obtain ⟨c', h3, h4⟩ := gcon_sound h1
      exact ⟨_, gρ_rel h2, q2_sound h3 h4⟩
  · cases h

/-! Loud operations under a guard -/
def opSlots (o : Oper) : List Nat := o.op.operands.toList.filterMap fun z => match z with | .tmp t => some t | _ => none
def unE (s : St) (o : Oper) : List (Nat × V) := (opSlots o).filterMap fun t => match s.get t with | .gd _ x => some (t, x) | _ => none
/-- The state, the operands' guards known to hold. -/
def unO (s : St) (o : Oper) : St := ⟨unE s o ++ s.fr, s.L⟩

theorem G.unO {fo : Nat → Prop} {m : Nat → Option Value} {s : St} {a : Act} {w : World} {o : Oper} (g : G fo n m s a w) (hu : uncs s o.op.operands.toList) : G fo n m (unO s o) a w := by
  refine ⟨g.size, fun t x hx => ?_, g.inv, g.defers⟩
  rcases List.mem_append.1 hx with hx | hx
  · unfold unE at hx
    obtain ⟨t', ht', he⟩ := List.mem_filterMap.1 hx
    obtain ⟨z, hz, hze⟩ := List.mem_filterMap.1 ht'
    have hzt : z = .tmp t' := by
      cases z with
      | tmp u => simp only [Option.some.injEq] at hze; rw [hze]
      | _ => simp at hze
    subst hzt
    have hunc := uncs_mem hu _ hz
    simp only [St.ev] at hunc
    split at he
    · rename_i b y hy
      simp only [Option.some.injEq, Prod.mk.injEq] at he
      obtain ⟨rfl, rfl⟩ := he
      have hm : (t', s.get t') ∈ s.fr := by
        unfold St.get at hy ⊢
        rcases getF_mem (t := t') (l := s.fr) with h | h
        · rw [h] at hy; cases hy
        · exact h
      obtain ⟨h1, h2⟩ := g.fr _ _ hm
      rw [hy] at h2 hunc
      refine ⟨h1, gd_inv h2 ?_⟩
      simpa [V.unc] using hunc
    · cases he
  · exact g.fr t x hx

theorem stepL_fr {s s' : St} {o : Oper} {b : Nat} {x : V} {c : Prop} (hm : loudM o = true) (h : stepL P s o b = some (x, s', c)) : s'.fr = killO (killOf s o) s.fr := by
  have := stepL_frame hm h s.fr (fun _ _ => rfl)
  rw [show (⟨s.fr, s.L⟩ : St) = s from rfl, h] at this
  simp only [Option.some.injEq, Prod.mk.injEq] at this
  rw [this.2.1]

/-- A loud operation, its guard known. -/
theorem AOps.loudG {ops : Array Oper} {o : Oper} {rest : List Oper} {s : St} {Q : AX → St → Prop} {b : Bool} (hgd : guardV ops s o = some (some b)) (hd : ∀ d, o.dst = some d → d < n)
    (ht : b = true → ∃ b0 x s' c, stepL P (unO s o) o b0 = some (x, s', c) ∧ loudM o = true ∧ uncs s o.op.operands.toList ∧ c)
    (k : b = true → ∀ x s' b1 c, stepL P (unO s o) o (b1 + 1) = some (x, s', c) → AOps P n ops rest (St.put ⟨killO (killOf (unO s o) o) s.fr, s'.L⟩ o.dst (.gd true x)) Q)
    (kf : b = false → AOps P n ops rest (s.put o.dst (.gd false .any)) Q) : AOps P n ops (o :: rest) s Q := by
  intro fo m0 w0 m a w st g
  have hw := guard_wanted g hgd
  cases b with
  | true =>
    obtain ⟨b0, x0, s0, c0, h1, h2, h3, h4⟩ := ht rfl
    obtain ⟨nx, v, w', m', x, s', hrun, hnx, ⟨b1, c1, hb1⟩, hr, g', st'⟩ := stepL_sound (n := n) h1 h4 fo m a w (g.unO h3)
    have hfr := stepL_fr h2 hb1
    have g2 : G fo n m' ⟨killO (killOf (Go.Ab.unO s o) o) s.fr, s'.L⟩ a w' := by
      refine ⟨g'.size, fun t y hy => g'.fr t y ?_, g'.inv, g'.defers⟩
      rw [hfr]
      unfold killO at hy ⊢
      obtain ⟨p, hp, he⟩ := List.mem_map.1 hy
      exact List.mem_map.2 ⟨p, List.mem_append_right _ hp, he⟩
    exact wpList_ok hw hrun hnx (k rfl x s' b1 c1 hb1 fo m0 w0 m' _ w' (st.trans st') (g2.put hd (.gt _ _ hr)))
  | false =>
    unfold wpList
    rw [if_neg (by rw [hw]; simp)]
    exact kf rfl fo m0 w0 m _ w st (g.put hd (.gf _))

variable {ops : Array Oper} {Q : AX → St → Prop}

/-! ### What may be forgotten -/

/-! Only handles among these are named. -/
mutual
def V.on (ks : List Nat) : V → Bool
  | .bp h _ => ks.contains h
  | .rv h => ks.contains h
  | .ep h _ _ _ => ks.contains h
  | .clo _ f c => V.ons ks f && V.ons ks c
  | .agg cs => V.ons ks cs
  | .tup cs => V.ons ks cs
  | .gd _ x => V.on ks x
  | .d _ => true
  | .rp _ => true
  | .any => true
def V.ons (ks : List Nat) : List V → Bool
  | [] => true
  | x :: l => V.on ks x && V.ons ks l
end

theorem ons_mem {ks : List Nat} : ∀ {l : List V}, V.ons ks l = true → ∀ x ∈ l, V.on ks x = true
  | [], _, x, h => by cases h
  | y :: l, h, x, hx => by
    simp only [V.ons, Bool.and_eq_true] at h
    rcases List.mem_cons.1 hx with rfl | hx
    · exact h.1
    · exact ons_mem h.2 x hx

theorem ons_d (ks : List Nat) : ∀ l : List D, V.ons ks (l.map V.d) = true
  | [] => rfl
  | x :: l => by simp [V.ons, V.on, ons_d ks l]

def Res.on (ks : List Nat) : Res → Bool
  | .box _ _ cs => V.ons ks cs
  | .row _ _ xs => xs.all (V.ons ks)

theorem on_dd (ks : List Nat) (ys : List (List D)) : (dd ys).all (V.ons ks) = true := by
  unfold dd
  rw [List.all_map, List.all_eq_true]
  intro x _
  exact ons_d ks x

theorem RelV.on {O : Nat → Prop} {ks : List Nat} (hm : ∀ h x, h ∈ ks → m h = some x → m' h = some x) {x : Value} {y : V} (hr : RelV w O m x y) (ho : y.on ks = true) : RelV w O m' x y := by
  induction hr with
  | d x y h => exact .d x y h
  | bp h off b e => exact .bp h off b (hm _ _ (by simpa [V.on] using ho) e)
  | rv h x e e1 => exact .rv h x (hm _ _ (by simpa [V.on] using ho) e) e1
  | ep h k i j b o n c e => exact .ep h k i j b o n c (hm _ _ (by simpa [V.on] using ho) e)
  | rp b off cs f hb hlt hc hr => exact .rp b off cs f hb hlt hc hr
  | clo fn first caps cf cc s1 s2 h1 h2 ih1 ih2 =>
    simp only [V.on, Bool.and_eq_true] at ho
    exact .clo fn first caps cf cc s1 s2 (fun j x y hx hy => ih1 j x y hx hy (ons_mem ho.1 y (List.mem_of_getElem? hy))) (fun j x y hx hy => ih2 j x y hx hy (ons_mem ho.2 y (List.mem_of_getElem? hy)))
  | agg vs cs hs h1 h ih =>
    simp only [V.on] at ho
    exact .agg vs cs hs h1 (fun j x y hx hy => ih j x y hx hy (ons_mem ho y (List.mem_of_getElem? hy)))
  | tup vs cs hs h ih =>
    simp only [V.on] at ho
    exact .tup vs cs hs (fun j x y hx hy => ih j x y hx hy (ons_mem ho y (List.mem_of_getElem? hy)))
  | gt x y h ih => exact .gt x y (ih (by simpa [V.on] using ho))
  | gf y => exact .gf y
  | any x => exact .any x

theorem Res.Holds.on {O : Nat → Prop} {ks : List Nat} (hm : ∀ h x, h ∈ ks → m h = some x → m' h = some x) {x : Value} {r : Res} (hr : r.Holds w O m x) (ho : r.on ks = true) : r.Holds w O m' x := by
  cases r with
  | box b ty cs =>
    obtain ⟨bb, hbb, cur, rfl, h1, h2, h3, h4⟩ := hr
    simp only [Res.on] at ho
    exact ⟨bb, hbb, cur, rfl, h1, h2, h3, fun j v c hv hc => (h4 j v c hv hc).on hm (ons_mem ho c (List.mem_of_getElem? hc))⟩
  | row ty k xs =>
    rcases hr with h | ⟨b, off, cap, cur, rfl, h1, h2, h3, h4, h5, h6, h7⟩
    · exact .inl h
    · simp only [Res.on, List.all_eq_true] at ho
      exact .inr ⟨b, off, cap, cur, rfl, h1, h2, h3, h4, h5, h6, fun i j x y v hx hy hv => (h7 i j x y v hx hy hv).on hm (ons_mem (ho x (List.mem_of_getElem? hx)) y (List.mem_of_getElem? hy))⟩

def St.on (ks : List Nat) (s : St) : Bool := s.fr.all (fun p => V.on ks p.2) && s.L.all (fun p => Res.on ks p.2)

/-- To forget slots and resources: what is left must name no handle that is gone. -/
theorem Wk.drop {s' : St} (hf : ∀ p ∈ s'.fr, p ∈ s.fr) (hL : ∀ p ∈ s'.L, p ∈ s.L) (hn : (keys s'.L).Nodup) (hon : s'.on (keys s'.L) = true) : Wk n s s' := by
  classical
  intro fo m a w g
  let m' : Nat → Option Value := fun h => if h ∈ keys s'.L then m h else none
  have hm' : ∀ h x, m' h = some x → m h = some x ∧ h ∈ keys s'.L := by
    intro h x hx
    by_cases hh : h ∈ keys s'.L
    · simp only [m', if_pos hh] at hx; exact ⟨hx, hh⟩
    · simp only [m', if_neg hh] at hx; cases hx
  have hmm : ∀ h x, h ∈ keys s'.L → m h = some x → m' h = some x := by
    intro h x hh hx
    simp only [m', if_pos hh]; exact hx
  have hown : ∀ b, own m' b → own m b := by
    rintro b ⟨h, x, hx, hb⟩
    exact ⟨h, x, (hm' h x hx).1, hb⟩
  have hO : ∀ b, b < w.heap.size → OO fo m' b → OO fo m b := fun b _ ho => ho.imp (hown b) id
  simp only [St.on, Bool.and_eq_true, List.all_eq_true] at hon
  refine ⟨m', ⟨g.size, ?_, ?_, g.defers⟩, ⟨rfl, rfl, rfl, Nat.le_refl _, fun _ _ _ => rfl, fun b _ ho => hown b ho⟩⟩
  · intro t x hx
    obtain ⟨h1, h2⟩ := g.fr t x (hf _ hx)
    exact ⟨h1, (h2.on hmm (hon.1 _ hx)).mono (Keep.refl w _) hO (fun _ _ e => e)⟩
  · refine ⟨hn, fun h x hx => (hm' h x hx).2, ?_, ?_, g.inv.folt, ?_⟩
    · intro h h' x x' b hx hx' hb hb'
      exact g.inv.apart h h' x x' b (hm' h x hx).1 (hm' h' x' hx').1 hb hb'
    · intro h x b hx hb; exact g.inv.others h x b (hm' h x hx).1 hb
    · intro h r hr
      obtain ⟨x, hx, hh⟩ := g.inv.holds h r (hL _ hr)
      have hk : h ∈ keys s'.L := List.mem_map.2 ⟨_, hr, rfl⟩
      exact ⟨x, hmm h x hk hx, (hh.on hmm (hon.2 _ hr)).mono (fun _ _ => rfl) (Keep.refl w _) hO (fun _ _ e => e)⟩

/-- The state, one resource and all that refers to it forgotten. -/
def remL (h : Nat) : Heap → Heap
  | [] => []
  | (k, r) :: l => if k = h then remL h l else (k, r.kill h) :: remL h l
theorem remL_eq (h : Nat) : ∀ L : Heap, remL h L = (L.filter fun p => p.1 != h).map fun p => (p.1, p.2.kill h)
  | [] => rfl
  | (k, r) :: l => by
    rw [remL, remL_eq h l, List.filter_cons]
    by_cases e : k = h <;> simp [e]
def St.rem (h : Nat) (s : St) : St := ⟨s.fr.map fun p => (p.1, p.2.kill h), remL h s.L⟩

theorem Wk.rem (h : Nat) : Wk n s (s.rem h) := by
  classical
  intro fo m a w g
  let m' : Nat → Option Value := fun i => if i = h then none else m i
  have hm : ∀ i x, i ≠ h → m i = some x → m' i = some x := fun i x hne hx => by simp only [m', if_neg hne]; exact hx
  have hm' : ∀ i x, m' i = some x → i ≠ h ∧ m i = some x := by
    intro i x hx
    by_cases e : i = h
    · simp only [m', if_pos e] at hx; cases hx
    · simp only [m', if_neg e] at hx; exact ⟨e, hx⟩
  have hown : ∀ b, own m' b → own m b := by
    rintro b ⟨i, x, hx, hb⟩
    exact ⟨i, x, (hm' i x hx).2, hb⟩
  have hO : ∀ b, b < w.heap.size → OO fo m' b → OO fo m b := fun b _ ho => ho.imp (hown b) id
  have hi := g.inv
  have hkeys : keys (St.rem h s).L = (keys s.L).filter (· != h) := by
    simp only [keys, St.rem, remL_eq, List.map_map]
    rw [List.filter_map]
    rfl
  refine ⟨m', ⟨g.size, ?_, ?_, g.defers⟩, ⟨rfl, rfl, rfl, Nat.le_refl _, fun _ _ _ => rfl, fun b _ ho => hown b ho⟩⟩
  · intro t x hx
    obtain ⟨p, hp, he⟩ := List.mem_map.1 hx
    simp only [Prod.mk.injEq] at he
    obtain ⟨rfl, rfl⟩ := he
    obtain ⟨h1, h2⟩ := g.fr p.1 p.2 hp
    exact ⟨h1, (h2.kill hm).mono (Keep.refl w _) hO (fun _ _ e => e)⟩
  · have hrem : (St.rem h s).L = (s.L.filter fun p => p.1 != h).map fun p => (p.1, p.2.kill h) := remL_eq h s.L
    refine ⟨?_, ?_, ?_, ?_, hi.folt, ?_⟩
    · rw [hkeys]; exact hi.nodup.sublist List.filter_sublist
    · intro i x hx
      rw [hkeys, List.mem_filter]
      exact ⟨hi.dom i x (hm' i x hx).2, by simpa using (hm' i x hx).1⟩
    · intro i j x y b hx hy hb hb'
      exact hi.apart i j x y b (hm' i x hx).2 (hm' j y hy).2 hb hb'
    · intro i x b hx hb; exact hi.others i x b (hm' i x hx).2 hb
    · intro i r hr
      rw [hrem] at hr
      obtain ⟨p, hp, he⟩ := List.mem_map.1 hr
      simp only [Prod.mk.injEq] at he
      obtain ⟨rfl, rfl⟩ := he
      rw [List.mem_filter] at hp
      obtain ⟨x, hx, hh⟩ := hi.holds p.1 p.2 hp.1
      have hne : p.1 ≠ h := by simpa using hp.2
      exact ⟨x, hm _ _ hne hx, (hh.kill hm).mono (fun _ _ => rfl) (Keep.refl w _) hO (fun _ _ e => e)⟩

def makesNew : Op → Bool
  | .alloc _ | .box .. | .makeSlice .. | .buildSlice .. => true
  | _ => false
/-- A slot that is written anew with new memory: what it held before is forgotten. -/
def St.fgt (s : St) (o : Oper) : St :=
  match o.dst with
  | some h => if makesNew o.op && (keys s.L).contains h then s.rem h else s
  | none => s
theorem Wk.fgt (o : Oper) : Wk n s (s.fgt o) := by
  unfold St.fgt
  split
  · split
    · exact Wk.rem _
    · exact Wk.refl n s
  · exact Wk.refl n s

theorem AOps.weaken {ops : Array Oper} {l : List Oper} {s' : St} {Q : AX → St → Prop} (h : Wk n s s') (k : AOps P n ops l s' Q) : AOps P n ops l s Q := by
  intro fo m0 w0 m a w st g
  obtain ⟨m', g', st'⟩ := h fo m a w g
  exact k fo m0 w0 m' a w (st.trans st') g'

/-- A slot may be said less exactly: a nil slice reads as an empty one. -/
theorem Wk.nil {fr1 fr2 : List (Nat × V)} {t : Nat} : Wk n ⟨fr1 ++ (t, .d (.v (.slice none 0 0))) :: fr2, L⟩ ⟨fr1 ++ (t, .d (.sl [])) :: fr2, L⟩ := by
  intro fo m a w g
  refine ⟨m, ⟨g.size, ?_, g.inv, g.defers⟩, Step.refl w _⟩
  intro t' x hx
  simp only [List.mem_append, List.mem_cons, Prod.mk.injEq] at hx
  rcases hx with hx | ⟨rfl, rfl⟩ | hx
  · exact g.fr t' x (by simp [hx])
  · obtain ⟨h1, h2⟩ := g.fr t' (.d (.v (.slice none 0 0))) (by simp)
    refine ⟨h1, ?_⟩
    rw [h2.v_inv]
    exact .d _ _ (.sl none 0 0 [] 0 0 0 (fun _ _ => undef) rfl (by omega) (by simp [maxLen]) (by omega) (by simp) (by omega) (by simp))
  · exact g.fr t' x (by simp [hx])

/-- A nil slice may be taken as an owned, empty row. -/
theorem Wk.own {fr1 fr2 : List (Nat × V)} {t h k : Nat} {ty : TypeId} (hn : h ∉ keys L) : Wk n ⟨fr1 ++ (t, .d (.v (.slice none 0 0))) :: fr2, L⟩ ⟨fr1 ++ (t, .rv h) :: fr2, (h, .row ty k []) :: L⟩ := by
  intro fo m a w g
  obtain ⟨g', st⟩ := g.new (Grows.refl w) hn (x := .slice none 0 0) (r := .row ty k []) (by intro b hb; simp [blk] at hb) (.inl ⟨rfl, rfl⟩)
  refine ⟨_, ⟨g'.size, ?_, g'.inv, g'.defers⟩, st⟩
  intro t' x hx
  simp only [List.mem_append, List.mem_cons, Prod.mk.injEq] at hx
  rcases hx with hx | ⟨rfl, rfl⟩ | hx
  · exact g'.fr t' x (by simp [hx])
  · obtain ⟨h1, h2⟩ := g'.fr t' (.d (.v (.slice none 0 0))) (by simp)
    refine ⟨h1, ?_⟩
    rw [h2.v_inv]
    exact .rv h _ (mset_same _ _) rfl
  · exact g'.fr t' x (by simp [hx])

end

/-! ### Functions -/

def resV (P : Program) (s : St) : ResultVar → Option (V × Prop)
  | .tmp t => some (s.get t, True)
  | .cell a t => loadV P s.L t (s.get a)

def resVs (P : Program) (s : St) : List ResultVar → Option (List V × Prop)
  | [] => some ([], True)
  | r :: l => match resV P s r, resVs P s l with
    | some (x, c), some (xs, d) => some (x :: xs, c ∧ d)
    | _, _ => none

def tupV : List V → V
  | [x] => x
  | l => .tup l

def resOf (tmps : Array Value) (r : ResultVar) : Sem Value :=
  match r with
  | .tmp t => pure (tmps.getD t undef)
  | .cell a t => do loadVar t (← asAddr (tmps.getD a undef))

theorem results_eq (fn : Func) (tmps : Array Value) : results fn tmps = (do let vs ← fn.results.mapM (resOf tmps); pure (if h : vs.size = 1 then vs[0] else .tuple vs)) := rfl

/-- What a function's body must come to. -/
def FPost (P : Program) (rs : List ResultVar) (R : AE → Heap → Prop) (x : AX) (s : St) : Prop :=
  match x with
  | .normal | .ret => match resVs P s rs with
    | some (xs, c) => c ∧ R (.ret (tupV xs)) s.L
    | none => False
  | .pan v => R (.pan v) s.L
  | _ => False

theorem resVs_sound {P : Program} {fo : Nat → Prop} {n : Nat} {m : Nat → Option Value} {s : St} {a : Act} {w : World} (g : G fo n m s a w) : ∀ (l : List ResultVar) {xs : List V} {c : Prop}, resVs P s l = some (xs, c) → c →
    ∃ vs : List Value, (l.mapM (resOf a.tmps)).run P w = .ok vs w ∧ vs.length = xs.length ∧
      ∀ (j : Nat) (v : Value) (x : V), vs[j]? = some v → xs[j]? = some x → RelV w (OO fo m) m v x
  | [], xs, c, h, _ => by
    simp only [resVs, Option.some.injEq, Prod.mk.injEq] at h
    obtain ⟨rfl, _⟩ := h
    exact ⟨[], by simp, rfl, by simp⟩
  | r :: l, xs, c, h, hc => by
    simp only [resVs] at h
    split at h
    · rename_i x c1 ys d h1 h2
      simp only [Option.some.injEq, Prod.mk.injEq] at h
      obtain ⟨rfl, rfl⟩ := h
      obtain ⟨vs, hv1, hv2, hv3⟩ := resVs_sound g l h2 hc.2
      have hone : ∃ v, (resOf a.tmps r).run P w = .ok v w ∧ RelV w (OO fo m) m v x := by
        cases r with
        | tmp t =>
          simp only [resV, Option.some.injEq, Prod.mk.injEq] at h1
          obtain ⟨rfl, _⟩ := h1
          exact ⟨_, rfl, get_rel g t⟩
        | cell ad t =>
          simp only [resV] at h1
          obtain ⟨v, hv, hr⟩ := loadV_sound h1 hc.1 g.inv (get_rel g ad)
          refine ⟨v, ?_, hr⟩
          have hp : ∃ p, a.tmps.getD ad undef = .pointer (some p) := by
            have hgr := get_rel g ad
            unfold loadV at h1
            split at h1
            · cases h1
            · split at h1
              · rename_i hb; rw [hb] at hgr; obtain ⟨b, _, e⟩ := bp_inv hgr; exact ⟨_, e⟩
              · rename_i hb; rw [hb] at hgr; obtain ⟨b, off, f, e, _⟩ := rp_inv hgr; exact ⟨_, e⟩
              · rename_i hb; rw [hb] at hgr; obtain ⟨b, o, n, c, _, e⟩ := ep_inv hgr; exact ⟨_, e⟩
              · cases h1
          obtain ⟨p, hp⟩ := hp
          rw [hp] at hv
          simp only [resOf, hp]
          simpa [Instr.loadAt, Instr.sureAddr, asAddr] using hv
      obtain ⟨v, hv, hr⟩ := hone
      refine ⟨v :: vs, ?_, by simp [hv2], ?_⟩
      · rw [List.mapM_cons]
        simp only [Sem.run_bind]
        rw [hv]
        simp only [Result.andThen_ok]
        rw [hv1]
        rfl
      · intro j v' x' hv' hx'
        match j with
        | 0 => simp only [List.getElem?_cons_zero, Option.some.injEq] at hv' hx'; subst hv'; subst hx'; exact hr
        | j + 1 => simp only [List.getElem?_cons_succ] at hv' hx'; exact hv3 j v' x' hv' hx'
    · cases h

theorem results_sound {P : Program} {fo : Nat → Prop} {n : Nat} {m : Nat → Option Value} {s : St} {a : Act} {w : World} (g : G fo n m s a w) {fn : Func} {xs : List V} {c : Prop} (h : resVs P s fn.results.toList = some (xs, c)) (hc : c) :
    ∃ v, (results fn a.tmps).run P w = .ok v w ∧ RelV w (OO fo m) m v (tupV xs) := by
  obtain ⟨vs, h1, h2, h3⟩ := resVs_sound g _ h hc
  rw [results_eq, Array.mapM_eq_mapM_toList]
  simp only [Sem.run_bind, Sem.run_map]
  rw [h1]
  simp only [Result.andThen_ok]
  match vs, xs, h2, h3 with
  | [v], [x], _, h3 =>
    refine ⟨v, by simp, ?_⟩
    simpa [tupV] using h3 0 v x rfl rfl
  | [], [], _, h3 =>
    refine ⟨.tuple #[], by simp, ?_⟩
    exact .tup _ _ rfl (by simp)
  | v1 :: v2 :: vs, x1 :: x2 :: xs, h2, h3 =>
    refine ⟨.tuple (v1 :: v2 :: vs).toArray, by simp, ?_⟩
    simp only [tupV]
    exact .tup _ _ (by simpa using h2) (fun j v x hv hx => h3 j v x (by simpa using hv) hx)

theorem ACalls.of_AWP {P : Program} {f : FuncId} {fn : Func} {c : Code} {args : List V} {L : Heap} {R : AE → Heap → Prop} (hf : P.funcs[f]? = some fn) (hb : fn.body = some c) (hn : args.length ≤ fn.ntmps)
    (h : AWP P fn.ntmps c ⟨argFrame 0 args, L⟩ (FPost P fn.results.toList R)) : ACalls P f args L R := by
  intro fo m w xs hi hx
  refine calls_of_wp hf hb ?_
  have hsz : (xs ++ Array.replicate (fn.ntmps - xs.size) undef).size = fn.ntmps := by
    have := hx.1
    simp; omega
  have g : G fo fn.ntmps m ⟨argFrame 0 args, L⟩ { tmps := xs ++ Array.replicate (fn.ntmps - xs.size) undef, defers := [] } w := by
    refine ⟨hsz, ?_, hi, rfl⟩
    intro t y hy
    obtain ⟨h1, h2, h3⟩ := mem_argFrame hy
    simp only [Nat.sub_zero, Nat.zero_add] at h2 h3
    refine ⟨by omega, ?_⟩
    have hlt : t < xs.size := by rw [hx.1]; exact h3
    have : (xs ++ Array.replicate (fn.ntmps - xs.size) undef).getD t undef = xs[t] := by
      simp [Array.getD, hlt]
      omega
    rw [this]
    exact hx.2 t _ y (Array.getElem?_eq_getElem hlt) h2
  refine Code.wp_mono ?_ (h fo m _ w g)
  rintro e a' w' ⟨m', x, s', hq, g', hx', st⟩
  cases e with
  | normal =>
    cases x <;> simp only [Exits] at hx'
    simp only [FPost] at hq
    split at hq
    · rename_i ys c' hr
      obtain ⟨v, h1, h2⟩ := results_sound g' hr hq.1
      exact ⟨g'.defers, v, h1, m', _, _, hq.2, h2, g'.inv, st⟩
    · exact hq.elim
  | ret =>
    cases x <;> simp only [Exits] at hx'
    simp only [FPost] at hq
    split at hq
    · rename_i ys c' hr
      obtain ⟨v, h1, h2⟩ := results_sound g' hr hq.1
      exact ⟨g'.defers, v, h1, m', _, _, hq.2, h2, g'.inv, st⟩
    · exact hq.elim
  | panic ch =>
    cases x <;> simp only [Exits] at hx'
    simp only [FPost] at hq
    exact ⟨g'.defers, m', _, _, hq, hx', g'.inv, st⟩
  | exit i => cases x <;> simp only [Exits] at hx'; exact hq.elim
  | goto i => cases x <;> simp only [Exits] at hx'; exact hq.elim
  | outgrown => cases x <;> simp only [Exits] at hx'

end Go.Ab
